import Derived.Test.YtligkplajabcfaaSx21
set_option linter.unusedVariables false
set_option linter.unusedSimpArgs false
set_option linter.unusedSectionVars false
namespace Go.SX
variable {P : Program} {K : Cfg} {F : Fun} {n : Nat} {ops : Array Oper} {ρ : Operand → T} {σ : St}

/-! steps with data that is not spelt out -/
end Go.SX
namespace Go.SX
variable {P : Program} {K : Cfg} {F : Fun} {n : Nat} {ops : Array Oper} {σ : St}
end Go.SX
