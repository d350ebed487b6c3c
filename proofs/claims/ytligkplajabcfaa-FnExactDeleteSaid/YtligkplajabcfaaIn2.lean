import Derived.Test.YtligkplajabcfaaIn1
set_option linter.unusedVariables false
set_option linter.unusedSimpArgs false
set_option linter.unusedSectionVars false
set_option linter.unusedVariables false
set_option linter.unusedSimpArgs false
namespace Go.SX
open Go.Shelf Go.Proofs Go.RowKit Go.Lib
variable {P : Program} {ρ : Ren} {w w' : World} {ok ok' okc : Nat → Prop} {E : Env} {σ : St}
theorem drop_take_get {cs : Array Value} {o n q : Nat} (h : q < n) : ((cs.toList.drop o).take n)[q]? = cs[o + q]? := by
  rw [List.getElem?_take, if_pos h, List.getElem?_drop]; simp
theorem mut_none (h1 : ∀ b, boxAt σ b = none) (h2 : ∀ i, rawAt σ i = none) (x : Mt) (k : Nat) : mutAt σ E x ≠ some k := by
  cases x <;> simp [mutAt, h1, h2]
end Go.SX
