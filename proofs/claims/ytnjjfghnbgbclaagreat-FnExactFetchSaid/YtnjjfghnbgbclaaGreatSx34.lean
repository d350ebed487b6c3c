import Derived.Test.YtnjjfghnbgbclaaGreatSx33
set_option linter.unusedVariables false
set_option linter.unusedSimpArgs false
set_option linter.unusedSectionVars false
namespace Go.SX
variable {P : Program} {w : World} {S : List TypeId}

/-! data of types that are within themselves -/
end Go.SX
