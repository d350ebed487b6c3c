import Derived.Test.YtgeingpadegppaaNt
set_option linter.unusedVariables false
set_option linter.unusedSimpArgs false
/-! the data of the plain functions -/
namespace Go.Pu
open Go.Nt
structure Sample where
  mk ::
  Name : Str
  Value : Int
def Sample.ok (x : Sample) : Prop := okS x.Name ∧ okI x.Value
end Go.Pu
