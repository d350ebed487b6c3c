import Derived.Test.YtgeingpadegppaaNt
set_option linter.unusedVariables false
set_option linter.unusedSimpArgs false
/-! the data of the plain functions -/
namespace Go.Pu
open Go.Nt
structure Metric where
  mk ::
  Name : Str
  Kind : Int
  Goal : Int
def Metric.ok (x : Metric) : Prop := okS x.Name ∧ okI x.Kind ∧ okI x.Goal
end Go.Pu
