import Derived.Test.YtgeingpadegppaaNt
set_option linter.unusedVariables false
set_option linter.unusedSimpArgs false
/-! the data of the plain functions -/
namespace Go.Pu
open Go.Nt
structure Rec where
  mk ::
  Time : Int
  N : Int
def Rec.ok (x : Rec) : Prop := okI x.Time ∧ okI x.N
end Go.Pu
