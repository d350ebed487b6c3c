import Derived.Test.YtgeingpadegppaaNt
set_option linter.unusedVariables false
set_option linter.unusedSimpArgs false
/-! the data of the plain functions -/
namespace Go.Pu
open Go.Nt
structure Rec where
  mk ::
  Time : Int
  N : Int
structure Scale where
  mk ::
  Name : Str
  Now : Int
  Recs : List Rec
def Rec.ok (x : Rec) : Prop := okI x.Time ∧ okI x.N
def Scale.ok (x : Scale) : Prop := okS x.Name ∧ okI x.Now ∧ (okL Rec.ok) x.Recs
end Go.Pu
