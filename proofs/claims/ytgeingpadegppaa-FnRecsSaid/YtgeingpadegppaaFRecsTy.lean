import Derived.Test.YtgeingpadegppaaNt
set_option linter.unusedVariables false
set_option linter.unusedSimpArgs false
/-! the data of the plain functions -/
namespace Go.Pu
open Go.Nt
structure L1Cur where
  mk ::
  b : List Int
  i : Int
  h : Int
structure Rec where
  mk ::
  Time : Int
  N : Int
def L1Cur.ok (x : L1Cur) : Prop := (okL okU) x.b ∧ okI x.i ∧ okI x.h
def Rec.ok (x : Rec) : Prop := okI x.Time ∧ okI x.N
end Go.Pu
