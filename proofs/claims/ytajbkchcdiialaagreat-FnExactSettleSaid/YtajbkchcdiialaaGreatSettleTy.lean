import Derived.Test.YtajbkchcdiialaaGreatNt
set_option linter.unusedVariables false
set_option linter.unusedSimpArgs false
set_option synthInstance.maxSize 1000000000
/-! the data of the plain functions -/
namespace Go.Pu
open Go.Nt
structure Metric where
  mk ::
  Name : Str
  Kind : Int
  Goal : Int
structure Pace where
  mk ::
  Up : Int
  Down : Int
  UpSpan : Int
  DownSpan : Int
structure Note where
  mk ::
  Key : Str
  Text : Str
structure Order where
  mk ::
  Name : Str
  Target : Str
  Low : Int
  High : Int
  Metrics : List Metric
  Pace : Pace
  Notes : List Note
structure Rec where
  mk ::
  Time : Int
  N : Int
structure Scale where
  mk ::
  Name : Str
  Now : Int
  Recs : List Rec
structure Sample where
  mk ::
  Name : Str
  Value : Int
def Metric.ok (x : Metric) : Prop := okS x.Name ∧ okI x.Kind ∧ okI x.Goal
def Pace.ok (x : Pace) : Prop := okI x.Up ∧ okI x.Down ∧ okI x.UpSpan ∧ okI x.DownSpan
def Note.ok (x : Note) : Prop := okS x.Key ∧ okS x.Text
def Order.ok (x : Order) : Prop := okS x.Name ∧ okS x.Target ∧ okI x.Low ∧ okI x.High ∧ (okL Metric.ok) x.Metrics ∧ Pace.ok x.Pace ∧ (okL Note.ok) x.Notes
def Rec.ok (x : Rec) : Prop := okI x.Time ∧ okI x.N
def Scale.ok (x : Scale) : Prop := okS x.Name ∧ okI x.Now ∧ (okL Rec.ok) x.Recs
def Sample.ok (x : Sample) : Prop := okS x.Name ∧ okI x.Value
end Go.Pu
