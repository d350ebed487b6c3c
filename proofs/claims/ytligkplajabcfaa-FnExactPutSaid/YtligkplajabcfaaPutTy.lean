import Derived.Test.YtligkplajabcfaaNt
set_option linter.unusedVariables false
set_option linter.unusedSimpArgs false
set_option synthInstance.maxSize 1000000000
/-! the data of the plain functions -/
namespace Go.Pu
open Go.Nt
structure Metric where
  mk ::
  Name : Str
  Kind : Int
  Goal : Int
structure Pace where
  mk ::
  Up : Int
  Down : Int
  UpSpan : Int
  DownSpan : Int
structure Note where
  mk ::
  Key : Str
  Text : Str
structure Order where
  mk ::
  Name : Str
  Target : Str
  Low : Int
  High : Int
  Metrics : List Metric
  Pace : Pace
  Notes : List Note
structure Item where
  mk ::
  Order : Order
  Ver : Int
structure Store where
  mk ::
  Items : List Item
  Next : Int
def Metric.ok (x : Metric) : Prop := okS x.Name ∧ okI x.Kind ∧ okI x.Goal
def Pace.ok (x : Pace) : Prop := okI x.Up ∧ okI x.Down ∧ okI x.UpSpan ∧ okI x.DownSpan
def Note.ok (x : Note) : Prop := okS x.Key ∧ okS x.Text
def Order.ok (x : Order) : Prop := okS x.Name ∧ okS x.Target ∧ okI x.Low ∧ okI x.High ∧ (okL Metric.ok) x.Metrics ∧ Pace.ok x.Pace ∧ (okL Note.ok) x.Notes
def Item.ok (x : Item) : Prop := Order.ok x.Order ∧ okI x.Ver
def Store.ok (x : Store) : Prop := (okL Item.ok) x.Items ∧ okI x.Next
end Go.Pu
