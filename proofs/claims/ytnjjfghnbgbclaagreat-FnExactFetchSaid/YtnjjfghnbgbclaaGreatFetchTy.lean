import Derived.Test.YtnjjfghnbgbclaaGreatNt
import Derived.Test.YtnjjfghnbgbclaaGreatSx29
set_option linter.unusedVariables false
set_option linter.unusedSimpArgs false
set_option synthInstance.maxSize 1000000000
/-! the data of the plain functions -/
namespace Go.Pu
open Go.Nt
structure Metric where
  mk ::
  Name : Str
  Kind : Int
  Goal : Int
structure Pace where
  mk ::
  Up : Int
  Down : Int
  UpSpan : Int
  DownSpan : Int
structure Note where
  mk ::
  Key : Str
  Text : Str
structure Order where
  mk ::
  Name : Str
  Target : Str
  Low : Int
  High : Int
  Metrics : List Metric
  Pace : Pace
  Notes : List Note
structure Item where
  mk ::
  Order : Order
  Ver : Int
structure Store where
  mk ::
  Items : List Item
  Next : Int
structure Answer where
  mk ::
  Code : Int
  Ver : Int
  Text : Str
structure RNode where
  mk ::
  c0 : Go.SX.C
  c1 : Go.SX.C
  c2 : Go.SX.C
  c3 : Go.SX.C
  c4 : Go.SX.C
structure Node where
  mk ::
  Kind : Int
  N : Int
  S : Str
  Keys : List Str
  Kids : List RNode
abbrev eR_Node (r : RNode) : List Go.SX.C := [r.c0, r.c1, r.c2, r.c3, r.c4]
abbrev rN_Node (x : Node) : RNode := ⟨Go.SX.cI .i64 x.Kind, Go.SX.cI .i64 x.N, Go.SX.cS x.S, Go.SX.cL Go.SX.eS x.Keys, Go.SX.cL eR_Node x.Kids⟩
open Classical in
noncomputable def dN_Node (r : RNode) : Option Node := if h : ∃ x, rN_Node x = r then some h.choose else none
theorem dN_Node_some {r : RNode} {x : Node} (h : dN_Node r = some x) : r = rN_Node x := by
  unfold dN_Node at h
  split at h
  · rename_i he; simp only [Option.some.injEq] at h; subst h; exact he.choose_spec.symm
  · simp at h
theorem rN_Node_inj {x y : Node} (h : rN_Node x = rN_Node y) : x = y := by
  obtain ⟨x0, x1, x2, x3, x4⟩ := x
  obtain ⟨y0, y1, y2, y3, y4⟩ := y
  simp only [rN_Node, RNode.mk.injEq] at h
  obtain ⟨h0, h1, h2, h3, h4⟩ := h
  have e0 : x0 = y0 := by simpa using h0
  have e1 : x1 = y1 := by simpa using h1
  have e2 : x2 = y2 := by simpa [Go.SX.bs] using h2
  have e3 : x3 = y3 := (List.map_inj_right (f := Go.SX.eS) (by intro a b hab; simpa [Go.SX.bs, Go.SX.eS, Go.SX.eI, Go.SX.eB] using hab)).1 (Go.SX.C.r.inj h3)
  have e4 : x4 = y4 := (List.map_inj_right (f := eR_Node) (by intro a b hab; obtain ⟨a0, a1, a2, a3, a4⟩ := a; obtain ⟨b0, b1, b2, b3, b4⟩ := b; simpa [eR_Node] using hab)).1 (Go.SX.C.r.inj h4)
  subst e0 e1 e2 e3 e4
  rfl
theorem dN_Node_rN (x : Node) : dN_Node (rN_Node x) = some x := by
  have he : ∃ y, rN_Node y = rN_Node x := ⟨x, rfl⟩
  unfold dN_Node
  rw [dif_pos he]
  exact congrArg some (rN_Node_inj he.choose_spec)
def Metric.ok (x : Metric) : Prop := okS x.Name ∧ okI x.Kind ∧ okI x.Goal
def Pace.ok (x : Pace) : Prop := okI x.Up ∧ okI x.Down ∧ okI x.UpSpan ∧ okI x.DownSpan
def Note.ok (x : Note) : Prop := okS x.Key ∧ okS x.Text
def Order.ok (x : Order) : Prop := okS x.Name ∧ okS x.Target ∧ okI x.Low ∧ okI x.High ∧ (okL Metric.ok) x.Metrics ∧ Pace.ok x.Pace ∧ (okL Note.ok) x.Notes
def Item.ok (x : Item) : Prop := Order.ok x.Order ∧ okI x.Ver
def Store.ok (x : Store) : Prop := (okL Item.ok) x.Items ∧ okI x.Next
def Answer.ok (x : Answer) : Prop := okI x.Code ∧ okI x.Ver ∧ okS x.Text
def Node.okd : Nat → Node → Prop
  | 0, _ => False
  | d + 1, x => okI x.Kind ∧ okI x.N ∧ okS x.S ∧ (okL okS) x.Keys ∧ okL (fun r : RNode => ∃ y, r = rN_Node y ∧ Node.okd d y) x.Kids
def Node.ok (x : Node) : Prop := ∃ d, Node.okd d x
theorem Node.okd_up : ∀ (d : Nat) (x : Node), Node.okd d x → Node.okd (d + 1) x
  | 0, _, h => h.elim
  | d + 1, _, ⟨h0, h1, h2, h3, h4⟩ => ⟨h0, h1, h2, h3, ⟨h4.1, fun r hr => let ⟨y, e, o⟩ := h4.2 r hr; ⟨y, e, Node.okd_up d y o⟩⟩⟩
end Go.Pu
