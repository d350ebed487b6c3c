import Derived.Test.YtgcpppnhhponmaaWorldOkPu
import Derived.Test.YtgcpppnhhponmaaSx33
import Derived.Test.YtgcpppnhhponmaaCl
import Derived.Test.YtgcpppnhhponmaaProg
import Derived.KernelRfl
set_option linter.unusedVariables false
set_option linter.unusedSimpArgs false
set_option synthInstance.maxSize 1000000000
namespace Go.Pu
open Go Go.SX Go.Nt Go.Proofs
theorem lm {α β : Type} (f : α → β) (l : List α) : (l.map f).length = l.length := List.length_map f
abbrev qi (n : Int) : T := .c (cI .i64 n)
abbrev qs (s : Str) : T := .c (cS s)
abbrev qb (b : Bool) : T := .c (cB b)
def enc_Metric (x : Metric) : List C := [cS x.Name, cI .i64 x.Kind, cI .i64 x.Goal]
theorem fl_Metric (l : List Metric) : flatRow (l.map enc_Metric) = true := flat_map (fun _ => rfl) l
def enc_Pace (x : Pace) : List C := [cI .i64 x.Up, cI .i64 x.Down, cI .i64 x.UpSpan, cI .i64 x.DownSpan]
theorem fl_Pace (l : List Pace) : flatRow (l.map enc_Pace) = true := flat_map (fun _ => rfl) l
def enc_Note (x : Note) : List C := [cS x.Key, cS x.Text]
theorem fl_Note (l : List Note) : flatRow (l.map enc_Note) = true := flat_map (fun _ => rfl) l
def enc_Order (x : Order) : List C := [cS x.Name, cS x.Target, cI .i64 x.Low, cI .i64 x.High, cL enc_Metric x.Metrics, cI .i64 x.Pace.Up, cI .i64 x.Pace.Down, cI .i64 x.Pace.UpSpan, cI .i64 x.Pace.DownSpan, cL enc_Note x.Notes]
def enc_Item (x : Item) : List C := [cS x.Order.Name, cS x.Order.Target, cI .i64 x.Order.Low, cI .i64 x.Order.High, cL enc_Metric x.Order.Metrics, cI .i64 x.Order.Pace.Up, cI .i64 x.Order.Pace.Down, cI .i64 x.Order.Pace.UpSpan, cI .i64 x.Order.Pace.DownSpan, cL enc_Note x.Order.Notes, cI .i64 x.Ver]
def enc_Store (x : Store) : List C := [cL enc_Item x.Items, cI .i64 x.Next]
def enc_Rec (x : Rec) : List C := [cI .i64 x.Time, cI .i64 x.N]
theorem fl_Rec (l : List Rec) : flatRow (l.map enc_Rec) = true := flat_map (fun _ => rfl) l
def enc_Scale (x : Scale) : List C := [cS x.Name, cI .i64 x.Now, cL enc_Rec x.Recs]
def enc_Told (x : Told) : List C := [cI .i64 x.Time, cS x.Name, cI .i64 x.N]
theorem fl_Told (l : List Told) : flatRow (l.map enc_Told) = true := flat_map (fun _ => rfl) l
def enc_World (x : World) : List C := [cL enc_Item x.Store.Items, cI .i64 x.Store.Next, cL enc_Scale x.Scales, cI .i64 x.Time, cL enc_Told x.Log]
def K : Cfg := ⟨fun f => [56, 118, 119, 120, 157, 158, 159, 173, 174].contains f, fun f => [46, 51, 105, 106, 107, 112, 149].contains f⟩
def pr : FuncId → Option (List A → Option (A × List (Option Cs)))
  | 181 => some indexByteF
  | _ => none
set_option maxRecDepth 20000
theorem mixed_ : Try.prog.follows .mixedOrders = true := by kernel_rfl
theorem pr_ok181 : FOk Try.prog 181 indexByteF := indexByte_ok Try.func181 rfl (by kernel_rfl) (by kernel_rfl) rfl
theorem pr_ok (f : FuncId) (g) (h : pr f = some g) : FOk Try.prog f g := by
  unfold pr at h
  split at h
  · simp only [Option.some.injEq] at h; subst h; exact pr_ok181
  · simp at h
noncomputable def R : Fun := Fz Try.prog K (fun _ => true) pr
end Go.Pu
