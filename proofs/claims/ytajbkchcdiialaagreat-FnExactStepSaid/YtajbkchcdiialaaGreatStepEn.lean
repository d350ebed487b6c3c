import Derived.Test.YtajbkchcdiialaaGreatStepPu
import Derived.Test.YtajbkchcdiialaaGreatSx33
import Derived.Test.YtajbkchcdiialaaGreatCl
import Derived.Test.YtajbkchcdiialaaGreatProg
import Derived.KernelRfl
set_option linter.unusedVariables false
set_option linter.unusedSimpArgs false
set_option synthInstance.maxSize 1000000000
namespace Go.Pu
open Go Go.SX Go.Nt Go.Proofs
theorem lm {α β : Type} (f : α → β) (l : List α) : (l.map f).length = l.length := List.length_map f
abbrev qi (n : Int) : T := .c (cI .i64 n)
abbrev qs (s : Str) : T := .c (cS s)
abbrev qb (b : Bool) : T := .c (cB b)
def enc_Metric (x : Metric) : List C := [cS x.Name, cI .i64 x.Kind, cI .i64 x.Goal]
theorem fl_Metric (l : List Metric) : flatRow (l.map enc_Metric) = true := flat_map (fun _ => rfl) l
def enc_Pace (x : Pace) : List C := [cI .i64 x.Up, cI .i64 x.Down, cI .i64 x.UpSpan, cI .i64 x.DownSpan]
theorem fl_Pace (l : List Pace) : flatRow (l.map enc_Pace) = true := flat_map (fun _ => rfl) l
def enc_Note (x : Note) : List C := [cS x.Key, cS x.Text]
theorem fl_Note (l : List Note) : flatRow (l.map enc_Note) = true := flat_map (fun _ => rfl) l
def enc_Order (x : Order) : List C := [cS x.Name, cS x.Target, cI .i64 x.Low, cI .i64 x.High, cL enc_Metric x.Metrics, cI .i64 x.Pace.Up, cI .i64 x.Pace.Down, cI .i64 x.Pace.UpSpan, cI .i64 x.Pace.DownSpan, cL enc_Note x.Notes]
def enc_Rec (x : Rec) : List C := [cI .i64 x.Time, cI .i64 x.N]
theorem fl_Rec (l : List Rec) : flatRow (l.map enc_Rec) = true := flat_map (fun _ => rfl) l
def enc_Scale (x : Scale) : List C := [cS x.Name, cI .i64 x.Now, cL enc_Rec x.Recs]
def enc_Sample (x : Sample) : List C := [cS x.Name, cI .i64 x.Value]
theorem fl_Sample (l : List Sample) : flatRow (l.map enc_Sample) = true := flat_map (fun _ => rfl) l
def K : Cfg := ⟨fun f => [16, 17, 18, 56, 57, 58, 59].contains f, fun f => [].contains f⟩
def pr : FuncId → Option (List A → Option (A × List (Option Cs)))
  | 77 => some (cloneF 2 16)
  | 107 => some indexByteF
  | _ => none
set_option maxRecDepth 20000
theorem mixed_ : Tryz.prog.follows .mixedOrders = true := by kernel_rfl
theorem pr_ok77 : FOk Tryz.prog 77 (cloneF 2 16) := clone_ok (t := 35) (e := 70) Tryz.func77 mixed_ rfl (by kernel_rfl) rfl rfl rfl Tryz.underlying35 rfl rfl rfl rfl rfl rfl rfl (fun _ _ => rfl) rfl rfl (fun _ _ => rfl) rfl rfl rfl rfl rfl (fun _ _ => rfl) rfl rfl (fun _ _ => rfl) rfl rfl (fun _ _ => rfl) rfl rfl (fun _ _ => by simp [evOp]) rfl rfl (fun _ _ => rfl) rfl rfl
theorem pr_ok107 : FOk Tryz.prog 107 indexByteF := indexByte_ok Tryz.func107 rfl (by kernel_rfl) (by kernel_rfl) rfl
theorem pr_ok (f : FuncId) (g) (h : pr f = some g) : FOk Tryz.prog f g := by
  unfold pr at h
  split at h
  · simp only [Option.some.injEq] at h; subst h; exact pr_ok77
  · simp only [Option.some.injEq] at h; subst h; exact pr_ok107
  · simp at h
noncomputable def R : Fun := Fz Tryz.prog K (fun _ => true) pr
end Go.Pu
