import Derived.Test.YtgcpppnhhponmaaFStepsPu
import Derived.Test.YtgcpppnhhponmaaSx33
import Derived.Test.YtgcpppnhhponmaaCl
import Derived.Test.YtgcpppnhhponmaaProg
import Derived.KernelRfl
set_option linter.unusedVariables false
set_option linter.unusedSimpArgs false
set_option synthInstance.maxSize 1000000000
namespace Go.Pu
open Go Go.SX Go.Nt Go.Proofs
theorem lm {α β : Type} (f : α → β) (l : List α) : (l.map f).length = l.length := List.length_map f
abbrev qi (n : Int) : T := .c (cI .i64 n)
abbrev qs (s : Str) : T := .c (cS s)
abbrev qb (b : Bool) : T := .c (cB b)
abbrev kl0 : List Int := ([0, 30, 60] : List Int)
abbrev kl1 : List Int := ([0, 60, 300, 3600] : List Int)
abbrev kl2 : List Str := ([[99, 112, 117], [109, 101, 109], [113, 117, 101, 117, 101], [104, 105, 116, 115]] : List Str)
abbrev kl3 : List Int := ([1, 500, 700, 800, 805, 1000, 50000, 1000000] : List Int)
abbrev kl4 : List Str := ([[], [97], [119, 101, 98], [116, 114, 117, 101], [49, 50], [115, 97, 121, 32, 34, 110, 111, 34], [98, 97, 99, 107, 92], [97, 58, 32, 98], [45, 32, 120], [35], [53, 109], [110, 117, 108, 108], [32, 120]] : List Str)
abbrev kl5 : List Str := ([[119, 101, 98], [97, 112, 105], [106, 111, 98, 45, 49]] : List Str)
abbrev kl6 : List Str := ([[119, 101, 98], [112, 111, 111, 108]] : List Str)
abbrev kl7 : List Int := ([0, 3, 10, 900] : List Int)
abbrev kl8 : List Str := ([[99, 112, 117], [104, 105, 116, 115], [109, 101, 109], [113, 117, 101, 117, 101]] : List Str)
abbrev kl9 : List Str := ([[97], [111, 119, 110, 101, 114], [120, 47, 121]] : List Str)
abbrev kl10 : List Str := ([[], [49, 97], [65], [97, 98, 99, 100, 101, 102, 103, 104, 105, 106, 107, 108, 109, 110, 111, 112, 113, 114, 115, 116, 117]] : List Str)
abbrev kl11 : List Int := ([0, (-1), 1001] : List Int)
abbrev kl12 : List Int := ([0, 1000, 1001] : List Int)
abbrev kl13 : List Int := ([(-1), 1000, 1001] : List Int)
abbrev kl14 : List Str := ([[122], [113, 117, 97, 121, 47, 112, 97, 99, 101], [49], []] : List Str)
abbrev kl15 : List Int := ([(-1), 3600, 3601] : List Int)
abbrev kl16 : List Int := ([0, (-1), 1000000, 1000001] : List Int)
abbrev kl17 : List Int := ([0, 15, 60, 200] : List Int)
abbrev kl18 : List Int := ([0, 1, 3, 5, 9, 20] : List Int)
abbrev kl19 : List Int := ([(-1), 0, 999, 1000001, (-9223372036854775808)] : List Int)
abbrev kl20 : List Int := ([(-1), 5, 1001] : List Int)
abbrev kl21 : List Str := ([[], [111, 116, 104, 101, 114]] : List Str)
abbrev kl22 : List Str := ([[97], [122], []] : List Str)
abbrev kl23 : List Int := ([(-1), 5, 1000001] : List Int)
abbrev kl24 : List Int := ([0, 100, 500, 700, 750, 900, 2000, 60000, 1000000] : List Int)
abbrev kl25 : List Int := ([2000, 2100, 0, 1000000, 1000001, (-1)] : List Int)
def enc_Metric (x : Metric) : List C := [cS x.Name, cI .i64 x.Kind, cI .i64 x.Goal]
theorem fl_Metric (l : List Metric) : flatRow (l.map enc_Metric) = true := flat_map (fun _ => rfl) l
def enc_Pace (x : Pace) : List C := [cI .i64 x.Up, cI .i64 x.Down, cI .i64 x.UpSpan, cI .i64 x.DownSpan]
theorem fl_Pace (l : List Pace) : flatRow (l.map enc_Pace) = true := flat_map (fun _ => rfl) l
def enc_Note (x : Note) : List C := [cS x.Key, cS x.Text]
theorem fl_Note (l : List Note) : flatRow (l.map enc_Note) = true := flat_map (fun _ => rfl) l
def enc_Order (x : Order) : List C := [cS x.Name, cS x.Target, cI .i64 x.Low, cI .i64 x.High, cL enc_Metric x.Metrics, cI .i64 x.Pace.Up, cI .i64 x.Pace.Down, cI .i64 x.Pace.UpSpan, cI .i64 x.Pace.DownSpan, cL enc_Note x.Notes]
def enc_Rec (x : Rec) : List C := [cI .i64 x.Time, cI .i64 x.N]
theorem fl_Rec (l : List Rec) : flatRow (l.map enc_Rec) = true := flat_map (fun _ => rfl) l
def enc_Scale (x : Scale) : List C := [cS x.Name, cI .i64 x.Now, cL enc_Rec x.Recs]
def enc_L1Cur (x : L1Cur) : List C := [cL eU x.b, cI .i64 x.i, cI .i64 x.h]
def enc_Sample (x : Sample) : List C := [cS x.Name, cI .i64 x.Value]
theorem fl_Sample (l : List Sample) : flatRow (l.map enc_Sample) = true := flat_map (fun _ => rfl) l
def K : Cfg := ⟨fun f => [56, 118, 119, 120, 157, 158, 159, 173, 174].contains f, fun f => [31, 70, 71, 72, 73, 79, 85, 130, 131, 132, 133, 135, 136, 162, 163, 164, 165].contains f⟩
def pr : FuncId → Option (List A → Option (A × List (Option Cs)))
  | 143 => some (cloneF 2 16)
  | 181 => some indexByteF
  | _ => none
set_option maxRecDepth 20000
theorem mixed_ : Try.prog.follows .mixedOrders = true := by kernel_rfl
theorem pr_ok143 : FOk Try.prog 143 (cloneF 2 16) := clone_ok (t := 58) (e := 71) Try.func143 mixed_ rfl (by kernel_rfl) rfl rfl rfl Try.underlying58 rfl rfl rfl rfl rfl rfl rfl (fun _ _ => rfl) rfl rfl (fun _ _ => rfl) rfl rfl rfl rfl rfl (fun _ _ => rfl) rfl rfl (fun _ _ => rfl) rfl rfl (fun _ _ => rfl) rfl rfl (fun _ _ => by simp [evOp]) rfl rfl (fun _ _ => rfl) rfl rfl
theorem pr_ok181 : FOk Try.prog 181 indexByteF := indexByte_ok Try.func181 rfl (by kernel_rfl) (by kernel_rfl) rfl
theorem pr_ok (f : FuncId) (g) (h : pr f = some g) : FOk Try.prog f g := by
  unfold pr at h
  split at h
  · simp only [Option.some.injEq] at h; subst h; exact pr_ok143
  · simp only [Option.some.injEq] at h; subst h; exact pr_ok181
  · simp at h
noncomputable def R : Fun := Fz Try.prog K (fun _ => true) pr
end Go.Pu
