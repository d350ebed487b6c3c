import Derived.Test.YtgeingpadegppaaFRecsPu
import Derived.Test.YtgeingpadegppaaSx33
import Derived.Test.YtgeingpadegppaaCl
import Derived.Test.YtgeingpadegppaaProg
import Derived.KernelRfl
set_option linter.unusedVariables false
set_option linter.unusedSimpArgs false
namespace Go.Pu
open Go Go.SX Go.Nt Go.Proofs
def enc_L1Cur (x : L1Cur) : List C := [cL eU x.b, cI .i64 x.i, cI .i64 x.h]
def enc_Rec (x : Rec) : List C := [cI .i64 x.Time, cI .i64 x.N]
theorem fl_Rec (l : List Rec) : flatRow (l.map enc_Rec) = true := flat_map (fun _ => rfl) l
def K : Cfg := ⟨fun f => [39, 40, 62, 90, 97, 98, 99].contains f, fun f => [72, 74, 87, 88, 93, 95, 102].contains f⟩
def pr : FuncId → Option (List A → Option (A × List (Option Cs)))
  | 84 => some (cloneF 2 16)
  | _ => none
set_option maxRecDepth 20000
theorem mixed_ : Try.prog.follows .mixedOrders = true := by kernel_rfl
theorem pr_ok84 : FOk Try.prog 84 (cloneF 2 16) := clone_ok (t := 25) (e := 78) Try.func84 mixed_ rfl (by kernel_rfl) rfl rfl rfl Try.underlying25 rfl rfl rfl rfl rfl rfl rfl (fun _ _ => rfl) rfl rfl (fun _ _ => rfl) rfl rfl rfl rfl rfl (fun _ _ => rfl) rfl rfl (fun _ _ => rfl) rfl rfl (fun _ _ => rfl) rfl rfl (fun _ _ => by simp [evOp]) rfl rfl (fun _ _ => rfl) rfl rfl
theorem pr_ok (f : FuncId) (g) (h : pr f = some g) : FOk Try.prog f g := by
  unfold pr at h
  split at h
  · simp only [Option.some.injEq] at h; subst h; exact pr_ok84
  · simp at h
noncomputable def R : Fun := Fz Try.prog K (fun _ => true) pr
end Go.Pu
