import Derived.Test.YtgeingpadegppaaFSteadyPu
import Derived.Test.YtgeingpadegppaaSx33
import Derived.Test.YtgeingpadegppaaProg
import Derived.KernelRfl
set_option linter.unusedVariables false
set_option linter.unusedSimpArgs false
namespace Go.Pu
open Go Go.SX Go.Nt Go.Proofs
def enc_Pace (x : Pace) : List C := [cI .i64 x.Up, cI .i64 x.Down, cI .i64 x.UpSpan, cI .i64 x.DownSpan]
theorem fl_Pace (l : List Pace) : flatRow (l.map enc_Pace) = true := flat_map (fun _ => rfl) l
def enc_L1Cur (x : L1Cur) : List C := [cL eU x.b, cI .i64 x.i, cI .i64 x.h]
def enc_Rec (x : Rec) : List C := [cI .i64 x.Time, cI .i64 x.N]
theorem fl_Rec (l : List Rec) : flatRow (l.map enc_Rec) = true := flat_map (fun _ => rfl) l
def K : Cfg := ⟨fun f => [39, 40, 62, 90, 97, 98, 99].contains f, fun f => [72, 73, 74, 87, 88, 93, 95, 102].contains f⟩
def pr : FuncId → Option (List A → Option (A × List (Option Cs)))
  | _ => none
theorem pr_ok : ∀ f g, pr f = some g → FOk Try.prog f g := fun f g h => by simp [pr] at h
noncomputable def R : Fun := Fz Try.prog K (fun _ => true) pr
end Go.Pu
