import Derived.Test.YtmdmbolhbjfcjaaAgreedPu
import Derived.Test.YtmdmbolhbjfcjaaSx33
import Derived.Test.YtmdmbolhbjfcjaaCl
import Derived.Test.YtmdmbolhbjfcjaaJn
import Derived.Test.YtmdmbolhbjfcjaaLay
import Derived.Test.YtmdmbolhbjfcjaaIn3
import Derived.Test.YtmdmbolhbjfcjaaProg
import Derived.KernelRfl
set_option linter.unusedVariables false
set_option linter.unusedSimpArgs false
set_option synthInstance.maxSize 1000000000
namespace Go.Pu
open Go Go.SX Go.Nt Go.Proofs
theorem lm {α β : Type} (f : α → β) (l : List α) : (l.map f).length = l.length := List.length_map f
abbrev qi (n : Int) : T := .c (cI .i64 n)
abbrev qs (s : Str) : T := .c (cS s)
abbrev qb (b : Bool) : T := .c (cB b)
abbrev enc_Node (x : Node) : List C := eR_Node (rN_Node x)
def K : Cfg := ⟨fun f => [37, 38, 43, 44].contains f, fun f => [6, 11, 13, 14, 18, 20, 22, 24, 25, 28, 29, 32, 44].contains f, fun f => [11, 20, 32].contains f⟩
def pr : FuncId → Option (List A → Option (A × List (Option Cs)))
  | 35 => some (cloneF 1 16)
  | 37 => some sortF
  | 38 => some compactF
  | 43 => some (insF 1 16)
  | 44 => some (insF 5 80)
  | _ => none
set_option maxRecDepth 20000
theorem mixed_ : Try.prog.follows .mixedOrders = true := by kernel_rfl
def rn43 : Go.Shelf.Ren := ⟨fun | 22 => 43 | 29 => 48 | 30 => 49 | n => n, fun | 9 => 9 | 24 => 22 | n => n, fun n => n⟩
theorem il43 : ∃ i0 z0, InsL Try.prog rn43 1 i0 z0 "slices.Insert[[]string,string]" ∧ i0.bytes = 16 := ⟨_, _, {
  mixed := mixed_
  f22 := Try.func43.trans (congrArg some (by kernel_rfl))
  hnm := by kernel_rfl
  hov := fun x y w w' r h => by
    show (callFunc 48 #[x, y]).run Try.prog w = _
    rw [run_callFunc_extern Try.func48 (by kernel_rfl) (by kernel_rfl) (by kernel_rfl) (e := Extern.SlicesOverlaps.overlaps #[22, 22] #[4]) (by kernel_rfl)]
    rw [show (Extern.SlicesOverlaps.overlaps #[22, 22] #[4] #[x, y]).run Try.prog w = _ from h]; rfl
  t3 := Try.underlying3
  t4 := Try.underlying4
  t24 := Try.underlying22
  i9 := rfl
  hz := rfl
  h0 := by decide
  hz0 := rfl
  hzc := rfl
  hb := by decide }, rfl⟩
def rn44 : Go.Shelf.Ren := ⟨fun | 22 => 44 | 29 => 50 | 30 => 51 | n => n, fun | 9 => 30 | 24 => 28 | n => n, fun n => n⟩
theorem il44 : ∃ i0 z0, InsL Try.prog rn44 5 i0 z0 "slices.Insert[[]loop.example/g00465/impl.Node,loop.example/g00465/impl.Node]" ∧ i0.bytes = 80 := ⟨_, _, {
  mixed := mixed_
  f22 := Try.func44.trans (congrArg some (by kernel_rfl))
  hnm := by kernel_rfl
  hov := fun x y w w' r h => by
    show (callFunc 50 #[x, y]).run Try.prog w = _
    rw [run_callFunc_extern Try.func50 (by kernel_rfl) (by kernel_rfl) (by kernel_rfl) (e := Extern.SlicesOverlaps.overlaps #[28, 28] #[4]) (by kernel_rfl)]
    rw [show (Extern.SlicesOverlaps.overlaps #[28, 28] #[4] #[x, y]).run Try.prog w = _ from h]; rfl
  t3 := Try.underlying3
  t4 := Try.underlying4
  t24 := Try.underlying28
  i9 := rfl
  hz := rfl
  h0 := by decide
  hz0 := rfl
  hzc := rfl
  hb := by decide }, rfl⟩
theorem pr_ok35 : FOk Try.prog 35 (cloneF 1 16) := clone_ok (t := 22) (e := 9) Try.func35 mixed_ rfl (by kernel_rfl) rfl rfl rfl Try.underlying22 rfl rfl rfl rfl rfl rfl rfl (fun _ _ => rfl) rfl rfl (fun _ _ => rfl) rfl rfl rfl rfl rfl (fun _ _ => rfl) rfl rfl (fun _ _ => rfl) rfl rfl (fun _ _ => rfl) rfl rfl (fun _ _ => by simp [evOp]) rfl rfl (fun _ _ => rfl) rfl rfl
theorem pr_ok37 : FOk Try.prog 37 sortF := sort_ok Try.func37 (by kernel_rfl) (by kernel_rfl) (fun p c w => Try.slices_Sort_string_none p c w) (fun b o c ss w => Try.slices_Sort_string b o c ss w)
theorem pr_ok38 : FOk Try.prog 38 compactF := compact_ok Try.func38 (by kernel_rfl) (by kernel_rfl) (fun p c w => Try.slices_Compact_string_empty p c w) (fun b o c zs w => Try.slices_Compact_string b o c zs w)
theorem pr_ok43 : FOk Try.prog 43 (insF 1 16) := (let ⟨_, _, L, h⟩ := il43; insert_ok L h)
theorem pr_ok44 : FOk Try.prog 44 (insF 5 80) := (let ⟨_, _, L, h⟩ := il44; insert_ok L h)
theorem pr_ok (f : FuncId) (g) (h : pr f = some g) : FOk Try.prog f g := by
  unfold pr at h
  split at h
  · simp only [Option.some.injEq] at h; subst h; exact pr_ok35
  · simp only [Option.some.injEq] at h; subst h; exact pr_ok37
  · simp only [Option.some.injEq] at h; subst h; exact pr_ok38
  · simp only [Option.some.injEq] at h; subst h; exact pr_ok43
  · simp only [Option.some.injEq] at h; subst h; exact pr_ok44
  · simp at h
noncomputable def R : Fun := Fz Try.prog K (fun _ => true) pr
end Go.Pu
