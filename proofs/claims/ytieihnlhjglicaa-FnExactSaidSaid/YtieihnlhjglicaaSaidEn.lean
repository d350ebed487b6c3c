import Derived.Test.YtieihnlhjglicaaSaidPu
import Derived.Test.YtieihnlhjglicaaSx33
import Derived.Test.YtieihnlhjglicaaCl
import Derived.Test.YtieihnlhjglicaaJn
import Derived.Test.YtieihnlhjglicaaLay
import Derived.Test.YtieihnlhjglicaaProg
import Derived.KernelRfl
set_option linter.unusedVariables false
set_option linter.unusedSimpArgs false
set_option synthInstance.maxSize 1000000000
namespace Go.Pu
open Go Go.SX Go.Nt Go.Proofs
theorem lm {α β : Type} (f : α → β) (l : List α) : (l.map f).length = l.length := List.length_map f
abbrev qi (n : Int) : T := .c (cI .i64 n)
abbrev qs (s : Str) : T := .c (cS s)
abbrev qb (b : Bool) : T := .c (cB b)
abbrev enc_Node (x : Node) : List C := eR_Node (rN_Node x)
def K : Cfg := ⟨fun f => [].contains f, fun f => [6, 14].contains f⟩
def pr : FuncId → Option (List A → Option (A × List (Option Cs)))
  | 37 => some joinF
  | 70 => some indexByteF
  | 39 => some repeatF
  | _ => none
set_option maxRecDepth 20000
theorem mixed_ : Try.prog.follows .mixedOrders = true := by kernel_rfl
theorem pr_ok37 : FOk Try.prog 37 joinF := join_ok Try.func37 (by kernel_rfl) (by kernel_rfl) (fun a c sep w => Try.strings_Join_none a c sep w) (fun bk o c xs sep w => Try.strings_Join bk o c xs sep w)
theorem pr_ok70 : FOk Try.prog 70 indexByteF := indexByte_ok Try.func70 rfl (by kernel_rfl) (by kernel_rfl) rfl
theorem pr_ok39 : FOk Try.prog 39 repeatF := repeat_ok Try.func39 (by kernel_rfl) (by kernel_rfl) (fun s c w => Try.strings_Repeat s c w)
theorem pr_ok (f : FuncId) (g) (h : pr f = some g) : FOk Try.prog f g := by
  unfold pr at h
  split at h
  · simp only [Option.some.injEq] at h; subst h; exact pr_ok37
  · simp only [Option.some.injEq] at h; subst h; exact pr_ok70
  · simp only [Option.some.injEq] at h; subst h; exact pr_ok39
  · simp at h
noncomputable def R : Fun := Fz Try.prog K (fun _ => true) pr
end Go.Pu
