import Derived.Test.YthmmmpfageklgaaNoNullPu
import Derived.Test.YthmmmpfageklgaaSx33
import Derived.Test.YthmmmpfageklgaaProg
import Derived.KernelRfl
set_option linter.unusedVariables false
set_option linter.unusedSimpArgs false
set_option synthInstance.maxSize 1000000000
namespace Go.Pu
open Go Go.SX Go.Nt Go.Proofs
theorem lm {α β : Type} (f : α → β) (l : List α) : (l.map f).length = l.length := List.length_map f
abbrev qi (n : Int) : T := .c (cI .i64 n)
abbrev qs (s : Str) : T := .c (cS s)
abbrev qb (b : Bool) : T := .c (cB b)
abbrev enc_Node (x : Node) : List C := eR_Node (rN_Node x)
def K : Cfg := ⟨fun f => [].contains f, fun f => [6, 14, 24, 25, 31].contains f⟩
def pr : FuncId → Option (List A → Option (A × List (Option Cs)))
  | _ => none
theorem pr_ok : ∀ f g, pr f = some g → FOk Try.prog f g := fun f g h => by simp [pr] at h
noncomputable def R : Fun := Fz Try.prog K (fun _ => true) pr
end Go.Pu
