/-
  FnStore: whatever the arguments, the law returns true, and all that was there is as it was. No conditions.
-/
import Derived.Test.YtbndndpimaocdaaRows
import Derived.Test.YtbndndpimaocdaaStoreOk0
import Derived.Test.YtbndndpimaocdaaStoreOk1
import Derived.Test.YtbndndpimaocdaaStoreOk2
import Derived.Test.YtbndndpimaocdaaStoreOk3
import Derived.Test.YtbndndpimaocdaaStoreOk4
import Derived.Test.YtbndndpimaocdaaStorePl0
import Derived.WalkKit
import Derived.ProofKit
import Derived.OpenShut
import Derived.ShutString
import Derived.ChangeOld
import Derived.SizedLaws
import Derived.Carry
set_option linter.unusedVariables false
set_option linter.unusedSimpArgs false
set_option synthInstance.maxSize 1000000000
set_option maxRecDepth 20000
namespace Go.Pu
open Go Go.SX Go.Nt Go.Proofs
theorem wt_22 {d : Nat} {l : List C} (h : Wt Try.prog (d + 2) 22 l) : ∃ x : List Int, l = eL eU x ∧ (okL okU) x := by
  obtain ⟨x, h1, h2⟩ := wt_l (d := d + 1) (en := eU) (ok := okU) rfl (fun el h => by obtain ⟨x, h1, h2⟩ := wt_u8 rfl h; exact ⟨x, h1, h2⟩) h
  exact ⟨x, h1, h2⟩
end Go.Pu
namespace Go.Proofs.Ytbndndpimaocdaa.fnStore
open Go.ChangeShapes Go.WideShapes Go.ChangeAt Go.RowKit Go.SX Go.Pu Go.Nt
theorem csH0 {w : World} {ok : Nat → Prop} : ∀ {l : List C} {us : List Value}, CsRel w ok (l.map (·, none)) us [] → CsH w ok (l.map (·, none)) us [] []
  | [], _, .nil => .nil
  | _ :: _, _, .sh h k => .sh h (csH0 k)
theorem mixed : Try.prog.follows .mixedOrders = true := by kernel_rfl
theorem own : ownKnob Try.prog.godebug = none := by kernel_rfl
theorem laidOut : laidOutB Try.prog = true := by kernel_rfl
theorem walk {a1 : List Int} (o0 : (okL okU) a1) {W : World} {us : List Value} {hs : List SX.H} (hA : ArgsRel W (There W) [.c (cL eU a1) none] us hs []) : Calls Try.prog 3 us.toArray W fun e w' => e = .returned (.bool true) ∧ Below W.heap.size W w' :=
  law_run mixed pr_ok Try.func3 (by kernel_rfl) (by kernel_rfl) (laws_FnStore_ok.ok (Pure.FnStore a1 o0)) hA
set_option maxRecDepth 100000 in
theorem lifted (os : Os) (started : os.Started) (H : Type) (enc : TypeId × Value → H) :
    ReturnsInHanded {} Try.checked os 3 .any (Rows.fnStoreSpec.pre6 enc Try.prog Try.f3 Rows.fnStoreRow.domain false) (Rows.fnStoreSpec.post enc Try.prog Try.f3 false true false false) := by
  refine returnsInHanded_of_change_sized (C := Try.checked) own started (by kernel_rfl) Try.func3
    (ChangeSpec.witness6 (enc := enc) (C := Try.checked) false ⟨#[], #[.slice none 0 0], []⟩ 8 (by kernel_rfl) (by kernel_rfl) (by kernel_rfl) (by kernel_rfl)) ?_
  intro W base args ds gs before hval0 hW hcnd hsz0 _
  have hval : ∀ (j : Nat) t v, Try.f3.params[j]? = some t → args[j]? = some v → Value.okWide Try.prog W .any base t v := hval0
  have hW' := hW
  obtain ⟨p, q, hA0, hV, rfl, hfz, hnd⟩ := hW
  have hA : DataW.TrodAll enc Try.prog W 0 (fun _ => true) true Try.f3.params.toList args.toList ds p := hA0
  rw [Try.params3] at hA hval
  obtain ⟨v0, vs0, d0, ds0, p0, q0, hargs, rfl, rfl, h0, r0⟩ := trodAll_cons hA
  obtain ⟨rfl, rfl, rfl⟩ := trodAll_nil r0
  obtain rfl : args = #[v0] := by cases args; simp_all
  obtain ⟨rfl, rfl⟩ := trodVars_none hV
  have lt0 : ∀ x ∈ p0, x.block < W.heap.size := by obtain ⟨m, hm⟩ := h0; exact DataW.trod_lt m _ _ _ hm
  have k0 := h0
  obtain ⟨u0, n0, c0, rfl⟩ := okWide_slice Try.underlying22 (hval 0 22 v0 rfl rfl)
  obtain ⟨l0, w0, g0⟩ := arg_c (t := 22) (by kernel_rfl) (by simp) h0
  obtain ⟨a1, e0, o0⟩ := wt_22 (d := 6) w0
  obtain rfl := (List.cons.inj e0).1
  refine (walk o0 (W := W) (.sh g0 .nil)).mono fun e W' ⟨he, bel⟩ => ?_
  subst he
  exact ⟨_, rfl, _, _, _, [], _, [], hW', trodAll_mk1 (shut_bool Try.underlying4 _), (trodAll_cons_mk (Below.trod laidOut (by kernel_rfl) (of_decide_eq_true (by kernel_rfl)) k0 bel lt0) trodAll_mk0), rfl, bel.frame _, fun h => by cases h⟩
theorem over : Rows.fnStoreRow.holds Try.pinned (OpenSpec.ofChange Rows.fnStoreSpec) :=
  OpenClaim.holds_of_wide 3 Try.f3 rfl rfl rfl rfl rfl rfl rfl ⟨rfl, rfl, rfl, rfl, rfl⟩ rfl rfl rfl rfl rfl (by kernel_rfl) Try.func3 (by kernel_rfl)
    (of_decide_eq_true (by kernel_rfl)) (by unfold Func.isWrapper; first | (rw [if_pos (by decide +kernel)]; kernel_rfl) | (rw [if_neg (by decide +kernel)]; exact ⟨rfl, rfl⟩))
    (fun os started H enc _ => lifted os started H enc)
end Go.Proofs.Ytbndndpimaocdaa.fnStore
namespace Go.Proofs.Ytbndndpimaocdaa
/-- The row, under a short name, for the claim. -/
theorem fnStore_holds : Rows.FnStoreSaid := fnStore.over
#print axioms fnStore_holds
end Go.Proofs.Ytbndndpimaocdaa
