/-
  FnExactRecAdd: whatever the arguments, the law returns true, and all that was there is as it was. No conditions.
-/
import Derived.Test.YtgeingpadegppaaRows
import Derived.Test.YtgeingpadegppaaRecAddOk0
import Derived.Test.YtgeingpadegppaaRecAddPl0
import Derived.WalkKit
import Derived.ProofKit
import Derived.OpenShut
import Derived.ShutString
import Derived.ChangeOld
import Derived.SizedLaws
import Derived.Carry
set_option linter.unusedVariables false
set_option linter.unusedSimpArgs false
set_option maxRecDepth 20000
namespace Go.Pu
open Go Go.SX Go.Nt Go.Proofs
theorem wt_90 {d : Nat} {l : List C} (h : Wt Try.prog (d + 2) 90 l) : ∃ x : Rec, l = enc_Rec x ∧ Rec.ok x := by
  replace h := wt_st (d := d + 1) rfl h
  obtain ⟨l0, m0, e0, w0, h⟩ := wtF_cons h
  obtain ⟨x0, f0, o0⟩ := wt_i64 rfl (d := d + 0) w0
  obtain ⟨l1, m1, e1, w1, h⟩ := wtF_cons h
  obtain ⟨x1, f1, o1⟩ := wt_i64 rfl (d := d + 0) w1
  have e := wtF_nil h
  subst e
  subst e1
  subst f0
  subst f1
  exact ⟨⟨x0, x1⟩, e0, ⟨o0, o1⟩⟩
theorem wt_22 {d : Nat} {l : List C} (h : Wt Try.prog (d + 3) 22 l) : ∃ x : List Rec, l = eL enc_Rec x ∧ (okL Rec.ok) x := by
  obtain ⟨x, h1, h2⟩ := wt_l (d := d + 2) (en := enc_Rec) (ok := Rec.ok) rfl (fun el h => by obtain ⟨x, h1, h2⟩ := wt_90 h; exact ⟨x, h1, h2⟩) h
  exact ⟨x, h1, h2⟩
end Go.Pu
namespace Go.Proofs.Ytgeingpadegppaa.fnExactRecAdd
open Go.ChangeShapes Go.WideShapes Go.ChangeAt Go.RowKit Go.SX Go.Pu Go.Nt
theorem mixed : Try.prog.follows .mixedOrders = true := by kernel_rfl
theorem own : ownKnob Try.prog.godebug = none := by kernel_rfl
theorem laidOut : laidOutB Try.prog = true := by kernel_rfl
theorem walk {a1 : List Rec} {a2 : Int} {a3 : Int} (o0 : (okL Rec.ok) a1) (o1 : okI a2) (o2 : okI a3) {W : World} {us : List Value} {hs : List SX.H} (hA : ArgsRel W (There W) [.c (cL enc_Rec a1) none, .c (cI .i64 a2) none, .c (cI .i64 a3) none] us hs []) : Calls Try.prog 9 us.toArray W fun e w' => e = .returned (.bool true) ∧ Below W.heap.size W w' :=
  law_run mixed pr_ok Try.func9 (by kernel_rfl) (by kernel_rfl) (laws_FnExactRecAdd_ok (Pure.FnExactRecAdd a1 a2 a3 o0 o1 o2)) hA
set_option maxRecDepth 100000 in
theorem lifted (os : Os) (started : os.Started) (H : Type) (enc : TypeId × Value → H) :
    ReturnsInHanded {} Try.checked os 9 .any (Rows.fnExactRecAddSpec.pre6 enc Try.prog Try.f9 Rows.fnExactRecAddRow.domain false) (Rows.fnExactRecAddSpec.post enc Try.prog Try.f9 false true false false) := by
  refine returnsInHanded_of_change_sized (C := Try.checked) own started (by kernel_rfl) Try.func9
    (ChangeSpec.witness6 (enc := enc) (C := Try.checked) false ⟨#[], #[.slice none 0 0, .int .i64 0, .int .i64 0], []⟩ 8 (by kernel_rfl) (by kernel_rfl) (by kernel_rfl) (by kernel_rfl)) ?_
  intro W base args ds gs before hval0 hW hcnd hsz0 _
  have hval : ∀ (j : Nat) t v, Try.f9.params[j]? = some t → args[j]? = some v → Value.okWide Try.prog W .any base t v := hval0
  have hW' := hW
  obtain ⟨p, q, hA0, hV, rfl, hfz, hnd⟩ := hW
  have hA : DataW.TrodAll enc Try.prog W 0 (fun _ => true) true Try.f9.params.toList args.toList ds p := hA0
  rw [Try.params9] at hA hval
  obtain ⟨v0, vs0, d0, ds0, p0, q0, hargs, rfl, rfl, h0, r0⟩ := trodAll_cons hA
  obtain ⟨v1, vs1, d1, ds1, p1, q1, rfl, rfl, rfl, h1, r1⟩ := trodAll_cons r0
  obtain ⟨v2, vs2, d2, ds2, p2, q2, rfl, rfl, rfl, h2, r2⟩ := trodAll_cons r1
  obtain ⟨rfl, rfl, rfl⟩ := trodAll_nil r2
  obtain rfl : args = #[v0, v1, v2] := by cases args; simp_all
  obtain ⟨rfl, rfl⟩ := trodVars_none hV
  have lt0 : ∀ x ∈ p0, x.block < W.heap.size := by obtain ⟨m, hm⟩ := h0; exact DataW.trod_lt m _ _ _ hm
  have k0 := h0
  obtain ⟨u0, n0, c0, rfl⟩ := okWide_slice Try.underlying22 (hval 0 22 v0 rfl rfl)
  obtain ⟨l0, w0, g0⟩ := arg_c (t := 22) (by kernel_rfl) (by simp) h0
  obtain ⟨a1, e0, o0⟩ := wt_22 (d := 5) w0
  obtain rfl := (List.cons.inj e0).1
  have lt1 : ∀ x ∈ p1, x.block < W.heap.size := by obtain ⟨m, hm⟩ := h1; exact DataW.trod_lt m _ _ _ hm
  have k1 := h1
  obtain ⟨u1, rfl⟩ := okWide_int Try.underlying3 (hval 1 3 v1 rfl rfl)
  obtain ⟨l1, w1, g1⟩ := arg_c (t := 3) (by kernel_rfl) (by simp) h1
  obtain ⟨a2, e1, o1⟩ := wt_i64 rfl (d := 7) w1
  obtain rfl := (List.cons.inj e1).1
  have lt2 : ∀ x ∈ p2, x.block < W.heap.size := by obtain ⟨m, hm⟩ := h2; exact DataW.trod_lt m _ _ _ hm
  have k2 := h2
  obtain ⟨u2, rfl⟩ := okWide_int Try.underlying3 (hval 2 3 v2 rfl rfl)
  obtain ⟨l2, w2, g2⟩ := arg_c (t := 3) (by kernel_rfl) (by simp) h2
  obtain ⟨a3, e2, o2⟩ := wt_i64 rfl (d := 7) w2
  obtain rfl := (List.cons.inj e2).1
  refine (walk o0 o1 o2 (W := W) (.sh g0 (.sh g1 (.sh g2 .nil)))).mono fun e W' ⟨he, bel⟩ => ?_
  subst he
  exact ⟨_, rfl, _, _, _, [], _, [], hW', trodAll_mk1 (shut_bool Try.underlying4 _), (trodAll_cons_mk (Below.trod laidOut (by kernel_rfl) (of_decide_eq_true (by kernel_rfl)) k0 bel lt0) (trodAll_cons_mk (Below.trod laidOut (by kernel_rfl) (of_decide_eq_true (by kernel_rfl)) k1 bel lt1) (trodAll_cons_mk (Below.trod laidOut (by kernel_rfl) (of_decide_eq_true (by kernel_rfl)) k2 bel lt2) trodAll_mk0))), rfl, bel.frame _, fun h => by cases h⟩
theorem over : Rows.fnExactRecAddRow.holds Try.pinned (OpenSpec.ofChange Rows.fnExactRecAddSpec) :=
  OpenClaim.holds_of_wide 9 Try.f9 rfl rfl rfl rfl rfl rfl rfl ⟨rfl, rfl, rfl, rfl, rfl⟩ rfl rfl rfl rfl rfl (by kernel_rfl) Try.func9 (by kernel_rfl)
    (of_decide_eq_true (by kernel_rfl)) (by unfold Func.isWrapper; first | (rw [if_pos (by decide +kernel)]; kernel_rfl) | (rw [if_neg (by decide +kernel)]; exact ⟨rfl, rfl⟩))
    (fun os started H enc _ => lifted os started H enc)
end Go.Proofs.Ytgeingpadegppaa.fnExactRecAdd
namespace Go.Proofs.Ytgeingpadegppaa
/-- The row, under a short name, for the claim. -/
theorem fnExactRecAdd_holds : Rows.FnExactRecAddSaid := fnExactRecAdd.over
#print axioms fnExactRecAdd_holds
end Go.Proofs.Ytgeingpadegppaa
