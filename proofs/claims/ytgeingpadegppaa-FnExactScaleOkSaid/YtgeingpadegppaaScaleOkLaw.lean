/-
  FnExactScaleOk: whatever the arguments, the law returns true, and all that was there is as it was. No conditions.
-/
import Derived.Test.YtgeingpadegppaaRows
import Derived.Test.YtgeingpadegppaaScaleOkOk0
import Derived.Test.YtgeingpadegppaaScaleOkPl0
import Derived.WalkKit
import Derived.ProofKit
import Derived.OpenShut
import Derived.ShutString
import Derived.ChangeOld
import Derived.SizedLaws
import Derived.Carry
set_option linter.unusedVariables false
set_option linter.unusedSimpArgs false
set_option maxRecDepth 20000
namespace Go.Pu
open Go Go.SX Go.Nt Go.Proofs
theorem wt_90 {d : Nat} {l : List C} (h : Wt Try.prog (d + 2) 90 l) : ∃ x : Rec, l = enc_Rec x ∧ Rec.ok x := by
  replace h := wt_st (d := d + 1) rfl h
  obtain ⟨l0, m0, e0, w0, h⟩ := wtF_cons h
  obtain ⟨x0, f0, o0⟩ := wt_i64 rfl (d := d + 0) w0
  obtain ⟨l1, m1, e1, w1, h⟩ := wtF_cons h
  obtain ⟨x1, f1, o1⟩ := wt_i64 rfl (d := d + 0) w1
  have e := wtF_nil h
  subst e
  subst e1
  subst f0
  subst f1
  exact ⟨⟨x0, x1⟩, e0, ⟨o0, o1⟩⟩
theorem wt_22 {d : Nat} {l : List C} (h : Wt Try.prog (d + 3) 22 l) : ∃ x : List Rec, l = eL enc_Rec x ∧ (okL Rec.ok) x := by
  obtain ⟨x, h1, h2⟩ := wt_l (d := d + 2) (en := enc_Rec) (ok := Rec.ok) rfl (fun el h => by obtain ⟨x, h1, h2⟩ := wt_90 h; exact ⟨x, h1, h2⟩) h
  exact ⟨x, h1, h2⟩
theorem wt_62 {d : Nat} {l : List C} (h : Wt Try.prog (d + 4) 62 l) : ∃ x : Scale, l = enc_Scale x ∧ Scale.ok x := by
  replace h := wt_st (d := d + 3) rfl h
  obtain ⟨l0, m0, e0, w0, h⟩ := wtF_cons h
  obtain ⟨x0, f0, o0⟩ := wt_s rfl (d := d + 2) w0
  obtain ⟨l1, m1, e1, w1, h⟩ := wtF_cons h
  obtain ⟨x1, f1, o1⟩ := wt_i64 rfl (d := d + 2) w1
  obtain ⟨l2, m2, e2, w2, h⟩ := wtF_cons h
  obtain ⟨x2, f2, o2⟩ := wt_22 (d := d + 0) w2
  have e := wtF_nil h
  subst e
  subst e2
  subst e1
  subst f0
  subst f1
  subst f2
  exact ⟨⟨x0, x1, x2⟩, e0, ⟨o0, o1, o2⟩⟩
end Go.Pu
namespace Go.Proofs.Ytgeingpadegppaa.fnExactScaleOk
open Go.ChangeShapes Go.WideShapes Go.ChangeAt Go.RowKit Go.SX Go.Pu Go.Nt
theorem mixed : Try.prog.follows .mixedOrders = true := by kernel_rfl
theorem own : ownKnob Try.prog.godebug = none := by kernel_rfl
theorem laidOut : laidOutB Try.prog = true := by kernel_rfl
theorem walk {a1 : Scale} (o0 : Scale.ok a1) {W : World} {us : List Value} {hs : List SX.H} (hA : ArgsRel W (There W) [.ag [(cS a1.Name, none), (cI .i64 a1.Now, none), (cL enc_Rec a1.Recs, none)]] us hs []) : Calls Try.prog 10 us.toArray W fun e w' => e = .returned (.bool true) ∧ Below W.heap.size W w' :=
  law_run mixed pr_ok Try.func10 (by kernel_rfl) (by kernel_rfl) (laws_FnExactScaleOk_ok (Pure.FnExactScaleOk a1 o0)) hA
set_option maxRecDepth 100000 in
theorem lifted (os : Os) (started : os.Started) (H : Type) (enc : TypeId × Value → H) :
    ReturnsInHanded {} Try.checked os 10 .any (Rows.fnExactScaleOkSpec.pre6 enc Try.prog Try.f10 Rows.fnExactScaleOkRow.domain false) (Rows.fnExactScaleOkSpec.post enc Try.prog Try.f10 false true false false) := by
  refine returnsInHanded_of_change_sized (C := Try.checked) own started (by kernel_rfl) Try.func10
    (ChangeSpec.witness6 (enc := enc) (C := Try.checked) false ⟨#[], #[.agg #[.string ByteArray.empty, .int .i64 0, .slice none 0 0]], []⟩ 8 (by kernel_rfl) (by kernel_rfl) (by kernel_rfl) (by kernel_rfl)) ?_
  intro W base args ds gs before hval0 hW hcnd hsz0 _
  have hval : ∀ (j : Nat) t v, Try.f10.params[j]? = some t → args[j]? = some v → Value.okWide Try.prog W .any base t v := hval0
  have hW' := hW
  obtain ⟨p, q, hA0, hV, rfl, hfz, hnd⟩ := hW
  have hA : DataW.TrodAll enc Try.prog W 0 (fun _ => true) true Try.f10.params.toList args.toList ds p := hA0
  rw [Try.params10] at hA hval
  obtain ⟨v0, vs0, d0, ds0, p0, q0, hargs, rfl, rfl, h0, r0⟩ := trodAll_cons hA
  obtain ⟨rfl, rfl, rfl⟩ := trodAll_nil r0
  obtain rfl : args = #[v0] := by cases args; simp_all
  obtain ⟨rfl, rfl⟩ := trodVars_none hV
  have lt0 : ∀ x ∈ p0, x.block < W.heap.size := by obtain ⟨m, hm⟩ := h0; exact DataW.trod_lt m _ _ _ hm
  have k0 := h0
  obtain ⟨cs0, rfl, _⟩ := okWide_struct Try.underlying62 (hval 0 62 v0 rfl rfl)
  obtain ⟨l0, w0, g0⟩ := arg_ag (t := 62) (by kernel_rfl) h0
  obtain ⟨a1, e0, o0⟩ := wt_62 (d := 4) w0
  subst e0
  refine (walk o0 (W := W) (.ag g0 .nil)).mono fun e W' ⟨he, bel⟩ => ?_
  subst he
  exact ⟨_, rfl, _, _, _, [], _, [], hW', trodAll_mk1 (shut_bool Try.underlying4 _), (trodAll_cons_mk (Below.trod laidOut (by kernel_rfl) (of_decide_eq_true (by kernel_rfl)) k0 bel lt0) trodAll_mk0), rfl, bel.frame _, fun h => by cases h⟩
theorem over : Rows.fnExactScaleOkRow.holds Try.pinned (OpenSpec.ofChange Rows.fnExactScaleOkSpec) :=
  OpenClaim.holds_of_wide 10 Try.f10 rfl rfl rfl rfl rfl rfl rfl ⟨rfl, rfl, rfl, rfl, rfl⟩ rfl rfl rfl rfl rfl (by kernel_rfl) Try.func10 (by kernel_rfl)
    (of_decide_eq_true (by kernel_rfl)) (by unfold Func.isWrapper; first | (rw [if_pos (by decide +kernel)]; kernel_rfl) | (rw [if_neg (by decide +kernel)]; exact ⟨rfl, rfl⟩))
    (fun os started H enc _ => lifted os started H enc)
end Go.Proofs.Ytgeingpadegppaa.fnExactScaleOk
namespace Go.Proofs.Ytgeingpadegppaa
/-- The row, under a short name, for the claim. -/
theorem fnExactScaleOk_holds : Rows.FnExactScaleOkSaid := fnExactScaleOk.over
#print axioms fnExactScaleOk_holds
end Go.Proofs.Ytgeingpadegppaa
