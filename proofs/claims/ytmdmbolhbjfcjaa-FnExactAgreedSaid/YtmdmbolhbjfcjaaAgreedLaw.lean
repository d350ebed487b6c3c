/-
  FnExactAgreed: whatever the arguments, the law returns true, and all that was there is as it was. No conditions.
-/
import Derived.Test.YtmdmbolhbjfcjaaRows
import Derived.Test.YtmdmbolhbjfcjaaSx34
import Derived.Test.YtmdmbolhbjfcjaaAgreedOk0
import Derived.Test.YtmdmbolhbjfcjaaAgreedOk1
import Derived.Test.YtmdmbolhbjfcjaaAgreedOk2
import Derived.Test.YtmdmbolhbjfcjaaAgreedOk3
import Derived.Test.YtmdmbolhbjfcjaaAgreedOk4
import Derived.Test.YtmdmbolhbjfcjaaAgreedPl0
import Derived.WalkKit
import Derived.ProofKit
import Derived.OpenShut
import Derived.ShutString
import Derived.ChangeOld
import Derived.SizedLaws
import Derived.Carry
set_option linter.unusedVariables false
set_option linter.unusedSimpArgs false
set_option synthInstance.maxSize 1000000000
set_option maxRecDepth 20000
namespace Go.Pu
open Go Go.SX Go.Nt Go.Proofs
theorem wt_22 {d : Nat} {l : List C} (h : Wt Try.prog (d + 2) 22 l) : ∃ x : List Str, l = eL eS x ∧ (okL okS) x := by
  obtain ⟨x, h1, h2⟩ := wt_l (d := d + 1) (en := eS) (ok := okS) rfl (fun el h => by obtain ⟨x, h1, h2⟩ := wt_s rfl h; exact ⟨x, h1, h2⟩) h
  exact ⟨x, h1, h2⟩
theorem wt_25D (d : Nat) : ∀ {l : List C}, Wt Try.prog d 25 l → ∃ x : Node, l = enc_Node x ∧ Node.okd d x := by
  induction d using Nat.strongRecOn with
  | _ d ih =>
    intro l h
    cases d with
    | zero => exact h.elim
    | succ d =>
      replace h := wt_st rfl h
      obtain ⟨l0, m0, e0, w0, h⟩ := wtF_cons h
      obtain ⟨x0, f0, o0⟩ := wt_i64 rfl (d := d) (wt_le (by omega) w0)
      obtain ⟨l1, m1, e1, w1, h⟩ := wtF_cons h
      obtain ⟨x1, f1, o1⟩ := wt_i64 rfl (d := d) (wt_le (by omega) w1)
      obtain ⟨l2, m2, e2, w2, h⟩ := wtF_cons h
      obtain ⟨x2, f2, o2⟩ := wt_s rfl (d := d) (wt_le (by omega) w2)
      obtain ⟨l3, m3, e3, w3, h⟩ := wtF_cons h
      obtain ⟨x3, f3, o3⟩ := wt_22 (d := d) (wt_le (by omega) w3)
      obtain ⟨l4, m4, e4, w4, h⟩ := wtF_cons h
      cases d with
      | zero => exact w4.elim
      | succ k =>
      obtain ⟨x4, f4, o4⟩ := wt_l (d := k) (en := eR_Node) (ok := fun r : RNode => ∃ y, r = rN_Node y ∧ Node.okd (k + 1) y) rfl (fun el h => by obtain ⟨y, e, o⟩ := ih k (by omega) h; exact ⟨rN_Node y, e, y, rfl, Node.okd_up k y o⟩) w4
      have e := wtF_nil h
      subst e
      subst e4
      subst e3
      subst e2
      subst e1
      subst f0
      subst f1
      subst f2
      subst f3
      subst f4
      exact ⟨⟨x0, x1, x2, x3, x4⟩, e0, o0, o1, o2, o3, o4⟩
theorem wt_25R {d : Nat} {l : List C} (h : Wt Try.prog d 25 l) : ∃ x : Node, l = enc_Node x ∧ Node.ok x := by
  obtain ⟨x, h1, h2⟩ := wt_25D d h
  exact ⟨x, h1, d, h2⟩
end Go.Pu
namespace Go.Proofs.Ytmdmbolhbjfcjaa.fnExactAgreed
open Go.ChangeShapes Go.WideShapes Go.ChangeAt Go.RowKit Go.SX Go.Pu Go.Nt
theorem csH0 {w : World} {ok : Nat → Prop} : ∀ {l : List C} {us : List Value}, CsRel w ok (l.map (·, none)) us [] → CsH w ok (l.map (·, none)) us [] []
  | [], _, .nil => .nil
  | _ :: _, _, .sh h k => .sh h (csH0 k)
theorem mixed : Try.prog.follows .mixedOrders = true := by kernel_rfl
theorem own : ownKnob Try.prog.godebug = none := by kernel_rfl
theorem laidOut : laidOutB Try.prog = true := by kernel_rfl
theorem walk {a1 : Go.Pu.Node} {a2 : Go.Pu.Node} {a3 : Go.Pu.Node} (o0 : Go.Pu.Node.ok a1) (o1 : Go.Pu.Node.ok a2) (o2 : Go.Pu.Node.ok a3) {W : World} {us : List Value} {hs : List SX.H} (hA : ArgsRel W (There W) [.ag [(cI .i64 a1.Kind, none), (cI .i64 a1.N, none), (cS a1.S, none), (cL eS a1.Keys, none), (cL eR_Node a1.Kids, none)], .ag [(cI .i64 a2.Kind, none), (cI .i64 a2.N, none), (cS a2.S, none), (cL eS a2.Keys, none), (cL eR_Node a2.Kids, none)], .ag [(cI .i64 a3.Kind, none), (cI .i64 a3.N, none), (cS a3.S, none), (cL eS a3.Keys, none), (cL eR_Node a3.Kids, none)]] us hs []) : Calls Try.prog 3 us.toArray W fun e w' => e = .returned (.bool true) ∧ Below W.heap.size W w' :=
  law_run mixed pr_ok Try.func3 (by kernel_rfl) (by kernel_rfl) (laws_FnExactAgreed_ok (Pure.FnExactAgreed a1 a2 a3 o0 o1 o2)) hA
set_option maxRecDepth 100000 in
theorem lifted (os : Os) (started : os.Started) (H : Type) (enc : TypeId × Value → H) :
    ReturnsInHanded {} Try.checked os 3 .any (Rows.fnExactAgreedSpec.pre6 enc Try.prog Try.f3 Rows.fnExactAgreedRow.domain false) (Rows.fnExactAgreedSpec.post enc Try.prog Try.f3 false true false false) := by
  refine returnsInHanded_of_change_sized (C := Try.checked) own started (by kernel_rfl) Try.func3
    (ChangeSpec.witness6 (enc := enc) (C := Try.checked) false ⟨#[], #[.agg #[.int .i64 0, .int .i64 0, .string ByteArray.empty, .slice none 0 0, .slice none 0 0], .agg #[.int .i64 0, .int .i64 0, .string ByteArray.empty, .slice none 0 0, .slice none 0 0], .agg #[.int .i64 0, .int .i64 0, .string ByteArray.empty, .slice none 0 0, .slice none 0 0]], []⟩ 8 (by kernel_rfl) (by kernel_rfl) (by kernel_rfl) (by kernel_rfl)) ?_
  intro W base args ds gs before hval0 hW hcnd hsz0 _
  have hval : ∀ (j : Nat) t v, Try.f3.params[j]? = some t → args[j]? = some v → Value.okWide Try.prog W .any base t v := hval0
  have hW' := hW
  obtain ⟨p, q, hA0, hV, rfl, hfz, hnd⟩ := hW
  have hA : DataW.TrodAll enc Try.prog W 0 (fun _ => true) true Try.f3.params.toList args.toList ds p := hA0
  rw [Try.params3] at hA hval
  obtain ⟨v0, vs0, d0, ds0, p0, q0, hargs, rfl, rfl, h0, r0⟩ := trodAll_cons hA
  obtain ⟨v1, vs1, d1, ds1, p1, q1, rfl, rfl, rfl, h1, r1⟩ := trodAll_cons r0
  obtain ⟨v2, vs2, d2, ds2, p2, q2, rfl, rfl, rfl, h2, r2⟩ := trodAll_cons r1
  obtain ⟨rfl, rfl, rfl⟩ := trodAll_nil r2
  obtain rfl : args = #[v0, v1, v2] := by cases args; simp_all
  obtain ⟨rfl, rfl⟩ := trodVars_none hV
  have lt0 : ∀ x ∈ p0, x.block < W.heap.size := by obtain ⟨m, hm⟩ := h0; exact DataW.trod_lt m _ _ _ hm
  have k0 := h0
  obtain ⟨cs0, rfl, _⟩ := okWide_struct Try.underlying25 (hval 0 25 v0 rfl rfl)
  obtain ⟨dd0, l0, w0, g0⟩ := arg_agR (S := [25, 3, 9, 22, 23]) (t := 25) (by kernel_rfl) (by decide) h0
  obtain ⟨a1, e0, o0⟩ := wt_25R w0
  subst e0
  have lt1 : ∀ x ∈ p1, x.block < W.heap.size := by obtain ⟨m, hm⟩ := h1; exact DataW.trod_lt m _ _ _ hm
  have k1 := h1
  obtain ⟨cs1, rfl, _⟩ := okWide_struct Try.underlying25 (hval 1 25 v1 rfl rfl)
  obtain ⟨dd1, l1, w1, g1⟩ := arg_agR (S := [25, 3, 9, 22, 23]) (t := 25) (by kernel_rfl) (by decide) h1
  obtain ⟨a2, e1, o1⟩ := wt_25R w1
  subst e1
  have lt2 : ∀ x ∈ p2, x.block < W.heap.size := by obtain ⟨m, hm⟩ := h2; exact DataW.trod_lt m _ _ _ hm
  have k2 := h2
  obtain ⟨cs2, rfl, _⟩ := okWide_struct Try.underlying25 (hval 2 25 v2 rfl rfl)
  obtain ⟨dd2, l2, w2, g2⟩ := arg_agR (S := [25, 3, 9, 22, 23]) (t := 25) (by kernel_rfl) (by decide) h2
  obtain ⟨a3, e2, o2⟩ := wt_25R w2
  subst e2
  refine (walk o0 o1 o2 (W := W) (.ag (csH0 g0) (.ag (csH0 g1) (.ag (csH0 g2) .nil)))).mono fun e W' ⟨he, bel⟩ => ?_
  subst he
  exact ⟨_, rfl, _, _, _, [], _, [], hW', trodAll_mk1 (shut_bool Try.underlying4 _), (trodAll_cons_mk (Below.trod laidOut (by kernel_rfl) (of_decide_eq_true (by kernel_rfl)) k0 bel lt0) (trodAll_cons_mk (Below.trod laidOut (by kernel_rfl) (of_decide_eq_true (by kernel_rfl)) k1 bel lt1) (trodAll_cons_mk (Below.trod laidOut (by kernel_rfl) (of_decide_eq_true (by kernel_rfl)) k2 bel lt2) trodAll_mk0))), rfl, bel.frame _, fun h => by cases h⟩
theorem over : Rows.fnExactAgreedRow.holds Try.pinned (OpenSpec.ofChange Rows.fnExactAgreedSpec) :=
  OpenClaim.holds_of_wide 3 Try.f3 rfl rfl rfl rfl rfl rfl rfl ⟨rfl, rfl, rfl, rfl, rfl⟩ rfl rfl rfl rfl rfl (by kernel_rfl) Try.func3 (by kernel_rfl)
    (of_decide_eq_true (by kernel_rfl)) (by unfold Func.isWrapper; first | (rw [if_pos (by decide +kernel)]; kernel_rfl) | (rw [if_neg (by decide +kernel)]; exact ⟨rfl, rfl⟩))
    (fun os started H enc _ => lifted os started H enc)
end Go.Proofs.Ytmdmbolhbjfcjaa.fnExactAgreed
namespace Go.Proofs.Ytmdmbolhbjfcjaa
/-- The row, under a short name, for the claim. -/
theorem fnExactAgreed_holds : Rows.FnExactAgreedSaid := fnExactAgreed.over
#print axioms fnExactAgreed_holds
end Go.Proofs.Ytmdmbolhbjfcjaa
