/-
  FnExactPut: whatever the arguments, the law returns true, and all that was there is as it was. No conditions.
-/
import Derived.Test.YtligkplajabcfaaRows
import Derived.Test.YtligkplajabcfaaPutOk3
import Derived.Test.YtligkplajabcfaaPutPl0
import Derived.WalkKit
import Derived.ProofKit
import Derived.OpenShut
import Derived.ShutString
import Derived.ChangeOld
import Derived.SizedLaws
import Derived.Carry
set_option linter.unusedVariables false
set_option linter.unusedSimpArgs false
set_option synthInstance.maxSize 1000000000
set_option maxRecDepth 20000
namespace Go.Pu
open Go Go.SX Go.Nt Go.Proofs
theorem wt_98 {d : Nat} {l : List C} (h : Wt Try.prog (d + 2) 98 l) : ∃ x : Metric, l = enc_Metric x ∧ Metric.ok x := by
  replace h := wt_st (d := d + 1) rfl h
  obtain ⟨l0, m0, e0, w0, h⟩ := wtF_cons h
  obtain ⟨x0, f0, o0⟩ := wt_s rfl (d := d + 0) w0
  obtain ⟨l1, m1, e1, w1, h⟩ := wtF_cons h
  obtain ⟨x1, f1, o1⟩ := wt_i64 rfl (d := d + 0) w1
  obtain ⟨l2, m2, e2, w2, h⟩ := wtF_cons h
  obtain ⟨x2, f2, o2⟩ := wt_i64 rfl (d := d + 0) w2
  have e := wtF_nil h
  subst e
  subst e2
  subst e1
  subst f0
  subst f1
  subst f2
  exact ⟨⟨x0, x1, x2⟩, e0, ⟨o0, o1, o2⟩⟩
theorem wt_52 {d : Nat} {l : List C} (h : Wt Try.prog (d + 3) 52 l) : ∃ x : List Metric, l = eL enc_Metric x ∧ (okL Metric.ok) x := by
  obtain ⟨x, h1, h2⟩ := wt_l (d := d + 2) (en := enc_Metric) (ok := Metric.ok) rfl (fun el h => by obtain ⟨x, h1, h2⟩ := wt_98 h; exact ⟨x, h1, h2⟩) h
  exact ⟨x, h1, h2⟩
theorem wt_53 {d : Nat} {l : List C} (h : Wt Try.prog (d + 2) 53 l) : ∃ x : Pace, l = enc_Pace x ∧ Pace.ok x := by
  replace h := wt_st (d := d + 1) rfl h
  obtain ⟨l0, m0, e0, w0, h⟩ := wtF_cons h
  obtain ⟨x0, f0, o0⟩ := wt_i64 rfl (d := d + 0) w0
  obtain ⟨l1, m1, e1, w1, h⟩ := wtF_cons h
  obtain ⟨x1, f1, o1⟩ := wt_i64 rfl (d := d + 0) w1
  obtain ⟨l2, m2, e2, w2, h⟩ := wtF_cons h
  obtain ⟨x2, f2, o2⟩ := wt_i64 rfl (d := d + 0) w2
  obtain ⟨l3, m3, e3, w3, h⟩ := wtF_cons h
  obtain ⟨x3, f3, o3⟩ := wt_i64 rfl (d := d + 0) w3
  have e := wtF_nil h
  subst e
  subst e3
  subst e2
  subst e1
  subst f0
  subst f1
  subst f2
  subst f3
  exact ⟨⟨x0, x1, x2, x3⟩, e0, ⟨o0, o1, o2, o3⟩⟩
theorem wt_101 {d : Nat} {l : List C} (h : Wt Try.prog (d + 2) 101 l) : ∃ x : Note, l = enc_Note x ∧ Note.ok x := by
  replace h := wt_st (d := d + 1) rfl h
  obtain ⟨l0, m0, e0, w0, h⟩ := wtF_cons h
  obtain ⟨x0, f0, o0⟩ := wt_s rfl (d := d + 0) w0
  obtain ⟨l1, m1, e1, w1, h⟩ := wtF_cons h
  obtain ⟨x1, f1, o1⟩ := wt_s rfl (d := d + 0) w1
  have e := wtF_nil h
  subst e
  subst e1
  subst f0
  subst f1
  exact ⟨⟨x0, x1⟩, e0, ⟨o0, o1⟩⟩
theorem wt_54 {d : Nat} {l : List C} (h : Wt Try.prog (d + 3) 54 l) : ∃ x : List Note, l = eL enc_Note x ∧ (okL Note.ok) x := by
  obtain ⟨x, h1, h2⟩ := wt_l (d := d + 2) (en := enc_Note) (ok := Note.ok) rfl (fun el h => by obtain ⟨x, h1, h2⟩ := wt_101 h; exact ⟨x, h1, h2⟩) h
  exact ⟨x, h1, h2⟩
theorem wt_56 {d : Nat} {l : List C} (h : Wt Try.prog (d + 4) 56 l) : ∃ x : Order, l = enc_Order x ∧ Order.ok x := by
  replace h := wt_st (d := d + 3) rfl h
  obtain ⟨l0, m0, e0, w0, h⟩ := wtF_cons h
  obtain ⟨x0, f0, o0⟩ := wt_s rfl (d := d + 2) w0
  obtain ⟨l1, m1, e1, w1, h⟩ := wtF_cons h
  obtain ⟨x1, f1, o1⟩ := wt_s rfl (d := d + 2) w1
  obtain ⟨l2, m2, e2, w2, h⟩ := wtF_cons h
  obtain ⟨x2, f2, o2⟩ := wt_i64 rfl (d := d + 2) w2
  obtain ⟨l3, m3, e3, w3, h⟩ := wtF_cons h
  obtain ⟨x3, f3, o3⟩ := wt_i64 rfl (d := d + 2) w3
  obtain ⟨l4, m4, e4, w4, h⟩ := wtF_cons h
  obtain ⟨x4, f4, o4⟩ := wt_52 (d := d + 0) w4
  obtain ⟨l5, m5, e5, w5, h⟩ := wtF_cons h
  obtain ⟨x5, f5, o5⟩ := wt_53 (d := d + 1) w5
  obtain ⟨l6, m6, e6, w6, h⟩ := wtF_cons h
  obtain ⟨x6, f6, o6⟩ := wt_54 (d := d + 0) w6
  have e := wtF_nil h
  subst e
  subst e6
  subst e5
  subst e4
  subst e3
  subst e2
  subst e1
  subst f0
  subst f1
  subst f2
  subst f3
  subst f4
  subst f5
  subst f6
  exact ⟨⟨x0, x1, x2, x3, x4, x5, x6⟩, e0, ⟨o0, o1, o2, o3, o4, o5, o6⟩⟩
theorem wt_87 {d : Nat} {l : List C} (h : Wt Try.prog (d + 5) 87 l) : ∃ x : Item, l = enc_Item x ∧ Item.ok x := by
  replace h := wt_st (d := d + 4) rfl h
  obtain ⟨l0, m0, e0, w0, h⟩ := wtF_cons h
  obtain ⟨x0, f0, o0⟩ := wt_56 (d := d + 0) w0
  obtain ⟨l1, m1, e1, w1, h⟩ := wtF_cons h
  obtain ⟨x1, f1, o1⟩ := wt_i64 rfl (d := d + 3) w1
  have e := wtF_nil h
  subst e
  subst e1
  subst f0
  subst f1
  exact ⟨⟨x0, x1⟩, e0, ⟨o0, o1⟩⟩
theorem wt_22 {d : Nat} {l : List C} (h : Wt Try.prog (d + 6) 22 l) : ∃ x : List Item, l = eL enc_Item x ∧ (okL Item.ok) x := by
  obtain ⟨x, h1, h2⟩ := wt_l (d := d + 5) (en := enc_Item) (ok := Item.ok) rfl (fun el h => by obtain ⟨x, h1, h2⟩ := wt_87 h; exact ⟨x, h1, h2⟩) h
  exact ⟨x, h1, h2⟩
theorem wt_24 {d : Nat} {l : List C} (h : Wt Try.prog (d + 7) 24 l) : ∃ x : Store, l = enc_Store x ∧ Store.ok x := by
  replace h := wt_st (d := d + 6) rfl h
  obtain ⟨l0, m0, e0, w0, h⟩ := wtF_cons h
  obtain ⟨x0, f0, o0⟩ := wt_22 (d := d + 0) w0
  obtain ⟨l1, m1, e1, w1, h⟩ := wtF_cons h
  obtain ⟨x1, f1, o1⟩ := wt_i64 rfl (d := d + 5) w1
  have e := wtF_nil h
  subst e
  subst e1
  subst f0
  subst f1
  exact ⟨⟨x0, x1⟩, e0, ⟨o0, o1⟩⟩
end Go.Pu
namespace Go.Proofs.Ytligkplajabcfaa.fnExactPut
open Go.ChangeShapes Go.WideShapes Go.ChangeAt Go.RowKit Go.SX Go.Pu Go.Nt
theorem csH0 {w : World} {ok : Nat → Prop} : ∀ {l : List C} {us : List Value}, CsRel w ok (l.map (·, none)) us [] → CsH w ok (l.map (·, none)) us [] []
  | [], _, .nil => .nil
  | _ :: _, _, .sh h k => .sh h (csH0 k)
theorem mixed : Try.prog.follows .mixedOrders = true := by kernel_rfl
theorem own : ownKnob Try.prog.godebug = none := by kernel_rfl
theorem laidOut : laidOutB Try.prog = true := by kernel_rfl
theorem walk {a1 : Go.Pu.Store} {a2 : Go.Pu.Order} (o0 : Go.Pu.Store.ok a1) (o1 : Go.Pu.Order.ok a2) {W : World} {us : List Value} {hs : List SX.H} (hA : ArgsRel W (There W) [gStore a1, gOrder a2] us hs []) : Calls Try.prog 6 us.toArray W fun e w' => e = .returned (.bool true) ∧ Below W.heap.size W w' :=
  law_run mixed pr_ok Try.func6 (by kernel_rfl) (by kernel_rfl) (laws_FnExactPut_ok.ok (Pure.FnExactPut a1 a2 o0 o1)) hA
set_option maxRecDepth 100000 in
theorem lifted (os : Os) (started : os.Started) (H : Type) (enc : TypeId × Value → H) :
    ReturnsInHanded {} Try.checked os 6 .any (Rows.fnExactPutSpec.pre6 enc Try.prog Try.f6 Rows.fnExactPutRow.domain false) (Rows.fnExactPutSpec.post enc Try.prog Try.f6 false true false false) := by
  refine returnsInHanded_of_change_sized (C := Try.checked) own started (by kernel_rfl) Try.func6
    (ChangeSpec.witness6 (enc := enc) (C := Try.checked) false ⟨#[], #[.agg #[.slice none 0 0, .int .i64 0], .agg #[.string ByteArray.empty, .string ByteArray.empty, .int .i64 0, .int .i64 0, .slice none 0 0, .int .i64 0, .int .i64 0, .int .i64 0, .int .i64 0, .slice none 0 0]], []⟩ 8 (by kernel_rfl) (by kernel_rfl) (by kernel_rfl) (by kernel_rfl)) ?_
  intro W base args ds gs before hval0 hW hcnd hsz0 _
  have hval : ∀ (j : Nat) t v, Try.f6.params[j]? = some t → args[j]? = some v → Value.okWide Try.prog W .any base t v := hval0
  have hW' := hW
  obtain ⟨p, q, hA0, hV, rfl, hfz, hnd⟩ := hW
  have hA : DataW.TrodAll enc Try.prog W 0 (fun _ => true) true Try.f6.params.toList args.toList ds p := hA0
  rw [Try.params6] at hA hval
  obtain ⟨v0, vs0, d0, ds0, p0, q0, hargs, rfl, rfl, h0, r0⟩ := trodAll_cons hA
  obtain ⟨v1, vs1, d1, ds1, p1, q1, rfl, rfl, rfl, h1, r1⟩ := trodAll_cons r0
  obtain ⟨rfl, rfl, rfl⟩ := trodAll_nil r1
  obtain rfl : args = #[v0, v1] := by cases args; simp_all
  obtain ⟨rfl, rfl⟩ := trodVars_none hV
  have lt0 : ∀ x ∈ p0, x.block < W.heap.size := by obtain ⟨m, hm⟩ := h0; exact DataW.trod_lt m _ _ _ hm
  have k0 := h0
  obtain ⟨cs0, rfl, _⟩ := okWide_struct Try.underlying24 (hval 0 24 v0 rfl rfl)
  obtain ⟨l0, w0, g0⟩ := arg_ag (t := 24) (by kernel_rfl) h0
  obtain ⟨a1, e0, o0⟩ := wt_24 (d := 1) w0
  subst e0
  have lt1 : ∀ x ∈ p1, x.block < W.heap.size := by obtain ⟨m, hm⟩ := h1; exact DataW.trod_lt m _ _ _ hm
  have k1 := h1
  obtain ⟨cs1, rfl, _⟩ := okWide_struct Try.underlying56 (hval 1 56 v1 rfl rfl)
  obtain ⟨l1, w1, g1⟩ := arg_ag (t := 56) (by kernel_rfl) h1
  obtain ⟨a2, e1, o1⟩ := wt_56 (d := 4) w1
  subst e1
  refine (walk o0 o1 (W := W) (.ag (csH0 g0) (.ag (csH0 g1) .nil))).mono fun e W' ⟨he, bel⟩ => ?_
  subst he
  exact ⟨_, rfl, _, _, _, [], _, [], hW', trodAll_mk1 (shut_bool Try.underlying4 _), (trodAll_cons_mk (Below.trod laidOut (by kernel_rfl) (of_decide_eq_true (by kernel_rfl)) k0 bel lt0) (trodAll_cons_mk (Below.trod laidOut (by kernel_rfl) (of_decide_eq_true (by kernel_rfl)) k1 bel lt1) trodAll_mk0)), rfl, bel.frame _, fun h => by cases h⟩
theorem over : Rows.fnExactPutRow.holds Try.pinned (OpenSpec.ofChange Rows.fnExactPutSpec) :=
  OpenClaim.holds_of_wide 6 Try.f6 rfl rfl rfl rfl rfl rfl rfl ⟨rfl, rfl, rfl, rfl, rfl⟩ rfl rfl rfl rfl rfl (by kernel_rfl) Try.func6 (by kernel_rfl)
    (of_decide_eq_true (by kernel_rfl)) (by unfold Func.isWrapper; first | (rw [if_pos (by decide +kernel)]; kernel_rfl) | (rw [if_neg (by decide +kernel)]; exact ⟨rfl, rfl⟩))
    (fun os started H enc _ => lifted os started H enc)
end Go.Proofs.Ytligkplajabcfaa.fnExactPut
namespace Go.Proofs.Ytligkplajabcfaa
/-- The row, under a short name, for the claim. -/
theorem fnExactPut_holds : Rows.FnExactPutSaid := fnExactPut.over
#print axioms fnExactPut_holds
end Go.Proofs.Ytligkplajabcfaa
