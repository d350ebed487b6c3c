/-
  FnExactSettle: whatever the arguments, the law returns true, and all that was there is as it was. No conditions.
-/
import Derived.Test.YtajbkchcdiialaaGreatRows
import Derived.Test.YtajbkchcdiialaaGreatSettleOk0
import Derived.Test.YtajbkchcdiialaaGreatSettleOk1
import Derived.Test.YtajbkchcdiialaaGreatSettleOk2
import Derived.Test.YtajbkchcdiialaaGreatSettleOk3
import Derived.Test.YtajbkchcdiialaaGreatSettleOk4
import Derived.Test.YtajbkchcdiialaaGreatSettlePl0
import Derived.WalkKit
import Derived.ProofKit
import Derived.OpenShut
import Derived.ShutString
import Derived.ChangeOld
import Derived.SizedLaws
import Derived.Carry
set_option linter.unusedVariables false
set_option linter.unusedSimpArgs false
set_option synthInstance.maxSize 1000000000
set_option maxRecDepth 20000
namespace Go.Pu
open Go Go.SX Go.Nt Go.Proofs
theorem wt_96 {d : Nat} {l : List C} (h : Wt Tryz.prog (d + 2) 96 l) : ∃ x : Metric, l = enc_Metric x ∧ Metric.ok x := by
  replace h := wt_st (d := d + 1) rfl h
  obtain ⟨l0, m0, e0, w0, h⟩ := wtF_cons h
  obtain ⟨x0, f0, o0⟩ := wt_s rfl (d := d + 0) w0
  obtain ⟨l1, m1, e1, w1, h⟩ := wtF_cons h
  obtain ⟨x1, f1, o1⟩ := wt_i64 rfl (d := d + 0) w1
  obtain ⟨l2, m2, e2, w2, h⟩ := wtF_cons h
  obtain ⟨x2, f2, o2⟩ := wt_i64 rfl (d := d + 0) w2
  have e := wtF_nil h
  subst e
  subst e2
  subst e1
  subst f0
  subst f1
  subst f2
  exact ⟨⟨x0, x1, x2⟩, e0, ⟨o0, o1, o2⟩⟩
theorem wt_22 {d : Nat} {l : List C} (h : Wt Tryz.prog (d + 3) 22 l) : ∃ x : List Metric, l = eL enc_Metric x ∧ (okL Metric.ok) x := by
  obtain ⟨x, h1, h2⟩ := wt_l (d := d + 2) (en := enc_Metric) (ok := Metric.ok) rfl (fun el h => by obtain ⟨x, h1, h2⟩ := wt_96 h; exact ⟨x, h1, h2⟩) h
  exact ⟨x, h1, h2⟩
theorem wt_24 {d : Nat} {l : List C} (h : Wt Tryz.prog (d + 2) 24 l) : ∃ x : Pace, l = enc_Pace x ∧ Pace.ok x := by
  replace h := wt_st (d := d + 1) rfl h
  obtain ⟨l0, m0, e0, w0, h⟩ := wtF_cons h
  obtain ⟨x0, f0, o0⟩ := wt_i64 rfl (d := d + 0) w0
  obtain ⟨l1, m1, e1, w1, h⟩ := wtF_cons h
  obtain ⟨x1, f1, o1⟩ := wt_i64 rfl (d := d + 0) w1
  obtain ⟨l2, m2, e2, w2, h⟩ := wtF_cons h
  obtain ⟨x2, f2, o2⟩ := wt_i64 rfl (d := d + 0) w2
  obtain ⟨l3, m3, e3, w3, h⟩ := wtF_cons h
  obtain ⟨x3, f3, o3⟩ := wt_i64 rfl (d := d + 0) w3
  have e := wtF_nil h
  subst e
  subst e3
  subst e2
  subst e1
  subst f0
  subst f1
  subst f2
  subst f3
  exact ⟨⟨x0, x1, x2, x3⟩, e0, ⟨o0, o1, o2, o3⟩⟩
theorem wt_99 {d : Nat} {l : List C} (h : Wt Tryz.prog (d + 2) 99 l) : ∃ x : Note, l = enc_Note x ∧ Note.ok x := by
  replace h := wt_st (d := d + 1) rfl h
  obtain ⟨l0, m0, e0, w0, h⟩ := wtF_cons h
  obtain ⟨x0, f0, o0⟩ := wt_s rfl (d := d + 0) w0
  obtain ⟨l1, m1, e1, w1, h⟩ := wtF_cons h
  obtain ⟨x1, f1, o1⟩ := wt_s rfl (d := d + 0) w1
  have e := wtF_nil h
  subst e
  subst e1
  subst f0
  subst f1
  exact ⟨⟨x0, x1⟩, e0, ⟨o0, o1⟩⟩
theorem wt_25 {d : Nat} {l : List C} (h : Wt Tryz.prog (d + 3) 25 l) : ∃ x : List Note, l = eL enc_Note x ∧ (okL Note.ok) x := by
  obtain ⟨x, h1, h2⟩ := wt_l (d := d + 2) (en := enc_Note) (ok := Note.ok) rfl (fun el h => by obtain ⟨x, h1, h2⟩ := wt_99 h; exact ⟨x, h1, h2⟩) h
  exact ⟨x, h1, h2⟩
theorem wt_27 {d : Nat} {l : List C} (h : Wt Tryz.prog (d + 4) 27 l) : ∃ x : Order, l = enc_Order x ∧ Order.ok x := by
  replace h := wt_st (d := d + 3) rfl h
  obtain ⟨l0, m0, e0, w0, h⟩ := wtF_cons h
  obtain ⟨x0, f0, o0⟩ := wt_s rfl (d := d + 2) w0
  obtain ⟨l1, m1, e1, w1, h⟩ := wtF_cons h
  obtain ⟨x1, f1, o1⟩ := wt_s rfl (d := d + 2) w1
  obtain ⟨l2, m2, e2, w2, h⟩ := wtF_cons h
  obtain ⟨x2, f2, o2⟩ := wt_i64 rfl (d := d + 2) w2
  obtain ⟨l3, m3, e3, w3, h⟩ := wtF_cons h
  obtain ⟨x3, f3, o3⟩ := wt_i64 rfl (d := d + 2) w3
  obtain ⟨l4, m4, e4, w4, h⟩ := wtF_cons h
  obtain ⟨x4, f4, o4⟩ := wt_22 (d := d + 0) w4
  obtain ⟨l5, m5, e5, w5, h⟩ := wtF_cons h
  obtain ⟨x5, f5, o5⟩ := wt_24 (d := d + 1) w5
  obtain ⟨l6, m6, e6, w6, h⟩ := wtF_cons h
  obtain ⟨x6, f6, o6⟩ := wt_25 (d := d + 0) w6
  have e := wtF_nil h
  subst e
  subst e6
  subst e5
  subst e4
  subst e3
  subst e2
  subst e1
  subst f0
  subst f1
  subst f2
  subst f3
  subst f4
  subst f5
  subst f6
  exact ⟨⟨x0, x1, x2, x3, x4, x5, x6⟩, e0, ⟨o0, o1, o2, o3, o4, o5, o6⟩⟩
theorem wt_114 {d : Nat} {l : List C} (h : Wt Tryz.prog (d + 2) 114 l) : ∃ x : Rec, l = enc_Rec x ∧ Rec.ok x := by
  replace h := wt_st (d := d + 1) rfl h
  obtain ⟨l0, m0, e0, w0, h⟩ := wtF_cons h
  obtain ⟨x0, f0, o0⟩ := wt_i64 rfl (d := d + 0) w0
  obtain ⟨l1, m1, e1, w1, h⟩ := wtF_cons h
  obtain ⟨x1, f1, o1⟩ := wt_i64 rfl (d := d + 0) w1
  have e := wtF_nil h
  subst e
  subst e1
  subst f0
  subst f1
  exact ⟨⟨x0, x1⟩, e0, ⟨o0, o1⟩⟩
theorem wt_28 {d : Nat} {l : List C} (h : Wt Tryz.prog (d + 3) 28 l) : ∃ x : List Rec, l = eL enc_Rec x ∧ (okL Rec.ok) x := by
  obtain ⟨x, h1, h2⟩ := wt_l (d := d + 2) (en := enc_Rec) (ok := Rec.ok) rfl (fun el h => by obtain ⟨x, h1, h2⟩ := wt_114 h; exact ⟨x, h1, h2⟩) h
  exact ⟨x, h1, h2⟩
theorem wt_30 {d : Nat} {l : List C} (h : Wt Tryz.prog (d + 4) 30 l) : ∃ x : Scale, l = enc_Scale x ∧ Scale.ok x := by
  replace h := wt_st (d := d + 3) rfl h
  obtain ⟨l0, m0, e0, w0, h⟩ := wtF_cons h
  obtain ⟨x0, f0, o0⟩ := wt_s rfl (d := d + 2) w0
  obtain ⟨l1, m1, e1, w1, h⟩ := wtF_cons h
  obtain ⟨x1, f1, o1⟩ := wt_i64 rfl (d := d + 2) w1
  obtain ⟨l2, m2, e2, w2, h⟩ := wtF_cons h
  obtain ⟨x2, f2, o2⟩ := wt_28 (d := d + 0) w2
  have e := wtF_nil h
  subst e
  subst e2
  subst e1
  subst f0
  subst f1
  subst f2
  exact ⟨⟨x0, x1, x2⟩, e0, ⟨o0, o1, o2⟩⟩
theorem wt_63 {d : Nat} {l : List C} (h : Wt Tryz.prog (d + 2) 63 l) : ∃ x : Sample, l = enc_Sample x ∧ Sample.ok x := by
  replace h := wt_st (d := d + 1) rfl h
  obtain ⟨l0, m0, e0, w0, h⟩ := wtF_cons h
  obtain ⟨x0, f0, o0⟩ := wt_s rfl (d := d + 0) w0
  obtain ⟨l1, m1, e1, w1, h⟩ := wtF_cons h
  obtain ⟨x1, f1, o1⟩ := wt_i64 rfl (d := d + 0) w1
  have e := wtF_nil h
  subst e
  subst e1
  subst f0
  subst f1
  exact ⟨⟨x0, x1⟩, e0, ⟨o0, o1⟩⟩
theorem wt_31 {d : Nat} {l : List C} (h : Wt Tryz.prog (d + 3) 31 l) : ∃ x : List Sample, l = eL enc_Sample x ∧ (okL Sample.ok) x := by
  obtain ⟨x, h1, h2⟩ := wt_l (d := d + 2) (en := enc_Sample) (ok := Sample.ok) rfl (fun el h => by obtain ⟨x, h1, h2⟩ := wt_63 h; exact ⟨x, h1, h2⟩) h
  exact ⟨x, h1, h2⟩
end Go.Pu
namespace Go.Proofs.YtajbkchcdiialaaGreat.fnExactSettle
open Go.ChangeShapes Go.WideShapes Go.ChangeAt Go.RowKit Go.SX Go.Pu Go.Nt
theorem csH0 {w : World} {ok : Nat → Prop} : ∀ {l : List C} {us : List Value}, CsRel w ok (l.map (·, none)) us [] → CsH w ok (l.map (·, none)) us [] []
  | [], _, .nil => .nil
  | _ :: _, _, .sh h k => .sh h (csH0 k)
theorem mixed : Tryz.prog.follows .mixedOrders = true := by kernel_rfl
theorem own : ownKnob Tryz.prog.godebug = none := by kernel_rfl
theorem laidOut : laidOutB Tryz.prog = true := by kernel_rfl
theorem walk {a1 : Go.Pu.Order} {a2 : Go.Pu.Scale} {a3 : Int} {a4 : List Go.Pu.Sample} {a5 : Int} (o0 : Go.Pu.Order.ok a1) (o1 : Go.Pu.Scale.ok a2) (o2 : okI a3) (o3 : (okL Go.Pu.Sample.ok) a4) (o4 : okI a5) {W : World} {us : List Value} {hs : List SX.H} (hA : ArgsRel W (There W) [.ag [(cS a1.Name, none), (cS a1.Target, none), (cI .i64 a1.Low, none), (cI .i64 a1.High, none), (cL enc_Metric a1.Metrics, none), (cI .i64 a1.Pace.Up, none), (cI .i64 a1.Pace.Down, none), (cI .i64 a1.Pace.UpSpan, none), (cI .i64 a1.Pace.DownSpan, none), (cL enc_Note a1.Notes, none)], .ag [(cS a2.Name, none), (cI .i64 a2.Now, none), (cL enc_Rec a2.Recs, none)], .c (cI .i64 a3) none, .c (cL enc_Sample a4) none, .c (cI .i64 a5) none] us hs []) : Calls Tryz.prog 4 us.toArray W fun e w' => e = .returned (.bool true) ∧ Below W.heap.size W w' :=
  law_run mixed pr_ok Tryz.func4 (by kernel_rfl) (by kernel_rfl) (laws_FnExactSettle_ok (Pure.FnExactSettle a1 a2 a3 a4 a5 o0 o1 o2 o3 o4)) hA
set_option maxRecDepth 100000 in
theorem lifted (os : Os) (started : os.Started) (H : Type) (enc : TypeId × Value → H) :
    ReturnsInHanded {} Tryz.checked os 4 .any (Rows.fnExactSettleSpec.pre6 enc Tryz.prog Tryz.f4 Rows.fnExactSettleRow.domain false) (Rows.fnExactSettleSpec.post enc Tryz.prog Tryz.f4 false true false false) := by
  refine returnsInHanded_of_change_sized (C := Tryz.checked) own started (by kernel_rfl) Tryz.func4
    (ChangeSpec.witness6 (enc := enc) (C := Tryz.checked) false ⟨#[], #[.agg #[.string ByteArray.empty, .string ByteArray.empty, .int .i64 0, .int .i64 0, .slice none 0 0, .int .i64 0, .int .i64 0, .int .i64 0, .int .i64 0, .slice none 0 0], .agg #[.string ByteArray.empty, .int .i64 0, .slice none 0 0], .int .i64 0, .slice none 0 0, .int .i64 0], []⟩ 8 (by kernel_rfl) (by kernel_rfl) (by kernel_rfl) (by kernel_rfl)) ?_
  intro W base args ds gs before hval0 hW hcnd hsz0 _
  have hval : ∀ (j : Nat) t v, Tryz.f4.params[j]? = some t → args[j]? = some v → Value.okWide Tryz.prog W .any base t v := hval0
  have hW' := hW
  obtain ⟨p, q, hA0, hV, rfl, hfz, hnd⟩ := hW
  have hA : DataW.TrodAll enc Tryz.prog W 0 (fun _ => true) true Tryz.f4.params.toList args.toList ds p := hA0
  rw [Tryz.params4] at hA hval
  obtain ⟨v0, vs0, d0, ds0, p0, q0, hargs, rfl, rfl, h0, r0⟩ := trodAll_cons hA
  obtain ⟨v1, vs1, d1, ds1, p1, q1, rfl, rfl, rfl, h1, r1⟩ := trodAll_cons r0
  obtain ⟨v2, vs2, d2, ds2, p2, q2, rfl, rfl, rfl, h2, r2⟩ := trodAll_cons r1
  obtain ⟨v3, vs3, d3, ds3, p3, q3, rfl, rfl, rfl, h3, r3⟩ := trodAll_cons r2
  obtain ⟨v4, vs4, d4, ds4, p4, q4, rfl, rfl, rfl, h4, r4⟩ := trodAll_cons r3
  obtain ⟨rfl, rfl, rfl⟩ := trodAll_nil r4
  obtain rfl : args = #[v0, v1, v2, v3, v4] := by cases args; simp_all
  obtain ⟨rfl, rfl⟩ := trodVars_none hV
  have lt0 : ∀ x ∈ p0, x.block < W.heap.size := by obtain ⟨m, hm⟩ := h0; exact DataW.trod_lt m _ _ _ hm
  have k0 := h0
  obtain ⟨cs0, rfl, _⟩ := okWide_struct Tryz.underlying27 (hval 0 27 v0 rfl rfl)
  obtain ⟨l0, w0, g0⟩ := arg_ag (t := 27) (by kernel_rfl) h0
  obtain ⟨a1, e0, o0⟩ := wt_27 (d := 4) w0
  subst e0
  have lt1 : ∀ x ∈ p1, x.block < W.heap.size := by obtain ⟨m, hm⟩ := h1; exact DataW.trod_lt m _ _ _ hm
  have k1 := h1
  obtain ⟨cs1, rfl, _⟩ := okWide_struct Tryz.underlying30 (hval 1 30 v1 rfl rfl)
  obtain ⟨l1, w1, g1⟩ := arg_ag (t := 30) (by kernel_rfl) h1
  obtain ⟨a2, e1, o1⟩ := wt_30 (d := 4) w1
  subst e1
  have lt2 : ∀ x ∈ p2, x.block < W.heap.size := by obtain ⟨m, hm⟩ := h2; exact DataW.trod_lt m _ _ _ hm
  have k2 := h2
  obtain ⟨u2, rfl⟩ := okWide_int Tryz.underlying3 (hval 2 3 v2 rfl rfl)
  obtain ⟨l2, w2, g2⟩ := arg_c (t := 3) (by kernel_rfl) (by simp) h2
  obtain ⟨a3, e2, o2⟩ := wt_i64 rfl (d := 7) w2
  obtain rfl := (List.cons.inj e2).1
  have lt3 : ∀ x ∈ p3, x.block < W.heap.size := by obtain ⟨m, hm⟩ := h3; exact DataW.trod_lt m _ _ _ hm
  have k3 := h3
  obtain ⟨u3, n3, c3, rfl⟩ := okWide_slice Tryz.underlying31 (hval 3 31 v3 rfl rfl)
  obtain ⟨l3, w3, g3⟩ := arg_c (t := 31) (by kernel_rfl) (by simp) h3
  obtain ⟨a4, e3, o3⟩ := wt_31 (d := 5) w3
  obtain rfl := (List.cons.inj e3).1
  have lt4 : ∀ x ∈ p4, x.block < W.heap.size := by obtain ⟨m, hm⟩ := h4; exact DataW.trod_lt m _ _ _ hm
  have k4 := h4
  obtain ⟨u4, rfl⟩ := okWide_int Tryz.underlying3 (hval 4 3 v4 rfl rfl)
  obtain ⟨l4, w4, g4⟩ := arg_c (t := 3) (by kernel_rfl) (by simp) h4
  obtain ⟨a5, e4, o4⟩ := wt_i64 rfl (d := 7) w4
  obtain rfl := (List.cons.inj e4).1
  refine (walk o0 o1 o2 o3 o4 (W := W) (.ag (csH0 g0) (.ag (csH0 g1) (.sh g2 (.sh g3 (.sh g4 .nil)))))).mono fun e W' ⟨he, bel⟩ => ?_
  subst he
  exact ⟨_, rfl, _, _, _, [], _, [], hW', trodAll_mk1 (shut_bool Tryz.underlying4 _), (trodAll_cons_mk (Below.trod laidOut (by kernel_rfl) (of_decide_eq_true (by kernel_rfl)) k0 bel lt0) (trodAll_cons_mk (Below.trod laidOut (by kernel_rfl) (of_decide_eq_true (by kernel_rfl)) k1 bel lt1) (trodAll_cons_mk (Below.trod laidOut (by kernel_rfl) (of_decide_eq_true (by kernel_rfl)) k2 bel lt2) (trodAll_cons_mk (Below.trod laidOut (by kernel_rfl) (of_decide_eq_true (by kernel_rfl)) k3 bel lt3) (trodAll_cons_mk (Below.trod laidOut (by kernel_rfl) (of_decide_eq_true (by kernel_rfl)) k4 bel lt4) trodAll_mk0))))), rfl, bel.frame _, fun h => by cases h⟩
theorem over : Rows.fnExactSettleRow.holds Tryz.pinned (OpenSpec.ofChange Rows.fnExactSettleSpec) :=
  OpenClaim.holds_of_wide 4 Tryz.f4 rfl rfl rfl rfl rfl rfl rfl ⟨rfl, rfl, rfl, rfl, rfl⟩ rfl rfl rfl rfl rfl (by kernel_rfl) Tryz.func4 (by kernel_rfl)
    (of_decide_eq_true (by kernel_rfl)) (by unfold Func.isWrapper; first | (rw [if_pos (by decide +kernel)]; kernel_rfl) | (rw [if_neg (by decide +kernel)]; exact ⟨rfl, rfl⟩))
    (fun os started H enc _ => lifted os started H enc)
end Go.Proofs.YtajbkchcdiialaaGreat.fnExactSettle
namespace Go.Proofs.YtajbkchcdiialaaGreat
/-- The row, under a short name, for the claim. -/
theorem fnExactSettle_holds : Rows.FnExactSettleSaid := fnExactSettle.over
#print axioms fnExactSettle_holds
end Go.Proofs.YtajbkchcdiialaaGreat
