import Derived.Test.YtgbchdjcjkpfjaaGreatSaidOrderOk0
import Derived.Test.YtgbchdjcjkpfjaaGreatSaidOrderOk2
import Derived.Test.YtgbchdjcjkpfjaaGreatSaidOrderOk3
import Derived.Test.YtgbchdjcjkpfjaaGreatSaidOrderOk4
set_option linter.unusedVariables false
set_option linter.unusedSimpArgs false
set_option synthInstance.maxSize 1000000000
set_option maxRecDepth 20000
set_option maxHeartbeats 20000000
namespace Go.Pu
open Go Go.SX Go.Nt Go.Proofs
instance impl_ShareOf_ok  {a1 : List Metric} : FOK R (impl_ShareOf a1) 83 [.c (cL enc_Metric a1) none] fun r => (.tu [.c (cI .i64 r.1) none, .c (cB r.2) none], []) := ⟨fun {r} H => by
 unfold impl_ShareOf at H
 refine fw false 36 Tryz.func83 ?_
 refine s_ ?_
 obtain ⟨s6, hs6, H⟩ := bnd H
 refine loop_rule (ls := []) 0 (fun t5 : Unit => ⟨[], [], []⟩) (fun t => s6 = .inr t) ⟨[.no, .no, .no, .no, .no, .no, .c (cL enc_Metric a1), qi (a1.length : Int), qi 0], [], []⟩ mO lE ?_ ?_
 ·
  rintro t5 rfl
  exact au0 H
 ·
  intro V1 hV1 hW1 hX1
  refine (impl_ShareOf.l0.partial_correctness a1 (fun v2 s' => s' = s6 → (V1 ⟨[.no, .no, .no, .no, .no, .no, .c (cL enc_Metric a1), qi (a1.length : Int), qi v2], [], []⟩)) ?_ _ _ hs6 rfl)
  intro l0 IH1 v2 s' H1 e
  subst e
  refine hV1 _ ?_
  have J1a := fun {v2 τ} h l => hW1 _ τ ((IH1 v2 _ h rfl)) l
  exact au H1 (aL @J1a hX1 (aA H trivial))⟩
instance impl_PlainTree_1_ok  {a1 : Metric} : FOK R (impl_PlainTree_1 a1) 86 [gMetric a1] fun r => (.c (cB r) none, []) := ⟨fun {r} H => by
 unfold impl_PlainTree_1 at H
 refine fw false 6 Tryz.func86 ?_
 exact au0 H⟩
instance slices_IndexFunc_Simpl_Metric_impl_Metric_impl_PlainTree_1_ok  {a1 : List Metric} : FOK R (slices_IndexFunc_Simpl_Metric_impl_Metric_impl_PlainTree_1 a1) 121 [.c (cL enc_Metric a1) (some (3, false)), .f 86 []] fun r => (.c (cI .i64 r.1) none, [some [(cL enc_Metric r.2, some (3, false))]]) := ⟨fun {r} H => by
 unfold slices_IndexFunc_Simpl_Metric_impl_Metric_impl_PlainTree_1 at H
 refine fw false 19 Tryz.func121 ?_
 refine s_ ?_
 obtain ⟨s6, hs6, H⟩ := bnd H
 refine loop_rule (ls := [.r 0]) 0 (fun t5 : Unit => ⟨[], [], [rr 3 enc_Metric a1 true]⟩) (fun t => s6 = .inr t) ⟨[.row 0, .fn 86 [], .no, .no, .no, .no, .no, qi (a1.length : Int), qi 0], [], [rr 3 enc_Metric a1 true]⟩ mO lE ?_ ?_
 ·
  rintro t5 rfl
  exact au0 H
 ·
  intro V1 hV1 hW1 hX1
  refine (slices_IndexFunc_Simpl_Metric_impl_Metric_impl_PlainTree_1.l0.partial_correctness a1 (fun v2 s' => s' = s6 → (V1 ⟨[.row 0, .fn 86 [], .no, .no, .no, .no, .no, qi (a1.length : Int), qi v2], [], [rr 3 enc_Metric a1 true]⟩)) ?_ _ _ hs6 rfl)
  intro l0 IH1 v2 s' H1 e
  subst e
  refine hV1 _ ?_
  have J1a := fun {v2 τ} h l => hW1 _ τ ((IH1 v2 _ h rfl)) l
  exact au H1 (aL @J1a hX1 (aA H trivial))⟩
instance slices_DeleteFunc_Simpl_Metric_impl_Metric_impl_PlainTree_1_ok  {a1 : List Metric} : FOK R (slices_DeleteFunc_Simpl_Metric_impl_Metric_impl_PlainTree_1 a1) 85 [.c (cL enc_Metric a1) (some (3, false)), .f 86 []] fun r => (.c (cL enc_Metric r) (some (3, false)), [none]) := ⟨fun {r} H => by
 unfold slices_DeleteFunc_Simpl_Metric_impl_Metric_impl_PlainTree_1 at H
 refine fw false 42 Tryz.func85 ?_
 refine s_ ?_
 obtain ⟨x2, hx2, H⟩ := bnd H
 refine b_ hx2 ?_
 refine s_ ?_
 refine W_ite rfl H (fun hc H => ?_) (fun hc H => ?_)
 ·
  exact au0 H
 ·
  refine s_ ?_
  obtain ⟨t10, ht10, H⟩ := bnd H
  refine loop_rule (ls := [.r 0]) 0 (fun t10 : Int × List Metric => ⟨[.row 0, .no, .no, .no, .no, qi t10.1], [], [rr 3 enc_Metric t10.2 true]⟩) (fun t => t10 = t) ⟨[.row 0, .fn 86 [], .no, .no, .no, qi x2.1, qi (IntKind.i64.wrap (x2.1 + 1))], [], [rr 3 enc_Metric x2.2 true]⟩ mO lE ?_ ?_
  ·
   rintro t1 rfl
   refine s_ ?_
   obtain ⟨s11, hs11, H⟩ := bnd H
   refine b_ hs11 ?_
   refine WO_op (x := .tu []) (σ' := ⟨[], [], [rr 3 enc_Metric (Nt.clr t10.2 t10.1 (t10.2.length : Int) (Metric.mk [] 0 0)) true]⟩) rfl rfl (ev_clr (en := enc_Metric) (a := (Metric.mk [] 0 0)) hs11 rfl rfl rfl rfl rfl rfl rfl rfl rfl rfl rfl rfl rfl rfl rfl rfl rfl) (n1 ?_)
   refine s_ ?_
   obtain ⟨s12, hs12, H⟩ := bnd H
   refine b_ hs12 ?_
   refine s_ ?_
   obtain rfl := Option.some.inj H
   exact told5 rfl rfl rfl rfl (fitAs_nz rfl) (by simp only [outA, cut_map]; rw [← (slc_some hs12).2.2.2]; try rfl)
  ·
   intro V1 hV1 hW1 hX1
   refine (slices_DeleteFunc_Simpl_Metric_impl_Metric_impl_PlainTree_1.l0.partial_correctness (fun v3 v4 v5 s' => s' = t10 → (V1 ⟨[.row 0, .fn 86 [], .no, .no, .no, qi v3, qi v4], [], [rr 3 enc_Metric v5 true]⟩)) ?_ _ _ _ _ ht10 rfl)
   intro l0 IH1 v3 v4 v5 s' H1 e
   subst e
   refine hV1 _ ?_
   have J1a := fun {v3 v4 v5 τ} h l => hW1 _ τ ((IH1 v3 v4 v5 _ h rfl)) l
   exact au H1 (aL @J1a hX1 (aA H trivial))⟩
instance impl_PlainTree_ok  {a1 : Order} : FOK R (impl_PlainTree a1) 46 [gOrder a1] fun r => (gNode_oo r, []) := ⟨fun {r} H => by
 unfold impl_PlainTree at H
 refine fw false 44 Tryz.func46 ?_
 exact au0 H⟩
instance impl_Shape_ok  {a1 : Order} {a2 : Int} : FOK R (impl_Shape a1 a2) 21 [gOrder a1, .c (cI .i64 a2) none] fun r => (gNode_oo r, []) := ⟨fun {r} H => by
 unfold impl_Shape at H
 refine fw false 19 Tryz.func21 ?_
 exact au0 H⟩
instance impl_Inline_ok  {a1 : Node} : FOK R (impl_Inline a1) 108 [gNode a1] fun r => (.c (cS r) none, []) := ⟨fun {r} H => by
 unfold impl_Inline at H
 refine fw false 19 Tryz.func108 ?_
 exact au0 H⟩
theorem strings_Repeat_ok {a1 : Str} {a2 : Int} {r : Str} (H : strings_Repeat a1 a2 = some r) : R 109 [.c (cS a1) none, .c (cI .i64 a2) none] = some (.c (cS r) none, []) :=
  Fz_pr rfl (repeatF_of H)
instance strings_Repeat_i {a1 : Str} {a2 : Int}  : FOK R (strings_Repeat a1 a2) 109 [.c (cS a1) none, .c (cI .i64 a2) none] fun r => (.c (cS r) none, []) := ⟨fun {r} H => strings_Repeat_ok H⟩
instance impl_indented_F_ok {rc120 : Node → Int → Option (Str)} [hrc120 : ∀ {a1 : Node} {a2 : Int}, FOK R (rc120 a1 a2) 75 [gNode a1, .c (cI .i64 a2) none] fun r => (.c (cS r) none, [])] {a1 : Node} {a2 : Int} : FOK R (impl_indented_F rc120 a1 a2) 75 [gNode a1, .c (cI .i64 a2) none] fun r => (.c (cS r) none, []) := ⟨fun {r} H => by
 unfold impl_indented_F at H
 refine fw false 76 Tryz.func75 ?_
 refine s_ ?_
 refine W_ite rfl H (fun hc H => ?_) (fun hc H => ?_)
 ·
  exact au0 H
 ·
  refine s_ ?_
  obtain ⟨t42, ht42, H⟩ := bnd H
  refine loop_rule (ls := []) 0 (fun t42 : Str => ⟨[.no, .no, .no, .no, .no, qs t42], [], []⟩) (fun t => t42 = t) ⟨[.no, qi a2, .bp 0 0, .no, .no, qs [], .no, .no, .no, .no, .no, .no, .no, .no, .no, .no, .c (cL eR_Node a1.Kids), qi (a1.Kids.length : Int), qi 0], [some [qi a1.Kind, qi a1.N, qs a1.S, .c (cL eS a1.Keys), .c (cL eR_Node a1.Kids)]], []⟩ mO lE ?_ ?_
  ·
   rintro t1 rfl
   exact au0 H
  ·
   intro V1 hV1 hW1 hX1
   refine (impl_indented.l0.partial_correctness rc120 a1 a2 (fun v5 v6 s' => s' = t42 → (V1 ⟨[.no, qi a2, .bp 0 0, .no, .no, qs v5, .no, .no, .no, .no, .no, .no, .no, .no, .no, .no, .c (cL eR_Node a1.Kids), qi (a1.Kids.length : Int), qi v6], [some [qi a1.Kind, qi a1.N, qs a1.S, .c (cL eS a1.Keys), .c (cL eR_Node a1.Kids)]], []⟩)) ?_ _ _ _ ht42 rfl)
   intro l0 IH1 v5 v6 s' H1 e
   subst e
   refine hV1 _ ?_
   have J1a := fun {v5 v6 τ} h l => hW1 _ τ ((IH1 v5 v6 _ h rfl)) l
   exact au H1 (aL @J1a hX1 (aA H trivial))⟩
theorem impl_indented_n_ok : ∀ (k : Nat) {a1 : Node} {a2 : Int} {r : Str}, impl_indented_n k a1 a2 = some r → R 75 [gNode a1, .c (cI .i64 a2) none] = some ((fun r => (.c (cS r) none, [])) r)
  | 0, _, _, _, h => by simp [impl_indented_n] at h
  | k + 1, _, _, _, h => (impl_indented_F_ok (hrc120 := ⟨fun h => impl_indented_n_ok k h⟩)).ok h
instance impl_indented_ok {a1 : Node} {a2 : Int} : FOK R (impl_indented a1 a2) 75 [gNode a1, .c (cI .i64 a2) none] fun r => (.c (cS r) none, []) := ⟨fun {r} H => by
 obtain ⟨k, hk⟩ := Nt.lim_ex H
 exact impl_indented_n_ok k (hk k (Nat.le_refl k))⟩
instance impl_Indented_ok  {a1 : Node} : FOK R (impl_Indented a1) 43 [gNode a1] fun r => (.c (cS r) none, []) := ⟨fun {r} H => by
 unfold impl_Indented at H
 refine fw false 8 Tryz.func43 ?_
 exact au0 H⟩
instance impl_Said_ok  {a1 : Int} {a2 : Node} : FOK R (impl_Said a1 a2) 20 [.c (cI .i64 a1) none, gNode a2] fun r => (.c (cS r) none, []) := ⟨fun {r} H => by
 unfold impl_Said at H
 refine fw false 14 Tryz.func20 ?_
 exact au0 H⟩
instance impl_SaidOrder_ok  {a1 : Int} {a2 : Int} {a3 : Order} : FOK R (impl_SaidOrder a1 a2 a3) 7 [.c (cI .i64 a1) none, .c (cI .i64 a2) none, gOrder a3] fun r => (.c (cS r) none, []) := ⟨fun {r} H => by
 unfold impl_SaidOrder at H
 refine fw false 20 Tryz.func7 ?_
 exact au0 H⟩
instance laws_eqMetric_ok  {a1 : Metric} {a2 : Metric} : FOK R (laws_eqMetric a1 a2) 47 [gMetric a1, gMetric a2] fun r => (.c (cB r) none, []) := ⟨fun {r} H => by
 unfold laws_eqMetric at H
 refine fw false 20 Tryz.func47 ?_
 exact au0 H⟩
instance laws_eqMetricS_ok  {a1 : List Metric} {a2 : List Metric} : FOK R (laws_eqMetricS a1 a2) 22 [.c (cL enc_Metric a1) none, .c (cL enc_Metric a2) none] fun r => (.c (cB r) none, []) := ⟨fun {r} H => by
 unfold laws_eqMetricS at H
 refine fw false 27 Tryz.func22 ?_
 refine s_ ?_
 refine W_ite rfl H (fun hc H => ?_) (fun hc H => ?_)
 ·
  exact au0 H
 ·
  refine s_ ?_
  obtain ⟨s8, hs8, H⟩ := bnd H
  refine loop_rule (ls := []) 0 (fun t7 : Unit => ⟨[], [], []⟩) (fun t => s8 = .inr t) ⟨[.c (cL enc_Metric a1), .c (cL enc_Metric a2), .no, .no, .no, qi 0], [], []⟩ mO lE ?_ ?_
  ·
   rintro t7 rfl
   exact au0 H
  ·
   intro V1 hV1 hW1 hX1
   refine (laws_eqMetricS.l0.partial_correctness a1 a2 (fun v3 s' => s' = s8 → (V1 ⟨[.c (cL enc_Metric a1), .c (cL enc_Metric a2), .no, .no, .no, qi v3], [], []⟩)) ?_ _ _ hs8 rfl)
   intro l0 IH1 v3 s' H1 e
   subst e
   refine hV1 _ ?_
   have J1a := fun {v3 τ} h l => hW1 _ τ ((IH1 v3 _ h rfl)) l
   exact au H1 (aL @J1a hX1 (aA H trivial))⟩
instance laws_eqPace_ok  {a1 : Pace} {a2 : Pace} : FOK R (laws_eqPace a1 a2) 23 [gPace a1, gPace a2] fun r => (.c (cB r) none, []) := ⟨fun {r} H => by
 unfold laws_eqPace at H
 refine fw false 25 Tryz.func23 ?_
 exact au0 H⟩
instance laws_eqNote_ok  {a1 : Note} {a2 : Note} : FOK R (laws_eqNote a1 a2) 48 [gNote a1, gNote a2] fun r => (.c (cB r) none, []) := ⟨fun {r} H => by
 unfold laws_eqNote at H
 refine fw false 15 Tryz.func48 ?_
 exact au0 H⟩
instance laws_eqNoteS_ok  {a1 : List Note} {a2 : List Note} : FOK R (laws_eqNoteS a1 a2) 24 [.c (cL enc_Note a1) none, .c (cL enc_Note a2) none] fun r => (.c (cB r) none, []) := ⟨fun {r} H => by
 unfold laws_eqNoteS at H
 refine fw false 27 Tryz.func24 ?_
 refine s_ ?_
 refine W_ite rfl H (fun hc H => ?_) (fun hc H => ?_)
 ·
  exact au0 H
 ·
  refine s_ ?_
  obtain ⟨s8, hs8, H⟩ := bnd H
  refine loop_rule (ls := []) 0 (fun t7 : Unit => ⟨[], [], []⟩) (fun t => s8 = .inr t) ⟨[.c (cL enc_Note a1), .c (cL enc_Note a2), .no, .no, .no, qi 0], [], []⟩ mO lE ?_ ?_
  ·
   rintro t7 rfl
   exact au0 H
  ·
   intro V1 hV1 hW1 hX1
   refine (laws_eqNoteS.l0.partial_correctness a1 a2 (fun v3 s' => s' = s8 → (V1 ⟨[.c (cL enc_Note a1), .c (cL enc_Note a2), .no, .no, .no, qi v3], [], []⟩)) ?_ _ _ hs8 rfl)
   intro l0 IH1 v3 s' H1 e
   subst e
   refine hV1 _ ?_
   have J1a := fun {v3 τ} h l => hW1 _ τ ((IH1 v3 _ h rfl)) l
   exact au H1 (aL @J1a hX1 (aA H trivial))⟩
instance laws_eqOrder_ok  {a1 : Order} {a2 : Order} : FOK R (laws_eqOrder a1 a2) 8 [gOrder a1, gOrder a2] fun r => (.c (cB r) none, []) := ⟨fun {r} H => by
 unfold laws_eqOrder at H
 refine fw false 43 Tryz.func8 ?_
 exact au0 H⟩
instance laws_FnExactSaidOrder_ok  {a1 : Int} {a2 : Int} {a3 : Order} : FOK R (laws_FnExactSaidOrder a1 a2 a3) 3 [.c (cI .i64 a1) none, .c (cI .i64 a2) none, gOrder a3] fun r => (.c (cB r) none, []) := ⟨fun {r} H => by
 unfold laws_FnExactSaidOrder at H
 refine fw false 35 Tryz.func3 ?_
 exact au0 H⟩
end Go.Pu
