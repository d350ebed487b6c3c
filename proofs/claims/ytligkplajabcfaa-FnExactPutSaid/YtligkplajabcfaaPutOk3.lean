import Derived.Test.YtligkplajabcfaaPutOq
set_option linter.unusedVariables false
set_option linter.unusedSimpArgs false
set_option synthInstance.maxSize 1000000000
set_option maxRecDepth 20000
set_option maxHeartbeats 20000000
namespace Go.Pu
open Go Go.SX Go.Nt Go.Proofs
instance laws_szMetric_ok  {a1 : Metric} {a2 : Int} : FOK R (laws_szMetric a1 a2) 69 [gMetric a1, .c (cI .i64 a2) none] fun r => (.c (cI .i64 r) none, []) := ⟨fun {r} H => by
 unfold laws_szMetric at H
 refine fw false 13 Try.func69 ?_
 exact au0 H⟩
instance laws_szMetricS_ok  {a1 : List Metric} {a2 : Int} : FOK R (laws_szMetricS a1 a2) 43 [.c (cL enc_Metric a1) none, .c (cI .i64 a2) none] fun r => (.c (cI .i64 r) none, []) := ⟨fun {r} H => by
 unfold laws_szMetricS at H
 refine fw false 27 Try.func43 ?_
 refine s_ ?_
 refine W_ite rfl H (fun hc H => ?_) (fun hc H => ?_)
 ·
  exact au0 H
 ·
  refine s_ ?_
  obtain ⟨s8, hs8, H⟩ := bnd H
  refine loop_rule (ls := []) 0 (fun t7 : Int => ⟨[.no, qi t7], [], []⟩) (fun t => s8 = .inr t) ⟨[.c (cL enc_Metric a1), qi (IntKind.i64.wrap (a2 - (a1.length : Int))), .no, .no, .no, qi 0], [], []⟩ mO lE ?_ ?_
  ·
   rintro t7 rfl
   exact au0 H
  ·
   intro V1 hV1 hW1 hX1
   refine (laws_szMetricS.l0.partial_correctness a1 (fun v3 v4 s' => s' = s8 → (V1 ⟨[.c (cL enc_Metric a1), qi v3, .no, .no, .no, qi v4], [], []⟩)) ?_ _ _ _ hs8 rfl)
   intro l0 IH1 v3 v4 s' H1 e
   subst e
   refine hV1 _ ?_
   have J1a := fun {v3 v4 τ} h l => hW1 _ τ ((IH1 v3 v4 _ h rfl)) l
   exact au H1 (aL @J1a hX1 (aA H trivial))⟩
instance laws_szNote_ok  {a1 : Note} {a2 : Int} : FOK R (laws_szNote a1 a2) 70 [gNote a1, .c (cI .i64 a2) none] fun r => (.c (cI .i64 r) none, []) := ⟨fun {r} H => by
 unfold laws_szNote at H
 refine fw false 20 Try.func70 ?_
 exact au0 H⟩
instance laws_szNoteS_ok  {a1 : List Note} {a2 : Int} : FOK R (laws_szNoteS a1 a2) 44 [.c (cL enc_Note a1) none, .c (cI .i64 a2) none] fun r => (.c (cI .i64 r) none, []) := ⟨fun {r} H => by
 unfold laws_szNoteS at H
 refine fw false 27 Try.func44 ?_
 refine s_ ?_
 refine W_ite rfl H (fun hc H => ?_) (fun hc H => ?_)
 ·
  exact au0 H
 ·
  refine s_ ?_
  obtain ⟨s8, hs8, H⟩ := bnd H
  refine loop_rule (ls := []) 0 (fun t7 : Int => ⟨[.no, qi t7], [], []⟩) (fun t => s8 = .inr t) ⟨[.c (cL enc_Note a1), qi (IntKind.i64.wrap (a2 - (a1.length : Int))), .no, .no, .no, qi 0], [], []⟩ mO lE ?_ ?_
  ·
   rintro t7 rfl
   exact au0 H
  ·
   intro V1 hV1 hW1 hX1
   refine (laws_szNoteS.l0.partial_correctness a1 (fun v3 v4 s' => s' = s8 → (V1 ⟨[.c (cL enc_Note a1), qi v3, .no, .no, .no, qi v4], [], []⟩)) ?_ _ _ _ hs8 rfl)
   intro l0 IH1 v3 v4 s' H1 e
   subst e
   refine hV1 _ ?_
   have J1a := fun {v3 v4 τ} h l => hW1 _ τ ((IH1 v3 v4 _ h rfl)) l
   exact au H1 (aL @J1a hX1 (aA H trivial))⟩
instance laws_szOrder_ok  {a1 : Order} {a2 : Int} : FOK R (laws_szOrder a1 a2) 22 [gOrder a1, .c (cI .i64 a2) none] fun r => (.c (cI .i64 r) none, []) := ⟨fun {r} H => by
 unfold laws_szOrder at H
 refine fw false 32 Try.func22 ?_
 exact au0 H⟩
instance laws_szItem_ok  {a1 : Item} {a2 : Int} : FOK R (laws_szItem a1 a2) 54 [gItem a1, .c (cI .i64 a2) none] fun r => (.c (cI .i64 r) none, []) := ⟨fun {r} H => by
 unfold laws_szItem at H
 refine fw false 12 Try.func54 ?_
 exact au0 H⟩
instance laws_szItemS_ok  {a1 : List Item} {a2 : Int} : FOK R (laws_szItemS a1 a2) 28 [.c (cL enc_Item a1) none, .c (cI .i64 a2) none] fun r => (.c (cI .i64 r) none, []) := ⟨fun {r} H => by
 unfold laws_szItemS at H
 refine fw false 27 Try.func28 ?_
 refine s_ ?_
 refine W_ite rfl H (fun hc H => ?_) (fun hc H => ?_)
 ·
  exact au0 H
 ·
  refine s_ ?_
  obtain ⟨s8, hs8, H⟩ := bnd H
  refine loop_rule (ls := []) 0 (fun t7 : Int => ⟨[.no, qi t7], [], []⟩) (fun t => s8 = .inr t) ⟨[.c (cL enc_Item a1), qi (IntKind.i64.wrap (a2 - (a1.length : Int))), .no, .no, .no, qi 0], [], []⟩ mO lE ?_ ?_
  ·
   rintro t7 rfl
   exact au0 H
  ·
   intro V1 hV1 hW1 hX1
   refine (laws_szItemS.l0.partial_correctness a1 (fun v3 v4 s' => s' = s8 → (V1 ⟨[.c (cL enc_Item a1), qi v3, .no, .no, .no, qi v4], [], []⟩)) ?_ _ _ _ hs8 rfl)
   intro l0 IH1 v3 v4 s' H1 e
   subst e
   refine hV1 _ ?_
   have J1a := fun {v3 v4 τ} h l => hW1 _ τ ((IH1 v3 v4 _ h rfl)) l
   exact au H1 (aL @J1a hX1 (aA H trivial))⟩
instance laws_szStore_ok  {a1 : Store} {a2 : Int} : FOK R (laws_szStore a1 a2) 7 [gStore a1, .c (cI .i64 a2) none] fun r => (.c (cI .i64 r) none, []) := ⟨fun {r} H => by
 unfold laws_szStore at H
 refine fw false 12 Try.func7 ?_
 exact au0 H⟩
instance laws_toMetric_ok  {a1 : Metric} : FOK R (laws_toMetric a1) 71 [gMetric a1] fun r => (gMetric r, []) := ⟨fun {r} H => by
 unfold laws_toMetric at H
 refine fw false 14 Try.func71 ?_
 exact au0 H⟩
instance laws_toMetricS_ok  {a1 : List Metric} : FOK R (laws_toMetricS a1) 45 [.c (cL enc_Metric a1) none] fun r => (.c (cL enc_Metric r) (some (3, false)), []) := ⟨fun {r} H => by
 unfold laws_toMetricS at H
 refine fw false 23 Try.func45 ?_
 refine s_ ?_
 obtain ⟨m2, hm2, H⟩ := bnd H
 refine b_ hm2 ?_
 refine s_ ?_
 obtain ⟨t9, ht9, H⟩ := bnd H
 refine loop_rule (ls := []) 0 (fun t9 : List Metric => ⟨[.no, .no, .no, .row 0], [], [rr 3 enc_Metric t9 true]⟩) (fun t => t9 = t) ⟨[.c (cL enc_Metric a1), .no, .no, .row 0, qi 0], [], [rr 3 enc_Metric m2 true]⟩ mO lE ?_ ?_
 ·
  rintro t1 rfl
  exact au0 H
 ·
  intro V1 hV1 hW1 hX1
  refine (laws_toMetricS.l0.partial_correctness a1 (fun v3 v4 s' => s' = t9 → (V1 ⟨[.c (cL enc_Metric a1), .no, .no, .row 0, qi v3], [], [rr 3 enc_Metric v4 true]⟩)) ?_ _ _ _ ht9 rfl)
  intro l0 IH1 v3 v4 s' H1 e
  subst e
  refine hV1 _ ?_
  have J1a := fun {v3 v4 τ} h l => hW1 _ τ ((IH1 v3 v4 _ h rfl)) l
  exact au H1 (aL @J1a hX1 (aA H trivial))⟩
instance laws_toPace_ok  {a1 : Pace} : FOK R (laws_toPace a1) 46 [gPace a1] fun r => (gPace r, []) := ⟨fun {r} H => by
 unfold laws_toPace at H
 refine fw false 17 Try.func46 ?_
 exact au0 H⟩
instance laws_toNote_ok  {a1 : Note} : FOK R (laws_toNote a1) 72 [gNote a1] fun r => (gNote r, []) := ⟨fun {r} H => by
 unfold laws_toNote at H
 refine fw false 11 Try.func72 ?_
 exact au0 H⟩
instance laws_toNoteS_ok  {a1 : List Note} : FOK R (laws_toNoteS a1) 47 [.c (cL enc_Note a1) none] fun r => (.c (cL enc_Note r) (some (2, false)), []) := ⟨fun {r} H => by
 unfold laws_toNoteS at H
 refine fw false 23 Try.func47 ?_
 refine s_ ?_
 obtain ⟨m2, hm2, H⟩ := bnd H
 refine b_ hm2 ?_
 refine s_ ?_
 obtain ⟨t9, ht9, H⟩ := bnd H
 refine loop_rule (ls := []) 0 (fun t9 : List Note => ⟨[.no, .no, .no, .row 0], [], [rr 2 enc_Note t9 true]⟩) (fun t => t9 = t) ⟨[.c (cL enc_Note a1), .no, .no, .row 0, qi 0], [], [rr 2 enc_Note m2 true]⟩ mO lE ?_ ?_
 ·
  rintro t1 rfl
  exact au0 H
 ·
  intro V1 hV1 hW1 hX1
  refine (laws_toNoteS.l0.partial_correctness a1 (fun v3 v4 s' => s' = t9 → (V1 ⟨[.c (cL enc_Note a1), .no, .no, .row 0, qi v3], [], [rr 2 enc_Note v4 true]⟩)) ?_ _ _ _ ht9 rfl)
  intro l0 IH1 v3 v4 s' H1 e
  subst e
  refine hV1 _ ?_
  have J1a := fun {v3 v4 τ} h l => hW1 _ τ ((IH1 v3 v4 _ h rfl)) l
  exact au H1 (aL @J1a hX1 (aA H trivial))⟩
instance laws_toOrder_ok  {a1 : Order} : FOK R (laws_toOrder a1) 24 [gOrder a1] fun r => (gOrder_oo r, []) := ⟨fun {r} H => by
 unfold laws_toOrder at H
 refine fw false 29 Try.func24 ?_
 exact au0 H⟩
instance laws_toItem_ok  {a1 : Item} : FOK R (laws_toItem a1) 55 [gItem a1] fun r => (gItem_oo r, []) := ⟨fun {r} H => by
 unfold laws_toItem at H
 refine fw false 12 Try.func55 ?_
 exact au0 H⟩
instance laws_toItemS_ok  {a1 : List Item} : FOK R (laws_toItemS a1) 31 [.c (cL enc_Item a1) none] fun r => (.c (cL enc_Item r) (some (11, true)), []) := ⟨fun {r} H => by
 unfold laws_toItemS at H
 refine fw false 23 Try.func31 ?_
 refine s_ ?_
 obtain ⟨m2, hm2, H⟩ := bnd H
 refine WO_op (x := .row 0) (σ' := ⟨[], [], [rd 11 enc_Item m2]⟩) rfl rfl (ev_mkD (en := enc_Item) hm2 rfl rfl rfl rfl rfl rfl rfl rfl rfl rfl rfl rfl rfl rfl rfl rfl) (n1 ?_)
 refine s_ ?_
 obtain ⟨t9, ht9, H⟩ := bnd H
 refine loop_rule (ls := []) 0 (fun t9 : List Item => ⟨[.no, .no, .no, .row 0], [], [rd 11 enc_Item t9]⟩) (fun t => t9 = t) ⟨[.c (cL enc_Item a1), .no, .no, .row 0, qi 0], [], [rd 11 enc_Item m2]⟩ mO lE ?_ ?_
 ·
  rintro t1 rfl
  exact au0 H
 ·
  intro V1 hV1 hW1 hX1
  refine (laws_toItemS.l0.partial_correctness a1 (fun v3 v4 s' => s' = t9 → (V1 ⟨[.c (cL enc_Item a1), .no, .no, .row 0, qi v3], [], [rd 11 enc_Item v4]⟩)) ?_ _ _ _ ht9 rfl)
  intro l0 IH1 v3 v4 s' H1 e
  subst e
  refine hV1 _ ?_
  have J1a := fun {v3 v4 τ} h l => hW1 _ τ ((IH1 v3 v4 _ h rfl)) l
  refine s_ ?_
  refine W_ite rfl H1 (fun hc H1 => ?_) (fun hc H1 => ?_)
  ·
   refine s_ ?_
   obtain ⟨x5, hx5, H1⟩ := bnd H1
   refine b_ hx5 ?_
   refine s_ ?_
   obtain ⟨x6, hx6, H1⟩ := bnd H1
   refine b_ hx6 ?_
   obtain ⟨x7, hx7, H1⟩ := bnd H1
   refine b_ hx7 ?_
   obtain ⟨m8, hm8, H1⟩ := bnd H1
   refine WO_op (x := .no) (σ' := ⟨[], [], [rd 11 enc_Item m8, none, none]⟩) rfl rfl (ev_stD (en := enc_Item) hm8 hx7 (dg_c (dg_c (dg_c (dg_c (dg_f (fl_Metric _) rfl (dg_c (dg_c (dg_c (dg_c (dg_f (fl_Note _) rfl (dg_c dg_nil))))))))))) rfl rfl rfl rfl rfl rfl rfl rfl) (n1 ?_)
   exact au H1 (aL @J1a hX1 (aA H trivial))
  ·
   exact au H1 (aL @J1a hX1 (aA H trivial))⟩
instance laws_toStore_ok  {a1 : Store} : FOK R (laws_toStore a1) 9 [gStore a1] fun r => (gStore_d r, []) := ⟨fun {r} H => by
 unfold laws_toStore at H
 refine fw false 12 Try.func9 ?_
 exact au0 H⟩
instance spec_l6Copy_ok  {a1 : Order} : FOK R (spec_l6Copy a1) 30 [gOrder a1] fun r => (gOrder_oo r, []) := ⟨fun {r} H => by
 unfold spec_l6Copy at H
 refine fw false 14 Try.func30 ?_
 exact au0 H⟩
instance spec_l13Copy_ok  {a1 : Store} : FOK R (spec_l13Copy a1) 37 [gStore a1] fun r => (gStore_o r, []) := ⟨fun {r} H => by
 unfold spec_l13Copy at H
 refine fw false 35 Try.func37 ?_
 refine s_ ?_
 obtain ⟨t8, ht8, H⟩ := bnd H
 refine loop_ruleM (ls := []) 0 (fun (i : Nat) (t8 : List Item) => match i with | 0 => ⟨[.no, .no, .bp 0 0, .bp 1 0], [some [.nil, qi 0], some [.nil, qi a1.Next]], []⟩ | _ => ⟨[.no, .no, .bp 0 0, .bp 1 0], [some [.nil, qi 0], some [.row 0, qi a1.Next]], [rr 11 enc_Item t8 true]⟩) (fun (i : Nat) t => match i with | 0 => t8 = t ∧ t = [] | 1 => t8 = t | _ => False) ⟨[.no, .bp 0 0, .bp 1 0, .bp 2 0, qi 0], [some [.c (cL enc_Item a1.Items), qi a1.Next], some [.nil, qi 0], some [.nil, qi a1.Next]], []⟩ mO lE ?_ ?_
 ·
  intro i t1 hp
  rcases i with _ | _ | i
  ·
   obtain ⟨rfl, hz_t8_0⟩ := hp
   refine s_ ?_
   obtain rfl := Option.some.inj H
   exact told5 rfl rfl rfl rfl rfl (by simp only [hz_t8_0]; try rfl)
  ·
   obtain rfl := hp
   exact au0 H
  ·
   exact hp.elim
 ·
  intro V1 hV1 hW1 hX1
  refine (spec_l13Copy.l0.partial_correctness a1 (fun v2 v3 s' => s' = t8 → (v3 = [] → V1 ⟨[.no, .bp 0 0, .bp 1 0, .bp 2 0, qi v2], [some [.c (cL enc_Item a1.Items), qi a1.Next], some [.nil, qi 0], some [.nil, qi a1.Next]], []⟩) ∧ (V1 ⟨[.no, .bp 0 0, .bp 1 0, .bp 2 0, qi v2], [some [.c (cL enc_Item a1.Items), qi a1.Next], some [.nil, qi 0], some [.row 0, qi a1.Next]], [rr 11 enc_Item v3 true]⟩)) ?_ _ _ _ ht8 rfl).1 rfl
  intro l0 IH1 v2 v3 s' H1 e
  subst e
  refine ⟨?_, ?_⟩
  ·
   intro hn_v3
   refine hV1 _ ?_
   have J1a := fun {v2 v3 τ} h n0 l => hW1 _ τ ((IH1 v2 v3 _ h rfl).1 n0) l
   have J1b := fun {v2 v3 τ} h l => hW1 _ τ ((IH1 v2 v3 _ h rfl).2) l
   exact au H1 (aL @J1b (hX1 0) (aA H trivial))
  ·
   skip
   refine hV1 _ ?_
   have J1a := fun {v2 v3 τ} h n0 l => hW1 _ τ ((IH1 v2 v3 _ h rfl).1 n0) l
   have J1b := fun {v2 v3 τ} h l => hW1 _ τ ((IH1 v2 v3 _ h rfl).2) l
   exact au H1 (aL @J1b (hX1 1) (aA H trivial))⟩
instance spec_l1In_ok  {a1 : Int} {a2 : Int} {a3 : Int} : FOK R (spec_l1In a1 a2 a3) 62 [.c (cI .i64 a1) none, .c (cI .i64 a2) none, .c (cI .i64 a3) none] fun r => (.c (cB r) none, []) := ⟨fun {r} H => by
 unfold spec_l1In at H
 refine fw false 15 Try.func62 ?_
 exact au0 H⟩
instance spec_NameOk_ok  {a1 : Str} : FOK R (spec_NameOk a1) 81 [.c (cS a1) none] fun r => (.c (cB r) none, []) := ⟨fun {r} H => by
 unfold spec_NameOk at H
 refine fw false 40 Try.func81 ?_
 refine s_ ?_
 obtain ⟨s6, hs6, H⟩ := bnd H
 refine loop_rule (ls := []) 0 (fun t4 : Unit => ⟨[qs a1], [], []⟩) (fun t => s6 = .inr t) ⟨[qs a1, .no, .no, qi 0], [], []⟩ mO lE ?_ ?_
 ·
  rintro t4 rfl
  exact au0 H
 ·
  intro V1 hV1 hW1 hX1
  refine (spec_NameOk.l0.partial_correctness a1 (fun v2 s' => s' = s6 → (V1 ⟨[qs a1, .no, .no, qi v2], [], []⟩)) ?_ _ _ hs6 rfl)
  intro l0 IH1 v2 s' H1 e
  subst e
  refine hV1 _ ?_
  have J1a := fun {v2 τ} h l => hW1 _ τ ((IH1 v2 _ h rfl)) l
  exact au H1 (aL @J1a hX1 (aA H trivial))⟩
instance spec_MetricOk_ok  {a1 : Metric} : FOK R (spec_MetricOk a1) 91 [gMetric a1] fun r => (.c (cB r) none, []) := ⟨fun {r} H => by
 unfold spec_MetricOk at H
 refine fw false 16 Try.func91 ?_
 exact au0 H⟩
instance spec_l6Metrics_ok  {a1 : List Metric} : FOK R (spec_l6Metrics a1) 82 [.c (cL enc_Metric a1) none] fun r => (.c (cB r) none, []) := ⟨fun {r} H => by
 unfold spec_l6Metrics at H
 refine fw false 37 Try.func82 ?_
 refine s_ ?_
 obtain ⟨s8, hs8, H⟩ := bnd H
 refine loop_rule (ls := []) 0 (fun t7 : Unit => ⟨[.c (cL enc_Metric a1)], [], []⟩) (fun t => s8 = .inr t) ⟨[.c (cL enc_Metric a1), .no, .no, qi 0], [], []⟩ mO lE ?_ ?_
 ·
  rintro t7 rfl
  exact au0 H
 ·
  intro V1 hV1 hW1 hX1
  refine (spec_l6Metrics.l0.partial_correctness a1 (fun v2 s' => s' = s8 → (V1 ⟨[.c (cL enc_Metric a1), .no, .no, qi v2], [], []⟩)) ?_ _ _ hs8 rfl)
  intro l0 IH1 v2 s' H1 e
  subst e
  refine hV1 _ ?_
  have J1a := fun {v2 τ} h l => hW1 _ τ ((IH1 v2 _ h rfl)) l
  exact au H1 (aL @J1a hX1 (aA H trivial))⟩
instance spec_PaceOk_ok  {a1 : Pace} : FOK R (spec_PaceOk a1) 83 [gPace a1] fun r => (.c (cB r) none, []) := ⟨fun {r} H => by
 unfold spec_PaceOk at H
 refine fw false 21 Try.func83 ?_
 exact au0 H⟩
instance spec_l5Letter_ok  {a1 : Int} : FOK R (spec_l5Letter a1) 101 [.c (cI .u8 a1) none] fun r => (.c (cB r) none, []) := ⟨fun {r} H => by
 unfold spec_l5Letter at H
 refine fw false 17 Try.func101 ?_
 exact au0 H⟩
instance spec_PlainOk_ok  {a1 : Str} : FOK R (spec_PlainOk a1) 92 [.c (cS a1) none] fun r => (.c (cB r) none, []) := ⟨fun {r} H => by
 unfold spec_PlainOk at H
 refine fw false 61 Try.func92 ?_
 refine s_ ?_
 obtain ⟨s7, hs7, H⟩ := bnd H
 refine loop_rule (ls := []) 0 (fun t5 : Unit => ⟨[qs a1], [], []⟩) (fun t => s7 = .inr t) ⟨[qs a1, .no, .no, qi 0], [], []⟩ mO lE ?_ ?_
 ·
  rintro t5 rfl
  exact au0 H
 ·
  intro V1 hV1 hW1 hX1
  refine (spec_PlainOk.l0.partial_correctness a1 (fun v2 s' => s' = s7 → (V1 ⟨[qs a1, .no, .no, qi v2], [], []⟩)) ?_ _ _ hs7 rfl)
  intro l0 IH1 v2 s' H1 e
  subst e
  refine hV1 _ ?_
  have J1a := fun {v2 τ} h l => hW1 _ τ ((IH1 v2 _ h rfl)) l
  exact au H1 (aL @J1a hX1 (aA H trivial))⟩
instance spec_l6Ours_ok  {a1 : Str} : FOK R (spec_l6Ours a1) 93 [.c (cS a1) none] fun r => (.c (cB r) none, []) := ⟨fun {r} H => by
 unfold spec_l6Ours at H
 refine fw false 11 Try.func93 ?_
 exact au0 H⟩
instance spec_TextOk_ok  {a1 : Str} : FOK R (spec_TextOk a1) 94 [.c (cS a1) none] fun r => (.c (cB r) none, []) := ⟨fun {r} H => by
 unfold spec_TextOk at H
 refine fw false 23 Try.func94 ?_
 refine s_ ?_
 obtain ⟨s6, hs6, H⟩ := bnd H
 refine loop_rule (ls := []) 0 (fun t5 : Unit => ⟨[qs a1], [], []⟩) (fun t => s6 = .inr t) ⟨[qs a1, .no, .no, qi 0], [], []⟩ mO lE ?_ ?_
 ·
  rintro t5 rfl
  exact au0 H
 ·
  intro V1 hV1 hW1 hX1
  refine (spec_TextOk.l0.partial_correctness a1 (fun v2 s' => s' = s6 → (V1 ⟨[qs a1, .no, .no, qi v2], [], []⟩)) ?_ _ _ hs6 rfl)
  intro l0 IH1 v2 s' H1 e
  subst e
  refine hV1 _ ?_
  have J1a := fun {v2 τ} h l => hW1 _ τ ((IH1 v2 _ h rfl)) l
  exact au H1 (aL @J1a hX1 (aA H trivial))⟩
instance spec_l6Notes_ok  {a1 : List Note} : FOK R (spec_l6Notes a1) 84 [.c (cL enc_Note a1) none] fun r => (.c (cB r) none, []) := ⟨fun {r} H => by
 unfold spec_l6Notes at H
 refine fw false 64 Try.func84 ?_
 refine s_ ?_
 obtain ⟨s13, hs13, H⟩ := bnd H
 refine loop_rule (ls := []) 0 (fun t12 : Unit => ⟨[.c (cL enc_Note a1)], [], []⟩) (fun t => s13 = .inr t) ⟨[.c (cL enc_Note a1), .no, .no, qi 0], [], []⟩ mO lE ?_ ?_
 ·
  rintro t12 rfl
  exact au0 H
 ·
  intro V1 hV1 hW1 hX1
  refine (spec_l6Notes.l0.partial_correctness a1 (fun v2 s' => s' = s13 → (V1 ⟨[.c (cL enc_Note a1), .no, .no, qi v2], [], []⟩)) ?_ _ _ hs13 rfl)
  intro l0 IH1 v2 s' H1 e
  subst e
  refine hV1 _ ?_
  have J1a := fun {v2 τ} h l => hW1 _ τ ((IH1 v2 _ h rfl)) l
  exact au H1 (aL @J1a hX1 (aA H trivial))⟩
instance spec_OrderOk_ok  {a1 : Order} : FOK R (spec_OrderOk a1) 63 [gOrder a1] fun r => (.c (cB r) none, []) := ⟨fun {r} H => by
 unfold spec_OrderOk at H
 refine fw false 38 Try.func63 ?_
 exact au0 H⟩
instance spec_StoreOk_ok  {a1 : Store} : FOK R (spec_StoreOk a1) 38 [gStore a1] fun r => (.c (cB r) none, []) := ⟨fun {r} H => by
 unfold spec_StoreOk at H
 refine fw false 73 Try.func38 ?_
 refine s_ ?_
 obtain ⟨x2, hx2, H⟩ := bnd H
 refine b_ hx2 ?_
 refine s_ ?_
 refine WO_iA H (fun hc H => ?_) (fun hc H => ?_)
 ·
  exact au0 H
 ·
  refine s_ ?_
  refine W_ite rfl H (fun hc H => ?_) (fun hc H => ?_)
  ·
   exact au0 H
  ·
   refine s_ ?_
   obtain ⟨s17, hs17, H⟩ := bnd H
   refine loop_rule (ls := []) 0 (fun t16 : Unit => ⟨[], [], []⟩) (fun t => s17 = .inr t) ⟨[.no, .bp 0 0, .no, qi 0], [some [.c (cL enc_Item a1.Items), qi a1.Next]], []⟩ mO lE ?_ ?_
   ·
    rintro t16 rfl
    exact au0 H
   ·
    intro V1 hV1 hW1 hX1
    refine (spec_StoreOk.l0.partial_correctness a1 (fun v3 s' => s' = s17 → (V1 ⟨[.no, .bp 0 0, .no, qi v3], [some [.c (cL enc_Item a1.Items), qi a1.Next]], []⟩)) ?_ _ _ hs17 rfl)
    intro l0 IH1 v3 s' H1 e
    subst e
    refine hV1 _ ?_
    have J1a := fun {v3 τ} h l => hW1 _ τ ((IH1 v3 _ h rfl)) l
    refine s_ ?_
    refine W_ite rfl H1 (fun hc H1 => ?_) (fun hc H1 => ?_)
    ·
     refine s_ ?_
     obtain ⟨x4, hx4, H1⟩ := bnd H1
     refine b_ hx4 ?_
     refine s_ ?_
     obtain ⟨x5, hx5, H1⟩ := bnd H1
     refine b_ hx5 ?_
     refine s_ ?_
     refine WO_iA H1 (fun hc H1 => ?_) (fun hc H1 => ?_)
     ·
      exact au H1 (aL @J1a hX1 (aA H trivial))
     ·
      refine s_ ?_
      obtain ⟨x6, hx6, H1⟩ := bnd H1
      refine b_ hx6 ?_
      refine s_ ?_
      refine WO_iA H1 (fun hc H1 => ?_) (fun hc H1 => ?_)
      ·
       exact au H1 (aL @J1a hX1 (aA H trivial))
      ·
       refine s_ ?_
       refine WO_iA H1 (fun hc H1 => ?_) (fun hc H1 => ?_)
       ·
        refine s_ ?_
        obtain ⟨x7, hx7, H1⟩ := bnd H1
        refine b_ hx7 ?_
        refine s_ ?_
        refine W_ite rfl H1 (fun hc H1 => ?_) (fun hc H1 => ?_)
        ·
         exact au H1 (aL @J1a hX1 (aA H trivial))
        ·
         refine s_ ?_
         obtain ⟨s11, hs11, H1⟩ := bnd H1
         refine loop_rule (ls := []) 2 (fun t10 : Unit => ⟨[.no, .bp 0 0, .no, qi v3], [some [.c (cL enc_Item a1.Items), qi a1.Next]], []⟩) (fun t => s11 = .inr t) ⟨[.no, .bp 0 0, .no, qi v3, .bp 1 0, qi 0], [some [.c (cL enc_Item a1.Items), qi a1.Next], some (uO x4.Order (.c (cL enc_Metric x4.Order.Metrics)) (.c (cL enc_Note x4.Order.Notes)) [qi x4.Ver])], []⟩ mO lE ?_ ?_
         ·
          rintro t10 rfl
          exact au H1 (aL @J1a hX1 (aA H trivial))
         ·
          intro V2 hV2 hW2 hX2
          refine (spec_StoreOk.l1.partial_correctness a1 v3 x4 (fun v8 s' => s' = s11 → (V2 ⟨[.no, .bp 0 0, .no, qi v3, .bp 1 0, qi v8], [some [.c (cL enc_Item a1.Items), qi a1.Next], some (uO x4.Order (.c (cL enc_Metric x4.Order.Metrics)) (.c (cL enc_Note x4.Order.Notes)) [qi x4.Ver])], []⟩)) ?_ _ _ hs11 rfl)
          intro l0 IH2 v8 s' H2 e
          subst e
          refine hV2 _ ?_
          have J2a := fun {v8 τ} h l => hW2 _ τ ((IH2 v8 _ h rfl)) l
          exact au H2 (aL @J2a hX2 (aA H1 (aA H trivial)))
       ·
        refine s_ ?_
        obtain ⟨s15, hs15, H1⟩ := bnd H1
        refine loop_rule (ls := []) 2 (fun t14 : Unit => ⟨[.no, .bp 0 0, .no, qi v3], [some [.c (cL enc_Item a1.Items), qi a1.Next]], []⟩) (fun t => s15 = .inr t) ⟨[.no, .bp 0 0, .no, qi v3, .bp 1 0, qi 0], [some [.c (cL enc_Item a1.Items), qi a1.Next], some (uO x4.Order (.c (cL enc_Metric x4.Order.Metrics)) (.c (cL enc_Note x4.Order.Notes)) [qi x4.Ver])], []⟩ mO lE ?_ ?_
        ·
         rintro t14 rfl
         exact au H1 (aL @J1a hX1 (aA H trivial))
        ·
         intro V2 hV2 hW2 hX2
         refine (spec_StoreOk.l2.partial_correctness a1 v3 x4 (fun v12 s' => s' = s15 → (V2 ⟨[.no, .bp 0 0, .no, qi v3, .bp 1 0, qi v12], [some [.c (cL enc_Item a1.Items), qi a1.Next], some (uO x4.Order (.c (cL enc_Metric x4.Order.Metrics)) (.c (cL enc_Note x4.Order.Notes)) [qi x4.Ver])], []⟩)) ?_ _ _ hs15 rfl)
         intro l0 IH2 v12 s' H2 e
         subst e
         refine hV2 _ ?_
         have J2a := fun {v12 τ} h l => hW2 _ τ ((IH2 v12 _ h rfl)) l
         exact au H2 (aL @J2a hX2 (aA H1 (aA H trivial)))
    ·
     exact au H1 (aL @J1a hX1 (aA H trivial))⟩
instance spec_l13At_ok  {a1 : Store} {a2 : Str} : FOK R (spec_l13At a1 a2) 29 [gStore a1, .c (cS a2) none] fun r => (.c (cI .i64 r) none, []) := ⟨fun {r} H => by
 unfold spec_l13At at H
 refine fw false 23 Try.func29 ?_
 refine s_ ?_
 obtain ⟨s6, hs6, H⟩ := bnd H
 refine loop_rule (ls := []) 0 (fun t5 : Unit => ⟨[], [], []⟩) (fun t => s6 = .inr t) ⟨[.no, qs a2, .bp 0 0, .no, .no, qi 0], [some [.c (cL enc_Item a1.Items), qi a1.Next]], []⟩ mO lE ?_ ?_
 ·
  rintro t5 rfl
  exact au0 H
 ·
  intro V1 hV1 hW1 hX1
  refine (spec_l13At.l0.partial_correctness a1 a2 (fun v3 s' => s' = s6 → (V1 ⟨[.no, qs a2, .bp 0 0, .no, .no, qi v3], [some [.c (cL enc_Item a1.Items), qi a1.Next]], []⟩)) ?_ _ _ hs6 rfl)
  intro l0 IH1 v3 s' H1 e
  subst e
  refine hV1 _ ?_
  have J1a := fun {v3 τ} h l => hW1 _ τ ((IH1 v3 _ h rfl)) l
  exact au H1 (aL @J1a hX1 (aA H trivial))⟩
end Go.Pu

set_option linter.unusedVariables false
set_option linter.unusedSimpArgs false
set_option synthInstance.maxSize 1000000000
set_option maxRecDepth 20000
set_option maxHeartbeats 20000000
namespace Go.Pu
open Go Go.SX Go.Nt Go.Proofs
instance spec_Put_ok  {a1 : Store} {a2 : Order} : FOK R (spec_Put a1 a2) 23 [gStore a1, gOrder a2] fun r => (.tu [gStore_o r.1, .c (cB r.2) none], []) := ⟨fun {r} H => by
 unfold spec_Put at H
 refine fw false 80 Try.func23 ?_
 refine s_ ?_
 obtain ⟨x3, hx3, H⟩ := bnd H
 refine b_ hx3 ?_
 refine s_ ?_
 obtain ⟨x4, hx4, H⟩ := bnd H
 refine b_ hx4 ?_
 refine s_ ?_
 refine W_ite rfl H (fun hc H => ?_) (fun hc H => ?_)
 ·
  exact au0 H
 ·
  refine s_ ?_
  obtain ⟨x5, hx5, H⟩ := bnd H
  refine b_ hx5 ?_
  refine s_ ?_
  refine W_lateL [8] (by kernel_rfl) (by decide +kernel) rfl ?_; refine WL_c rfl ?_; simp only [SX.clr,List.foldl,putT,st,ev,gt,hp,ofV,constT,intT,lm]
  refine s_ ?_
  obtain ⟨x6, hx6, H⟩ := bnd H
  refine b_ hx6 ?_
  refine s_ ?_
  obtain ⟨x7, hx7, H⟩ := bnd H
  refine b_ hx7 ?_
  refine s_ ?_
  refine W_ite rfl H (fun hc H => ?_) (fun hc H => ?_)
  ·
   exact au0 H
  ·
   refine s_ ?_
   obtain ⟨t13, ht13, H⟩ := bnd H
   refine loop_rule (ls := []) 0 (fun t13 : Int => ⟨[.no, .no, .no, .no, .bp 0 0, .no, .bp 1 0, .bp 2 0, .bp 3 0, qi t13], [some [.nil, qi 0], some [.row 0, qi x3.Next], some [.row 1, qi (IntKind.i64.wrap (a1.Next + 1))], some (uO x6 (.row 2) (.row 3) [qi a1.Next])], [rr 11 enc_Item x3.Items true, rr 11 enc_Item x5.Items true, rr 3 enc_Metric x6.Metrics true, rr 2 enc_Note x6.Notes true]⟩) (fun t => t13 = t) ⟨[.no, .no, .no, .bp 0 0, .bp 1 0, .no, .bp 2 0, .bp 3 0, .bp 4 0, qi 0], [some (uO a2 (.c (cL enc_Metric a2.Metrics)) (.c (cL enc_Note a2.Notes)) []), some [.nil, qi 0], some [.row 0, qi x3.Next], some [.row 1, qi (IntKind.i64.wrap (a1.Next + 1))], some (uO x6 (.row 2) (.row 3) [qi a1.Next])], [rr 11 enc_Item x3.Items true, rr 11 enc_Item x5.Items true, rr 3 enc_Metric x6.Metrics true, rr 2 enc_Note x6.Notes true]⟩ mO lE ?_ ?_
   ·
    rintro t1 rfl
    exact au0 H
   ·
    intro V1 hV1 hW1 hX1
    refine (spec_Put.l0.partial_correctness a2 x5 (fun v11 s' => s' = t13 → (V1 ⟨[.no, .no, .no, .bp 0 0, .bp 1 0, .no, .bp 2 0, .bp 3 0, .bp 4 0, qi v11], [some (uO a2 (.c (cL enc_Metric a2.Metrics)) (.c (cL enc_Note a2.Notes)) []), some [.nil, qi 0], some [.row 0, qi x3.Next], some [.row 1, qi (IntKind.i64.wrap (a1.Next + 1))], some (uO x6 (.row 2) (.row 3) [qi a1.Next])], [rr 11 enc_Item x3.Items true, rr 11 enc_Item x5.Items true, rr 3 enc_Metric x6.Metrics true, rr 2 enc_Note x6.Notes true]⟩)) ?_ _ _ ht13 rfl)
    intro l0 IH1 v11 s' H1 e
    subst e
    refine hV1 _ ?_
    have J1a := fun {v11 τ} h l => hW1 _ τ ((IH1 v11 _ h rfl)) l
    exact au H1 (aL @J1a hX1 (aA H trivial))⟩
theorem slices_Clone_Simpl_Metric_impl_Metric_ok {a1 r : List Metric} (H : slices_Clone_Simpl_Metric_impl_Metric a1 = some r) : R 79 [.c (cL enc_Metric a1) none] = some (.c (cL enc_Metric r) (some (3, false)), []) := by
  unfold slices_Clone_Simpl_Metric_impl_Metric Nt.clone at H
  split at H
  · rename_i h
    obtain rfl := Option.some.inj H
    exact Fz_prC pr_rise rfl (by simp only [cloneF]; rw [if_pos ⟨wide_map (en := enc_Metric) (fun _ => rfl) a1, by simpa using h⟩])
  · simp at H
instance slices_Clone_Simpl_Metric_impl_Metric_i {a1 : List Metric} : FOK R (slices_Clone_Simpl_Metric_impl_Metric a1) 79 [.c (cL enc_Metric a1) none] fun r => (.c (cL enc_Metric r) (some (3, false)), []) := ⟨fun {r} H => slices_Clone_Simpl_Metric_impl_Metric_ok H⟩
theorem slices_Clone_Simpl_Note_impl_Note_ok {a1 r : List Note} (H : slices_Clone_Simpl_Note_impl_Note a1 = some r) : R 80 [.c (cL enc_Note a1) none] = some (.c (cL enc_Note r) (some (2, false)), []) := by
  unfold slices_Clone_Simpl_Note_impl_Note Nt.clone at H
  split at H
  · rename_i h
    obtain rfl := Option.some.inj H
    exact Fz_prC pr_rise rfl (by simp only [cloneF]; rw [if_pos ⟨wide_map (en := enc_Note) (fun _ => rfl) a1, by simpa using h⟩])
  · simp at H
instance slices_Clone_Simpl_Note_impl_Note_i {a1 : List Note} : FOK R (slices_Clone_Simpl_Note_impl_Note a1) 80 [.c (cL enc_Note a1) none] fun r => (.c (cL enc_Note r) (some (2, false)), []) := ⟨fun {r} H => slices_Clone_Simpl_Note_impl_Note_ok H⟩
instance impl_copyOrder_ok  {a1 : Order} : FOK R (impl_copyOrder a1) 58 [gOrder a1] fun r => (gOrder_oo r, []) := ⟨fun {r} H => by
 unfold impl_copyOrder at H
 refine fw false 12 Try.func58 ?_
 exact au0 H⟩
instance impl_copyItem_ok  {a1 : Item} : FOK R (impl_copyItem a1) 33 [gItem a1] fun r => (gItem_oo r, []) := ⟨fun {r} H => by
 unfold impl_copyItem at H
 refine fw false 9 Try.func33 ?_
 exact au0 H⟩
instance impl_copyItems_ok  {a1 : List Item} : FOK R (impl_copyItems a1) 64 [.c (cL enc_Item a1) none] fun r => (.c (cL enc_Item r) (some (11, true)), []) := ⟨fun {r} H => by
 unfold impl_copyItems at H
 refine fw false 20 Try.func64 ?_
 refine s_ ?_
 refine WO_op (x := .row 0) (σ' := ⟨[], [], [rd 11 enc_Item ([] : List Item)]⟩) rfl rfl (ev_bsD ([] : List Item) enc_Item dg_nil rfl rfl rfl rfl rfl rfl rfl rfl rfl rfl rfl rfl rfl) (n1 ?_)
 refine s_ ?_
 obtain ⟨t7, ht7, H⟩ := bnd H
 refine loop_rule (ls := []) 0 (fun t7 : List Item => ⟨[.no, .no, .no, .row 0], [], [rd 11 enc_Item t7]⟩) (fun t => t7 = t) ⟨[.no, .no, .no, .row 0, .no, .no, .no, .c (cL enc_Item a1), qi (a1.length : Int), qi 0], [], [rd 11 enc_Item ([] : List Item)]⟩ mO lE ?_ ?_
 ·
  rintro t1 rfl
  exact au0 H
 ·
  intro V1 hV1 hW1 hX1
  refine (impl_copyItems.l0.partial_correctness a1 (fun v2 v3 s' => s' = t7 → (V1 ⟨[.no, .no, .no, .row 0, .no, .no, .no, .c (cL enc_Item a1), qi (a1.length : Int), qi v2], [], [rd 11 enc_Item v3]⟩)) ?_ _ _ _ ht7 rfl)
  intro l0 IH1 v2 v3 s' H1 e
  subst e
  refine hV1 _ ?_
  have J1a := fun {v2 v3 τ} h l => hW1 _ τ ((IH1 v2 v3 _ h rfl)) l
  refine s_ ?_
  refine W_ite rfl H1 (fun hc H1 => ?_) (fun hc H1 => ?_)
  ·
   refine s_ ?_
   obtain ⟨x4, hx4, H1⟩ := bnd H1
   refine b_ hx4 ?_
   refine s_ ?_
   obtain ⟨x5, hx5, H1⟩ := bnd H1
   refine b_ hx5 ?_
   refine WO_op (x := .row 3) (σ' := ⟨[], [some (uO x4.Order (.c (cL enc_Metric x4.Order.Metrics)) (.c (cL enc_Note x4.Order.Notes)) [qi x4.Ver])], [rd 11 enc_Item v3, none, none, rd 11 enc_Item ([x5] : List Item)]⟩) rfl rfl (ev_bsD ([x5] : List Item) enc_Item (dg_c (dg_c (dg_c (dg_c (dg_f (fl_Metric _) rfl (dg_c (dg_c (dg_c (dg_c (dg_f (fl_Note _) rfl (dg_c dg_nil))))))))))) rfl rfl rfl rfl rfl rfl rfl rfl rfl rfl rfl rfl rfl) (n1 ?_)
   obtain ⟨m6, hm6, H1⟩ := bnd H1
   refine WO_op (x := .row 4) (σ' := ⟨[], [some (uO x4.Order (.c (cL enc_Metric x4.Order.Metrics)) (.c (cL enc_Note x4.Order.Notes)) [qi x4.Ver])], [none, none, none, none, rd 11 enc_Item m6]⟩) rfl rfl (ev_appD (en := enc_Item) hm6 rfl rfl rfl rfl (Or.inl rfl) rfl rfl rfl rfl rfl rfl rfl rfl rfl rfl rfl rfl rfl (fun _ => rfl) rfl) (n1 ?_)
   exact au H1 (aL @J1a hX1 (aA H trivial))
  ·
   exact au H1 (aL @J1a hX1 (aA H trivial))⟩
theorem slices_DeleteFunc_Simpl_Item_impl_Item_impl_put_1_ok {a1 : List Item} {a2 : Item} {r : List Item × Item} (H : slices_DeleteFunc_Simpl_Item_impl_Item_impl_put_1 a1 a2 = some r) : R 73 [.c (cL enc_Item a1) (some (11, true)), .f 74 [[(cS a2.Order.Name, none), (cS a2.Order.Target, none), (cI .i64 a2.Order.Low, none), (cI .i64 a2.Order.High, none), (cL enc_Metric a2.Order.Metrics, none), (cI .i64 a2.Order.Pace.Up, none), (cI .i64 a2.Order.Pace.Down, none), (cI .i64 a2.Order.Pace.UpSpan, none), (cI .i64 a2.Order.Pace.DownSpan, none), (cL enc_Note a2.Order.Notes, none), (cI .i64 a2.Ver, none)]]] = some (.c (cL enc_Item r.1) (some (11, true)), [none, some [(cS r.2.Order.Name, none), (cS r.2.Order.Target, none), (cI .i64 r.2.Order.Low, none), (cI .i64 r.2.Order.High, none), (cL enc_Metric r.2.Order.Metrics, none), (cI .i64 r.2.Order.Pace.Up, none), (cI .i64 r.2.Order.Pace.Down, none), (cI .i64 r.2.Order.Pace.UpSpan, none), (cI .i64 r.2.Order.Pace.DownSpan, none), (cL enc_Note r.2.Order.Notes, none), (cI .i64 r.2.Ver, none)]]) := by
  unfold slices_DeleteFunc_Simpl_Item_impl_Item_impl_put_1 at H
  split at H
  · rename_i hc
    obtain rfl := Option.some.inj H
    exact Fz_prC pr_rise rfl (delfD_put a1 a2 hc)
  · cases H
instance slices_DeleteFunc_Simpl_Item_impl_Item_impl_put_1_i {a1 : List Item} {a2 : Item}  : FOK R (slices_DeleteFunc_Simpl_Item_impl_Item_impl_put_1 a1 a2) 73 [.c (cL enc_Item a1) (some (11, true)), .f 74 [[(cS a2.Order.Name, none), (cS a2.Order.Target, none), (cI .i64 a2.Order.Low, none), (cI .i64 a2.Order.High, none), (cL enc_Metric a2.Order.Metrics, none), (cI .i64 a2.Order.Pace.Up, none), (cI .i64 a2.Order.Pace.Down, none), (cI .i64 a2.Order.Pace.UpSpan, none), (cI .i64 a2.Order.Pace.DownSpan, none), (cL enc_Note a2.Order.Notes, none), (cI .i64 a2.Ver, none)]]] fun r => (.c (cL enc_Item r.1) (some (11, true)), [none, some [(cS r.2.Order.Name, none), (cS r.2.Order.Target, none), (cI .i64 r.2.Order.Low, none), (cI .i64 r.2.Order.High, none), (cL enc_Metric r.2.Order.Metrics, none), (cI .i64 r.2.Order.Pace.Up, none), (cI .i64 r.2.Order.Pace.Down, none), (cI .i64 r.2.Order.Pace.UpSpan, none), (cI .i64 r.2.Order.Pace.DownSpan, none), (cL enc_Note r.2.Order.Notes, none), (cI .i64 r.2.Ver, none)]]) := ⟨fun {r} H => slices_DeleteFunc_Simpl_Item_impl_Item_impl_put_1_ok H⟩
theorem slices_IndexFunc_Simpl_Item_impl_Item_impl_put_2_D_ok {a1 : List Item} {a2 : Item} {r : Int × List Item × Item} (H : slices_IndexFunc_Simpl_Item_impl_Item_impl_put_2_D a1 a2 = some r) : R 56 [.c (cL enc_Item a1) (some (11, true)), .f 75 [[(cS a2.Order.Name, none), (cS a2.Order.Target, none), (cI .i64 a2.Order.Low, none), (cI .i64 a2.Order.High, none), (cL enc_Metric a2.Order.Metrics, none), (cI .i64 a2.Order.Pace.Up, none), (cI .i64 a2.Order.Pace.Down, none), (cI .i64 a2.Order.Pace.UpSpan, none), (cI .i64 a2.Order.Pace.DownSpan, none), (cL enc_Note a2.Order.Notes, none), (cI .i64 a2.Ver, none)]]] = some (.c (cI .i64 r.1) none, [some [(cL enc_Item r.2.1, some (11, true))], some [(cS r.2.2.Order.Name, none), (cS r.2.2.Order.Target, none), (cI .i64 r.2.2.Order.Low, none), (cI .i64 r.2.2.Order.High, none), (cL enc_Metric r.2.2.Order.Metrics, none), (cI .i64 r.2.2.Order.Pace.Up, none), (cI .i64 r.2.2.Order.Pace.Down, none), (cI .i64 r.2.2.Order.Pace.UpSpan, none), (cI .i64 r.2.2.Order.Pace.DownSpan, none), (cL enc_Note r.2.2.Order.Notes, none), (cI .i64 r.2.2.Ver, none)]]) := by
  unfold slices_IndexFunc_Simpl_Item_impl_Item_impl_put_2_D at H
  split at H
  · rename_i hc
    obtain rfl := Option.some.inj H
    exact Fz_pr pr_rise rfl (indfD_put a1 a2 hc)
  · cases H
instance slices_IndexFunc_Simpl_Item_impl_Item_impl_put_2_D_i {a1 : List Item} {a2 : Item}  : FOK R (slices_IndexFunc_Simpl_Item_impl_Item_impl_put_2_D a1 a2) 56 [.c (cL enc_Item a1) (some (11, true)), .f 75 [[(cS a2.Order.Name, none), (cS a2.Order.Target, none), (cI .i64 a2.Order.Low, none), (cI .i64 a2.Order.High, none), (cL enc_Metric a2.Order.Metrics, none), (cI .i64 a2.Order.Pace.Up, none), (cI .i64 a2.Order.Pace.Down, none), (cI .i64 a2.Order.Pace.UpSpan, none), (cI .i64 a2.Order.Pace.DownSpan, none), (cL enc_Note a2.Order.Notes, none), (cI .i64 a2.Ver, none)]]] fun r => (.c (cI .i64 r.1) none, [some [(cL enc_Item r.2.1, some (11, true))], some [(cS r.2.2.Order.Name, none), (cS r.2.2.Order.Target, none), (cI .i64 r.2.2.Order.Low, none), (cI .i64 r.2.2.Order.High, none), (cL enc_Metric r.2.2.Order.Metrics, none), (cI .i64 r.2.2.Order.Pace.Up, none), (cI .i64 r.2.2.Order.Pace.Down, none), (cI .i64 r.2.2.Order.Pace.UpSpan, none), (cI .i64 r.2.2.Order.Pace.DownSpan, none), (cL enc_Note r.2.2.Order.Notes, none), (cI .i64 r.2.2.Ver, none)]]) := ⟨fun {r} H => slices_IndexFunc_Simpl_Item_impl_Item_impl_put_2_D_ok H⟩
theorem slices_Insert_Simpl_Item_impl_Item_ok {a1 : List Item} {a2 : Int} {a3 r : List Item} (H : slices_Insert_Simpl_Item_impl_Item a1 a2 a3 = some r) : R 76 [.c (cL enc_Item a1) (some (11, true)), .c (cI .i64 a2) none, .c (cL enc_Item a3) (some (11, true))] = some (.c (cL enc_Item r) (some (11, true)), [none, none]) :=
  Fz_prC pr_rise rfl (insD_of H)
instance slices_Insert_Simpl_Item_impl_Item_i {a1 : List Item} {a2 : Int} {a3 : List Item} : FOK R (slices_Insert_Simpl_Item_impl_Item a1 a2 a3) 76 [.c (cL enc_Item a1) (some (11, true)), .c (cI .i64 a2) none, .c (cL enc_Item a3) (some (11, true))] fun r => (.c (cL enc_Item r) (some (11, true)), [none, none]) := ⟨fun {r} H => slices_Insert_Simpl_Item_impl_Item_ok H⟩
instance impl_put_ok  {a1 : List Item} {a2 : Item} : FOK R (impl_put a1 a2) 48 [.c (cL enc_Item a1) none, gItem a2] fun r => (.c (cL enc_Item r) (some (11, true)), []) := ⟨fun {r} H => by
 unfold impl_put at H
 refine fw false 24 Try.func48 ?_
 refine s_ ?_
 obtain ⟨x3, hx3, H⟩ := bnd H
 refine b_ hx3 ?_
 refine s_ ?_
 obtain ⟨x4, hx4, H⟩ := bnd H
 refine b_ hx4 ?_
 refine s_ ?_
 obtain ⟨x5, hx5, H⟩ := bnd H
 refine b_ hx5 ?_
 refine s_ ?_
 refine W_ite rfl H (fun hc H => ?_) (fun hc H => ?_)
 ·
  refine s_ ?_
  obtain ⟨x6, hx6, H⟩ := bnd H
  refine b_ hx6 ?_
  refine WO_op (x := .row 4) (σ' := ⟨[], [some (uO x5.2.2.Order (.c (cL enc_Metric x5.2.2.Order.Metrics)) (.c (cL enc_Note x5.2.2.Order.Notes)) [qi x5.2.2.Ver])], [none, rd 11 enc_Item x5.2.1, none, none, rd 11 enc_Item ([x6] : List Item)]⟩) rfl rfl (ev_bsD ([x6] : List Item) enc_Item (dg_c (dg_c (dg_c (dg_c (dg_f (fl_Metric _) rfl (dg_c (dg_c (dg_c (dg_c (dg_f (fl_Note _) rfl (dg_c dg_nil))))))))))) rfl rfl rfl rfl rfl rfl rfl rfl rfl rfl rfl rfl rfl) (n1 ?_)
  exact au0 H
 ·
  refine s_ ?_
  obtain ⟨x8, hx8, H⟩ := bnd H
  refine b_ hx8 ?_
  refine WO_op (x := .row 4) (σ' := ⟨[], [some (uO x5.2.2.Order (.c (cL enc_Metric x5.2.2.Order.Metrics)) (.c (cL enc_Note x5.2.2.Order.Notes)) [qi x5.2.2.Ver])], [none, rd 11 enc_Item x5.2.1, none, none, rd 11 enc_Item ([x8] : List Item)]⟩) rfl rfl (ev_bsD ([x8] : List Item) enc_Item (dg_c (dg_c (dg_c (dg_c (dg_f (fl_Metric _) rfl (dg_c (dg_c (dg_c (dg_c (dg_f (fl_Note _) rfl (dg_c dg_nil))))))))))) rfl rfl rfl rfl rfl rfl rfl rfl rfl rfl rfl rfl rfl) (n1 ?_)
  exact au0 H⟩
instance impl_from_ok  {a1 : Int} {a2 : Int} {a3 : Int} : FOK R (impl_from a1 a2 a3) 65 [.c (cI .i64 a1) none, .c (cI .i64 a2) none, .c (cI .i64 a3) none] fun r => (.c (cB r) none, []) := ⟨fun {r} H => by
 unfold impl_from at H
 refine fw false 15 Try.func65 ?_
 exact au0 H⟩
instance impl_isDigit_ok  {a1 : Int} : FOK R (impl_isDigit a1) 95 [.c (cI .u8 a1) none] fun r => (.c (cB r) none, []) := ⟨fun {r} H => by
 unfold impl_isDigit at H
 refine fw false 9 Try.func95 ?_
 exact au0 H⟩
instance impl_NameOk_ok  {a1 : Str} : FOK R (impl_NameOk a1) 86 [.c (cS a1) none] fun r => (.c (cB r) none, []) := ⟨fun {r} H => by
 unfold impl_NameOk at H
 refine fw false 43 Try.func86 ?_
 refine s_ ?_
 obtain ⟨s13, hs13, H⟩ := bnd H
 refine loop_rule (ls := []) 0 (fun t11 : Unit => ⟨[qs a1], [], []⟩) (fun t => s13 = .inr t) ⟨[qs a1, .no, .no, .no, .no, .no, qi (a1.length : Int), qi 0], [], []⟩ mO lE ?_ ?_
 ·
  rintro t11 rfl
  exact au0 H
 ·
  intro V1 hV1 hW1 hX1
  refine (impl_NameOk.l0.partial_correctness a1 (fun v2 s' => s' = s13 → (V1 ⟨[qs a1, .no, .no, .no, .no, .no, qi (a1.length : Int), qi v2], [], []⟩)) ?_ _ _ hs13 rfl)
  intro l0 IH1 v2 s' H1 e
  subst e
  refine hV1 _ ?_
  have J1a := fun {v2 τ} h l => hW1 _ τ ((IH1 v2 _ h rfl)) l
  exact au H1 (aL @J1a hX1 (aA H trivial))⟩
instance impl_MetricOk_ok  {a1 : Metric} : FOK R (impl_MetricOk a1) 85 [gMetric a1] fun r => (.c (cB r) none, []) := ⟨fun {r} H => by
 unfold impl_MetricOk at H
 refine fw false 16 Try.func85 ?_
 exact au0 H⟩
instance impl_isMany_ok  {a1 : Int} : FOK R (impl_isMany a1) 96 [.c (cI .i64 a1) none] fun r => (.c (cB r) none, []) := ⟨fun {r} H => by
 unfold impl_isMany at H
 refine fw false 5 Try.func96 ?_
 exact au0 H⟩
instance impl_PaceOk_ok  {a1 : Pace} : FOK R (impl_PaceOk a1) 87 [gPace a1] fun r => (.c (cB r) none, []) := ⟨fun {r} H => by
 unfold impl_PaceOk at H
 refine fw false 21 Try.func87 ?_
 exact au0 H⟩
instance impl_isLetter_ok  {a1 : Int} : FOK R (impl_isLetter a1) 102 [.c (cI .u8 a1) none] fun r => (.c (cB r) none, []) := ⟨fun {r} H => by
 unfold impl_isLetter at H
 refine fw false 17 Try.func102 ?_
 exact au0 H⟩
theorem internal_bytealg_IndexByteString_ok {a1 : Str} {a2 r : Int} (H : internal_bytealg_IndexByteString a1 a2 = some r) : R 107 [.c (cS a1) none, .c (cI .u8 a2) none] = some (.c (cI .i64 r) none, []) := by
  obtain rfl := Option.some.inj H
  exact Fz_prC pr_rise rfl (by simp only [indexByteF, indexByte_lib])
instance internal_bytealg_IndexByteString_i {a1 : Str} {a2 : Int} : FOK R (internal_bytealg_IndexByteString a1 a2) 107 [.c (cS a1) none, .c (cI .u8 a2) none] fun r => (.c (cI .i64 r) none, []) := ⟨fun {r} H => internal_bytealg_IndexByteString_ok H⟩
instance internal_stringslite_IndexByte_ok  {a1 : Str} {a2 : Int} : FOK R (internal_stringslite_IndexByte a1 a2) 106 [.c (cS a1) none, .c (cI .u8 a2) none] fun r => (.c (cI .i64 r) none, []) := ⟨fun {r} H => by
 unfold internal_stringslite_IndexByte at H
 refine fw false 8 Try.func106 ?_
 exact au0 H⟩
instance strings_IndexByte_ok  {a1 : Str} {a2 : Int} : FOK R (strings_IndexByte a1 a2) 103 [.c (cS a1) none, .c (cI .u8 a2) none] fun r => (.c (cI .i64 r) none, []) := ⟨fun {r} H => by
 unfold strings_IndexByte at H
 refine fw false 8 Try.func103 ?_
 exact au0 H⟩
instance impl_PlainOk_ok  {a1 : Str} : FOK R (impl_PlainOk a1) 97 [.c (cS a1) none] fun r => (.c (cB r) none, []) := ⟨fun {r} H => by
 unfold impl_PlainOk at H
 refine fw false 48 Try.func97 ?_
 refine s_ ?_
 obtain ⟨s11, hs11, H⟩ := bnd H
 refine loop_rule (ls := []) 0 (fun t9 : Unit => ⟨[qs a1], [], []⟩) (fun t => s11 = .inr t) ⟨[qs a1, .no, .no, .no, .no, qi (a1.length : Int), qi 0], [], []⟩ mO lE ?_ ?_
 ·
  rintro t9 rfl
  exact au0 H
 ·
  intro V1 hV1 hW1 hX1
  refine (impl_PlainOk.l0.partial_correctness a1 (fun v2 s' => s' = s11 → (V1 ⟨[qs a1, .no, .no, .no, .no, qi (a1.length : Int), qi v2], [], []⟩)) ?_ _ _ hs11 rfl)
  intro l0 IH1 v2 s' H1 e
  subst e
  refine hV1 _ ?_
  have J1a := fun {v2 τ} h l => hW1 _ τ ((IH1 v2 _ h rfl)) l
  exact au H1 (aL @J1a hX1 (aA H trivial))⟩
instance internal_stringslite_HasPrefix_ok  {a1 : Str} {a2 : Str} : FOK R (internal_stringslite_HasPrefix a1 a2) 104 [.c (cS a1) none, .c (cS a2) none] fun r => (.c (cB r) none, []) := ⟨fun {r} H => by
 unfold internal_stringslite_HasPrefix at H
 refine fw false 18 Try.func104 ?_
 exact au0 H⟩
instance strings_HasPrefix_ok  {a1 : Str} {a2 : Str} : FOK R (strings_HasPrefix a1 a2) 98 [.c (cS a1) none, .c (cS a2) none] fun r => (.c (cB r) none, []) := ⟨fun {r} H => by
 unfold strings_HasPrefix at H
 refine fw false 8 Try.func98 ?_
 exact au0 H⟩
instance impl_TextOk_ok  {a1 : Str} : FOK R (impl_TextOk a1) 99 [.c (cS a1) none] fun r => (.c (cB r) none, []) := ⟨fun {r} H => by
 unfold impl_TextOk at H
 refine fw false 19 Try.func99 ?_
 refine s_ ?_
 obtain ⟨s6, hs6, H⟩ := bnd H
 refine loop_rule (ls := []) 0 (fun t5 : Unit => ⟨[qs a1], [], []⟩) (fun t => s6 = .inr t) ⟨[qs a1, .no, .no, .no, .no, qi (a1.length : Int), qi 0], [], []⟩ mO lE ?_ ?_
 ·
  rintro t5 rfl
  exact au0 H
 ·
  intro V1 hV1 hW1 hX1
  refine (impl_TextOk.l0.partial_correctness a1 (fun v2 s' => s' = s6 → (V1 ⟨[qs a1, .no, .no, .no, .no, qi (a1.length : Int), qi v2], [], []⟩)) ?_ _ _ hs6 rfl)
  intro l0 IH1 v2 s' H1 e
  subst e
  refine hV1 _ ?_
  have J1a := fun {v2 τ} h l => hW1 _ τ ((IH1 v2 _ h rfl)) l
  exact au H1 (aL @J1a hX1 (aA H trivial))⟩
instance impl_notesOk_ok  {a1 : List Note} : FOK R (impl_notesOk a1) 88 [.c (cL enc_Note a1) none] fun r => (.c (cB r) none, []) := ⟨fun {r} H => by
 unfold impl_notesOk at H
 refine fw false 52 Try.func88 ?_
 refine s_ ?_
 obtain ⟨s9, hs9, H⟩ := bnd H
 refine loop_rule (ls := []) 0 (fun t8 : Unit => ⟨[.c (cL enc_Note a1)], [], []⟩) (fun t => s9 = .inr t) ⟨[.c (cL enc_Note a1), .no, .no, .no, .no, .c (cL enc_Note a1), qi (a1.length : Int), qi 0], [], []⟩ mO lE ?_ ?_
 ·
  rintro t8 rfl
  exact au0 H
 ·
  intro V1 hV1 hW1 hX1
  refine (impl_notesOk.l0.partial_correctness a1 (fun v2 s' => s' = s9 → (V1 ⟨[.c (cL enc_Note a1), .no, .no, .no, .no, .c (cL enc_Note a1), qi (a1.length : Int), qi v2], [], []⟩)) ?_ _ _ hs9 rfl)
  intro l0 IH1 v2 s' H1 e
  subst e
  refine hV1 _ ?_
  have J1a := fun {v2 τ} h l => hW1 _ τ ((IH1 v2 _ h rfl)) l
  exact au H1 (aL @J1a hX1 (aA H trivial))⟩
instance impl_OrderOk_ok  {a1 : Order} : FOK R (impl_OrderOk a1) 66 [gOrder a1] fun r => (.c (cB r) none, []) := ⟨fun {r} H => by
 unfold impl_OrderOk at H
 refine fw false 69 Try.func66 ?_
 refine s_ ?_
 obtain ⟨s12, hs12, H⟩ := bnd H
 refine loop_rule (ls := []) 0 (fun t6 : Unit => ⟨[.no, .bp 0 0], [some (uO a1 (.c (cL enc_Metric a1.Metrics)) (.c (cL enc_Note a1.Notes)) [])], []⟩) (fun t => s12 = .inr t) ⟨[.no, .bp 0 0, .no, .no, .no, .no, .c (cL enc_Metric a1.Metrics), qi (a1.Metrics.length : Int), qi 0], [some (uO a1 (.c (cL enc_Metric a1.Metrics)) (.c (cL enc_Note a1.Notes)) [])], []⟩ mO lE ?_ ?_
 ·
  rintro t6 rfl
  exact au0 H
 ·
  intro V1 hV1 hW1 hX1
  refine (impl_OrderOk.l0.partial_correctness a1 (fun v2 s' => s' = s12 → (V1 ⟨[.no, .bp 0 0, .no, .no, .no, .no, .c (cL enc_Metric a1.Metrics), qi (a1.Metrics.length : Int), qi v2], [some (uO a1 (.c (cL enc_Metric a1.Metrics)) (.c (cL enc_Note a1.Notes)) [])], []⟩)) ?_ _ _ hs12 rfl)
  intro l0 IH1 v2 s' H1 e
  subst e
  refine hV1 _ ?_
  have J1a := fun {v2 τ} h l => hW1 _ τ ((IH1 v2 _ h rfl)) l
  exact au H1 (aL @J1a hX1 (aA H trivial))⟩
instance impl_StoreOk_1_ok  {a1 : Item} {a2 : Item} : FOK R (impl_StoreOk_1 a1 a2) 68 [gItem a1, gPItem a2] fun r => (.c (cB r.1) none, [some [(cS r.2.Order.Name, none), (cS r.2.Order.Target, none), (cI .i64 r.2.Order.Low, none), (cI .i64 r.2.Order.High, none), (cL enc_Metric r.2.Order.Metrics, none), (cI .i64 r.2.Order.Pace.Up, none), (cI .i64 r.2.Order.Pace.Down, none), (cI .i64 r.2.Order.Pace.UpSpan, none), (cI .i64 r.2.Order.Pace.DownSpan, none), (cL enc_Note r.2.Order.Notes, none), (cI .i64 r.2.Ver, none)]]) := ⟨fun {r} H => by
 unfold impl_StoreOk_1 at H
 refine fw false 9 Try.func68 ?_
 exact au0 H⟩
end Go.Pu

set_option linter.unusedVariables false
set_option linter.unusedSimpArgs false
set_option synthInstance.maxSize 1000000000
set_option maxRecDepth 20000
set_option maxHeartbeats 20000000
namespace Go.Pu
open Go Go.SX Go.Nt Go.Proofs
instance slices_IndexFunc_Simpl_Item_impl_Item_impl_StoreOk_1_ok  {a1 : List Item} {a2 : Item} : FOK R (slices_IndexFunc_Simpl_Item_impl_Item_impl_StoreOk_1 a1 a2) 56 [.c (cL enc_Item a1) none, .f 68 [[(cS a2.Order.Name, none), (cS a2.Order.Target, none), (cI .i64 a2.Order.Low, none), (cI .i64 a2.Order.High, none), (cL enc_Metric a2.Order.Metrics, none), (cI .i64 a2.Order.Pace.Up, none), (cI .i64 a2.Order.Pace.Down, none), (cI .i64 a2.Order.Pace.UpSpan, none), (cI .i64 a2.Order.Pace.DownSpan, none), (cL enc_Note a2.Order.Notes, none), (cI .i64 a2.Ver, none)]]] fun r => (.c (cI .i64 r.1) none, [some [(cS r.2.Order.Name, none), (cS r.2.Order.Target, none), (cI .i64 r.2.Order.Low, none), (cI .i64 r.2.Order.High, none), (cL enc_Metric r.2.Order.Metrics, none), (cI .i64 r.2.Order.Pace.Up, none), (cI .i64 r.2.Order.Pace.Down, none), (cI .i64 r.2.Order.Pace.UpSpan, none), (cI .i64 r.2.Order.Pace.DownSpan, none), (cL enc_Note r.2.Order.Notes, none), (cI .i64 r.2.Ver, none)]]) := ⟨fun {r} H => by
 unfold slices_IndexFunc_Simpl_Item_impl_Item_impl_StoreOk_1 at H
 refine fwD false 19 Try.func56 ?_
 refine s_ ?_
 obtain ⟨s18, hs18, H⟩ := bnd H
 refine loop_rule (ls := [.b 0]) 0 (fun t17 : Str × Str × Int × Int × List Metric × Int × Int × Int × Int × List Note × Int => ⟨[], [some [qs t17.1, qs t17.2.1, qi t17.2.2.1, qi t17.2.2.2.1, .c (cL enc_Metric t17.2.2.2.2.1), qi t17.2.2.2.2.2.1, qi t17.2.2.2.2.2.2.1, qi t17.2.2.2.2.2.2.2.1, qi t17.2.2.2.2.2.2.2.2.1, .c (cL enc_Note t17.2.2.2.2.2.2.2.2.2.1), qi t17.2.2.2.2.2.2.2.2.2.2]], []⟩) (fun t => s18 = .inr t) ⟨[.c (cL enc_Item a1), .fn 68 [0], .no, .no, .no, .no, .no, qi (a1.length : Int), qi 0], [some (uO a2.Order (.c (cL enc_Metric a2.Order.Metrics)) (.c (cL enc_Note a2.Order.Notes)) [qi a2.Ver])], []⟩ mO lE ?_ ?_
 ·
  rintro t17 rfl
  exact au0 H
 ·
  intro V1 hV1 hW1 hX1
  refine (slices_IndexFunc_Simpl_Item_impl_Item_impl_StoreOk_1.l0.partial_correctness a1 (fun v3 v4 v5 v6 v7 v8 v9 v10 v11 v12 v13 v14 s' => s' = s18 → (V1 ⟨[.c (cL enc_Item a1), .fn 68 [0], .no, .no, .no, .no, .no, qi (a1.length : Int), qi v3], [some [qs v4, qs v5, qi v6, qi v7, .c (cL enc_Metric v8), qi v9, qi v10, qi v11, qi v12, .c (cL enc_Note v13), qi v14]], []⟩)) ?_ _ _ _ _ _ _ _ _ _ _ _ _ _ hs18 rfl)
  intro l0 IH1 v3 v4 v5 v6 v7 v8 v9 v10 v11 v12 v13 v14 s' H1 e
  subst e
  refine hV1 _ ?_
  have J1a := fun {v3 v4 v5 v6 v7 v8 v9 v10 v11 v12 v13 v14 τ} h l => hW1 _ τ ((IH1 v3 v4 v5 v6 v7 v8 v9 v10 v11 v12 v13 v14 _ h rfl)) l
  exact au H1 (aL @J1a hX1 (aA H trivial))⟩
instance slices_ContainsFunc_Simpl_Item_impl_Item_impl_StoreOk_1_ok  {a1 : List Item} {a2 : Item} : FOK R (slices_ContainsFunc_Simpl_Item_impl_Item_impl_StoreOk_1 a1 a2) 67 [.c (cL enc_Item a1) none, .f 68 [[(cS a2.Order.Name, none), (cS a2.Order.Target, none), (cI .i64 a2.Order.Low, none), (cI .i64 a2.Order.High, none), (cL enc_Metric a2.Order.Metrics, none), (cI .i64 a2.Order.Pace.Up, none), (cI .i64 a2.Order.Pace.Down, none), (cI .i64 a2.Order.Pace.UpSpan, none), (cI .i64 a2.Order.Pace.DownSpan, none), (cL enc_Note a2.Order.Notes, none), (cI .i64 a2.Ver, none)]]] fun r => (.c (cB r.1) none, [some [(cS r.2.Order.Name, none), (cS r.2.Order.Target, none), (cI .i64 r.2.Order.Low, none), (cI .i64 r.2.Order.High, none), (cL enc_Metric r.2.Order.Metrics, none), (cI .i64 r.2.Order.Pace.Up, none), (cI .i64 r.2.Order.Pace.Down, none), (cI .i64 r.2.Order.Pace.UpSpan, none), (cI .i64 r.2.Order.Pace.DownSpan, none), (cL enc_Note r.2.Order.Notes, none), (cI .i64 r.2.Ver, none)]]) := ⟨fun {r} H => by
 unfold slices_ContainsFunc_Simpl_Item_impl_Item_impl_StoreOk_1 at H
 refine fw false 9 Try.func67 ?_
 exact au0 H⟩
instance impl_StoreOk_ok  {a1 : Store} : FOK R (impl_StoreOk a1) 40 [gStore a1] fun r => (.c (cB r) none, []) := ⟨fun {r} H => by
 unfold impl_StoreOk at H
 refine fw false 61 Try.func40 ?_
 refine s_ ?_
 refine WO_iA H (fun hc H => ?_) (fun hc H => ?_)
 ·
  exact au0 H
 ·
  refine s_ ?_
  obtain ⟨x2, hx2, H⟩ := bnd H
  refine b_ hx2 ?_
  refine s_ ?_
  refine W_ite rfl H (fun hc H => ?_) (fun hc H => ?_)
  ·
   exact au0 H
  ·
   refine s_ ?_
   obtain ⟨s13, hs13, H⟩ := bnd H
   refine loop_rule (ls := []) 0 (fun t12 : Unit => ⟨[], [], []⟩) (fun t => s13 = .inr t) ⟨[.no, .bp 0 0, .no, .no, .no, .no, .no, .no, .no, .no, .no, .no, .no, .no, .no, .no, .c (cL enc_Item a1.Items), qi (a1.Items.length : Int), qi 0], [some [.c (cL enc_Item a1.Items), qi a1.Next]], []⟩ mO lE ?_ ?_
   ·
    rintro t12 rfl
    exact au0 H
   ·
    intro V1 hV1 hW1 hX1
    refine (impl_StoreOk.l0.partial_correctness a1 (fun v3 s' => s' = s13 → (V1 ⟨[.no, .bp 0 0, .no, .no, .no, .no, .no, .no, .no, .no, .no, .no, .no, .no, .no, .no, .c (cL enc_Item a1.Items), qi (a1.Items.length : Int), qi v3], [some [.c (cL enc_Item a1.Items), qi a1.Next]], []⟩)) ?_ _ _ hs13 rfl)
    intro l0 IH1 v3 s' H1 e
    subst e
    refine hV1 _ ?_
    have J1a := fun {v3 τ} h l => hW1 _ τ ((IH1 v3 _ h rfl)) l
    exact au H1 (aL @J1a hX1 (aA H trivial))⟩
instance impl_copyStore_ok  {a1 : Store} : FOK R (impl_copyStore a1) 39 [gStore a1] fun r => (gStore_d r, []) := ⟨fun {r} H => by
 unfold impl_copyStore at H
 refine fw false 9 Try.func39 ?_
 exact au0 H⟩
instance impl_Put_ok  {a1 : Store} {a2 : Order} : FOK R (impl_Put a1 a2) 25 [gStore a1, gOrder a2] fun r => (.tu [gStore_d r.1, .c (cB r.2) none], []) := ⟨fun {r} H => by
 unfold impl_Put at H
 refine fw false 29 Try.func25 ?_
 refine s_ ?_
 refine W_lateL [6] (by kernel_rfl) (by decide +kernel) rfl ?_; refine WL_c rfl ?_; simp only [SX.clr,List.foldl,putT,st,ev,gt,hp,ofV,constT,intT,lm]
 exact au0 H⟩
instance laws_eqMetric_ok  {a1 : Metric} {a2 : Metric} : FOK R (laws_eqMetric a1 a2) 77 [gMetric a1, gMetric a2] fun r => (.c (cB r) none, []) := ⟨fun {r} H => by
 unfold laws_eqMetric at H
 refine fw false 20 Try.func77 ?_
 exact au0 H⟩
instance laws_eqMetricS_ok  {a1 : List Metric} {a2 : List Metric} : FOK R (laws_eqMetricS a1 a2) 49 [.c (cL enc_Metric a1) none, .c (cL enc_Metric a2) none] fun r => (.c (cB r) none, []) := ⟨fun {r} H => by
 unfold laws_eqMetricS at H
 refine fw false 27 Try.func49 ?_
 refine s_ ?_
 refine W_ite rfl H (fun hc H => ?_) (fun hc H => ?_)
 ·
  exact au0 H
 ·
  refine s_ ?_
  obtain ⟨s8, hs8, H⟩ := bnd H
  refine loop_rule (ls := []) 0 (fun t7 : Unit => ⟨[], [], []⟩) (fun t => s8 = .inr t) ⟨[.c (cL enc_Metric a1), .c (cL enc_Metric a2), .no, .no, .no, qi 0], [], []⟩ mO lE ?_ ?_
  ·
   rintro t7 rfl
   exact au0 H
  ·
   intro V1 hV1 hW1 hX1
   refine (laws_eqMetricS.l0.partial_correctness a1 a2 (fun v3 s' => s' = s8 → (V1 ⟨[.c (cL enc_Metric a1), .c (cL enc_Metric a2), .no, .no, .no, qi v3], [], []⟩)) ?_ _ _ hs8 rfl)
   intro l0 IH1 v3 s' H1 e
   subst e
   refine hV1 _ ?_
   have J1a := fun {v3 τ} h l => hW1 _ τ ((IH1 v3 _ h rfl)) l
   exact au H1 (aL @J1a hX1 (aA H trivial))⟩
instance laws_eqPace_ok  {a1 : Pace} {a2 : Pace} : FOK R (laws_eqPace a1 a2) 50 [gPace a1, gPace a2] fun r => (.c (cB r) none, []) := ⟨fun {r} H => by
 unfold laws_eqPace at H
 refine fw false 25 Try.func50 ?_
 exact au0 H⟩
instance laws_eqNote_ok  {a1 : Note} {a2 : Note} : FOK R (laws_eqNote a1 a2) 78 [gNote a1, gNote a2] fun r => (.c (cB r) none, []) := ⟨fun {r} H => by
 unfold laws_eqNote at H
 refine fw false 15 Try.func78 ?_
 exact au0 H⟩
instance laws_eqNoteS_ok  {a1 : List Note} {a2 : List Note} : FOK R (laws_eqNoteS a1 a2) 51 [.c (cL enc_Note a1) none, .c (cL enc_Note a2) none] fun r => (.c (cB r) none, []) := ⟨fun {r} H => by
 unfold laws_eqNoteS at H
 refine fw false 27 Try.func51 ?_
 refine s_ ?_
 refine W_ite rfl H (fun hc H => ?_) (fun hc H => ?_)
 ·
  exact au0 H
 ·
  refine s_ ?_
  obtain ⟨s8, hs8, H⟩ := bnd H
  refine loop_rule (ls := []) 0 (fun t7 : Unit => ⟨[], [], []⟩) (fun t => s8 = .inr t) ⟨[.c (cL enc_Note a1), .c (cL enc_Note a2), .no, .no, .no, qi 0], [], []⟩ mO lE ?_ ?_
  ·
   rintro t7 rfl
   exact au0 H
  ·
   intro V1 hV1 hW1 hX1
   refine (laws_eqNoteS.l0.partial_correctness a1 a2 (fun v3 s' => s' = s8 → (V1 ⟨[.c (cL enc_Note a1), .c (cL enc_Note a2), .no, .no, .no, qi v3], [], []⟩)) ?_ _ _ hs8 rfl)
   intro l0 IH1 v3 s' H1 e
   subst e
   refine hV1 _ ?_
   have J1a := fun {v3 τ} h l => hW1 _ τ ((IH1 v3 _ h rfl)) l
   exact au H1 (aL @J1a hX1 (aA H trivial))⟩
instance laws_eqOrder_ok  {a1 : Order} {a2 : Order} : FOK R (laws_eqOrder a1 a2) 26 [gOrder a1, gOrder a2] fun r => (.c (cB r) none, []) := ⟨fun {r} H => by
 unfold laws_eqOrder at H
 refine fw false 43 Try.func26 ?_
 exact au0 H⟩
instance laws_eqItem_ok  {a1 : Item} {a2 : Item} : FOK R (laws_eqItem a1 a2) 11 [gItem a1, gItem a2] fun r => (.c (cB r) none, []) := ⟨fun {r} H => by
 unfold laws_eqItem at H
 refine fw false 16 Try.func11 ?_
 exact au0 H⟩
instance laws_eqItemS_ok  {a1 : List Item} {a2 : List Item} : FOK R (laws_eqItemS a1 a2) 34 [.c (cL enc_Item a1) none, .c (cL enc_Item a2) none] fun r => (.c (cB r) none, []) := ⟨fun {r} H => by
 unfold laws_eqItemS at H
 refine fw false 27 Try.func34 ?_
 refine s_ ?_
 refine W_ite rfl H (fun hc H => ?_) (fun hc H => ?_)
 ·
  exact au0 H
 ·
  refine s_ ?_
  obtain ⟨s8, hs8, H⟩ := bnd H
  refine loop_rule (ls := []) 0 (fun t7 : Unit => ⟨[], [], []⟩) (fun t => s8 = .inr t) ⟨[.c (cL enc_Item a1), .c (cL enc_Item a2), .no, .no, .no, qi 0], [], []⟩ mO lE ?_ ?_
  ·
   rintro t7 rfl
   exact au0 H
  ·
   intro V1 hV1 hW1 hX1
   refine (laws_eqItemS.l0.partial_correctness a1 a2 (fun v3 s' => s' = s8 → (V1 ⟨[.c (cL enc_Item a1), .c (cL enc_Item a2), .no, .no, .no, qi v3], [], []⟩)) ?_ _ _ hs8 rfl)
   intro l0 IH1 v3 s' H1 e
   subst e
   refine hV1 _ ?_
   have J1a := fun {v3 τ} h l => hW1 _ τ ((IH1 v3 _ h rfl)) l
   exact au H1 (aL @J1a hX1 (aA H trivial))⟩
instance laws_eqStore_ok  {a1 : Store} {a2 : Store} : FOK R (laws_eqStore a1 a2) 12 [gStore a1, gStore a2] fun r => (.c (cB r) none, []) := ⟨fun {r} H => by
 unfold laws_eqStore at H
 refine fw false 16 Try.func12 ?_
 exact au0 H⟩
instance laws_markText_ok  {a1 : Int} : FOK R (laws_markText a1) 59 [.c (cI .i64 a1) none] fun r => (.c (cS r) none, []) := ⟨fun {r} H => by
 unfold laws_markText at H
 refine fw false 20 Try.func59 ?_
 refine s_ ?_
 refine W_ite rfl H (fun hc H => ?_) (fun hc H => ?_)
 ·
  exact au0 H
 ·
  refine s_ ?_
  obtain ⟨t5, ht5, H⟩ := bnd H
  refine loop_rule (ls := []) 0 (fun t5 : Str => ⟨[.no, .no, .no, qs t5], [], []⟩) (fun t => t5 = t) ⟨[qi a1, .no, .no, qs []], [], []⟩ mO lE ?_ ?_
  ·
   rintro t1 rfl
   exact au0 H
  ·
   intro V1 hV1 hW1 hX1
   refine (laws_markText.l0.partial_correctness (fun v2 v3 s' => s' = t5 → (V1 ⟨[qi v2, .no, .no, qs v3], [], []⟩)) ?_ _ _ _ ht5 rfl)
   intro l0 IH1 v2 v3 s' H1 e
   subst e
   refine hV1 _ ?_
   have J1a := fun {v2 v3 τ} h l => hW1 _ τ ((IH1 v2 v3 _ h rfl)) l
   exact au H1 (aL @J1a hX1 (aA H trivial))⟩
instance laws_markMetricS_ok  {a1 : List Metric} {a2 : Int} : FOK R (laws_markMetricS a1 a2) 52 [.c (cL enc_Metric a1) (some (3, false)), .c (cI .i64 a2) none] fun r => (.c (cI .i64 r.1) none, [some [(cL enc_Metric r.2, some (3, false))]]) := ⟨fun {r} H => by
 unfold laws_markMetricS at H
 refine fw false 35 Try.func52 ?_
 refine s_ ?_
 obtain ⟨t13, ht13, H⟩ := bnd H
 refine loop_rule (ls := [.r 0]) 0 (fun t13 : Int × List Metric => ⟨[.no, qi t13.1], [], [rr 3 enc_Metric t13.2 true]⟩) (fun t => t13 = t) ⟨[.row 0, qi a2, .no, .no, .no, qi 0], [], [rr 3 enc_Metric a1 true]⟩ mO lE ?_ ?_
 ·
  rintro t1 rfl
  exact au0 H
 ·
  intro V1 hV1 hW1 hX1
  refine (laws_markMetricS.l0.partial_correctness (fun v3 v4 v5 s' => s' = t13 → (V1 ⟨[.row 0, qi v3, .no, .no, .no, qi v4], [], [rr 3 enc_Metric v5 true]⟩)) ?_ _ _ _ _ ht13 rfl)
  intro l0 IH1 v3 v4 v5 s' H1 e
  subst e
  refine hV1 _ ?_
  have J1a := fun {v3 v4 v5 τ} h l => hW1 _ τ ((IH1 v3 v4 v5 _ h rfl)) l
  exact au H1 (aL @J1a hX1 (aA H trivial))⟩
instance laws_markNoteS_ok  {a1 : List Note} {a2 : Int} : FOK R (laws_markNoteS a1 a2) 53 [.c (cL enc_Note a1) (some (2, false)), .c (cI .i64 a2) none] fun r => (.c (cI .i64 r.1) none, [some [(cL enc_Note r.2, some (2, false))]]) := ⟨fun {r} H => by
 unfold laws_markNoteS at H
 refine fw false 29 Try.func53 ?_
 refine s_ ?_
 obtain ⟨t12, ht12, H⟩ := bnd H
 refine loop_rule (ls := [.r 0]) 0 (fun t12 : Int × List Note => ⟨[.no, qi t12.1], [], [rr 2 enc_Note t12.2 true]⟩) (fun t => t12 = t) ⟨[.row 0, qi a2, .no, .no, .no, qi 0], [], [rr 2 enc_Note a1 true]⟩ mO lE ?_ ?_
 ·
  rintro t1 rfl
  exact au0 H
 ·
  intro V1 hV1 hW1 hX1
  refine (laws_markNoteS.l0.partial_correctness (fun v3 v4 v5 s' => s' = t12 → (V1 ⟨[.row 0, qi v3, .no, .no, .no, qi v4], [], [rr 2 enc_Note v5 true]⟩)) ?_ _ _ _ _ ht12 rfl)
  intro l0 IH1 v3 v4 v5 s' H1 e
  subst e
  refine hV1 _ ?_
  have J1a := fun {v3 v4 v5 τ} h l => hW1 _ τ ((IH1 v3 v4 v5 _ h rfl)) l
  exact au H1 (aL @J1a hX1 (aA H trivial))⟩
instance laws_markItemS_d_ok  {a1 : List Item} {a2 : Int} : FOK R (laws_markItemS_d a1 a2) 35 [.c (cL enc_Item a1) (some (11, true)), .c (cI .i64 a2) none] fun r => (.c (cI .i64 r.1) none, [some [(cL enc_Item r.2, some (11, true))]]) := ⟨fun {r} H => by
 unfold laws_markItemS_d at H
 refine fw false 106 Try.func35 ?_
 refine s_ ?_
 obtain ⟨t30, ht30, H⟩ := bnd H
 refine loop_rule (ls := [.r 0]) 0 (fun t30 : Int × List Item => ⟨[.no, qi t30.1], [], [rd 11 enc_Item t30.2]⟩) (fun t => t30 = t) ⟨[.row 0, qi a2, .no, .no, .no, qi 0], [], [rd 11 enc_Item a1]⟩ mO lE ?_ ?_
 ·
  rintro t1 rfl
  exact au0 H
 ·
  intro V1 hV1 hW1 hX1
  refine (laws_markItemS_d.l0.partial_correctness (fun v3 v4 v5 s' => s' = t30 → (V1 ⟨[.row 0, qi v3, .no, .no, .no, qi v4], [], [rd 11 enc_Item v5]⟩)) ?_ _ _ _ _ ht30 rfl)
  intro l0 IH1 v3 v4 v5 s' H1 e
  subst e
  refine hV1 _ ?_
  have J1a := fun {v3 v4 v5 τ} h l => hW1 _ τ ((IH1 v3 v4 v5 _ h rfl)) l
  refine s_ ?_
  refine W_ite rfl H1 (fun hc H1 => ?_) (fun hc H1 => ?_)
  ·
   refine s_ ?_
   obtain ⟨x6, hx6, H1⟩ := bnd H1
   refine b_ hx6 ?_
   obtain ⟨x7, hx7, H1⟩ := bnd H1
   refine b_ hx7 ?_
   refine s_ ?_
   obtain ⟨m8, hm8, H1⟩ := bnd H1
   refine WO_op (x := .no) (σ' := ⟨[], [], [rd 11 enc_Item m8]⟩) rfl rfl (ev_stD (en := enc_Item) hm8 hx7 (dg_c dg_nil) rfl rfl rfl rfl rfl rfl rfl rfl) (n1 ?_)
   refine s_ ?_
   obtain ⟨x9, hx9, H1⟩ := bnd H1
   refine b_ hx9 ?_
   obtain ⟨x10, hx10, H1⟩ := bnd H1
   refine b_ hx10 ?_
   refine s_ ?_
   obtain ⟨m11, hm11, H1⟩ := bnd H1
   refine WO_op (x := .no) (σ' := ⟨[], [], [rd 11 enc_Item m11]⟩) rfl rfl (ev_stD (en := enc_Item) hm11 hx10 (dg_c dg_nil) rfl rfl rfl rfl rfl rfl rfl rfl) (n1 ?_)
   refine s_ ?_
   obtain ⟨x12, hx12, H1⟩ := bnd H1
   refine b_ hx12 ?_
   refine s_ ?_
   obtain ⟨m13, hm13, H1⟩ := bnd H1
   refine WO_op (x := .no) (σ' := ⟨[], [], [rd 11 enc_Item m13]⟩) rfl rfl (ev_stD (en := enc_Item) hm13 hx12 (dg_c dg_nil) rfl rfl rfl rfl rfl rfl rfl rfl) (n1 ?_)
   refine s_ ?_
   obtain ⟨x14, hx14, H1⟩ := bnd H1
   refine b_ hx14 ?_
   refine s_ ?_
   obtain ⟨m15, hm15, H1⟩ := bnd H1
   refine WO_op (x := .no) (σ' := ⟨[], [], [rd 11 enc_Item m15]⟩) rfl rfl (ev_stD (en := enc_Item) hm15 hx14 (dg_c dg_nil) rfl rfl rfl rfl rfl rfl rfl rfl) (n1 ?_)
   refine s_ ?_
   obtain ⟨x16, hx16, H1⟩ := bnd H1
   refine b_ hx16 ?_
   refine s_ ?_
   obtain ⟨x17, hx17, H1⟩ := bnd H1
   refine lnA (lend_A hx17 rfl rfl rfl rfl rfl rfl rfl rfl rfl rfl rfl rfl rfl rfl rfl rfl rfl rfl rfl rfl (fun _ => rfl) rfl rfl (fun _ => rfl) (fun _ => rfl) (Or.inr (fun _ => fl_Metric _)) hx16) ?_ rfl (by simp only [lendN, Nat.reduceAdd, List.drop_succ_cons, List.drop_zero]; exact rfl)
   refine s_ ?_
   obtain ⟨x18, hx18, H1⟩ := bnd H1
   refine b_ hx18 ?_
   refine s_ ?_
   obtain ⟨m19, hm19, H1⟩ := bnd H1
   refine WO_op (x := .no) (σ' := ⟨[], [], [rd 11 enc_Item m19, none]⟩) rfl rfl (ev_stD (en := enc_Item) hm19 hx18 (dg_c dg_nil) rfl rfl rfl rfl rfl rfl rfl rfl) (n1 ?_)
   refine s_ ?_
   obtain ⟨x20, hx20, H1⟩ := bnd H1
   refine b_ hx20 ?_
   refine s_ ?_
   obtain ⟨m21, hm21, H1⟩ := bnd H1
   refine WO_op (x := .no) (σ' := ⟨[], [], [rd 11 enc_Item m21, none]⟩) rfl rfl (ev_stD (en := enc_Item) hm21 hx20 (dg_c dg_nil) rfl rfl rfl rfl rfl rfl rfl rfl) (n1 ?_)
   refine s_ ?_
   obtain ⟨x22, hx22, H1⟩ := bnd H1
   refine b_ hx22 ?_
   refine s_ ?_
   obtain ⟨m23, hm23, H1⟩ := bnd H1
   refine WO_op (x := .no) (σ' := ⟨[], [], [rd 11 enc_Item m23, none]⟩) rfl rfl (ev_stD (en := enc_Item) hm23 hx22 (dg_c dg_nil) rfl rfl rfl rfl rfl rfl rfl rfl) (n1 ?_)
   refine s_ ?_
   obtain ⟨x24, hx24, H1⟩ := bnd H1
   refine b_ hx24 ?_
   refine s_ ?_
   obtain ⟨m25, hm25, H1⟩ := bnd H1
   refine WO_op (x := .no) (σ' := ⟨[], [], [rd 11 enc_Item m25, none]⟩) rfl rfl (ev_stD (en := enc_Item) hm25 hx24 (dg_c dg_nil) rfl rfl rfl rfl rfl rfl rfl rfl) (n1 ?_)
   refine s_ ?_
   obtain ⟨x26, hx26, H1⟩ := bnd H1
   refine b_ hx26 ?_
   refine s_ ?_
   obtain ⟨x27, hx27, H1⟩ := bnd H1
   refine lnA (lend_A hx27 rfl rfl rfl rfl rfl rfl rfl rfl rfl rfl rfl rfl rfl rfl rfl rfl rfl rfl rfl rfl (fun _ => rfl) rfl rfl (fun _ => rfl) (fun _ => rfl) (Or.inr (fun _ => fl_Note _)) hx26) ?_ rfl (by simp only [lendN, Nat.reduceAdd, List.drop_succ_cons, List.drop_zero]; exact rfl)
   refine s_ ?_
   obtain ⟨x28, hx28, H1⟩ := bnd H1
   refine b_ hx28 ?_
   refine s_ ?_
   obtain ⟨m29, hm29, H1⟩ := bnd H1
   refine WO_op (x := .no) (σ' := ⟨[], [], [rd 11 enc_Item m29, none, none]⟩) rfl rfl (ev_stD (en := enc_Item) hm29 hx28 (dg_c dg_nil) rfl rfl rfl rfl rfl rfl rfl rfl) (n1 ?_)
   exact au H1 (aL @J1a hX1 (aA H trivial))
  ·
   exact au H1 (aL @J1a hX1 (aA H trivial))⟩
instance laws_markStore_dn_ok  {a1 : Store} {a2 : Int} : FOK R (laws_markStore_dn a1 a2) 13 [gStore_d a1, .c (cI .i64 a2) none] fun r => (.c (cI .i64 r.1) none, [some [(cL enc_Item r.2, some (11, true))]]) := ⟨fun {r} H => by
 unfold laws_markStore_dn at H
 refine fw false 10 Try.func13 ?_
 exact au0 H⟩
instance laws_markOrder_nnnnonnnno_ok  {a1 : Order} {a2 : Int} : FOK R (laws_markOrder_nnnnonnnno a1 a2) 27 [gOrder_oo a1, .c (cI .i64 a2) none] fun r => (.c (cI .i64 r.1) none, [some [(cL enc_Metric r.2.1, some (3, false))], some [(cL enc_Note r.2.2, some (2, false))]]) := ⟨fun {r} H => by
 unfold laws_markOrder_nnnnonnnno at H
 refine fw false 14 Try.func27 ?_
 exact au0 H⟩
instance laws_heldMetricS_ok  {a1 : List Metric} {a2 : Int} : FOK R (laws_heldMetricS a1 a2) 60 [.c (cL enc_Metric a1) none, .c (cI .i64 a2) none] fun r => (.c (cI .i64 r) none, []) := ⟨fun {r} H => by
 unfold laws_heldMetricS at H
 refine fw false 41 Try.func60 ?_
 refine s_ ?_
 obtain ⟨s10, hs10, H⟩ := bnd H
 refine loop_rule (ls := []) 0 (fun t9 : Int => ⟨[.no, qi t9], [], []⟩) (fun t => s10 = .inr t) ⟨[.c (cL enc_Metric a1), qi a2, .no, .no, .no, qi 0], [], []⟩ mO lE ?_ ?_
 ·
  rintro t9 rfl
  exact au0 H
 ·
  intro V1 hV1 hW1 hX1
  refine (laws_heldMetricS.l0.partial_correctness a1 (fun v3 v4 s' => s' = s10 → (V1 ⟨[.c (cL enc_Metric a1), qi v3, .no, .no, .no, qi v4], [], []⟩)) ?_ _ _ _ hs10 rfl)
  intro l0 IH1 v3 v4 s' H1 e
  subst e
  refine hV1 _ ?_
  have J1a := fun {v3 v4 τ} h l => hW1 _ τ ((IH1 v3 v4 _ h rfl)) l
  exact au H1 (aL @J1a hX1 (aA H trivial))⟩
instance laws_heldNoteS_ok  {a1 : List Note} {a2 : Int} : FOK R (laws_heldNoteS a1 a2) 61 [.c (cL enc_Note a1) none, .c (cI .i64 a2) none] fun r => (.c (cI .i64 r) none, []) := ⟨fun {r} H => by
 unfold laws_heldNoteS at H
 refine fw false 33 Try.func61 ?_
 refine s_ ?_
 obtain ⟨s10, hs10, H⟩ := bnd H
 refine loop_rule (ls := []) 0 (fun t9 : Int => ⟨[.no, qi t9], [], []⟩) (fun t => s10 = .inr t) ⟨[.c (cL enc_Note a1), qi a2, .no, .no, .no, qi 0], [], []⟩ mO lE ?_ ?_
 ·
  rintro t9 rfl
  exact au0 H
 ·
  intro V1 hV1 hW1 hX1
  refine (laws_heldNoteS.l0.partial_correctness a1 (fun v3 v4 s' => s' = s10 → (V1 ⟨[.c (cL enc_Note a1), qi v3, .no, .no, .no, qi v4], [], []⟩)) ?_ _ _ _ hs10 rfl)
  intro l0 IH1 v3 v4 s' H1 e
  subst e
  refine hV1 _ ?_
  have J1a := fun {v3 v4 τ} h l => hW1 _ τ ((IH1 v3 v4 _ h rfl)) l
  exact au H1 (aL @J1a hX1 (aA H trivial))⟩
instance laws_heldItemS_ok  {a1 : List Item} {a2 : Int} : FOK R (laws_heldItemS a1 a2) 42 [.c (cL enc_Item a1) none, .c (cI .i64 a2) none] fun r => (.c (cI .i64 r) none, []) := ⟨fun {r} H => by
 unfold laws_heldItemS at H
 refine fw false 128 Try.func42 ?_
 refine s_ ?_
 obtain ⟨s21, hs21, H⟩ := bnd H
 refine loop_rule (ls := []) 0 (fun t20 : Int => ⟨[.no, qi t20], [], []⟩) (fun t => s21 = .inr t) ⟨[.c (cL enc_Item a1), qi a2, .no, .no, .no, qi 0], [], []⟩ mO lE ?_ ?_
 ·
  rintro t20 rfl
  exact au0 H
 ·
  intro V1 hV1 hW1 hX1
  refine (laws_heldItemS.l0.partial_correctness a1 (fun v3 v4 s' => s' = s21 → (V1 ⟨[.c (cL enc_Item a1), qi v3, .no, .no, .no, qi v4], [], []⟩)) ?_ _ _ _ hs21 rfl)
  intro l0 IH1 v3 v4 s' H1 e
  subst e
  refine hV1 _ ?_
  have J1a := fun {v3 v4 τ} h l => hW1 _ τ ((IH1 v3 v4 _ h rfl)) l
  exact au H1 (aL @J1a hX1 (aA H trivial))⟩
instance laws_heldStore_ok  {a1 : Store} {a2 : Int} : FOK R (laws_heldStore a1 a2) 18 [gStore a1, .c (cI .i64 a2) none] fun r => (.c (cI .i64 r) none, []) := ⟨fun {r} H => by
 unfold laws_heldStore at H
 refine fw false 12 Try.func18 ?_
 exact au0 H⟩
end Go.Pu

set_option linter.unusedVariables false
set_option linter.unusedSimpArgs false
set_option synthInstance.maxSize 1000000000
set_option maxRecDepth 20000
set_option maxHeartbeats 20000000
namespace Go.Pu
open Go Go.SX Go.Nt Go.Proofs
instance laws_FnExactPut_ok  {a1 : Store} {a2 : Order} : FOK R (laws_FnExactPut a1 a2) 6 [gStore a1, gOrder a2] fun r => (.c (cB r) none, []) := ⟨fun {r} H => by
 unfold laws_FnExactPut at H
 refine fw false 119 Try.func6 ?_
 refine s_ ?_
 obtain ⟨x3, hx3, H⟩ := bnd H
 refine b_ hx3 ?_
 refine s_ ?_
 refine W_ite rfl H (fun hc H => ?_) (fun hc H => ?_)
 ·
  exact au0 H
 ·
  refine s_ ?_
  obtain ⟨x4, hx4, H⟩ := bnd H
  refine b_ hx4 ?_
  refine s_ ?_
  refine W_ite rfl H (fun hc H => ?_) (fun hc H => ?_)
  ·
   exact au0 H
  ·
   refine s_ ?_
   refine W_lateL [6] (by kernel_rfl) (by decide +kernel) rfl ?_; refine WL_c rfl ?_; simp only [SX.clr,List.foldl,putT,st,ev,gt,hp,ofV,constT,intT,lm]
   refine s_ ?_
   obtain ⟨x5, hx5, H⟩ := bnd H
   refine b_ hx5 ?_
   refine s_ ?_
   obtain ⟨x6, hx6, H⟩ := bnd H
   refine b_ hx6 ?_
   obtain ⟨x7, hx7, H⟩ := bnd H
   refine b_ hx7 ?_
   refine s_ ?_
   obtain ⟨x8, hx8, H⟩ := bnd H
   refine b_ hx8 ?_
   refine s_ ?_
   obtain ⟨x9, hx9, H⟩ := bnd H
   refine b_ hx9 ?_
   refine s_ ?_
   obtain ⟨x10, hx10, H⟩ := bnd H
   refine b_ hx10 ?_
   refine s_ ?_
   obtain ⟨x11, hx11, H⟩ := bnd H
   refine b_ hx11 ?_
   refine s_ ?_
   refine WO_iA H (fun hc H => ?_) (fun hc H => ?_)
   ·
    exact au0 H
   ·
    refine s_ ?_
    refine W_ite rfl H (fun hc H => ?_) (fun hc H => ?_)
    ·
     exact au0 H
    ·
     refine s_ ?_
     obtain ⟨x12, hx12, H⟩ := bnd H
     refine b_ hx12 ?_
     obtain ⟨x13, hx13, H⟩ := bnd H
     refine b_ hx13 ?_
     refine s_ ?_
     refine W_ite rfl H (fun hc H => ?_) (fun hc H => ?_)
     ·
      exact au0 H
     ·
      refine s_ ?_
      obtain ⟨x14, hx14, H⟩ := bnd H
      refine b_ hx14 ?_
      obtain ⟨x15, hx15, H⟩ := bnd H
      refine b_ hx15 ?_
      refine s_ ?_
      refine W_ite rfl H (fun hc H => ?_) (fun hc H => ?_)
      ·
       exact au0 H
      ·
       refine s_ ?_
       obtain ⟨x16, hx16, H⟩ := bnd H
       refine b_ hx16 ?_
       refine s_ ?_
       obtain ⟨x17, hx17, H⟩ := bnd H
       refine b_ hx17 ?_
       refine s_ ?_
       refine WO_iA H (fun hc H => ?_) (fun hc H => ?_)
       ·
        exact au0 H
       ·
        refine s_ ?_
        obtain ⟨x18, hx18, H⟩ := bnd H
        refine b_ hx18 ?_
        refine s_ ?_
        refine WO_iA H (fun hc H => ?_) (fun hc H => ?_)
        ·
         exact au0 H
        ·
         refine s_ ?_
         refine W_ite rfl H (fun hc H => ?_) (fun hc H => ?_)
         ·
          exact au0 H
         ·
          refine s_ ?_
          obtain ⟨x19, hx19, H⟩ := bnd H
          refine b_ hx19 ?_
          refine s_ ?_
          obtain ⟨x20, hx20, H⟩ := bnd H
          refine b_ hx20 ?_
          refine s_ ?_
          refine W_ite rfl H (fun hc H => ?_) (fun hc H => ?_)
          ·
           exact au0 H
          ·
           refine s_ ?_
           refine W_ite rfl H (fun hc H => ?_) (fun hc H => ?_)
           ·
            exact au0 H
           ·
            refine s_ ?_
            refine W_lateL [15] (by kernel_rfl) (by decide +kernel) rfl ?_; refine WL_c rfl ?_; simp only [SX.clr,List.foldl,putT,st,ev,gt,hp,ofV,constT,intT,lm]
            exact au0 H⟩
end Go.Pu
