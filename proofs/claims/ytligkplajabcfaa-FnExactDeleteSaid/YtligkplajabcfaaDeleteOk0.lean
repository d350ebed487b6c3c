import Derived.Test.YtligkplajabcfaaDeleteEn
set_option linter.unusedVariables false
set_option linter.unusedSimpArgs false
set_option synthInstance.maxSize 1000000000
set_option maxRecDepth 20000
set_option maxHeartbeats 20000000
namespace Go.Pu
open Go Go.SX Go.Nt Go.Proofs
instance laws_szMetric_ok  {a1 : Metric} {a2 : Int} : FOK R (laws_szMetric a1 a2) 69 [gMetric a1, .c (cI .i64 a2) none] fun r => (.c (cI .i64 r) none, []) := ⟨fun {r} H => by
 unfold laws_szMetric at H
 refine fw false 13 Try.func69 ?_
 exact au0 H⟩
instance laws_szMetricS_ok  {a1 : List Metric} {a2 : Int} : FOK R (laws_szMetricS a1 a2) 43 [.c (cL enc_Metric a1) none, .c (cI .i64 a2) none] fun r => (.c (cI .i64 r) none, []) := ⟨fun {r} H => by
 unfold laws_szMetricS at H
 refine fw false 27 Try.func43 ?_
 refine s_ ?_
 refine W_ite rfl H (fun hc H => ?_) (fun hc H => ?_)
 ·
  exact au0 H
 ·
  refine s_ ?_
  obtain ⟨s8, hs8, H⟩ := bnd H
  refine loop_rule (ls := []) 0 (fun t7 : Int => ⟨[.no, qi t7], [], []⟩) (fun t => s8 = .inr t) ⟨[.c (cL enc_Metric a1), qi (IntKind.i64.wrap (a2 - (a1.length : Int))), .no, .no, .no, qi 0], [], []⟩ mO lE ?_ ?_
  ·
   rintro t7 rfl
   exact au0 H
  ·
   intro V1 hV1 hW1 hX1
   refine (laws_szMetricS.l0.partial_correctness a1 (fun v3 v4 s' => s' = s8 → (V1 ⟨[.c (cL enc_Metric a1), qi v3, .no, .no, .no, qi v4], [], []⟩)) ?_ _ _ _ hs8 rfl)
   intro l0 IH1 v3 v4 s' H1 e
   subst e
   refine hV1 _ ?_
   have J1a := fun {v3 v4 τ} h l => hW1 _ τ ((IH1 v3 v4 _ h rfl)) l
   exact au H1 (aL @J1a hX1 (aA H trivial))⟩
instance laws_szNote_ok  {a1 : Note} {a2 : Int} : FOK R (laws_szNote a1 a2) 70 [gNote a1, .c (cI .i64 a2) none] fun r => (.c (cI .i64 r) none, []) := ⟨fun {r} H => by
 unfold laws_szNote at H
 refine fw false 20 Try.func70 ?_
 exact au0 H⟩
instance laws_szNoteS_ok  {a1 : List Note} {a2 : Int} : FOK R (laws_szNoteS a1 a2) 44 [.c (cL enc_Note a1) none, .c (cI .i64 a2) none] fun r => (.c (cI .i64 r) none, []) := ⟨fun {r} H => by
 unfold laws_szNoteS at H
 refine fw false 27 Try.func44 ?_
 refine s_ ?_
 refine W_ite rfl H (fun hc H => ?_) (fun hc H => ?_)
 ·
  exact au0 H
 ·
  refine s_ ?_
  obtain ⟨s8, hs8, H⟩ := bnd H
  refine loop_rule (ls := []) 0 (fun t7 : Int => ⟨[.no, qi t7], [], []⟩) (fun t => s8 = .inr t) ⟨[.c (cL enc_Note a1), qi (IntKind.i64.wrap (a2 - (a1.length : Int))), .no, .no, .no, qi 0], [], []⟩ mO lE ?_ ?_
  ·
   rintro t7 rfl
   exact au0 H
  ·
   intro V1 hV1 hW1 hX1
   refine (laws_szNoteS.l0.partial_correctness a1 (fun v3 v4 s' => s' = s8 → (V1 ⟨[.c (cL enc_Note a1), qi v3, .no, .no, .no, qi v4], [], []⟩)) ?_ _ _ _ hs8 rfl)
   intro l0 IH1 v3 v4 s' H1 e
   subst e
   refine hV1 _ ?_
   have J1a := fun {v3 v4 τ} h l => hW1 _ τ ((IH1 v3 v4 _ h rfl)) l
   exact au H1 (aL @J1a hX1 (aA H trivial))⟩
instance laws_szOrder_ok  {a1 : Order} {a2 : Int} : FOK R (laws_szOrder a1 a2) 22 [gOrder a1, .c (cI .i64 a2) none] fun r => (.c (cI .i64 r) none, []) := ⟨fun {r} H => by
 unfold laws_szOrder at H
 refine fw false 32 Try.func22 ?_
 exact au0 H⟩
instance laws_szItem_ok  {a1 : Item} {a2 : Int} : FOK R (laws_szItem a1 a2) 54 [gItem a1, .c (cI .i64 a2) none] fun r => (.c (cI .i64 r) none, []) := ⟨fun {r} H => by
 unfold laws_szItem at H
 refine fw false 12 Try.func54 ?_
 exact au0 H⟩
instance laws_szItemS_ok  {a1 : List Item} {a2 : Int} : FOK R (laws_szItemS a1 a2) 28 [.c (cL enc_Item a1) none, .c (cI .i64 a2) none] fun r => (.c (cI .i64 r) none, []) := ⟨fun {r} H => by
 unfold laws_szItemS at H
 refine fw false 27 Try.func28 ?_
 refine s_ ?_
 refine W_ite rfl H (fun hc H => ?_) (fun hc H => ?_)
 ·
  exact au0 H
 ·
  refine s_ ?_
  obtain ⟨s8, hs8, H⟩ := bnd H
  refine loop_rule (ls := []) 0 (fun t7 : Int => ⟨[.no, qi t7], [], []⟩) (fun t => s8 = .inr t) ⟨[.c (cL enc_Item a1), qi (IntKind.i64.wrap (a2 - (a1.length : Int))), .no, .no, .no, qi 0], [], []⟩ mO lE ?_ ?_
  ·
   rintro t7 rfl
   exact au0 H
  ·
   intro V1 hV1 hW1 hX1
   refine (laws_szItemS.l0.partial_correctness a1 (fun v3 v4 s' => s' = s8 → (V1 ⟨[.c (cL enc_Item a1), qi v3, .no, .no, .no, qi v4], [], []⟩)) ?_ _ _ _ hs8 rfl)
   intro l0 IH1 v3 v4 s' H1 e
   subst e
   refine hV1 _ ?_
   have J1a := fun {v3 v4 τ} h l => hW1 _ τ ((IH1 v3 v4 _ h rfl)) l
   exact au H1 (aL @J1a hX1 (aA H trivial))⟩
instance laws_szStore_ok  {a1 : Store} {a2 : Int} : FOK R (laws_szStore a1 a2) 7 [gStore a1, .c (cI .i64 a2) none] fun r => (.c (cI .i64 r) none, []) := ⟨fun {r} H => by
 unfold laws_szStore at H
 refine fw false 12 Try.func7 ?_
 exact au0 H⟩
instance laws_toMetric_ok  {a1 : Metric} : FOK R (laws_toMetric a1) 71 [gMetric a1] fun r => (gMetric r, []) := ⟨fun {r} H => by
 unfold laws_toMetric at H
 refine fw false 14 Try.func71 ?_
 exact au0 H⟩
instance laws_toMetricS_ok  {a1 : List Metric} : FOK R (laws_toMetricS a1) 45 [.c (cL enc_Metric a1) none] fun r => (.c (cL enc_Metric r) (some (3, false)), []) := ⟨fun {r} H => by
 unfold laws_toMetricS at H
 refine fw false 23 Try.func45 ?_
 refine s_ ?_
 obtain ⟨m2, hm2, H⟩ := bnd H
 refine b_ hm2 ?_
 refine s_ ?_
 obtain ⟨t9, ht9, H⟩ := bnd H
 refine loop_rule (ls := []) 0 (fun t9 : List Metric => ⟨[.no, .no, .no, .row 0], [], [rr 3 enc_Metric t9 true]⟩) (fun t => t9 = t) ⟨[.c (cL enc_Metric a1), .no, .no, .row 0, qi 0], [], [rr 3 enc_Metric m2 true]⟩ mO lE ?_ ?_
 ·
  rintro t1 rfl
  exact au0 H
 ·
  intro V1 hV1 hW1 hX1
  refine (laws_toMetricS.l0.partial_correctness a1 (fun v3 v4 s' => s' = t9 → (V1 ⟨[.c (cL enc_Metric a1), .no, .no, .row 0, qi v3], [], [rr 3 enc_Metric v4 true]⟩)) ?_ _ _ _ ht9 rfl)
  intro l0 IH1 v3 v4 s' H1 e
  subst e
  refine hV1 _ ?_
  have J1a := fun {v3 v4 τ} h l => hW1 _ τ ((IH1 v3 v4 _ h rfl)) l
  exact au H1 (aL @J1a hX1 (aA H trivial))⟩
instance laws_toPace_ok  {a1 : Pace} : FOK R (laws_toPace a1) 46 [gPace a1] fun r => (gPace r, []) := ⟨fun {r} H => by
 unfold laws_toPace at H
 refine fw false 17 Try.func46 ?_
 exact au0 H⟩
instance laws_toNote_ok  {a1 : Note} : FOK R (laws_toNote a1) 72 [gNote a1] fun r => (gNote r, []) := ⟨fun {r} H => by
 unfold laws_toNote at H
 refine fw false 11 Try.func72 ?_
 exact au0 H⟩
instance laws_toNoteS_ok  {a1 : List Note} : FOK R (laws_toNoteS a1) 47 [.c (cL enc_Note a1) none] fun r => (.c (cL enc_Note r) (some (2, false)), []) := ⟨fun {r} H => by
 unfold laws_toNoteS at H
 refine fw false 23 Try.func47 ?_
 refine s_ ?_
 obtain ⟨m2, hm2, H⟩ := bnd H
 refine b_ hm2 ?_
 refine s_ ?_
 obtain ⟨t9, ht9, H⟩ := bnd H
 refine loop_rule (ls := []) 0 (fun t9 : List Note => ⟨[.no, .no, .no, .row 0], [], [rr 2 enc_Note t9 true]⟩) (fun t => t9 = t) ⟨[.c (cL enc_Note a1), .no, .no, .row 0, qi 0], [], [rr 2 enc_Note m2 true]⟩ mO lE ?_ ?_
 ·
  rintro t1 rfl
  exact au0 H
 ·
  intro V1 hV1 hW1 hX1
  refine (laws_toNoteS.l0.partial_correctness a1 (fun v3 v4 s' => s' = t9 → (V1 ⟨[.c (cL enc_Note a1), .no, .no, .row 0, qi v3], [], [rr 2 enc_Note v4 true]⟩)) ?_ _ _ _ ht9 rfl)
  intro l0 IH1 v3 v4 s' H1 e
  subst e
  refine hV1 _ ?_
  have J1a := fun {v3 v4 τ} h l => hW1 _ τ ((IH1 v3 v4 _ h rfl)) l
  exact au H1 (aL @J1a hX1 (aA H trivial))⟩
instance laws_toOrder_ok  {a1 : Order} : FOK R (laws_toOrder a1) 24 [gOrder a1] fun r => (gOrder_oo r, []) := ⟨fun {r} H => by
 unfold laws_toOrder at H
 refine fw false 29 Try.func24 ?_
 exact au0 H⟩
instance laws_toItem_ok  {a1 : Item} : FOK R (laws_toItem a1) 55 [gItem a1] fun r => (gItem_oo r, []) := ⟨fun {r} H => by
 unfold laws_toItem at H
 refine fw false 12 Try.func55 ?_
 exact au0 H⟩
instance laws_toItemS_ok  {a1 : List Item} : FOK R (laws_toItemS a1) 31 [.c (cL enc_Item a1) none] fun r => (.c (cL enc_Item r) (some (11, true)), []) := ⟨fun {r} H => by
 unfold laws_toItemS at H
 refine fw false 23 Try.func31 ?_
 refine s_ ?_
 obtain ⟨m2, hm2, H⟩ := bnd H
 refine WO_op (x := .row 0) (σ' := ⟨[], [], [rd 11 enc_Item m2]⟩) rfl rfl (ev_mkD (en := enc_Item) hm2 rfl rfl rfl rfl rfl rfl rfl rfl rfl rfl rfl rfl rfl rfl rfl rfl) (n1 ?_)
 refine s_ ?_
 obtain ⟨t9, ht9, H⟩ := bnd H
 refine loop_rule (ls := []) 0 (fun t9 : List Item => ⟨[.no, .no, .no, .row 0], [], [rd 11 enc_Item t9]⟩) (fun t => t9 = t) ⟨[.c (cL enc_Item a1), .no, .no, .row 0, qi 0], [], [rd 11 enc_Item m2]⟩ mO lE ?_ ?_
 ·
  rintro t1 rfl
  exact au0 H
 ·
  intro V1 hV1 hW1 hX1
  refine (laws_toItemS.l0.partial_correctness a1 (fun v3 v4 s' => s' = t9 → (V1 ⟨[.c (cL enc_Item a1), .no, .no, .row 0, qi v3], [], [rd 11 enc_Item v4]⟩)) ?_ _ _ _ ht9 rfl)
  intro l0 IH1 v3 v4 s' H1 e
  subst e
  refine hV1 _ ?_
  have J1a := fun {v3 v4 τ} h l => hW1 _ τ ((IH1 v3 v4 _ h rfl)) l
  refine s_ ?_
  refine W_ite rfl H1 (fun hc H1 => ?_) (fun hc H1 => ?_)
  ·
   refine s_ ?_
   obtain ⟨x5, hx5, H1⟩ := bnd H1
   refine b_ hx5 ?_
   refine s_ ?_
   obtain ⟨x6, hx6, H1⟩ := bnd H1
   refine b_ hx6 ?_
   obtain ⟨x7, hx7, H1⟩ := bnd H1
   refine b_ hx7 ?_
   obtain ⟨m8, hm8, H1⟩ := bnd H1
   refine WO_op (x := .no) (σ' := ⟨[], [], [rd 11 enc_Item m8, none, none]⟩) rfl rfl (ev_stD (en := enc_Item) hm8 hx7 (dg_c (dg_c (dg_c (dg_c (dg_f (fl_Metric _) rfl (dg_c (dg_c (dg_c (dg_c (dg_f (fl_Note _) rfl (dg_c dg_nil))))))))))) rfl rfl rfl rfl rfl rfl rfl rfl) (n1 ?_)
   exact au H1 (aL @J1a hX1 (aA H trivial))
  ·
   exact au H1 (aL @J1a hX1 (aA H trivial))⟩
instance laws_toStore_ok  {a1 : Store} : FOK R (laws_toStore a1) 9 [gStore a1] fun r => (gStore_d r, []) := ⟨fun {r} H => by
 unfold laws_toStore at H
 refine fw false 12 Try.func9 ?_
 exact au0 H⟩
instance spec_l6Copy_ok  {a1 : Order} : FOK R (spec_l6Copy a1) 30 [gOrder a1] fun r => (gOrder_oo r, []) := ⟨fun {r} H => by
 unfold spec_l6Copy at H
 refine fw false 14 Try.func30 ?_
 exact au0 H⟩
instance spec_l13Copy_ok  {a1 : Store} : FOK R (spec_l13Copy a1) 37 [gStore a1] fun r => (gStore_o r, []) := ⟨fun {r} H => by
 unfold spec_l13Copy at H
 refine fw false 35 Try.func37 ?_
 refine s_ ?_
 obtain ⟨t8, ht8, H⟩ := bnd H
 refine loop_ruleM (ls := []) 0 (fun (i : Nat) (t8 : List Item) => match i with | 0 => ⟨[.no, .no, .bp 0 0, .bp 1 0], [some [.nil, qi 0], some [.nil, qi a1.Next]], []⟩ | _ => ⟨[.no, .no, .bp 0 0, .bp 1 0], [some [.nil, qi 0], some [.row 0, qi a1.Next]], [rr 11 enc_Item t8 true]⟩) (fun (i : Nat) t => match i with | 0 => t8 = t ∧ t = [] | 1 => t8 = t | _ => False) ⟨[.no, .bp 0 0, .bp 1 0, .bp 2 0, qi 0], [some [.c (cL enc_Item a1.Items), qi a1.Next], some [.nil, qi 0], some [.nil, qi a1.Next]], []⟩ mO lE ?_ ?_
 ·
  intro i t1 hp
  rcases i with _ | _ | i
  ·
   obtain ⟨rfl, hz_t8_0⟩ := hp
   refine s_ ?_
   obtain rfl := Option.some.inj H
   exact told5 rfl rfl rfl rfl rfl (by simp only [hz_t8_0]; try rfl)
  ·
   obtain rfl := hp
   exact au0 H
  ·
   exact hp.elim
 ·
  intro V1 hV1 hW1 hX1
  refine (spec_l13Copy.l0.partial_correctness a1 (fun v2 v3 s' => s' = t8 → (v3 = [] → V1 ⟨[.no, .bp 0 0, .bp 1 0, .bp 2 0, qi v2], [some [.c (cL enc_Item a1.Items), qi a1.Next], some [.nil, qi 0], some [.nil, qi a1.Next]], []⟩) ∧ (V1 ⟨[.no, .bp 0 0, .bp 1 0, .bp 2 0, qi v2], [some [.c (cL enc_Item a1.Items), qi a1.Next], some [.nil, qi 0], some [.row 0, qi a1.Next]], [rr 11 enc_Item v3 true]⟩)) ?_ _ _ _ ht8 rfl).1 rfl
  intro l0 IH1 v2 v3 s' H1 e
  subst e
  refine ⟨?_, ?_⟩
  ·
   intro hn_v3
   refine hV1 _ ?_
   have J1a := fun {v2 v3 τ} h n0 l => hW1 _ τ ((IH1 v2 v3 _ h rfl).1 n0) l
   have J1b := fun {v2 v3 τ} h l => hW1 _ τ ((IH1 v2 v3 _ h rfl).2) l
   exact au H1 (aL @J1b (hX1 0) (aA H trivial))
  ·
   skip
   refine hV1 _ ?_
   have J1a := fun {v2 v3 τ} h n0 l => hW1 _ τ ((IH1 v2 v3 _ h rfl).1 n0) l
   have J1b := fun {v2 v3 τ} h l => hW1 _ τ ((IH1 v2 v3 _ h rfl).2) l
   exact au H1 (aL @J1b (hX1 1) (aA H trivial))⟩
instance spec_l1In_ok  {a1 : Int} {a2 : Int} {a3 : Int} : FOK R (spec_l1In a1 a2 a3) 62 [.c (cI .i64 a1) none, .c (cI .i64 a2) none, .c (cI .i64 a3) none] fun r => (.c (cB r) none, []) := ⟨fun {r} H => by
 unfold spec_l1In at H
 refine fw false 15 Try.func62 ?_
 exact au0 H⟩
instance spec_NameOk_ok  {a1 : Str} : FOK R (spec_NameOk a1) 81 [.c (cS a1) none] fun r => (.c (cB r) none, []) := ⟨fun {r} H => by
 unfold spec_NameOk at H
 refine fw false 40 Try.func81 ?_
 refine s_ ?_
 obtain ⟨s6, hs6, H⟩ := bnd H
 refine loop_rule (ls := []) 0 (fun t4 : Unit => ⟨[qs a1], [], []⟩) (fun t => s6 = .inr t) ⟨[qs a1, .no, .no, qi 0], [], []⟩ mO lE ?_ ?_
 ·
  rintro t4 rfl
  exact au0 H
 ·
  intro V1 hV1 hW1 hX1
  refine (spec_NameOk.l0.partial_correctness a1 (fun v2 s' => s' = s6 → (V1 ⟨[qs a1, .no, .no, qi v2], [], []⟩)) ?_ _ _ hs6 rfl)
  intro l0 IH1 v2 s' H1 e
  subst e
  refine hV1 _ ?_
  have J1a := fun {v2 τ} h l => hW1 _ τ ((IH1 v2 _ h rfl)) l
  exact au H1 (aL @J1a hX1 (aA H trivial))⟩
instance spec_MetricOk_ok  {a1 : Metric} : FOK R (spec_MetricOk a1) 91 [gMetric a1] fun r => (.c (cB r) none, []) := ⟨fun {r} H => by
 unfold spec_MetricOk at H
 refine fw false 16 Try.func91 ?_
 exact au0 H⟩
instance spec_l6Metrics_ok  {a1 : List Metric} : FOK R (spec_l6Metrics a1) 82 [.c (cL enc_Metric a1) none] fun r => (.c (cB r) none, []) := ⟨fun {r} H => by
 unfold spec_l6Metrics at H
 refine fw false 37 Try.func82 ?_
 refine s_ ?_
 obtain ⟨s8, hs8, H⟩ := bnd H
 refine loop_rule (ls := []) 0 (fun t7 : Unit => ⟨[.c (cL enc_Metric a1)], [], []⟩) (fun t => s8 = .inr t) ⟨[.c (cL enc_Metric a1), .no, .no, qi 0], [], []⟩ mO lE ?_ ?_
 ·
  rintro t7 rfl
  exact au0 H
 ·
  intro V1 hV1 hW1 hX1
  refine (spec_l6Metrics.l0.partial_correctness a1 (fun v2 s' => s' = s8 → (V1 ⟨[.c (cL enc_Metric a1), .no, .no, qi v2], [], []⟩)) ?_ _ _ hs8 rfl)
  intro l0 IH1 v2 s' H1 e
  subst e
  refine hV1 _ ?_
  have J1a := fun {v2 τ} h l => hW1 _ τ ((IH1 v2 _ h rfl)) l
  exact au H1 (aL @J1a hX1 (aA H trivial))⟩
instance spec_PaceOk_ok  {a1 : Pace} : FOK R (spec_PaceOk a1) 83 [gPace a1] fun r => (.c (cB r) none, []) := ⟨fun {r} H => by
 unfold spec_PaceOk at H
 refine fw false 21 Try.func83 ?_
 exact au0 H⟩
instance spec_l5Letter_ok  {a1 : Int} : FOK R (spec_l5Letter a1) 101 [.c (cI .u8 a1) none] fun r => (.c (cB r) none, []) := ⟨fun {r} H => by
 unfold spec_l5Letter at H
 refine fw false 17 Try.func101 ?_
 exact au0 H⟩
instance spec_PlainOk_ok  {a1 : Str} : FOK R (spec_PlainOk a1) 92 [.c (cS a1) none] fun r => (.c (cB r) none, []) := ⟨fun {r} H => by
 unfold spec_PlainOk at H
 refine fw false 61 Try.func92 ?_
 refine s_ ?_
 obtain ⟨s7, hs7, H⟩ := bnd H
 refine loop_rule (ls := []) 0 (fun t5 : Unit => ⟨[qs a1], [], []⟩) (fun t => s7 = .inr t) ⟨[qs a1, .no, .no, qi 0], [], []⟩ mO lE ?_ ?_
 ·
  rintro t5 rfl
  exact au0 H
 ·
  intro V1 hV1 hW1 hX1
  refine (spec_PlainOk.l0.partial_correctness a1 (fun v2 s' => s' = s7 → (V1 ⟨[qs a1, .no, .no, qi v2], [], []⟩)) ?_ _ _ hs7 rfl)
  intro l0 IH1 v2 s' H1 e
  subst e
  refine hV1 _ ?_
  have J1a := fun {v2 τ} h l => hW1 _ τ ((IH1 v2 _ h rfl)) l
  exact au H1 (aL @J1a hX1 (aA H trivial))⟩
instance spec_l6Ours_ok  {a1 : Str} : FOK R (spec_l6Ours a1) 93 [.c (cS a1) none] fun r => (.c (cB r) none, []) := ⟨fun {r} H => by
 unfold spec_l6Ours at H
 refine fw false 11 Try.func93 ?_
 exact au0 H⟩
instance spec_TextOk_ok  {a1 : Str} : FOK R (spec_TextOk a1) 94 [.c (cS a1) none] fun r => (.c (cB r) none, []) := ⟨fun {r} H => by
 unfold spec_TextOk at H
 refine fw false 23 Try.func94 ?_
 refine s_ ?_
 obtain ⟨s6, hs6, H⟩ := bnd H
 refine loop_rule (ls := []) 0 (fun t5 : Unit => ⟨[qs a1], [], []⟩) (fun t => s6 = .inr t) ⟨[qs a1, .no, .no, qi 0], [], []⟩ mO lE ?_ ?_
 ·
  rintro t5 rfl
  exact au0 H
 ·
  intro V1 hV1 hW1 hX1
  refine (spec_TextOk.l0.partial_correctness a1 (fun v2 s' => s' = s6 → (V1 ⟨[qs a1, .no, .no, qi v2], [], []⟩)) ?_ _ _ hs6 rfl)
  intro l0 IH1 v2 s' H1 e
  subst e
  refine hV1 _ ?_
  have J1a := fun {v2 τ} h l => hW1 _ τ ((IH1 v2 _ h rfl)) l
  exact au H1 (aL @J1a hX1 (aA H trivial))⟩
instance spec_l6Notes_ok  {a1 : List Note} : FOK R (spec_l6Notes a1) 84 [.c (cL enc_Note a1) none] fun r => (.c (cB r) none, []) := ⟨fun {r} H => by
 unfold spec_l6Notes at H
 refine fw false 64 Try.func84 ?_
 refine s_ ?_
 obtain ⟨s13, hs13, H⟩ := bnd H
 refine loop_rule (ls := []) 0 (fun t12 : Unit => ⟨[.c (cL enc_Note a1)], [], []⟩) (fun t => s13 = .inr t) ⟨[.c (cL enc_Note a1), .no, .no, qi 0], [], []⟩ mO lE ?_ ?_
 ·
  rintro t12 rfl
  exact au0 H
 ·
  intro V1 hV1 hW1 hX1
  refine (spec_l6Notes.l0.partial_correctness a1 (fun v2 s' => s' = s13 → (V1 ⟨[.c (cL enc_Note a1), .no, .no, qi v2], [], []⟩)) ?_ _ _ hs13 rfl)
  intro l0 IH1 v2 s' H1 e
  subst e
  refine hV1 _ ?_
  have J1a := fun {v2 τ} h l => hW1 _ τ ((IH1 v2 _ h rfl)) l
  exact au H1 (aL @J1a hX1 (aA H trivial))⟩
instance spec_OrderOk_ok  {a1 : Order} : FOK R (spec_OrderOk a1) 63 [gOrder a1] fun r => (.c (cB r) none, []) := ⟨fun {r} H => by
 unfold spec_OrderOk at H
 refine fw false 38 Try.func63 ?_
 exact au0 H⟩
instance spec_StoreOk_ok  {a1 : Store} : FOK R (spec_StoreOk a1) 38 [gStore a1] fun r => (.c (cB r) none, []) := ⟨fun {r} H => by
 unfold spec_StoreOk at H
 refine fw false 73 Try.func38 ?_
 refine s_ ?_
 obtain ⟨x2, hx2, H⟩ := bnd H
 refine b_ hx2 ?_
 refine s_ ?_
 refine WO_iA H (fun hc H => ?_) (fun hc H => ?_)
 ·
  exact au0 H
 ·
  refine s_ ?_
  refine W_ite rfl H (fun hc H => ?_) (fun hc H => ?_)
  ·
   exact au0 H
  ·
   refine s_ ?_
   obtain ⟨s17, hs17, H⟩ := bnd H
   refine loop_rule (ls := []) 0 (fun t16 : Unit => ⟨[], [], []⟩) (fun t => s17 = .inr t) ⟨[.no, .bp 0 0, .no, qi 0], [some [.c (cL enc_Item a1.Items), qi a1.Next]], []⟩ mO lE ?_ ?_
   ·
    rintro t16 rfl
    exact au0 H
   ·
    intro V1 hV1 hW1 hX1
    refine (spec_StoreOk.l0.partial_correctness a1 (fun v3 s' => s' = s17 → (V1 ⟨[.no, .bp 0 0, .no, qi v3], [some [.c (cL enc_Item a1.Items), qi a1.Next]], []⟩)) ?_ _ _ hs17 rfl)
    intro l0 IH1 v3 s' H1 e
    subst e
    refine hV1 _ ?_
    have J1a := fun {v3 τ} h l => hW1 _ τ ((IH1 v3 _ h rfl)) l
    refine s_ ?_
    refine W_ite rfl H1 (fun hc H1 => ?_) (fun hc H1 => ?_)
    ·
     refine s_ ?_
     obtain ⟨x4, hx4, H1⟩ := bnd H1
     refine b_ hx4 ?_
     refine s_ ?_
     obtain ⟨x5, hx5, H1⟩ := bnd H1
     refine b_ hx5 ?_
     refine s_ ?_
     refine WO_iA H1 (fun hc H1 => ?_) (fun hc H1 => ?_)
     ·
      exact au H1 (aL @J1a hX1 (aA H trivial))
     ·
      refine s_ ?_
      obtain ⟨x6, hx6, H1⟩ := bnd H1
      refine b_ hx6 ?_
      refine s_ ?_
      refine WO_iA H1 (fun hc H1 => ?_) (fun hc H1 => ?_)
      ·
       exact au H1 (aL @J1a hX1 (aA H trivial))
      ·
       refine s_ ?_
       refine WO_iA H1 (fun hc H1 => ?_) (fun hc H1 => ?_)
       ·
        refine s_ ?_
        obtain ⟨x7, hx7, H1⟩ := bnd H1
        refine b_ hx7 ?_
        refine s_ ?_
        refine W_ite rfl H1 (fun hc H1 => ?_) (fun hc H1 => ?_)
        ·
         exact au H1 (aL @J1a hX1 (aA H trivial))
        ·
         refine s_ ?_
         obtain ⟨s11, hs11, H1⟩ := bnd H1
         refine loop_rule (ls := []) 2 (fun t10 : Unit => ⟨[.no, .bp 0 0, .no, qi v3], [some [.c (cL enc_Item a1.Items), qi a1.Next]], []⟩) (fun t => s11 = .inr t) ⟨[.no, .bp 0 0, .no, qi v3, .bp 1 0, qi 0], [some [.c (cL enc_Item a1.Items), qi a1.Next], some (uO x4.Order (.c (cL enc_Metric x4.Order.Metrics)) (.c (cL enc_Note x4.Order.Notes)) [qi x4.Ver])], []⟩ mO lE ?_ ?_
         ·
          rintro t10 rfl
          exact au H1 (aL @J1a hX1 (aA H trivial))
         ·
          intro V2 hV2 hW2 hX2
          refine (spec_StoreOk.l1.partial_correctness a1 v3 x4 (fun v8 s' => s' = s11 → (V2 ⟨[.no, .bp 0 0, .no, qi v3, .bp 1 0, qi v8], [some [.c (cL enc_Item a1.Items), qi a1.Next], some (uO x4.Order (.c (cL enc_Metric x4.Order.Metrics)) (.c (cL enc_Note x4.Order.Notes)) [qi x4.Ver])], []⟩)) ?_ _ _ hs11 rfl)
          intro l0 IH2 v8 s' H2 e
          subst e
          refine hV2 _ ?_
          have J2a := fun {v8 τ} h l => hW2 _ τ ((IH2 v8 _ h rfl)) l
          exact au H2 (aL @J2a hX2 (aA H1 (aA H trivial)))
       ·
        refine s_ ?_
        obtain ⟨s15, hs15, H1⟩ := bnd H1
        refine loop_rule (ls := []) 2 (fun t14 : Unit => ⟨[.no, .bp 0 0, .no, qi v3], [some [.c (cL enc_Item a1.Items), qi a1.Next]], []⟩) (fun t => s15 = .inr t) ⟨[.no, .bp 0 0, .no, qi v3, .bp 1 0, qi 0], [some [.c (cL enc_Item a1.Items), qi a1.Next], some (uO x4.Order (.c (cL enc_Metric x4.Order.Metrics)) (.c (cL enc_Note x4.Order.Notes)) [qi x4.Ver])], []⟩ mO lE ?_ ?_
        ·
         rintro t14 rfl
         exact au H1 (aL @J1a hX1 (aA H trivial))
        ·
         intro V2 hV2 hW2 hX2
         refine (spec_StoreOk.l2.partial_correctness a1 v3 x4 (fun v12 s' => s' = s15 → (V2 ⟨[.no, .bp 0 0, .no, qi v3, .bp 1 0, qi v12], [some [.c (cL enc_Item a1.Items), qi a1.Next], some (uO x4.Order (.c (cL enc_Metric x4.Order.Metrics)) (.c (cL enc_Note x4.Order.Notes)) [qi x4.Ver])], []⟩)) ?_ _ _ hs15 rfl)
         intro l0 IH2 v12 s' H2 e
         subst e
         refine hV2 _ ?_
         have J2a := fun {v12 τ} h l => hW2 _ τ ((IH2 v12 _ h rfl)) l
         exact au H2 (aL @J2a hX2 (aA H1 (aA H trivial)))
    ·
     exact au H1 (aL @J1a hX1 (aA H trivial))⟩
instance spec_l13At_ok  {a1 : Store} {a2 : Str} : FOK R (spec_l13At a1 a2) 29 [gStore a1, .c (cS a2) none] fun r => (.c (cI .i64 r) none, []) := ⟨fun {r} H => by
 unfold spec_l13At at H
 refine fw false 23 Try.func29 ?_
 refine s_ ?_
 obtain ⟨s6, hs6, H⟩ := bnd H
 refine loop_rule (ls := []) 0 (fun t5 : Unit => ⟨[], [], []⟩) (fun t => s6 = .inr t) ⟨[.no, qs a2, .bp 0 0, .no, .no, qi 0], [some [.c (cL enc_Item a1.Items), qi a1.Next]], []⟩ mO lE ?_ ?_
 ·
  rintro t5 rfl
  exact au0 H
 ·
  intro V1 hV1 hW1 hX1
  refine (spec_l13At.l0.partial_correctness a1 a2 (fun v3 s' => s' = s6 → (V1 ⟨[.no, qs a2, .bp 0 0, .no, .no, qi v3], [some [.c (cL enc_Item a1.Items), qi a1.Next]], []⟩)) ?_ _ _ hs6 rfl)
  intro l0 IH1 v3 s' H1 e
  subst e
  refine hV1 _ ?_
  have J1a := fun {v3 τ} h l => hW1 _ τ ((IH1 v3 _ h rfl)) l
  exact au H1 (aL @J1a hX1 (aA H trivial))⟩
instance spec_Find_ok  {a1 : Store} {a2 : Str} : FOK R (spec_Find a1 a2) 8 [gStore a1, .c (cS a2) none] fun r => (.tu [gItem_oo r.1, .c (cB r.2) none], []) := ⟨fun {r} H => by
 unfold spec_Find at H
 refine fw false 27 Try.func8 ?_
 exact au0 H⟩
instance spec_Drop_ok  {a1 : Store} {a2 : Str} : FOK R (spec_Drop a1 a2) 16 [gStore a1, .c (cS a2) none] fun r => (.tu [gStore_o r.1, .c (cB r.2) none], []) := ⟨fun {r} H => by
 unfold spec_Drop at H
 refine fw false 35 Try.func16 ?_
 exact au0 H⟩
instance spec_Delete_ok  {a1 : Store} {a2 : Str} : FOK R (spec_Delete a1 a2) 19 [gStore a1, .c (cS a2) none] fun r => (.tu [gStore_o r.1, gAnswer r.2], []) := ⟨fun {r} H => by
 unfold spec_Delete at H
 refine fw false 42 Try.func19 ?_
 exact au0 H⟩
instance impl_from_ok  {a1 : Int} {a2 : Int} {a3 : Int} : FOK R (impl_from a1 a2 a3) 65 [.c (cI .i64 a1) none, .c (cI .i64 a2) none, .c (cI .i64 a3) none] fun r => (.c (cB r) none, []) := ⟨fun {r} H => by
 unfold impl_from at H
 refine fw false 15 Try.func65 ?_
 exact au0 H⟩
instance impl_isDigit_ok  {a1 : Int} : FOK R (impl_isDigit a1) 95 [.c (cI .u8 a1) none] fun r => (.c (cB r) none, []) := ⟨fun {r} H => by
 unfold impl_isDigit at H
 refine fw false 9 Try.func95 ?_
 exact au0 H⟩
end Go.Pu
