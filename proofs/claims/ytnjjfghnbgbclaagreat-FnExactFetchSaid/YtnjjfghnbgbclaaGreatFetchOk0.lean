import Derived.Test.YtnjjfghnbgbclaaGreatFetchEn
set_option linter.unusedVariables false
set_option linter.unusedSimpArgs false
set_option synthInstance.maxSize 1000000000
set_option maxRecDepth 20000
set_option maxHeartbeats 20000000
namespace Go.Pu
open Go Go.SX Go.Nt Go.Proofs
instance laws_szMetric_ok  {a1 : Metric} {a2 : Int} : FOK R (laws_szMetric a1 a2) 108 [gMetric a1, .c (cI .i64 a2) none] fun r => (.c (cI .i64 r) none, []) := ⟨fun {r} H => by
 unfold laws_szMetric at H
 refine fw false 13 Tryz.func108 ?_
 exact au0 H⟩
instance laws_szMetricS_ok  {a1 : List Metric} {a2 : Int} : FOK R (laws_szMetricS a1 a2) 60 [.c (cL enc_Metric a1) none, .c (cI .i64 a2) none] fun r => (.c (cI .i64 r) none, []) := ⟨fun {r} H => by
 unfold laws_szMetricS at H
 refine fw false 27 Tryz.func60 ?_
 refine s_ ?_
 refine W_ite rfl H (fun hc H => ?_) (fun hc H => ?_)
 ·
  exact au0 H
 ·
  refine s_ ?_
  obtain ⟨s8, hs8, H⟩ := bnd H
  refine loop_rule (ls := []) 0 (fun t7 : Int => ⟨[.no, qi t7], [], []⟩) (fun t => s8 = .inr t) ⟨[.c (cL enc_Metric a1), qi (IntKind.i64.wrap (a2 - (a1.length : Int))), .no, .no, .no, qi 0], [], []⟩ mO lE ?_ ?_
  ·
   rintro t7 rfl
   exact au0 H
  ·
   intro V1 hV1 hW1 hX1
   refine (laws_szMetricS.l0.partial_correctness a1 (fun v3 v4 s' => s' = s8 → (V1 ⟨[.c (cL enc_Metric a1), qi v3, .no, .no, .no, qi v4], [], []⟩)) ?_ _ _ _ hs8 rfl)
   intro l0 IH1 v3 v4 s' H1 e
   subst e
   refine hV1 _ ?_
   have J1a := fun {v3 v4 τ} h l => hW1 _ τ ((IH1 v3 v4 _ h rfl)) l
   exact au H1 (aL @J1a hX1 (aA H trivial))⟩
instance laws_szNote_ok  {a1 : Note} {a2 : Int} : FOK R (laws_szNote a1 a2) 109 [gNote a1, .c (cI .i64 a2) none] fun r => (.c (cI .i64 r) none, []) := ⟨fun {r} H => by
 unfold laws_szNote at H
 refine fw false 20 Tryz.func109 ?_
 exact au0 H⟩
instance laws_szNoteS_ok  {a1 : List Note} {a2 : Int} : FOK R (laws_szNoteS a1 a2) 61 [.c (cL enc_Note a1) none, .c (cI .i64 a2) none] fun r => (.c (cI .i64 r) none, []) := ⟨fun {r} H => by
 unfold laws_szNoteS at H
 refine fw false 27 Tryz.func61 ?_
 refine s_ ?_
 refine W_ite rfl H (fun hc H => ?_) (fun hc H => ?_)
 ·
  exact au0 H
 ·
  refine s_ ?_
  obtain ⟨s8, hs8, H⟩ := bnd H
  refine loop_rule (ls := []) 0 (fun t7 : Int => ⟨[.no, qi t7], [], []⟩) (fun t => s8 = .inr t) ⟨[.c (cL enc_Note a1), qi (IntKind.i64.wrap (a2 - (a1.length : Int))), .no, .no, .no, qi 0], [], []⟩ mO lE ?_ ?_
  ·
   rintro t7 rfl
   exact au0 H
  ·
   intro V1 hV1 hW1 hX1
   refine (laws_szNoteS.l0.partial_correctness a1 (fun v3 v4 s' => s' = s8 → (V1 ⟨[.c (cL enc_Note a1), qi v3, .no, .no, .no, qi v4], [], []⟩)) ?_ _ _ _ hs8 rfl)
   intro l0 IH1 v3 v4 s' H1 e
   subst e
   refine hV1 _ ?_
   have J1a := fun {v3 v4 τ} h l => hW1 _ τ ((IH1 v3 v4 _ h rfl)) l
   exact au H1 (aL @J1a hX1 (aA H trivial))⟩
instance laws_szOrder_ok  {a1 : Order} {a2 : Int} : FOK R (laws_szOrder a1 a2) 36 [gOrder a1, .c (cI .i64 a2) none] fun r => (.c (cI .i64 r) none, []) := ⟨fun {r} H => by
 unfold laws_szOrder at H
 refine fw false 32 Tryz.func36 ?_
 exact au0 H⟩
instance laws_szItem_ok  {a1 : Item} {a2 : Int} : FOK R (laws_szItem a1 a2) 19 [gItem a1, .c (cI .i64 a2) none] fun r => (.c (cI .i64 r) none, []) := ⟨fun {r} H => by
 unfold laws_szItem at H
 refine fw false 12 Tryz.func19 ?_
 exact au0 H⟩
instance laws_szItemS_ok  {a1 : List Item} {a2 : Int} : FOK R (laws_szItemS a1 a2) 10 [.c (cL enc_Item a1) none, .c (cI .i64 a2) none] fun r => (.c (cI .i64 r) none, []) := ⟨fun {r} H => by
 unfold laws_szItemS at H
 refine fw false 27 Tryz.func10 ?_
 refine s_ ?_
 refine W_ite rfl H (fun hc H => ?_) (fun hc H => ?_)
 ·
  exact au0 H
 ·
  refine s_ ?_
  obtain ⟨s8, hs8, H⟩ := bnd H
  refine loop_rule (ls := []) 0 (fun t7 : Int => ⟨[.no, qi t7], [], []⟩) (fun t => s8 = .inr t) ⟨[.c (cL enc_Item a1), qi (IntKind.i64.wrap (a2 - (a1.length : Int))), .no, .no, .no, qi 0], [], []⟩ mO lE ?_ ?_
  ·
   rintro t7 rfl
   exact au0 H
  ·
   intro V1 hV1 hW1 hX1
   refine (laws_szItemS.l0.partial_correctness a1 (fun v3 v4 s' => s' = s8 → (V1 ⟨[.c (cL enc_Item a1), qi v3, .no, .no, .no, qi v4], [], []⟩)) ?_ _ _ _ hs8 rfl)
   intro l0 IH1 v3 v4 s' H1 e
   subst e
   refine hV1 _ ?_
   have J1a := fun {v3 v4 τ} h l => hW1 _ τ ((IH1 v3 v4 _ h rfl)) l
   exact au H1 (aL @J1a hX1 (aA H trivial))⟩
instance laws_szStore_ok  {a1 : Store} {a2 : Int} : FOK R (laws_szStore a1 a2) 4 [gStore a1, .c (cI .i64 a2) none] fun r => (.c (cI .i64 r) none, []) := ⟨fun {r} H => by
 unfold laws_szStore at H
 refine fw false 12 Tryz.func4 ?_
 exact au0 H⟩
instance laws_toMetric_ok  {a1 : Metric} : FOK R (laws_toMetric a1) 122 [gMetric a1] fun r => (gMetric r, []) := ⟨fun {r} H => by
 unfold laws_toMetric at H
 refine fw false 14 Tryz.func122 ?_
 exact au0 H⟩
instance laws_toMetricS_ok  {a1 : List Metric} : FOK R (laws_toMetricS a1) 81 [.c (cL enc_Metric a1) none] fun r => (.c (cL enc_Metric r) (some (3, false)), []) := ⟨fun {r} H => by
 unfold laws_toMetricS at H
 refine fw false 23 Tryz.func81 ?_
 refine s_ ?_
 obtain ⟨m2, hm2, H⟩ := bnd H
 refine b_ hm2 ?_
 refine s_ ?_
 obtain ⟨t9, ht9, H⟩ := bnd H
 refine loop_rule (ls := []) 0 (fun t9 : List Metric => ⟨[.no, .no, .no, .row 0], [], [rr 3 enc_Metric t9 true]⟩) (fun t => t9 = t) ⟨[.c (cL enc_Metric a1), .no, .no, .row 0, qi 0], [], [rr 3 enc_Metric m2 true]⟩ mO lE ?_ ?_
 ·
  rintro t1 rfl
  exact au0 H
 ·
  intro V1 hV1 hW1 hX1
  refine (laws_toMetricS.l0.partial_correctness a1 (fun v3 v4 s' => s' = t9 → (V1 ⟨[.c (cL enc_Metric a1), .no, .no, .row 0, qi v3], [], [rr 3 enc_Metric v4 true]⟩)) ?_ _ _ _ ht9 rfl)
  intro l0 IH1 v3 v4 s' H1 e
  subst e
  refine hV1 _ ?_
  have J1a := fun {v3 v4 τ} h l => hW1 _ τ ((IH1 v3 v4 _ h rfl)) l
  exact au H1 (aL @J1a hX1 (aA H trivial))⟩
instance laws_toPace_ok  {a1 : Pace} : FOK R (laws_toPace a1) 82 [gPace a1] fun r => (gPace r, []) := ⟨fun {r} H => by
 unfold laws_toPace at H
 refine fw false 17 Tryz.func82 ?_
 exact au0 H⟩
instance laws_toNote_ok  {a1 : Note} : FOK R (laws_toNote a1) 123 [gNote a1] fun r => (gNote r, []) := ⟨fun {r} H => by
 unfold laws_toNote at H
 refine fw false 11 Tryz.func123 ?_
 exact au0 H⟩
instance laws_toNoteS_ok  {a1 : List Note} : FOK R (laws_toNoteS a1) 83 [.c (cL enc_Note a1) none] fun r => (.c (cL enc_Note r) (some (2, false)), []) := ⟨fun {r} H => by
 unfold laws_toNoteS at H
 refine fw false 23 Tryz.func83 ?_
 refine s_ ?_
 obtain ⟨m2, hm2, H⟩ := bnd H
 refine b_ hm2 ?_
 refine s_ ?_
 obtain ⟨t9, ht9, H⟩ := bnd H
 refine loop_rule (ls := []) 0 (fun t9 : List Note => ⟨[.no, .no, .no, .row 0], [], [rr 2 enc_Note t9 true]⟩) (fun t => t9 = t) ⟨[.c (cL enc_Note a1), .no, .no, .row 0, qi 0], [], [rr 2 enc_Note m2 true]⟩ mO lE ?_ ?_
 ·
  rintro t1 rfl
  exact au0 H
 ·
  intro V1 hV1 hW1 hX1
  refine (laws_toNoteS.l0.partial_correctness a1 (fun v3 v4 s' => s' = t9 → (V1 ⟨[.c (cL enc_Note a1), .no, .no, .row 0, qi v3], [], [rr 2 enc_Note v4 true]⟩)) ?_ _ _ _ ht9 rfl)
  intro l0 IH1 v3 v4 s' H1 e
  subst e
  refine hV1 _ ?_
  have J1a := fun {v3 v4 τ} h l => hW1 _ τ ((IH1 v3 v4 _ h rfl)) l
  exact au H1 (aL @J1a hX1 (aA H trivial))⟩
instance laws_toOrder_ok  {a1 : Order} : FOK R (laws_toOrder a1) 46 [gOrder a1] fun r => (gOrder_oo r, []) := ⟨fun {r} H => by
 unfold laws_toOrder at H
 refine fw false 29 Tryz.func46 ?_
 exact au0 H⟩
instance laws_toItem_ok  {a1 : Item} : FOK R (laws_toItem a1) 26 [gItem a1] fun r => (gItem_oo r, []) := ⟨fun {r} H => by
 unfold laws_toItem at H
 refine fw false 12 Tryz.func26 ?_
 exact au0 H⟩
instance laws_toItemS_ok  {a1 : List Item} : FOK R (laws_toItemS a1) 14 [.c (cL enc_Item a1) none] fun r => (.c (cL enc_Item r) (some (11, false)), []) := ⟨fun {r} H => by
 unfold laws_toItemS at H
 refine fw false 23 Tryz.func14 ?_
 refine s_ ?_
 obtain ⟨m2, hm2, H⟩ := bnd H
 refine b_ hm2 ?_
 refine s_ ?_
 obtain ⟨t9, ht9, H⟩ := bnd H
 refine loop_rule (ls := []) 0 (fun t9 : List Item => ⟨[.no, .no, .no, .row 0], [], [rr 11 enc_Item t9 true]⟩) (fun t => t9 = t) ⟨[.c (cL enc_Item a1), .no, .no, .row 0, qi 0], [], [rr 11 enc_Item m2 true]⟩ mO lE ?_ ?_
 ·
  rintro t1 rfl
  exact au0 H
 ·
  intro V1 hV1 hW1 hX1
  refine (laws_toItemS.l0.partial_correctness a1 (fun v3 v4 s' => s' = t9 → (V1 ⟨[.c (cL enc_Item a1), .no, .no, .row 0, qi v3], [], [rr 11 enc_Item v4 true]⟩)) ?_ _ _ _ ht9 rfl)
  intro l0 IH1 v3 v4 s' H1 e
  subst e
  refine hV1 _ ?_
  have J1a := fun {v3 v4 τ} h l => hW1 _ τ ((IH1 v3 v4 _ h rfl)) l
  exact au H1 (aL @J1a hX1 (aA H trivial))⟩
instance laws_toStore_ok  {a1 : Store} : FOK R (laws_toStore a1) 6 [gStore a1] fun r => (gStore_o r, []) := ⟨fun {r} H => by
 unfold laws_toStore at H
 refine fw false 12 Tryz.func6 ?_
 exact au0 H⟩
instance spec_l13At_ok  {a1 : Store} {a2 : Str} : FOK R (spec_l13At a1 a2) 20 [gStore a1, .c (cS a2) none] fun r => (.c (cI .i64 r) none, []) := ⟨fun {r} H => by
 unfold spec_l13At at H
 refine fw false 23 Tryz.func20 ?_
 refine s_ ?_
 obtain ⟨s6, hs6, H⟩ := bnd H
 refine loop_rule (ls := []) 0 (fun t5 : Unit => ⟨[], [], []⟩) (fun t => s6 = .inr t) ⟨[.no, qs a2, .bp 0 0, .no, .no, qi 0], [some [.c (cL enc_Item a1.Items), qi a1.Next]], []⟩ mO lE ?_ ?_
 ·
  rintro t5 rfl
  exact au0 H
 ·
  intro V1 hV1 hW1 hX1
  refine (spec_l13At.l0.partial_correctness a1 a2 (fun v3 s' => s' = s6 → (V1 ⟨[.no, qs a2, .bp 0 0, .no, .no, qi v3], [some [.c (cL enc_Item a1.Items), qi a1.Next]], []⟩)) ?_ _ _ hs6 rfl)
  intro l0 IH1 v3 s' H1 e
  subst e
  refine hV1 _ ?_
  have J1a := fun {v3 τ} h l => hW1 _ τ ((IH1 v3 _ h rfl)) l
  exact au H1 (aL @J1a hX1 (aA H trivial))⟩
instance spec_l6Copy_ok  {a1 : Order} : FOK R (spec_l6Copy a1) 21 [gOrder a1] fun r => (gOrder_oo r, []) := ⟨fun {r} H => by
 unfold spec_l6Copy at H
 refine fw false 14 Tryz.func21 ?_
 exact au0 H⟩
instance spec_Find_ok  {a1 : Store} {a2 : Str} : FOK R (spec_Find a1 a2) 11 [gStore a1, .c (cS a2) none] fun r => (.tu [gItem_oo r.1, .c (cB r.2) none], []) := ⟨fun {r} H => by
 unfold spec_Find at H
 refine fw false 27 Tryz.func11 ?_
 exact au0 H⟩
instance spec_l1In_ok  {a1 : Int} {a2 : Int} {a3 : Int} : FOK R (spec_l1In a1 a2 a3) 22 [.c (cI .i64 a1) none, .c (cI .i64 a2) none, .c (cI .i64 a3) none] fun r => (.c (cB r) none, []) := ⟨fun {r} H => by
 unfold spec_l1In at H
 refine fw false 15 Tryz.func22 ?_
 exact au0 H⟩
instance spec_NameOk_ok  {a1 : Str} : FOK R (spec_NameOk a1) 37 [.c (cS a1) none] fun r => (.c (cB r) none, []) := ⟨fun {r} H => by
 unfold spec_NameOk at H
 refine fw false 40 Tryz.func37 ?_
 refine s_ ?_
 obtain ⟨s6, hs6, H⟩ := bnd H
 refine loop_rule (ls := []) 0 (fun t4 : Unit => ⟨[qs a1], [], []⟩) (fun t => s6 = .inr t) ⟨[qs a1, .no, .no, qi 0], [], []⟩ mO lE ?_ ?_
 ·
  rintro t4 rfl
  exact au0 H
 ·
  intro V1 hV1 hW1 hX1
  refine (spec_NameOk.l0.partial_correctness a1 (fun v2 s' => s' = s6 → (V1 ⟨[qs a1, .no, .no, qi v2], [], []⟩)) ?_ _ _ hs6 rfl)
  intro l0 IH1 v2 s' H1 e
  subst e
  refine hV1 _ ?_
  have J1a := fun {v2 τ} h l => hW1 _ τ ((IH1 v2 _ h rfl)) l
  exact au H1 (aL @J1a hX1 (aA H trivial))⟩
instance spec_MetricOk_ok  {a1 : Metric} : FOK R (spec_MetricOk a1) 62 [gMetric a1] fun r => (.c (cB r) none, []) := ⟨fun {r} H => by
 unfold spec_MetricOk at H
 refine fw false 16 Tryz.func62 ?_
 exact au0 H⟩
instance spec_l6Metrics_ok  {a1 : List Metric} : FOK R (spec_l6Metrics a1) 38 [.c (cL enc_Metric a1) none] fun r => (.c (cB r) none, []) := ⟨fun {r} H => by
 unfold spec_l6Metrics at H
 refine fw false 37 Tryz.func38 ?_
 refine s_ ?_
 obtain ⟨s8, hs8, H⟩ := bnd H
 refine loop_rule (ls := []) 0 (fun t7 : Unit => ⟨[.c (cL enc_Metric a1)], [], []⟩) (fun t => s8 = .inr t) ⟨[.c (cL enc_Metric a1), .no, .no, qi 0], [], []⟩ mO lE ?_ ?_
 ·
  rintro t7 rfl
  exact au0 H
 ·
  intro V1 hV1 hW1 hX1
  refine (spec_l6Metrics.l0.partial_correctness a1 (fun v2 s' => s' = s8 → (V1 ⟨[.c (cL enc_Metric a1), .no, .no, qi v2], [], []⟩)) ?_ _ _ hs8 rfl)
  intro l0 IH1 v2 s' H1 e
  subst e
  refine hV1 _ ?_
  have J1a := fun {v2 τ} h l => hW1 _ τ ((IH1 v2 _ h rfl)) l
  exact au H1 (aL @J1a hX1 (aA H trivial))⟩
instance spec_PaceOk_ok  {a1 : Pace} : FOK R (spec_PaceOk a1) 39 [gPace a1] fun r => (.c (cB r) none, []) := ⟨fun {r} H => by
 unfold spec_PaceOk at H
 refine fw false 21 Tryz.func39 ?_
 exact au0 H⟩
instance spec_l5Letter_ok  {a1 : Int} : FOK R (spec_l5Letter a1) 110 [.c (cI .u8 a1) none] fun r => (.c (cB r) none, []) := ⟨fun {r} H => by
 unfold spec_l5Letter at H
 refine fw false 17 Tryz.func110 ?_
 exact au0 H⟩
instance spec_PlainOk_ok  {a1 : Str} : FOK R (spec_PlainOk a1) 63 [.c (cS a1) none] fun r => (.c (cB r) none, []) := ⟨fun {r} H => by
 unfold spec_PlainOk at H
 refine fw false 61 Tryz.func63 ?_
 refine s_ ?_
 obtain ⟨s7, hs7, H⟩ := bnd H
 refine loop_rule (ls := []) 0 (fun t5 : Unit => ⟨[qs a1], [], []⟩) (fun t => s7 = .inr t) ⟨[qs a1, .no, .no, qi 0], [], []⟩ mO lE ?_ ?_
 ·
  rintro t5 rfl
  exact au0 H
 ·
  intro V1 hV1 hW1 hX1
  refine (spec_PlainOk.l0.partial_correctness a1 (fun v2 s' => s' = s7 → (V1 ⟨[qs a1, .no, .no, qi v2], [], []⟩)) ?_ _ _ hs7 rfl)
  intro l0 IH1 v2 s' H1 e
  subst e
  refine hV1 _ ?_
  have J1a := fun {v2 τ} h l => hW1 _ τ ((IH1 v2 _ h rfl)) l
  exact au H1 (aL @J1a hX1 (aA H trivial))⟩
instance spec_l6Ours_ok  {a1 : Str} : FOK R (spec_l6Ours a1) 64 [.c (cS a1) none] fun r => (.c (cB r) none, []) := ⟨fun {r} H => by
 unfold spec_l6Ours at H
 refine fw false 11 Tryz.func64 ?_
 exact au0 H⟩
instance spec_TextOk_ok  {a1 : Str} : FOK R (spec_TextOk a1) 65 [.c (cS a1) none] fun r => (.c (cB r) none, []) := ⟨fun {r} H => by
 unfold spec_TextOk at H
 refine fw false 23 Tryz.func65 ?_
 refine s_ ?_
 obtain ⟨s6, hs6, H⟩ := bnd H
 refine loop_rule (ls := []) 0 (fun t5 : Unit => ⟨[qs a1], [], []⟩) (fun t => s6 = .inr t) ⟨[qs a1, .no, .no, qi 0], [], []⟩ mO lE ?_ ?_
 ·
  rintro t5 rfl
  exact au0 H
 ·
  intro V1 hV1 hW1 hX1
  refine (spec_TextOk.l0.partial_correctness a1 (fun v2 s' => s' = s6 → (V1 ⟨[qs a1, .no, .no, qi v2], [], []⟩)) ?_ _ _ hs6 rfl)
  intro l0 IH1 v2 s' H1 e
  subst e
  refine hV1 _ ?_
  have J1a := fun {v2 τ} h l => hW1 _ τ ((IH1 v2 _ h rfl)) l
  exact au H1 (aL @J1a hX1 (aA H trivial))⟩
instance spec_l6Notes_ok  {a1 : List Note} : FOK R (spec_l6Notes a1) 40 [.c (cL enc_Note a1) none] fun r => (.c (cB r) none, []) := ⟨fun {r} H => by
 unfold spec_l6Notes at H
 refine fw false 64 Tryz.func40 ?_
 refine s_ ?_
 obtain ⟨s13, hs13, H⟩ := bnd H
 refine loop_rule (ls := []) 0 (fun t12 : Unit => ⟨[.c (cL enc_Note a1)], [], []⟩) (fun t => s13 = .inr t) ⟨[.c (cL enc_Note a1), .no, .no, qi 0], [], []⟩ mO lE ?_ ?_
 ·
  rintro t12 rfl
  exact au0 H
 ·
  intro V1 hV1 hW1 hX1
  refine (spec_l6Notes.l0.partial_correctness a1 (fun v2 s' => s' = s13 → (V1 ⟨[.c (cL enc_Note a1), .no, .no, qi v2], [], []⟩)) ?_ _ _ hs13 rfl)
  intro l0 IH1 v2 s' H1 e
  subst e
  refine hV1 _ ?_
  have J1a := fun {v2 τ} h l => hW1 _ τ ((IH1 v2 _ h rfl)) l
  exact au H1 (aL @J1a hX1 (aA H trivial))⟩
instance spec_OrderOk_ok  {a1 : Order} : FOK R (spec_OrderOk a1) 23 [gOrder a1] fun r => (.c (cB r) none, []) := ⟨fun {r} H => by
 unfold spec_OrderOk at H
 refine fw false 38 Tryz.func23 ?_
 exact au0 H⟩
instance spec_StoreOk_ok  {a1 : Store} : FOK R (spec_StoreOk a1) 12 [gStore a1] fun r => (.c (cB r) none, []) := ⟨fun {r} H => by
 unfold spec_StoreOk at H
 refine fw false 73 Tryz.func12 ?_
 refine s_ ?_
 obtain ⟨x2, hx2, H⟩ := bnd H
 refine b_ hx2 ?_
 refine s_ ?_
 refine WO_iA H (fun hc H => ?_) (fun hc H => ?_)
 ·
  exact au0 H
 ·
  refine s_ ?_
  refine W_ite rfl H (fun hc H => ?_) (fun hc H => ?_)
  ·
   exact au0 H
  ·
   refine s_ ?_
   obtain ⟨s17, hs17, H⟩ := bnd H
   refine loop_rule (ls := []) 0 (fun t16 : Unit => ⟨[], [], []⟩) (fun t => s17 = .inr t) ⟨[.no, .bp 0 0, .no, qi 0], [some [.c (cL enc_Item a1.Items), qi a1.Next]], []⟩ mO lE ?_ ?_
   ·
    rintro t16 rfl
    exact au0 H
   ·
    intro V1 hV1 hW1 hX1
    refine (spec_StoreOk.l0.partial_correctness a1 (fun v3 s' => s' = s17 → (V1 ⟨[.no, .bp 0 0, .no, qi v3], [some [.c (cL enc_Item a1.Items), qi a1.Next]], []⟩)) ?_ _ _ hs17 rfl)
    intro l0 IH1 v3 s' H1 e
    subst e
    refine hV1 _ ?_
    have J1a := fun {v3 τ} h l => hW1 _ τ ((IH1 v3 _ h rfl)) l
    refine s_ ?_
    refine W_ite rfl H1 (fun hc H1 => ?_) (fun hc H1 => ?_)
    ·
     refine s_ ?_
     obtain ⟨x4, hx4, H1⟩ := bnd H1
     refine b_ hx4 ?_
     refine s_ ?_
     obtain ⟨x5, hx5, H1⟩ := bnd H1
     refine b_ hx5 ?_
     refine s_ ?_
     refine WO_iA H1 (fun hc H1 => ?_) (fun hc H1 => ?_)
     ·
      exact au H1 (aL @J1a hX1 (aA H trivial))
     ·
      refine s_ ?_
      obtain ⟨x6, hx6, H1⟩ := bnd H1
      refine b_ hx6 ?_
      refine s_ ?_
      refine WO_iA H1 (fun hc H1 => ?_) (fun hc H1 => ?_)
      ·
       exact au H1 (aL @J1a hX1 (aA H trivial))
      ·
       refine s_ ?_
       refine WO_iA H1 (fun hc H1 => ?_) (fun hc H1 => ?_)
       ·
        refine s_ ?_
        obtain ⟨x7, hx7, H1⟩ := bnd H1
        refine b_ hx7 ?_
        refine s_ ?_
        refine W_ite rfl H1 (fun hc H1 => ?_) (fun hc H1 => ?_)
        ·
         exact au H1 (aL @J1a hX1 (aA H trivial))
        ·
         refine s_ ?_
         obtain ⟨s11, hs11, H1⟩ := bnd H1
         refine loop_rule (ls := []) 2 (fun t10 : Unit => ⟨[.no, .bp 0 0, .no, qi v3], [some [.c (cL enc_Item a1.Items), qi a1.Next]], []⟩) (fun t => s11 = .inr t) ⟨[.no, .bp 0 0, .no, qi v3, .bp 1 0, qi 0], [some [.c (cL enc_Item a1.Items), qi a1.Next], some (uO x4.Order (.c (cL enc_Metric x4.Order.Metrics)) (.c (cL enc_Note x4.Order.Notes)) [qi x4.Ver])], []⟩ mO lE ?_ ?_
         ·
          rintro t10 rfl
          exact au H1 (aL @J1a hX1 (aA H trivial))
         ·
          intro V2 hV2 hW2 hX2
          refine (spec_StoreOk.l1.partial_correctness a1 v3 x4 (fun v8 s' => s' = s11 → (V2 ⟨[.no, .bp 0 0, .no, qi v3, .bp 1 0, qi v8], [some [.c (cL enc_Item a1.Items), qi a1.Next], some (uO x4.Order (.c (cL enc_Metric x4.Order.Metrics)) (.c (cL enc_Note x4.Order.Notes)) [qi x4.Ver])], []⟩)) ?_ _ _ hs11 rfl)
          intro l0 IH2 v8 s' H2 e
          subst e
          refine hV2 _ ?_
          have J2a := fun {v8 τ} h l => hW2 _ τ ((IH2 v8 _ h rfl)) l
          exact au H2 (aL @J2a hX2 (aA H1 (aA H trivial)))
       ·
        refine s_ ?_
        obtain ⟨s15, hs15, H1⟩ := bnd H1
        refine loop_rule (ls := []) 2 (fun t14 : Unit => ⟨[.no, .bp 0 0, .no, qi v3], [some [.c (cL enc_Item a1.Items), qi a1.Next]], []⟩) (fun t => s15 = .inr t) ⟨[.no, .bp 0 0, .no, qi v3, .bp 1 0, qi 0], [some [.c (cL enc_Item a1.Items), qi a1.Next], some (uO x4.Order (.c (cL enc_Metric x4.Order.Metrics)) (.c (cL enc_Note x4.Order.Notes)) [qi x4.Ver])], []⟩ mO lE ?_ ?_
        ·
         rintro t14 rfl
         exact au H1 (aL @J1a hX1 (aA H trivial))
        ·
         intro V2 hV2 hW2 hX2
         refine (spec_StoreOk.l2.partial_correctness a1 v3 x4 (fun v12 s' => s' = s15 → (V2 ⟨[.no, .bp 0 0, .no, qi v3, .bp 1 0, qi v12], [some [.c (cL enc_Item a1.Items), qi a1.Next], some (uO x4.Order (.c (cL enc_Metric x4.Order.Metrics)) (.c (cL enc_Note x4.Order.Notes)) [qi x4.Ver])], []⟩)) ?_ _ _ hs15 rfl)
         intro l0 IH2 v12 s' H2 e
         subst e
         refine hV2 _ ?_
         have J2a := fun {v12 τ} h l => hW2 _ τ ((IH2 v12 _ h rfl)) l
         exact au H2 (aL @J2a hX2 (aA H1 (aA H trivial)))
    ·
     exact au H1 (aL @J1a hX1 (aA H trivial))⟩
instance spec_TextOf_ok  {a1 : Str} : FOK R (spec_TextOf a1) 80 [.c (cS a1) none] fun r => (gNode_oo r, []) := ⟨fun {r} H => by
 unfold spec_TextOf at H
 refine fw false 5 Tryz.func80 ?_
 exact au0 H⟩
instance spec_IntOf_ok  {a1 : Int} : FOK R (spec_IntOf a1) 78 [.c (cI .i64 a1) none] fun r => (gNode_oo r, []) := ⟨fun {r} H => by
 unfold spec_IntOf at H
 refine fw false 5 Tryz.func78 ?_
 exact au0 H⟩
instance spec_l3Copy_F_ok {rc43 : Node → Option (Node)} [hrc43 : ∀ {a1 : Node}, FOK R (rc43 a1) 116 [gNode a1] fun r => (gNode_oo r, [])] {a1 : Node} : FOK R (spec_l3Copy_F rc43 a1) 116 [gNode a1] fun r => (gNode_oo r, []) := ⟨fun {r} H => by
 unfold spec_l3Copy_F at H
 refine fw false 35 Tryz.func116 ?_
 refine s_ ?_
 refine W_lateL [11, 3] (by kernel_rfl) (by decide +kernel) rfl ?_; refine WL_c rfl ?_; simp only [SX.clr,List.foldl,putT,st,ev,gt,hp,ofV,constT,intT,lm]
 refine s_ ?_
 obtain ⟨m2, hm2, H⟩ := bnd H
 refine b_ hm2 ?_
 refine s_ ?_
 obtain ⟨t9, ht9, H⟩ := bnd H
 refine loop_ruleM (ls := []) 0 (fun (i : Nat) (t9 : List RNode) => match i with | 0 => ⟨[.no, .no, .bp 0 0, .bp 1 0], [some [qi 0, qi 0, qs [], .nil, .nil], some [qi a1.Kind, qi a1.N, qs a1.S, .row 0, .nil]], [rr 1 eS m2 true]⟩ | _ => ⟨[.no, .no, .bp 0 0, .bp 1 0], [some [qi 0, qi 0, qs [], .nil, .nil], some [qi a1.Kind, qi a1.N, qs a1.S, .row 0, .row 1]], [rr 1 eS m2 true, rr 5 eR_Node t9 true]⟩) (fun (i : Nat) t => match i with | 0 => t9 = t ∧ t = [] | 1 => t9 = t | _ => False) ⟨[.no, .bp 0 0, .bp 1 0, .bp 2 0, qi 0], [some [qi a1.Kind, qi a1.N, qs a1.S, .c (cL eS a1.Keys), .c (cL eR_Node a1.Kids)], some [qi 0, qi 0, qs [], .nil, .nil], some [qi a1.Kind, qi a1.N, qs a1.S, .row 0, .nil]], [rr 1 eS m2 true]⟩ mO lE ?_ ?_
 ·
  intro i t1 hp
  rcases i with _ | _ | i
  ·
   obtain ⟨rfl, hz_t9_0⟩ := hp
   refine s_ ?_
   obtain rfl := Option.some.inj H
   exact told5 rfl rfl rfl rfl (by have er : Tryz.f116.resultTypes.toList = [67] := rfl; have e67 : sizes Tryz.prog 8 67 = [0, 0, 0, 1, 5] := (by kernel_rfl); simp only [er, fitAs, e67, fitA, Dp.q, fit_s, fit_n, fit_o, fit_d, fit_z, fit_e, if_true]; try rfl) (by simp only [hz_t9_0]; try rfl)
  ·
   obtain rfl := hp
   exact au0 H
  ·
   exact hp.elim
 ·
  intro V1 hV1 hW1 hX1
  refine (spec_l3Copy.l0.partial_correctness rc43 a1 (fun v3 v4 s' => s' = t9 → (v4 = [] → V1 ⟨[.no, .bp 0 0, .bp 1 0, .bp 2 0, qi v3], [some [qi a1.Kind, qi a1.N, qs a1.S, .c (cL eS a1.Keys), .c (cL eR_Node a1.Kids)], some [qi 0, qi 0, qs [], .nil, .nil], some [qi a1.Kind, qi a1.N, qs a1.S, .row 0, .nil]], [rr 1 eS m2 true]⟩) ∧ (V1 ⟨[.no, .bp 0 0, .bp 1 0, .bp 2 0, qi v3], [some [qi a1.Kind, qi a1.N, qs a1.S, .c (cL eS a1.Keys), .c (cL eR_Node a1.Kids)], some [qi 0, qi 0, qs [], .nil, .nil], some [qi a1.Kind, qi a1.N, qs a1.S, .row 0, .row 1]], [rr 1 eS m2 true, rr 5 eR_Node v4 true]⟩)) ?_ _ _ _ ht9 rfl).1 rfl
  intro l0 IH1 v3 v4 s' H1 e
  subst e
  refine ⟨?_, ?_⟩
  ·
   intro hn_v4
   refine hV1 _ ?_
   have J1a := fun {v3 v4 τ} h n0 l => hW1 _ τ ((IH1 v3 v4 _ h rfl).1 n0) l
   have J1b := fun {v3 v4 τ} h l => hW1 _ τ ((IH1 v3 v4 _ h rfl).2) l
   exact au H1 (aL @J1b (hX1 0) (aA H trivial))
  ·
   skip
   refine hV1 _ ?_
   have J1a := fun {v3 v4 τ} h n0 l => hW1 _ τ ((IH1 v3 v4 _ h rfl).1 n0) l
   have J1b := fun {v3 v4 τ} h l => hW1 _ τ ((IH1 v3 v4 _ h rfl).2) l
   exact au H1 (aL @J1b (hX1 1) (aA H trivial))⟩
theorem spec_l3Copy_n_ok : ∀ (k : Nat) {a1 : Node} {r : Node}, spec_l3Copy_n k a1 = some r → R 116 [gNode a1] = some ((fun r => (gNode_oo r, [])) r)
  | 0, _, _, h => by simp [spec_l3Copy_n] at h
  | k + 1, _, _, h => (spec_l3Copy_F_ok (hrc43 := ⟨fun h => spec_l3Copy_n_ok k h⟩)).ok h
instance spec_l3Copy_ok {a1 : Node} : FOK R (spec_l3Copy a1) 116 [gNode a1] fun r => (gNode_oo r, []) := ⟨fun {r} H => by
 obtain ⟨k, hk⟩ := Nt.lim_ex H
 exact spec_l3Copy_n_ok k (hk k (Nat.le_refl k))⟩
instance spec_l3At_ok  {a1 : Node} {a2 : Str} : FOK R (spec_l3At a1 a2) 117 [gNode a1, .c (cS a2) none] fun r => (.c (cI .i64 r) none, []) := ⟨fun {r} H => by
 unfold spec_l3At at H
 refine fw false 33 Tryz.func117 ?_
 refine s_ ?_
 obtain ⟨s6, hs6, H⟩ := bnd H
 refine loop_rule (ls := []) 0 (fun t5 : Unit => ⟨[], [], []⟩) (fun t => s6 = .inr t) ⟨[.no, qs a2, .bp 0 0, .no, .no, qi 0], [some [qi a1.Kind, qi a1.N, qs a1.S, .c (cL eS a1.Keys), .c (cL eR_Node a1.Kids)]], []⟩ mO lE ?_ ?_
 ·
  rintro t5 rfl
  exact au0 H
 ·
  intro V1 hV1 hW1 hX1
  refine (spec_l3At.l0.partial_correctness a1 a2 (fun v3 s' => s' = s6 → (V1 ⟨[.no, qs a2, .bp 0 0, .no, .no, qi v3], [some [qi a1.Kind, qi a1.N, qs a1.S, .c (cL eS a1.Keys), .c (cL eR_Node a1.Kids)]], []⟩)) ?_ _ _ hs6 rfl)
  intro l0 IH1 v3 s' H1 e
  subst e
  refine hV1 _ ?_
  have J1a := fun {v3 τ} h l => hW1 _ τ ((IH1 v3 _ h rfl)) l
  exact au H1 (aL @J1a hX1 (aA H trivial))⟩
instance spec_Set_ok  {a1 : Node} {a2 : Str} {a3 : Node} : FOK R (spec_Set a1 a2 a3) 71 [gNode a1, .c (cS a2) none, gNode a3] fun r => (gNode_oo r, []) := ⟨fun {r} H => by
 unfold spec_Set at H
 refine fw false 94 Tryz.func71 ?_
 refine s_ ?_
 obtain ⟨x4, hx4, H⟩ := bnd H
 refine b_ hx4 ?_
 refine s_ ?_
 refine WO_iA H (fun hc H => ?_) (fun hc H => ?_)
 ·
  exact au0 H
 ·
  refine s_ ?_
  refine W_ite rfl H (fun hc H => ?_) (fun hc H => ?_)
  ·
   exact au0 H
  ·
   refine s_ ?_
   obtain ⟨x5, hx5, H⟩ := bnd H
   refine b_ hx5 ?_
   refine s_ ?_
   refine W_ite rfl H (fun hc H => ?_) (fun hc H => ?_)
   ·
    exact au0 H
   ·
    refine s_ ?_
    obtain ⟨t12, ht12, H⟩ := bnd H
    refine loop_rule (ls := []) 0 (fun t12 : Int => ⟨[.no, qs a2, .no, .bp 0 0, .no, .bp 1 0, .bp 2 0, .bp 3 0, qi t12], [some [qi a1.Kind, qi a1.N, qs a1.S, .c (cL eS a1.Keys), .c (cL eR_Node a1.Kids)], some [qi a3.Kind, qi a3.N, qs a3.S, .c (cL eS a3.Keys), .c (cL eR_Node a3.Kids)], some [qi 0, qi 0, qs [], .nil, .nil], some [qi x4.Kind, qi x4.N, qs x4.S, .row 0, .row 1]], [rr 1 eS x4.Keys true, rr 5 eR_Node x4.Kids true]⟩) (fun t => t12 = t) ⟨[.no, qs a2, .no, .bp 0 0, .no, .bp 1 0, .bp 2 0, .bp 3 0, qi 0], [some [qi a1.Kind, qi a1.N, qs a1.S, .c (cL eS a1.Keys), .c (cL eR_Node a1.Kids)], some [qi a3.Kind, qi a3.N, qs a3.S, .c (cL eS a3.Keys), .c (cL eR_Node a3.Kids)], some [qi 0, qi 0, qs [], .nil, .nil], some [qi x4.Kind, qi x4.N, qs x4.S, .row 0, .row 1]], [rr 1 eS x4.Keys true, rr 5 eR_Node x4.Kids true]⟩ mO lE ?_ ?_
    ·
     rintro t1 rfl
     exact au0 H
    ·
     intro V1 hV1 hW1 hX1
     refine (spec_Set.l0.partial_correctness a1 a2 (fun v10 s' => s' = t12 → (V1 ⟨[.no, qs a2, .no, .bp 0 0, .no, .bp 1 0, .bp 2 0, .bp 3 0, qi v10], [some [qi a1.Kind, qi a1.N, qs a1.S, .c (cL eS a1.Keys), .c (cL eR_Node a1.Kids)], some [qi a3.Kind, qi a3.N, qs a3.S, .c (cL eS a3.Keys), .c (cL eR_Node a3.Kids)], some [qi 0, qi 0, qs [], .nil, .nil], some [qi x4.Kind, qi x4.N, qs x4.S, .row 0, .row 1]], [rr 1 eS x4.Keys true, rr 5 eR_Node x4.Kids true]⟩)) ?_ _ _ ht12 rfl)
     intro l0 IH1 v10 s' H1 e
     subst e
     refine hV1 _ ?_
     have J1a := fun {v10 τ} h l => hW1 _ τ ((IH1 v10 _ h rfl)) l
     exact au H1 (aL @J1a hX1 (aA H trivial))⟩
instance spec_l7Map_ok  {a1 : List Str} {a2 : List RNode} : FOK R (spec_l7Map a1 a2) 118 [.c (cL eS a1) none, .c (cL eR_Node a2) none] fun r => (gNode_oo r, []) := ⟨fun {r} H => by
 unfold spec_l7Map at H
 refine fw false 25 Tryz.func118 ?_
 refine s_ ?_
 obtain ⟨t13, ht13, H⟩ := bnd H
 refine loop_ruleM (ls := []) 0 (fun (i : Nat) (t13 : Int × Int × Str × List Str × List RNode) => match i with | 0 => ⟨[.no, .no, .no, .no, .bp 0 0, .bp 1 0], [some [qi 0, qi 0, qs [], .nil, .nil], some [qi t13.1, qi t13.2.1, qs t13.2.2.1, .nil, .nil]], []⟩ | _ => ⟨[.no, .no, .no, .no, .bp 0 0, .bp 1 0], [some [qi 0, qi 0, qs [], .nil, .nil], some [qi t13.1, qi t13.2.1, qs t13.2.2.1, .row 0, .row 1]], [rr 1 eS t13.2.2.2.1 true, rr 5 eR_Node t13.2.2.2.2 true]⟩) (fun (i : Nat) t => match i with | 0 => t13 = t ∧ t.2.2.2.1 = [] ∧ t.2.2.2.2 = [] | 1 => t13 = t | _ => False) ⟨[.c (cL eS a1), .c (cL eR_Node a2), .no, .no, .bp 0 0, .bp 1 0, qi 0], [some [qi 0, qi 0, qs [], .nil, .nil], some [qi 5, qi 0, qs [], .nil, .nil]], []⟩ mO lE ?_ ?_
 ·
  intro i t1 hp
  rcases i with _ | _ | i
  ·
   obtain ⟨rfl, hz_t13_3, hz_t13_4⟩ := hp
   refine s_ ?_
   obtain rfl := Option.some.inj H
   exact told5 rfl rfl rfl rfl rfl (by simp only [hz_t13_3, hz_t13_4]; try rfl)
  ·
   obtain rfl := hp
   exact au0 H
  ·
   exact hp.elim
 ·
  intro V1 hV1 hW1 hX1
  refine (spec_l7Map.l0.partial_correctness a1 a2 (fun v3 v4 v5 v6 v7 v8 s' => s' = t13 → (v7 = [] → v8 = [] → V1 ⟨[.c (cL eS a1), .c (cL eR_Node a2), .no, .no, .bp 0 0, .bp 1 0, qi v3], [some [qi 0, qi 0, qs [], .nil, .nil], some [qi v4, qi v5, qs v6, .nil, .nil]], []⟩) ∧ (V1 ⟨[.c (cL eS a1), .c (cL eR_Node a2), .no, .no, .bp 0 0, .bp 1 0, qi v3], [some [qi 0, qi 0, qs [], .nil, .nil], some [qi v4, qi v5, qs v6, .row 0, .row 1]], [rr 1 eS v7 true, rr 5 eR_Node v8 true]⟩)) ?_ _ _ _ _ _ _ _ ht13 rfl).1 rfl rfl
  intro l0 IH1 v3 v4 v5 v6 v7 v8 s' H1 e
  subst e
  refine ⟨?_, ?_⟩
  ·
   intro hn_v7 hn_v8
   refine hV1 _ ?_
   have J1a := fun {v3 v4 v5 v6 v7 v8 τ} h n0 n1 l => hW1 _ τ ((IH1 v3 v4 v5 v6 v7 v8 _ h rfl).1 n0 n1) l
   have J1b := fun {v3 v4 v5 v6 v7 v8 τ} h l => hW1 _ τ ((IH1 v3 v4 v5 v6 v7 v8 _ h rfl).2) l
   refine s_ ?_
   refine W_ite rfl H1 (fun hc H1 => ?_) (fun hc H1 => ?_)
   ·
    refine s_ ?_
    obtain ⟨x9, hx9, H1⟩ := bnd H1
    refine b_ hx9 ?_
    refine s_ ?_
    obtain ⟨x10, hx10, H1⟩ := bnd H1
    obtain ⟨y11, hy11, H1⟩ := bnd H1
    rw [dN_Node_some hy11] at hx10
    refine b_ hx10 ?_
    refine s_ ?_
    obtain ⟨x12, hx12, H1⟩ := bnd H1
    refine WO_op (x := .ag [qi x12.Kind, qi x12.N, qs x12.S, .row 0, .row 1]) (σ' := ⟨[], [some [qi 0, qi 0, qs [], .nil, .nil], some [qi v4, qi v5, qs v6, .nil, .nil]], [rr 1 eS x12.Keys true, rr 5 eR_Node x12.Kids true]⟩) rfl rfl (ev_callG (al := [.ag [qi v4, qi v5, qs v6, .nil, .nil], qs x9, .ag [qi y11.Kind, qi y11.N, qs y11.S, .c (cL eS y11.Keys), .c (cL eR_Node y11.Kids)]]) (ls := []) (okz hx12 rfl) rfl rfl rfl rfl rfl (by decide) rfl (by rw [hn_v7, hn_v8]; rfl) rfl rfl rfl rfl) (n1 ?_)
    exact au H1 (aL @J1b hX1 (aA H trivial))
   ·
    exact au H1 (aL @J1a (hX1 0) (aA H trivial))
  ·
   skip
   refine hV1 _ ?_
   have J1a := fun {v3 v4 v5 v6 v7 v8 τ} h n0 n1 l => hW1 _ τ ((IH1 v3 v4 v5 v6 v7 v8 _ h rfl).1 n0 n1) l
   have J1b := fun {v3 v4 v5 v6 v7 v8 τ} h l => hW1 _ τ ((IH1 v3 v4 v5 v6 v7 v8 _ h rfl).2) l
   exact au H1 (aL @J1b (hX1 1) (aA H trivial))⟩
instance spec_l7Head_ok  {a1 : Order} {a2 : Str} : FOK R (spec_l7Head a1 a2) 72 [gOrder a1, .c (cS a2) none] fun r => (gNode_oo r, []) := ⟨fun {r} H => by
 unfold spec_l7Head at H
 refine fw false 22 Tryz.func72 ?_
 refine s_ ?_
 refine W_lateLP [1, 2, 3, 4, 5, 6, 7, 8, 9, 10, 11, 12, 13, 14, 15, 0, 16, 17] [5] (by kernel_rfl) (by kernel_rfl) (by kernel_rfl) (by decide +kernel) (by kernel_rfl) ?_; simp only [SX.clr,List.foldl,putT,st,ev,gt,hp,ofV,constT,intT,lm,hoist,renO,opAt,List.map_cons,List.map_nil,List.toList_toArray,List.getElem?_toArray,List.getElem?_cons_succ,List.getElem?_cons_zero,Option.getD_some,Option.map_none,Option.map_some]; refine WL_c rfl ?_
 exact au0 H⟩
instance spec_l7Kind_ok  {a1 : Int} : FOK R (spec_l7Kind a1) 151 [.c (cI .i64 a1) none] fun r => (.c (cS r) none, []) := ⟨fun {r} H => by
 unfold spec_l7Kind at H
 refine fw false 10 Tryz.func151 ?_
 refine s_ ?_
 obtain ⟨x2, hx2, H⟩ := bnd H
 refine b_ hx2 ?_
 refine s_ ?_
 refine W_ite rfl H (fun hc H => ?_) (fun hc H => ?_)
 ·
  exact au0 H
 ·
  refine s_ ?_
  first | refine WO_rw (τ := ⟨[], [], [rr 1 eS kl0 true]⟩) rfl rfl ?_; dsimp only | refine WL_rw (τ := ⟨[], [], [rr 1 eS kl0 true]⟩) rfl rfl ?_; dsimp only
  exact au0 H⟩
instance spec_Digits_ok  {a1 : Int} : FOK R (spec_Digits a1) 114 [.c (cI .i64 a1) none] fun r => (.c (cS r) none, []) := ⟨fun {r} H => by
 unfold spec_Digits at H
 refine fw false 31 Tryz.func114 ?_
 refine s_ ?_
 refine W_ite rfl H (fun hc H => ?_) (fun hc H => ?_)
 ·
  exact au0 H
 ·
  refine s_ ?_
  obtain ⟨t6, ht6, H⟩ := bnd H
  refine loop_rule (ls := []) 0 (fun t6 : Str => ⟨[.no, .no, .no, qb (decide (a1 < 0)), qs t6], [], []⟩) (fun t => t6 = t) ⟨[qi a1, .no, .no, qb (decide (a1 < 0)), qs []], [], []⟩ mO lE ?_ ?_
  ·
   rintro t1 rfl
   exact au0 H
  ·
   intro V1 hV1 hW1 hX1
   refine (spec_Digits.l0.partial_correctness (fun v2 v3 s' => s' = t6 → (V1 ⟨[qi v2, .no, .no, qb (decide (a1 < 0)), qs v3], [], []⟩)) ?_ _ _ _ ht6 rfl)
   intro l0 IH1 v2 v3 s' H1 e
   subst e
   refine hV1 _ ?_
   have J1a := fun {v2 v3 τ} h l => hW1 _ τ ((IH1 v2 v3 _ h rfl)) l
   exact au H1 (aL @J1a hX1 (aA H trivial))⟩
instance spec_AmountText_ok  {a1 : Int} : FOK R (spec_AmountText a1) 152 [.c (cI .i64 a1) none] fun r => (.c (cS r) none, []) := ⟨fun {r} H => by
 unfold spec_AmountText at H
 refine fw false 29 Tryz.func152 ?_
 exact au0 H⟩
instance spec_MetricTree_ok  {a1 : Metric} : FOK R (spec_MetricTree a1) 119 [gMetric a1] fun r => (gNode_oo r, []) := ⟨fun {r} H => by
 unfold spec_MetricTree at H
 refine fw false 17 Tryz.func119 ?_
 refine s_ ?_
 refine W_lateLP [1, 2, 3, 4, 5, 6, 7, 8, 9, 10, 11, 12, 0, 13, 14] [3] (by kernel_rfl) (by kernel_rfl) (by kernel_rfl) (by decide +kernel) (by kernel_rfl) ?_; simp only [SX.clr,List.foldl,putT,st,ev,gt,hp,ofV,constT,intT,lm,hoist,renO,opAt,List.map_cons,List.map_nil,List.toList_toArray,List.getElem?_toArray,List.getElem?_cons_succ,List.getElem?_cons_zero,Option.getD_some,Option.map_none,Option.map_some]; refine WL_c rfl ?_
 exact au0 H⟩
instance spec_l7Metrics_ok  {a1 : List Metric} : FOK R (spec_l7Metrics a1) 73 [.c (cL enc_Metric a1) none] fun r => (gNode_oo r, []) := ⟨fun {r} H => by
 unfold spec_l7Metrics at H
 refine fw false 23 Tryz.func73 ?_
 refine s_ ?_
 obtain ⟨t7, ht7, H⟩ := bnd H
 refine loop_ruleM (ls := []) 0 (fun (i : Nat) (t7 : List RNode) => match i with | 0 => ⟨[.no, .no, .bp 0 0, .bp 1 0], [some [qi 0, qi 0, qs [], .nil, .nil], some [qi 4, qi 0, qs [], .nil, .nil]], []⟩ | _ => ⟨[.no, .no, .bp 0 0, .bp 1 0], [some [qi 0, qi 0, qs [], .nil, .nil], some [qi 4, qi 0, qs [], .nil, .row 0]], [rr 5 eR_Node t7 true]⟩) (fun (i : Nat) t => match i with | 0 => t7 = t ∧ t = [] | 1 => t7 = t | _ => False) ⟨[.c (cL enc_Metric a1), .no, .bp 0 0, .bp 1 0, qi 0], [some [qi 0, qi 0, qs [], .nil, .nil], some [qi 4, qi 0, qs [], .nil, .nil]], []⟩ mO lE ?_ ?_
 ·
  intro i t1 hp
  rcases i with _ | _ | i
  ·
   obtain ⟨rfl, hz_t7_0⟩ := hp
   refine s_ ?_
   obtain rfl := Option.some.inj H
   exact told5 rfl rfl rfl rfl rfl (by simp only [hz_t7_0]; try rfl)
  ·
   obtain rfl := hp
   exact au0 H
  ·
   exact hp.elim
 ·
  intro V1 hV1 hW1 hX1
  refine (spec_l7Metrics.l0.partial_correctness a1 (fun v2 v3 s' => s' = t7 → (v3 = [] → V1 ⟨[.c (cL enc_Metric a1), .no, .bp 0 0, .bp 1 0, qi v2], [some [qi 0, qi 0, qs [], .nil, .nil], some [qi 4, qi 0, qs [], .nil, .nil]], []⟩) ∧ (V1 ⟨[.c (cL enc_Metric a1), .no, .bp 0 0, .bp 1 0, qi v2], [some [qi 0, qi 0, qs [], .nil, .nil], some [qi 4, qi 0, qs [], .nil, .row 0]], [rr 5 eR_Node v3 true]⟩)) ?_ _ _ _ ht7 rfl).1 rfl
  intro l0 IH1 v2 v3 s' H1 e
  subst e
  refine ⟨?_, ?_⟩
  ·
   intro hn_v3
   refine hV1 _ ?_
   have J1a := fun {v2 v3 τ} h n0 l => hW1 _ τ ((IH1 v2 v3 _ h rfl).1 n0) l
   have J1b := fun {v2 v3 τ} h l => hW1 _ τ ((IH1 v2 v3 _ h rfl).2) l
   exact au H1 (aL @J1b (hX1 0) (aA H trivial))
  ·
   skip
   refine hV1 _ ?_
   have J1a := fun {v2 v3 τ} h n0 l => hW1 _ τ ((IH1 v2 v3 _ h rfl).1 n0) l
   have J1b := fun {v2 v3 τ} h l => hW1 _ τ ((IH1 v2 v3 _ h rfl).2) l
   exact au H1 (aL @J1b (hX1 1) (aA H trivial))⟩
instance spec_SpanText_ok  {a1 : Int} : FOK R (spec_SpanText a1) 120 [.c (cI .i64 a1) none] fun r => (.c (cS r) none, []) := ⟨fun {r} H => by
 unfold spec_SpanText at H
 refine fw false 34 Tryz.func120 ?_
 exact au0 H⟩
instance spec_PaceTree_ok  {a1 : Pace} : FOK R (spec_PaceTree a1) 74 [gPace a1] fun r => (gNode_oo r, []) := ⟨fun {r} H => by
 unfold spec_PaceTree at H
 refine fw false 20 Tryz.func74 ?_
 refine s_ ?_
 refine W_lateLP [1, 2, 3, 4, 5, 6, 7, 8, 9, 10, 11, 12, 13, 14, 15, 0, 16, 17] [3] (by kernel_rfl) (by kernel_rfl) (by kernel_rfl) (by decide +kernel) (by kernel_rfl) ?_; simp only [SX.clr,List.foldl,putT,st,ev,gt,hp,ofV,constT,intT,lm,hoist,renO,opAt,List.map_cons,List.map_nil,List.toList_toArray,List.getElem?_toArray,List.getElem?_cons_succ,List.getElem?_cons_zero,Option.getD_some,Option.map_none,Option.map_some]; refine WL_c rfl ?_
 exact au0 H⟩
end Go.Pu
