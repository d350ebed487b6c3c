import Derived.Test.YtligkplajabcfaaFindEn
set_option linter.unusedVariables false
set_option linter.unusedSimpArgs false
set_option synthInstance.maxSize 1000000000
set_option maxRecDepth 20000
set_option maxHeartbeats 20000000
namespace Go.Pu
open Go Go.SX Go.Nt Go.Proofs
instance laws_szMetric_ok  {a1 : Metric} {a2 : Int} : FOK R (laws_szMetric a1 a2) 69 [gMetric a1, .c (cI .i64 a2) none] fun r => (.c (cI .i64 r) none, []) := ⟨fun {r} H => by
 unfold laws_szMetric at H
 refine fw false 13 Try.func69 ?_
 exact au0 H⟩
instance laws_szMetricS_ok  {a1 : List Metric} {a2 : Int} : FOK R (laws_szMetricS a1 a2) 43 [.c (cL enc_Metric a1) none, .c (cI .i64 a2) none] fun r => (.c (cI .i64 r) none, []) := ⟨fun {r} H => by
 unfold laws_szMetricS at H
 refine fw false 27 Try.func43 ?_
 refine s_ ?_
 refine W_ite rfl H (fun hc H => ?_) (fun hc H => ?_)
 ·
  exact au0 H
 ·
  refine s_ ?_
  obtain ⟨s8, hs8, H⟩ := bnd H
  refine loop_rule (ls := []) 0 (fun t7 : Int => ⟨[.no, qi t7], [], []⟩) (fun t => s8 = .inr t) ⟨[.c (cL enc_Metric a1), qi (IntKind.i64.wrap (a2 - (a1.length : Int))), .no, .no, .no, qi 0], [], []⟩ mO lE ?_ ?_
  ·
   rintro t7 rfl
   exact au0 H
  ·
   intro V1 hV1 hW1 hX1
   refine (laws_szMetricS.l0.partial_correctness a1 (fun v3 v4 s' => s' = s8 → (V1 ⟨[.c (cL enc_Metric a1), qi v3, .no, .no, .no, qi v4], [], []⟩)) ?_ _ _ _ hs8 rfl)
   intro l0 IH1 v3 v4 s' H1 e
   subst e
   refine hV1 _ ?_
   have J1a := fun {v3 v4 τ} h l => hW1 _ τ ((IH1 v3 v4 _ h rfl)) l
   exact au H1 (aL @J1a hX1 (aA H trivial))⟩
instance laws_szNote_ok  {a1 : Note} {a2 : Int} : FOK R (laws_szNote a1 a2) 70 [gNote a1, .c (cI .i64 a2) none] fun r => (.c (cI .i64 r) none, []) := ⟨fun {r} H => by
 unfold laws_szNote at H
 refine fw false 20 Try.func70 ?_
 exact au0 H⟩
instance laws_szNoteS_ok  {a1 : List Note} {a2 : Int} : FOK R (laws_szNoteS a1 a2) 44 [.c (cL enc_Note a1) none, .c (cI .i64 a2) none] fun r => (.c (cI .i64 r) none, []) := ⟨fun {r} H => by
 unfold laws_szNoteS at H
 refine fw false 27 Try.func44 ?_
 refine s_ ?_
 refine W_ite rfl H (fun hc H => ?_) (fun hc H => ?_)
 ·
  exact au0 H
 ·
  refine s_ ?_
  obtain ⟨s8, hs8, H⟩ := bnd H
  refine loop_rule (ls := []) 0 (fun t7 : Int => ⟨[.no, qi t7], [], []⟩) (fun t => s8 = .inr t) ⟨[.c (cL enc_Note a1), qi (IntKind.i64.wrap (a2 - (a1.length : Int))), .no, .no, .no, qi 0], [], []⟩ mO lE ?_ ?_
  ·
   rintro t7 rfl
   exact au0 H
  ·
   intro V1 hV1 hW1 hX1
   refine (laws_szNoteS.l0.partial_correctness a1 (fun v3 v4 s' => s' = s8 → (V1 ⟨[.c (cL enc_Note a1), qi v3, .no, .no, .no, qi v4], [], []⟩)) ?_ _ _ _ hs8 rfl)
   intro l0 IH1 v3 v4 s' H1 e
   subst e
   refine hV1 _ ?_
   have J1a := fun {v3 v4 τ} h l => hW1 _ τ ((IH1 v3 v4 _ h rfl)) l
   exact au H1 (aL @J1a hX1 (aA H trivial))⟩
instance laws_szOrder_ok  {a1 : Order} {a2 : Int} : FOK R (laws_szOrder a1 a2) 22 [gOrder a1, .c (cI .i64 a2) none] fun r => (.c (cI .i64 r) none, []) := ⟨fun {r} H => by
 unfold laws_szOrder at H
 refine fw false 32 Try.func22 ?_
 exact au0 H⟩
instance laws_szItem_ok  {a1 : Item} {a2 : Int} : FOK R (laws_szItem a1 a2) 54 [gItem a1, .c (cI .i64 a2) none] fun r => (.c (cI .i64 r) none, []) := ⟨fun {r} H => by
 unfold laws_szItem at H
 refine fw false 12 Try.func54 ?_
 exact au0 H⟩
instance laws_szItemS_ok  {a1 : List Item} {a2 : Int} : FOK R (laws_szItemS a1 a2) 28 [.c (cL enc_Item a1) none, .c (cI .i64 a2) none] fun r => (.c (cI .i64 r) none, []) := ⟨fun {r} H => by
 unfold laws_szItemS at H
 refine fw false 27 Try.func28 ?_
 refine s_ ?_
 refine W_ite rfl H (fun hc H => ?_) (fun hc H => ?_)
 ·
  exact au0 H
 ·
  refine s_ ?_
  obtain ⟨s8, hs8, H⟩ := bnd H
  refine loop_rule (ls := []) 0 (fun t7 : Int => ⟨[.no, qi t7], [], []⟩) (fun t => s8 = .inr t) ⟨[.c (cL enc_Item a1), qi (IntKind.i64.wrap (a2 - (a1.length : Int))), .no, .no, .no, qi 0], [], []⟩ mO lE ?_ ?_
  ·
   rintro t7 rfl
   exact au0 H
  ·
   intro V1 hV1 hW1 hX1
   refine (laws_szItemS.l0.partial_correctness a1 (fun v3 v4 s' => s' = s8 → (V1 ⟨[.c (cL enc_Item a1), qi v3, .no, .no, .no, qi v4], [], []⟩)) ?_ _ _ _ hs8 rfl)
   intro l0 IH1 v3 v4 s' H1 e
   subst e
   refine hV1 _ ?_
   have J1a := fun {v3 v4 τ} h l => hW1 _ τ ((IH1 v3 v4 _ h rfl)) l
   exact au H1 (aL @J1a hX1 (aA H trivial))⟩
instance laws_szStore_ok  {a1 : Store} {a2 : Int} : FOK R (laws_szStore a1 a2) 7 [gStore a1, .c (cI .i64 a2) none] fun r => (.c (cI .i64 r) none, []) := ⟨fun {r} H => by
 unfold laws_szStore at H
 refine fw false 12 Try.func7 ?_
 exact au0 H⟩
instance laws_toMetric_ok  {a1 : Metric} : FOK R (laws_toMetric a1) 71 [gMetric a1] fun r => (gMetric r, []) := ⟨fun {r} H => by
 unfold laws_toMetric at H
 refine fw false 14 Try.func71 ?_
 exact au0 H⟩
instance laws_toMetricS_ok  {a1 : List Metric} : FOK R (laws_toMetricS a1) 45 [.c (cL enc_Metric a1) none] fun r => (.c (cL enc_Metric r) (some (3, false)), []) := ⟨fun {r} H => by
 unfold laws_toMetricS at H
 refine fw false 23 Try.func45 ?_
 refine s_ ?_
 obtain ⟨m2, hm2, H⟩ := bnd H
 refine b_ hm2 ?_
 refine s_ ?_
 obtain ⟨t9, ht9, H⟩ := bnd H
 refine loop_rule (ls := []) 0 (fun t9 : List Metric => ⟨[.no, .no, .no, .row 0], [], [rr 3 enc_Metric t9 true]⟩) (fun t => t9 = t) ⟨[.c (cL enc_Metric a1), .no, .no, .row 0, qi 0], [], [rr 3 enc_Metric m2 true]⟩ mO lE ?_ ?_
 ·
  rintro t1 rfl
  exact au0 H
 ·
  intro V1 hV1 hW1 hX1
  refine (laws_toMetricS.l0.partial_correctness a1 (fun v3 v4 s' => s' = t9 → (V1 ⟨[.c (cL enc_Metric a1), .no, .no, .row 0, qi v3], [], [rr 3 enc_Metric v4 true]⟩)) ?_ _ _ _ ht9 rfl)
  intro l0 IH1 v3 v4 s' H1 e
  subst e
  refine hV1 _ ?_
  have J1a := fun {v3 v4 τ} h l => hW1 _ τ ((IH1 v3 v4 _ h rfl)) l
  exact au H1 (aL @J1a hX1 (aA H trivial))⟩
instance laws_toPace_ok  {a1 : Pace} : FOK R (laws_toPace a1) 46 [gPace a1] fun r => (gPace r, []) := ⟨fun {r} H => by
 unfold laws_toPace at H
 refine fw false 17 Try.func46 ?_
 exact au0 H⟩
instance laws_toNote_ok  {a1 : Note} : FOK R (laws_toNote a1) 72 [gNote a1] fun r => (gNote r, []) := ⟨fun {r} H => by
 unfold laws_toNote at H
 refine fw false 11 Try.func72 ?_
 exact au0 H⟩
instance laws_toNoteS_ok  {a1 : List Note} : FOK R (laws_toNoteS a1) 47 [.c (cL enc_Note a1) none] fun r => (.c (cL enc_Note r) (some (2, false)), []) := ⟨fun {r} H => by
 unfold laws_toNoteS at H
 refine fw false 23 Try.func47 ?_
 refine s_ ?_
 obtain ⟨m2, hm2, H⟩ := bnd H
 refine b_ hm2 ?_
 refine s_ ?_
 obtain ⟨t9, ht9, H⟩ := bnd H
 refine loop_rule (ls := []) 0 (fun t9 : List Note => ⟨[.no, .no, .no, .row 0], [], [rr 2 enc_Note t9 true]⟩) (fun t => t9 = t) ⟨[.c (cL enc_Note a1), .no, .no, .row 0, qi 0], [], [rr 2 enc_Note m2 true]⟩ mO lE ?_ ?_
 ·
  rintro t1 rfl
  exact au0 H
 ·
  intro V1 hV1 hW1 hX1
  refine (laws_toNoteS.l0.partial_correctness a1 (fun v3 v4 s' => s' = t9 → (V1 ⟨[.c (cL enc_Note a1), .no, .no, .row 0, qi v3], [], [rr 2 enc_Note v4 true]⟩)) ?_ _ _ _ ht9 rfl)
  intro l0 IH1 v3 v4 s' H1 e
  subst e
  refine hV1 _ ?_
  have J1a := fun {v3 v4 τ} h l => hW1 _ τ ((IH1 v3 v4 _ h rfl)) l
  exact au H1 (aL @J1a hX1 (aA H trivial))⟩
instance laws_toOrder_ok  {a1 : Order} : FOK R (laws_toOrder a1) 24 [gOrder a1] fun r => (gOrder_oo r, []) := ⟨fun {r} H => by
 unfold laws_toOrder at H
 refine fw false 29 Try.func24 ?_
 exact au0 H⟩
instance laws_toItem_ok  {a1 : Item} : FOK R (laws_toItem a1) 55 [gItem a1] fun r => (gItem_oo r, []) := ⟨fun {r} H => by
 unfold laws_toItem at H
 refine fw false 12 Try.func55 ?_
 exact au0 H⟩
instance laws_toItemS_ok  {a1 : List Item} : FOK R (laws_toItemS a1) 31 [.c (cL enc_Item a1) none] fun r => (.c (cL enc_Item r) (some (11, true)), []) := ⟨fun {r} H => by
 unfold laws_toItemS at H
 refine fw false 23 Try.func31 ?_
 refine s_ ?_
 obtain ⟨m2, hm2, H⟩ := bnd H
 refine WO_op (x := .row 0) (σ' := ⟨[], [], [rd 11 enc_Item m2]⟩) rfl rfl (ev_mkD (en := enc_Item) hm2 rfl rfl rfl rfl rfl rfl rfl rfl rfl rfl rfl rfl rfl rfl rfl rfl) (n1 ?_)
 refine s_ ?_
 obtain ⟨t9, ht9, H⟩ := bnd H
 refine loop_rule (ls := []) 0 (fun t9 : List Item => ⟨[.no, .no, .no, .row 0], [], [rd 11 enc_Item t9]⟩) (fun t => t9 = t) ⟨[.c (cL enc_Item a1), .no, .no, .row 0, qi 0], [], [rd 11 enc_Item m2]⟩ mO lE ?_ ?_
 ·
  rintro t1 rfl
  exact au0 H
 ·
  intro V1 hV1 hW1 hX1
  refine (laws_toItemS.l0.partial_correctness a1 (fun v3 v4 s' => s' = t9 → (V1 ⟨[.c (cL enc_Item a1), .no, .no, .row 0, qi v3], [], [rd 11 enc_Item v4]⟩)) ?_ _ _ _ ht9 rfl)
  intro l0 IH1 v3 v4 s' H1 e
  subst e
  refine hV1 _ ?_
  have J1a := fun {v3 v4 τ} h l => hW1 _ τ ((IH1 v3 v4 _ h rfl)) l
  refine s_ ?_
  refine W_ite rfl H1 (fun hc H1 => ?_) (fun hc H1 => ?_)
  ·
   refine s_ ?_
   obtain ⟨x5, hx5, H1⟩ := bnd H1
   refine b_ hx5 ?_
   refine s_ ?_
   obtain ⟨x6, hx6, H1⟩ := bnd H1
   refine b_ hx6 ?_
   obtain ⟨x7, hx7, H1⟩ := bnd H1
   refine b_ hx7 ?_
   obtain ⟨m8, hm8, H1⟩ := bnd H1
   refine WO_op (x := .no) (σ' := ⟨[], [], [rd 11 enc_Item m8, none, none]⟩) rfl rfl (ev_stD (en := enc_Item) hm8 hx7 (dg_c (dg_c (dg_c (dg_c (dg_f (fl_Metric _) rfl (dg_c (dg_c (dg_c (dg_c (dg_f (fl_Note _) rfl (dg_c dg_nil))))))))))) rfl rfl rfl rfl rfl rfl rfl rfl) (n1 ?_)
   exact au H1 (aL @J1a hX1 (aA H trivial))
  ·
   exact au H1 (aL @J1a hX1 (aA H trivial))⟩
instance laws_toStore_ok  {a1 : Store} : FOK R (laws_toStore a1) 9 [gStore a1] fun r => (gStore_d r, []) := ⟨fun {r} H => by
 unfold laws_toStore at H
 refine fw false 12 Try.func9 ?_
 exact au0 H⟩
instance spec_l13At_ok  {a1 : Store} {a2 : Str} : FOK R (spec_l13At a1 a2) 29 [gStore a1, .c (cS a2) none] fun r => (.c (cI .i64 r) none, []) := ⟨fun {r} H => by
 unfold spec_l13At at H
 refine fw false 23 Try.func29 ?_
 refine s_ ?_
 obtain ⟨s6, hs6, H⟩ := bnd H
 refine loop_rule (ls := []) 0 (fun t5 : Unit => ⟨[], [], []⟩) (fun t => s6 = .inr t) ⟨[.no, qs a2, .bp 0 0, .no, .no, qi 0], [some [.c (cL enc_Item a1.Items), qi a1.Next]], []⟩ mO lE ?_ ?_
 ·
  rintro t5 rfl
  exact au0 H
 ·
  intro V1 hV1 hW1 hX1
  refine (spec_l13At.l0.partial_correctness a1 a2 (fun v3 s' => s' = s6 → (V1 ⟨[.no, qs a2, .bp 0 0, .no, .no, qi v3], [some [.c (cL enc_Item a1.Items), qi a1.Next]], []⟩)) ?_ _ _ hs6 rfl)
  intro l0 IH1 v3 s' H1 e
  subst e
  refine hV1 _ ?_
  have J1a := fun {v3 τ} h l => hW1 _ τ ((IH1 v3 _ h rfl)) l
  exact au H1 (aL @J1a hX1 (aA H trivial))⟩
instance spec_l6Copy_ok  {a1 : Order} : FOK R (spec_l6Copy a1) 30 [gOrder a1] fun r => (gOrder_oo r, []) := ⟨fun {r} H => by
 unfold spec_l6Copy at H
 refine fw false 14 Try.func30 ?_
 exact au0 H⟩
instance spec_Find_ok  {a1 : Store} {a2 : Str} : FOK R (spec_Find a1 a2) 8 [gStore a1, .c (cS a2) none] fun r => (.tu [gItem_oo r.1, .c (cB r.2) none], []) := ⟨fun {r} H => by
 unfold spec_Find at H
 refine fw false 27 Try.func8 ?_
 exact au0 H⟩
instance impl_placeOf_1_ok  {a1 : Item} {a2 : Str} : FOK R (impl_placeOf_1 a1 a2) 57 [gItem a1, .p [(cS a2, none)]] fun r => (.c (cB r.1) none, [some [(cS r.2, none)]]) := ⟨fun {r} H => by
 unfold impl_placeOf_1 at H
 refine fw false 9 Try.func57 ?_
 exact au0 H⟩
instance slices_IndexFunc_Simpl_Item_impl_Item_impl_placeOf_1_ok  {a1 : List Item} {a2 : Str} : FOK R (slices_IndexFunc_Simpl_Item_impl_Item_impl_placeOf_1 a1 a2) 56 [.c (cL enc_Item a1) none, .f 57 [[(cS a2, none)]]] fun r => (.c (cI .i64 r.1) none, [some [(cS r.2, none)]]) := ⟨fun {r} H => by
 unfold slices_IndexFunc_Simpl_Item_impl_Item_impl_placeOf_1 at H
 refine fw false 19 Try.func56 ?_
 refine s_ ?_
 obtain ⟨s8, hs8, H⟩ := bnd H
 refine loop_rule (ls := [.b 0]) 0 (fun t7 : Str => ⟨[], [some [qs t7]], []⟩) (fun t => s8 = .inr t) ⟨[.c (cL enc_Item a1), .fn 57 [0], .no, .no, .no, .no, .no, qi (a1.length : Int), qi 0], [some [qs a2]], []⟩ mO lE ?_ ?_
 ·
  rintro t7 rfl
  exact au0 H
 ·
  intro V1 hV1 hW1 hX1
  refine (slices_IndexFunc_Simpl_Item_impl_Item_impl_placeOf_1.l0.partial_correctness a1 (fun v3 v4 s' => s' = s8 → (V1 ⟨[.c (cL enc_Item a1), .fn 57 [0], .no, .no, .no, .no, .no, qi (a1.length : Int), qi v3], [some [qs v4]], []⟩)) ?_ _ _ _ hs8 rfl)
  intro l0 IH1 v3 v4 s' H1 e
  subst e
  refine hV1 _ ?_
  have J1a := fun {v3 v4 τ} h l => hW1 _ τ ((IH1 v3 v4 _ h rfl)) l
  exact au H1 (aL @J1a hX1 (aA H trivial))⟩
instance impl_placeOf_ok  {a1 : List Item} {a2 : Str} : FOK R (impl_placeOf a1 a2) 32 [.c (cL enc_Item a1) none, .c (cS a2) none] fun r => (.c (cI .i64 r) none, []) := ⟨fun {r} H => by
 unfold impl_placeOf at H
 refine fw false 8 Try.func32 ?_
 exact au0 H⟩
theorem slices_Clone_Simpl_Metric_impl_Metric_ok {a1 r : List Metric} (H : slices_Clone_Simpl_Metric_impl_Metric a1 = some r) : R 79 [.c (cL enc_Metric a1) none] = some (.c (cL enc_Metric r) (some (3, false)), []) := by
  unfold slices_Clone_Simpl_Metric_impl_Metric Nt.clone at H
  split at H
  · rename_i h
    obtain rfl := Option.some.inj H
    exact Fz_pr rfl (by simp only [cloneF]; rw [if_pos ⟨wide_map (en := enc_Metric) (fun _ => rfl) a1, by simpa using h⟩])
  · simp at H
instance slices_Clone_Simpl_Metric_impl_Metric_i {a1 : List Metric} : FOK R (slices_Clone_Simpl_Metric_impl_Metric a1) 79 [.c (cL enc_Metric a1) none] fun r => (.c (cL enc_Metric r) (some (3, false)), []) := ⟨fun {r} H => slices_Clone_Simpl_Metric_impl_Metric_ok H⟩
theorem slices_Clone_Simpl_Note_impl_Note_ok {a1 r : List Note} (H : slices_Clone_Simpl_Note_impl_Note a1 = some r) : R 80 [.c (cL enc_Note a1) none] = some (.c (cL enc_Note r) (some (2, false)), []) := by
  unfold slices_Clone_Simpl_Note_impl_Note Nt.clone at H
  split at H
  · rename_i h
    obtain rfl := Option.some.inj H
    exact Fz_pr rfl (by simp only [cloneF]; rw [if_pos ⟨wide_map (en := enc_Note) (fun _ => rfl) a1, by simpa using h⟩])
  · simp at H
instance slices_Clone_Simpl_Note_impl_Note_i {a1 : List Note} : FOK R (slices_Clone_Simpl_Note_impl_Note a1) 80 [.c (cL enc_Note a1) none] fun r => (.c (cL enc_Note r) (some (2, false)), []) := ⟨fun {r} H => slices_Clone_Simpl_Note_impl_Note_ok H⟩
instance impl_copyOrder_ok  {a1 : Order} : FOK R (impl_copyOrder a1) 58 [gOrder a1] fun r => (gOrder_oo r, []) := ⟨fun {r} H => by
 unfold impl_copyOrder at H
 refine fw false 12 Try.func58 ?_
 exact au0 H⟩
instance impl_copyItem_ok  {a1 : Item} : FOK R (impl_copyItem a1) 33 [gItem a1] fun r => (gItem_oo r, []) := ⟨fun {r} H => by
 unfold impl_copyItem at H
 refine fw false 9 Try.func33 ?_
 exact au0 H⟩
instance impl_Find_ok  {a1 : Store} {a2 : Str} : FOK R (impl_Find a1 a2) 10 [gStore a1, .c (cS a2) none] fun r => (.tu [gItem_oo r.1, .c (cB r.2) none], []) := ⟨fun {r} H => by
 unfold impl_Find at H
 refine fw false 20 Try.func10 ?_
 exact au0 H⟩
instance laws_eqMetric_ok  {a1 : Metric} {a2 : Metric} : FOK R (laws_eqMetric a1 a2) 77 [gMetric a1, gMetric a2] fun r => (.c (cB r) none, []) := ⟨fun {r} H => by
 unfold laws_eqMetric at H
 refine fw false 20 Try.func77 ?_
 exact au0 H⟩
instance laws_eqMetricS_ok  {a1 : List Metric} {a2 : List Metric} : FOK R (laws_eqMetricS a1 a2) 49 [.c (cL enc_Metric a1) none, .c (cL enc_Metric a2) none] fun r => (.c (cB r) none, []) := ⟨fun {r} H => by
 unfold laws_eqMetricS at H
 refine fw false 27 Try.func49 ?_
 refine s_ ?_
 refine W_ite rfl H (fun hc H => ?_) (fun hc H => ?_)
 ·
  exact au0 H
 ·
  refine s_ ?_
  obtain ⟨s8, hs8, H⟩ := bnd H
  refine loop_rule (ls := []) 0 (fun t7 : Unit => ⟨[], [], []⟩) (fun t => s8 = .inr t) ⟨[.c (cL enc_Metric a1), .c (cL enc_Metric a2), .no, .no, .no, qi 0], [], []⟩ mO lE ?_ ?_
  ·
   rintro t7 rfl
   exact au0 H
  ·
   intro V1 hV1 hW1 hX1
   refine (laws_eqMetricS.l0.partial_correctness a1 a2 (fun v3 s' => s' = s8 → (V1 ⟨[.c (cL enc_Metric a1), .c (cL enc_Metric a2), .no, .no, .no, qi v3], [], []⟩)) ?_ _ _ hs8 rfl)
   intro l0 IH1 v3 s' H1 e
   subst e
   refine hV1 _ ?_
   have J1a := fun {v3 τ} h l => hW1 _ τ ((IH1 v3 _ h rfl)) l
   exact au H1 (aL @J1a hX1 (aA H trivial))⟩
instance laws_eqPace_ok  {a1 : Pace} {a2 : Pace} : FOK R (laws_eqPace a1 a2) 50 [gPace a1, gPace a2] fun r => (.c (cB r) none, []) := ⟨fun {r} H => by
 unfold laws_eqPace at H
 refine fw false 25 Try.func50 ?_
 exact au0 H⟩
instance laws_eqNote_ok  {a1 : Note} {a2 : Note} : FOK R (laws_eqNote a1 a2) 78 [gNote a1, gNote a2] fun r => (.c (cB r) none, []) := ⟨fun {r} H => by
 unfold laws_eqNote at H
 refine fw false 15 Try.func78 ?_
 exact au0 H⟩
instance laws_eqNoteS_ok  {a1 : List Note} {a2 : List Note} : FOK R (laws_eqNoteS a1 a2) 51 [.c (cL enc_Note a1) none, .c (cL enc_Note a2) none] fun r => (.c (cB r) none, []) := ⟨fun {r} H => by
 unfold laws_eqNoteS at H
 refine fw false 27 Try.func51 ?_
 refine s_ ?_
 refine W_ite rfl H (fun hc H => ?_) (fun hc H => ?_)
 ·
  exact au0 H
 ·
  refine s_ ?_
  obtain ⟨s8, hs8, H⟩ := bnd H
  refine loop_rule (ls := []) 0 (fun t7 : Unit => ⟨[], [], []⟩) (fun t => s8 = .inr t) ⟨[.c (cL enc_Note a1), .c (cL enc_Note a2), .no, .no, .no, qi 0], [], []⟩ mO lE ?_ ?_
  ·
   rintro t7 rfl
   exact au0 H
  ·
   intro V1 hV1 hW1 hX1
   refine (laws_eqNoteS.l0.partial_correctness a1 a2 (fun v3 s' => s' = s8 → (V1 ⟨[.c (cL enc_Note a1), .c (cL enc_Note a2), .no, .no, .no, qi v3], [], []⟩)) ?_ _ _ hs8 rfl)
   intro l0 IH1 v3 s' H1 e
   subst e
   refine hV1 _ ?_
   have J1a := fun {v3 τ} h l => hW1 _ τ ((IH1 v3 _ h rfl)) l
   exact au H1 (aL @J1a hX1 (aA H trivial))⟩
instance laws_eqOrder_ok  {a1 : Order} {a2 : Order} : FOK R (laws_eqOrder a1 a2) 26 [gOrder a1, gOrder a2] fun r => (.c (cB r) none, []) := ⟨fun {r} H => by
 unfold laws_eqOrder at H
 refine fw false 43 Try.func26 ?_
 exact au0 H⟩
instance laws_eqItem_ok  {a1 : Item} {a2 : Item} : FOK R (laws_eqItem a1 a2) 11 [gItem a1, gItem a2] fun r => (.c (cB r) none, []) := ⟨fun {r} H => by
 unfold laws_eqItem at H
 refine fw false 16 Try.func11 ?_
 exact au0 H⟩
instance laws_eqItemS_ok  {a1 : List Item} {a2 : List Item} : FOK R (laws_eqItemS a1 a2) 34 [.c (cL enc_Item a1) none, .c (cL enc_Item a2) none] fun r => (.c (cB r) none, []) := ⟨fun {r} H => by
 unfold laws_eqItemS at H
 refine fw false 27 Try.func34 ?_
 refine s_ ?_
 refine W_ite rfl H (fun hc H => ?_) (fun hc H => ?_)
 ·
  exact au0 H
 ·
  refine s_ ?_
  obtain ⟨s8, hs8, H⟩ := bnd H
  refine loop_rule (ls := []) 0 (fun t7 : Unit => ⟨[], [], []⟩) (fun t => s8 = .inr t) ⟨[.c (cL enc_Item a1), .c (cL enc_Item a2), .no, .no, .no, qi 0], [], []⟩ mO lE ?_ ?_
  ·
   rintro t7 rfl
   exact au0 H
  ·
   intro V1 hV1 hW1 hX1
   refine (laws_eqItemS.l0.partial_correctness a1 a2 (fun v3 s' => s' = s8 → (V1 ⟨[.c (cL enc_Item a1), .c (cL enc_Item a2), .no, .no, .no, qi v3], [], []⟩)) ?_ _ _ hs8 rfl)
   intro l0 IH1 v3 s' H1 e
   subst e
   refine hV1 _ ?_
   have J1a := fun {v3 τ} h l => hW1 _ τ ((IH1 v3 _ h rfl)) l
   exact au H1 (aL @J1a hX1 (aA H trivial))⟩
instance laws_eqStore_ok  {a1 : Store} {a2 : Store} : FOK R (laws_eqStore a1 a2) 12 [gStore a1, gStore a2] fun r => (.c (cB r) none, []) := ⟨fun {r} H => by
 unfold laws_eqStore at H
 refine fw false 16 Try.func12 ?_
 exact au0 H⟩
instance laws_markText_ok  {a1 : Int} : FOK R (laws_markText a1) 59 [.c (cI .i64 a1) none] fun r => (.c (cS r) none, []) := ⟨fun {r} H => by
 unfold laws_markText at H
 refine fw false 20 Try.func59 ?_
 refine s_ ?_
 refine W_ite rfl H (fun hc H => ?_) (fun hc H => ?_)
 ·
  exact au0 H
 ·
  refine s_ ?_
  obtain ⟨t5, ht5, H⟩ := bnd H
  refine loop_rule (ls := []) 0 (fun t5 : Str => ⟨[.no, .no, .no, qs t5], [], []⟩) (fun t => t5 = t) ⟨[qi a1, .no, .no, qs []], [], []⟩ mO lE ?_ ?_
  ·
   rintro t1 rfl
   exact au0 H
  ·
   intro V1 hV1 hW1 hX1
   refine (laws_markText.l0.partial_correctness (fun v2 v3 s' => s' = t5 → (V1 ⟨[qi v2, .no, .no, qs v3], [], []⟩)) ?_ _ _ _ ht5 rfl)
   intro l0 IH1 v2 v3 s' H1 e
   subst e
   refine hV1 _ ?_
   have J1a := fun {v2 v3 τ} h l => hW1 _ τ ((IH1 v2 v3 _ h rfl)) l
   exact au H1 (aL @J1a hX1 (aA H trivial))⟩
instance laws_markMetricS_ok  {a1 : List Metric} {a2 : Int} : FOK R (laws_markMetricS a1 a2) 52 [.c (cL enc_Metric a1) (some (3, false)), .c (cI .i64 a2) none] fun r => (.c (cI .i64 r.1) none, [some [(cL enc_Metric r.2, some (3, false))]]) := ⟨fun {r} H => by
 unfold laws_markMetricS at H
 refine fw false 35 Try.func52 ?_
 refine s_ ?_
 obtain ⟨t13, ht13, H⟩ := bnd H
 refine loop_rule (ls := [.r 0]) 0 (fun t13 : Int × List Metric => ⟨[.no, qi t13.1], [], [rr 3 enc_Metric t13.2 true]⟩) (fun t => t13 = t) ⟨[.row 0, qi a2, .no, .no, .no, qi 0], [], [rr 3 enc_Metric a1 true]⟩ mO lE ?_ ?_
 ·
  rintro t1 rfl
  exact au0 H
 ·
  intro V1 hV1 hW1 hX1
  refine (laws_markMetricS.l0.partial_correctness (fun v3 v4 v5 s' => s' = t13 → (V1 ⟨[.row 0, qi v3, .no, .no, .no, qi v4], [], [rr 3 enc_Metric v5 true]⟩)) ?_ _ _ _ _ ht13 rfl)
  intro l0 IH1 v3 v4 v5 s' H1 e
  subst e
  refine hV1 _ ?_
  have J1a := fun {v3 v4 v5 τ} h l => hW1 _ τ ((IH1 v3 v4 v5 _ h rfl)) l
  exact au H1 (aL @J1a hX1 (aA H trivial))⟩
instance laws_markNoteS_ok  {a1 : List Note} {a2 : Int} : FOK R (laws_markNoteS a1 a2) 53 [.c (cL enc_Note a1) (some (2, false)), .c (cI .i64 a2) none] fun r => (.c (cI .i64 r.1) none, [some [(cL enc_Note r.2, some (2, false))]]) := ⟨fun {r} H => by
 unfold laws_markNoteS at H
 refine fw false 29 Try.func53 ?_
 refine s_ ?_
 obtain ⟨t12, ht12, H⟩ := bnd H
 refine loop_rule (ls := [.r 0]) 0 (fun t12 : Int × List Note => ⟨[.no, qi t12.1], [], [rr 2 enc_Note t12.2 true]⟩) (fun t => t12 = t) ⟨[.row 0, qi a2, .no, .no, .no, qi 0], [], [rr 2 enc_Note a1 true]⟩ mO lE ?_ ?_
 ·
  rintro t1 rfl
  exact au0 H
 ·
  intro V1 hV1 hW1 hX1
  refine (laws_markNoteS.l0.partial_correctness (fun v3 v4 v5 s' => s' = t12 → (V1 ⟨[.row 0, qi v3, .no, .no, .no, qi v4], [], [rr 2 enc_Note v5 true]⟩)) ?_ _ _ _ _ ht12 rfl)
  intro l0 IH1 v3 v4 v5 s' H1 e
  subst e
  refine hV1 _ ?_
  have J1a := fun {v3 v4 v5 τ} h l => hW1 _ τ ((IH1 v3 v4 v5 _ h rfl)) l
  exact au H1 (aL @J1a hX1 (aA H trivial))⟩
end Go.Pu
