import Derived.Test.YtligkplajabcfaaDeleteOk0
set_option linter.unusedVariables false
set_option linter.unusedSimpArgs false
set_option synthInstance.maxSize 1000000000
set_option maxRecDepth 20000
set_option maxHeartbeats 20000000
namespace Go.Pu
open Go Go.SX Go.Nt Go.Proofs
instance impl_NameOk_ok  {a1 : Str} : FOK R (impl_NameOk a1) 86 [.c (cS a1) none] fun r => (.c (cB r) none, []) := ⟨fun {r} H => by
 unfold impl_NameOk at H
 refine fw false 43 Try.func86 ?_
 refine s_ ?_
 obtain ⟨s13, hs13, H⟩ := bnd H
 refine loop_rule (ls := []) 0 (fun t11 : Unit => ⟨[qs a1], [], []⟩) (fun t => s13 = .inr t) ⟨[qs a1, .no, .no, .no, .no, .no, qi (a1.length : Int), qi 0], [], []⟩ mO lE ?_ ?_
 ·
  rintro t11 rfl
  exact au0 H
 ·
  intro V1 hV1 hW1 hX1
  refine (impl_NameOk.l0.partial_correctness a1 (fun v2 s' => s' = s13 → (V1 ⟨[qs a1, .no, .no, .no, .no, .no, qi (a1.length : Int), qi v2], [], []⟩)) ?_ _ _ hs13 rfl)
  intro l0 IH1 v2 s' H1 e
  subst e
  refine hV1 _ ?_
  have J1a := fun {v2 τ} h l => hW1 _ τ ((IH1 v2 _ h rfl)) l
  exact au H1 (aL @J1a hX1 (aA H trivial))⟩
instance impl_MetricOk_ok  {a1 : Metric} : FOK R (impl_MetricOk a1) 85 [gMetric a1] fun r => (.c (cB r) none, []) := ⟨fun {r} H => by
 unfold impl_MetricOk at H
 refine fw false 16 Try.func85 ?_
 exact au0 H⟩
instance impl_isMany_ok  {a1 : Int} : FOK R (impl_isMany a1) 96 [.c (cI .i64 a1) none] fun r => (.c (cB r) none, []) := ⟨fun {r} H => by
 unfold impl_isMany at H
 refine fw false 5 Try.func96 ?_
 exact au0 H⟩
instance impl_PaceOk_ok  {a1 : Pace} : FOK R (impl_PaceOk a1) 87 [gPace a1] fun r => (.c (cB r) none, []) := ⟨fun {r} H => by
 unfold impl_PaceOk at H
 refine fw false 21 Try.func87 ?_
 exact au0 H⟩
instance impl_isLetter_ok  {a1 : Int} : FOK R (impl_isLetter a1) 102 [.c (cI .u8 a1) none] fun r => (.c (cB r) none, []) := ⟨fun {r} H => by
 unfold impl_isLetter at H
 refine fw false 17 Try.func102 ?_
 exact au0 H⟩
theorem internal_bytealg_IndexByteString_ok {a1 : Str} {a2 r : Int} (H : internal_bytealg_IndexByteString a1 a2 = some r) : R 107 [.c (cS a1) none, .c (cI .u8 a2) none] = some (.c (cI .i64 r) none, []) := by
  obtain rfl := Option.some.inj H
  exact Fz_pr rfl (by simp only [indexByteF, indexByte_lib])
instance internal_bytealg_IndexByteString_i {a1 : Str} {a2 : Int} : FOK R (internal_bytealg_IndexByteString a1 a2) 107 [.c (cS a1) none, .c (cI .u8 a2) none] fun r => (.c (cI .i64 r) none, []) := ⟨fun {r} H => internal_bytealg_IndexByteString_ok H⟩
instance internal_stringslite_IndexByte_ok  {a1 : Str} {a2 : Int} : FOK R (internal_stringslite_IndexByte a1 a2) 106 [.c (cS a1) none, .c (cI .u8 a2) none] fun r => (.c (cI .i64 r) none, []) := ⟨fun {r} H => by
 unfold internal_stringslite_IndexByte at H
 refine fw false 8 Try.func106 ?_
 exact au0 H⟩
instance strings_IndexByte_ok  {a1 : Str} {a2 : Int} : FOK R (strings_IndexByte a1 a2) 103 [.c (cS a1) none, .c (cI .u8 a2) none] fun r => (.c (cI .i64 r) none, []) := ⟨fun {r} H => by
 unfold strings_IndexByte at H
 refine fw false 8 Try.func103 ?_
 exact au0 H⟩
instance impl_PlainOk_ok  {a1 : Str} : FOK R (impl_PlainOk a1) 97 [.c (cS a1) none] fun r => (.c (cB r) none, []) := ⟨fun {r} H => by
 unfold impl_PlainOk at H
 refine fw false 48 Try.func97 ?_
 refine s_ ?_
 obtain ⟨s11, hs11, H⟩ := bnd H
 refine loop_rule (ls := []) 0 (fun t9 : Unit => ⟨[qs a1], [], []⟩) (fun t => s11 = .inr t) ⟨[qs a1, .no, .no, .no, .no, qi (a1.length : Int), qi 0], [], []⟩ mO lE ?_ ?_
 ·
  rintro t9 rfl
  exact au0 H
 ·
  intro V1 hV1 hW1 hX1
  refine (impl_PlainOk.l0.partial_correctness a1 (fun v2 s' => s' = s11 → (V1 ⟨[qs a1, .no, .no, .no, .no, qi (a1.length : Int), qi v2], [], []⟩)) ?_ _ _ hs11 rfl)
  intro l0 IH1 v2 s' H1 e
  subst e
  refine hV1 _ ?_
  have J1a := fun {v2 τ} h l => hW1 _ τ ((IH1 v2 _ h rfl)) l
  exact au H1 (aL @J1a hX1 (aA H trivial))⟩
instance internal_stringslite_HasPrefix_ok  {a1 : Str} {a2 : Str} : FOK R (internal_stringslite_HasPrefix a1 a2) 104 [.c (cS a1) none, .c (cS a2) none] fun r => (.c (cB r) none, []) := ⟨fun {r} H => by
 unfold internal_stringslite_HasPrefix at H
 refine fw false 18 Try.func104 ?_
 exact au0 H⟩
instance strings_HasPrefix_ok  {a1 : Str} {a2 : Str} : FOK R (strings_HasPrefix a1 a2) 98 [.c (cS a1) none, .c (cS a2) none] fun r => (.c (cB r) none, []) := ⟨fun {r} H => by
 unfold strings_HasPrefix at H
 refine fw false 8 Try.func98 ?_
 exact au0 H⟩
instance impl_TextOk_ok  {a1 : Str} : FOK R (impl_TextOk a1) 99 [.c (cS a1) none] fun r => (.c (cB r) none, []) := ⟨fun {r} H => by
 unfold impl_TextOk at H
 refine fw false 19 Try.func99 ?_
 refine s_ ?_
 obtain ⟨s6, hs6, H⟩ := bnd H
 refine loop_rule (ls := []) 0 (fun t5 : Unit => ⟨[qs a1], [], []⟩) (fun t => s6 = .inr t) ⟨[qs a1, .no, .no, .no, .no, qi (a1.length : Int), qi 0], [], []⟩ mO lE ?_ ?_
 ·
  rintro t5 rfl
  exact au0 H
 ·
  intro V1 hV1 hW1 hX1
  refine (impl_TextOk.l0.partial_correctness a1 (fun v2 s' => s' = s6 → (V1 ⟨[qs a1, .no, .no, .no, .no, qi (a1.length : Int), qi v2], [], []⟩)) ?_ _ _ hs6 rfl)
  intro l0 IH1 v2 s' H1 e
  subst e
  refine hV1 _ ?_
  have J1a := fun {v2 τ} h l => hW1 _ τ ((IH1 v2 _ h rfl)) l
  exact au H1 (aL @J1a hX1 (aA H trivial))⟩
instance impl_notesOk_ok  {a1 : List Note} : FOK R (impl_notesOk a1) 88 [.c (cL enc_Note a1) none] fun r => (.c (cB r) none, []) := ⟨fun {r} H => by
 unfold impl_notesOk at H
 refine fw false 52 Try.func88 ?_
 refine s_ ?_
 obtain ⟨s9, hs9, H⟩ := bnd H
 refine loop_rule (ls := []) 0 (fun t8 : Unit => ⟨[.c (cL enc_Note a1)], [], []⟩) (fun t => s9 = .inr t) ⟨[.c (cL enc_Note a1), .no, .no, .no, .no, .c (cL enc_Note a1), qi (a1.length : Int), qi 0], [], []⟩ mO lE ?_ ?_
 ·
  rintro t8 rfl
  exact au0 H
 ·
  intro V1 hV1 hW1 hX1
  refine (impl_notesOk.l0.partial_correctness a1 (fun v2 s' => s' = s9 → (V1 ⟨[.c (cL enc_Note a1), .no, .no, .no, .no, .c (cL enc_Note a1), qi (a1.length : Int), qi v2], [], []⟩)) ?_ _ _ hs9 rfl)
  intro l0 IH1 v2 s' H1 e
  subst e
  refine hV1 _ ?_
  have J1a := fun {v2 τ} h l => hW1 _ τ ((IH1 v2 _ h rfl)) l
  exact au H1 (aL @J1a hX1 (aA H trivial))⟩
instance impl_OrderOk_ok  {a1 : Order} : FOK R (impl_OrderOk a1) 66 [gOrder a1] fun r => (.c (cB r) none, []) := ⟨fun {r} H => by
 unfold impl_OrderOk at H
 refine fw false 69 Try.func66 ?_
 refine s_ ?_
 obtain ⟨s12, hs12, H⟩ := bnd H
 refine loop_rule (ls := []) 0 (fun t6 : Unit => ⟨[.no, .bp 0 0], [some (uO a1 (.c (cL enc_Metric a1.Metrics)) (.c (cL enc_Note a1.Notes)) [])], []⟩) (fun t => s12 = .inr t) ⟨[.no, .bp 0 0, .no, .no, .no, .no, .c (cL enc_Metric a1.Metrics), qi (a1.Metrics.length : Int), qi 0], [some (uO a1 (.c (cL enc_Metric a1.Metrics)) (.c (cL enc_Note a1.Notes)) [])], []⟩ mO lE ?_ ?_
 ·
  rintro t6 rfl
  exact au0 H
 ·
  intro V1 hV1 hW1 hX1
  refine (impl_OrderOk.l0.partial_correctness a1 (fun v2 s' => s' = s12 → (V1 ⟨[.no, .bp 0 0, .no, .no, .no, .no, .c (cL enc_Metric a1.Metrics), qi (a1.Metrics.length : Int), qi v2], [some (uO a1 (.c (cL enc_Metric a1.Metrics)) (.c (cL enc_Note a1.Notes)) [])], []⟩)) ?_ _ _ hs12 rfl)
  intro l0 IH1 v2 s' H1 e
  subst e
  refine hV1 _ ?_
  have J1a := fun {v2 τ} h l => hW1 _ τ ((IH1 v2 _ h rfl)) l
  exact au H1 (aL @J1a hX1 (aA H trivial))⟩
instance impl_StoreOk_1_ok  {a1 : Item} {a2 : Item} : FOK R (impl_StoreOk_1 a1 a2) 68 [gItem a1, gPItem a2] fun r => (.c (cB r.1) none, [some [(cS r.2.Order.Name, none), (cS r.2.Order.Target, none), (cI .i64 r.2.Order.Low, none), (cI .i64 r.2.Order.High, none), (cL enc_Metric r.2.Order.Metrics, none), (cI .i64 r.2.Order.Pace.Up, none), (cI .i64 r.2.Order.Pace.Down, none), (cI .i64 r.2.Order.Pace.UpSpan, none), (cI .i64 r.2.Order.Pace.DownSpan, none), (cL enc_Note r.2.Order.Notes, none), (cI .i64 r.2.Ver, none)]]) := ⟨fun {r} H => by
 unfold impl_StoreOk_1 at H
 refine fw false 9 Try.func68 ?_
 exact au0 H⟩
instance slices_IndexFunc_Simpl_Item_impl_Item_impl_StoreOk_1_ok  {a1 : List Item} {a2 : Item} : FOK R (slices_IndexFunc_Simpl_Item_impl_Item_impl_StoreOk_1 a1 a2) 56 [.c (cL enc_Item a1) none, .f 68 [[(cS a2.Order.Name, none), (cS a2.Order.Target, none), (cI .i64 a2.Order.Low, none), (cI .i64 a2.Order.High, none), (cL enc_Metric a2.Order.Metrics, none), (cI .i64 a2.Order.Pace.Up, none), (cI .i64 a2.Order.Pace.Down, none), (cI .i64 a2.Order.Pace.UpSpan, none), (cI .i64 a2.Order.Pace.DownSpan, none), (cL enc_Note a2.Order.Notes, none), (cI .i64 a2.Ver, none)]]] fun r => (.c (cI .i64 r.1) none, [some [(cS r.2.Order.Name, none), (cS r.2.Order.Target, none), (cI .i64 r.2.Order.Low, none), (cI .i64 r.2.Order.High, none), (cL enc_Metric r.2.Order.Metrics, none), (cI .i64 r.2.Order.Pace.Up, none), (cI .i64 r.2.Order.Pace.Down, none), (cI .i64 r.2.Order.Pace.UpSpan, none), (cI .i64 r.2.Order.Pace.DownSpan, none), (cL enc_Note r.2.Order.Notes, none), (cI .i64 r.2.Ver, none)]]) := ⟨fun {r} H => by
 unfold slices_IndexFunc_Simpl_Item_impl_Item_impl_StoreOk_1 at H
 refine fw false 19 Try.func56 ?_
 refine s_ ?_
 obtain ⟨s18, hs18, H⟩ := bnd H
 refine loop_rule (ls := [.b 0]) 0 (fun t17 : Str × Str × Int × Int × List Metric × Int × Int × Int × Int × List Note × Int => ⟨[], [some [qs t17.1, qs t17.2.1, qi t17.2.2.1, qi t17.2.2.2.1, .c (cL enc_Metric t17.2.2.2.2.1), qi t17.2.2.2.2.2.1, qi t17.2.2.2.2.2.2.1, qi t17.2.2.2.2.2.2.2.1, qi t17.2.2.2.2.2.2.2.2.1, .c (cL enc_Note t17.2.2.2.2.2.2.2.2.2.1), qi t17.2.2.2.2.2.2.2.2.2.2]], []⟩) (fun t => s18 = .inr t) ⟨[.c (cL enc_Item a1), .fn 68 [0], .no, .no, .no, .no, .no, qi (a1.length : Int), qi 0], [some (uO a2.Order (.c (cL enc_Metric a2.Order.Metrics)) (.c (cL enc_Note a2.Order.Notes)) [qi a2.Ver])], []⟩ mO lE ?_ ?_
 ·
  rintro t17 rfl
  exact au0 H
 ·
  intro V1 hV1 hW1 hX1
  refine (slices_IndexFunc_Simpl_Item_impl_Item_impl_StoreOk_1.l0.partial_correctness a1 (fun v3 v4 v5 v6 v7 v8 v9 v10 v11 v12 v13 v14 s' => s' = s18 → (V1 ⟨[.c (cL enc_Item a1), .fn 68 [0], .no, .no, .no, .no, .no, qi (a1.length : Int), qi v3], [some [qs v4, qs v5, qi v6, qi v7, .c (cL enc_Metric v8), qi v9, qi v10, qi v11, qi v12, .c (cL enc_Note v13), qi v14]], []⟩)) ?_ _ _ _ _ _ _ _ _ _ _ _ _ _ hs18 rfl)
  intro l0 IH1 v3 v4 v5 v6 v7 v8 v9 v10 v11 v12 v13 v14 s' H1 e
  subst e
  refine hV1 _ ?_
  have J1a := fun {v3 v4 v5 v6 v7 v8 v9 v10 v11 v12 v13 v14 τ} h l => hW1 _ τ ((IH1 v3 v4 v5 v6 v7 v8 v9 v10 v11 v12 v13 v14 _ h rfl)) l
  exact au H1 (aL @J1a hX1 (aA H trivial))⟩
instance slices_ContainsFunc_Simpl_Item_impl_Item_impl_StoreOk_1_ok  {a1 : List Item} {a2 : Item} : FOK R (slices_ContainsFunc_Simpl_Item_impl_Item_impl_StoreOk_1 a1 a2) 67 [.c (cL enc_Item a1) none, .f 68 [[(cS a2.Order.Name, none), (cS a2.Order.Target, none), (cI .i64 a2.Order.Low, none), (cI .i64 a2.Order.High, none), (cL enc_Metric a2.Order.Metrics, none), (cI .i64 a2.Order.Pace.Up, none), (cI .i64 a2.Order.Pace.Down, none), (cI .i64 a2.Order.Pace.UpSpan, none), (cI .i64 a2.Order.Pace.DownSpan, none), (cL enc_Note a2.Order.Notes, none), (cI .i64 a2.Ver, none)]]] fun r => (.c (cB r.1) none, [some [(cS r.2.Order.Name, none), (cS r.2.Order.Target, none), (cI .i64 r.2.Order.Low, none), (cI .i64 r.2.Order.High, none), (cL enc_Metric r.2.Order.Metrics, none), (cI .i64 r.2.Order.Pace.Up, none), (cI .i64 r.2.Order.Pace.Down, none), (cI .i64 r.2.Order.Pace.UpSpan, none), (cI .i64 r.2.Order.Pace.DownSpan, none), (cL enc_Note r.2.Order.Notes, none), (cI .i64 r.2.Ver, none)]]) := ⟨fun {r} H => by
 unfold slices_ContainsFunc_Simpl_Item_impl_Item_impl_StoreOk_1 at H
 refine fw false 9 Try.func67 ?_
 exact au0 H⟩
instance impl_StoreOk_ok  {a1 : Store} : FOK R (impl_StoreOk a1) 40 [gStore a1] fun r => (.c (cB r) none, []) := ⟨fun {r} H => by
 unfold impl_StoreOk at H
 refine fw false 61 Try.func40 ?_
 refine s_ ?_
 refine WO_iA H (fun hc H => ?_) (fun hc H => ?_)
 ·
  exact au0 H
 ·
  refine s_ ?_
  obtain ⟨x2, hx2, H⟩ := bnd H
  refine b_ hx2 ?_
  refine s_ ?_
  refine W_ite rfl H (fun hc H => ?_) (fun hc H => ?_)
  ·
   exact au0 H
  ·
   refine s_ ?_
   obtain ⟨s13, hs13, H⟩ := bnd H
   refine loop_rule (ls := []) 0 (fun t12 : Unit => ⟨[], [], []⟩) (fun t => s13 = .inr t) ⟨[.no, .bp 0 0, .no, .no, .no, .no, .no, .no, .no, .no, .no, .no, .no, .no, .no, .no, .c (cL enc_Item a1.Items), qi (a1.Items.length : Int), qi 0], [some [.c (cL enc_Item a1.Items), qi a1.Next]], []⟩ mO lE ?_ ?_
   ·
    rintro t12 rfl
    exact au0 H
   ·
    intro V1 hV1 hW1 hX1
    refine (impl_StoreOk.l0.partial_correctness a1 (fun v3 s' => s' = s13 → (V1 ⟨[.no, .bp 0 0, .no, .no, .no, .no, .no, .no, .no, .no, .no, .no, .no, .no, .no, .no, .c (cL enc_Item a1.Items), qi (a1.Items.length : Int), qi v3], [some [.c (cL enc_Item a1.Items), qi a1.Next]], []⟩)) ?_ _ _ hs13 rfl)
    intro l0 IH1 v3 s' H1 e
    subst e
    refine hV1 _ ?_
    have J1a := fun {v3 τ} h l => hW1 _ τ ((IH1 v3 _ h rfl)) l
    exact au H1 (aL @J1a hX1 (aA H trivial))⟩
theorem slices_Clone_Simpl_Metric_impl_Metric_ok {a1 r : List Metric} (H : slices_Clone_Simpl_Metric_impl_Metric a1 = some r) : R 79 [.c (cL enc_Metric a1) none] = some (.c (cL enc_Metric r) (some (3, false)), []) := by
  unfold slices_Clone_Simpl_Metric_impl_Metric Nt.clone at H
  split at H
  · rename_i h
    obtain rfl := Option.some.inj H
    exact Fz_pr rfl (by simp only [cloneF]; rw [if_pos ⟨wide_map (en := enc_Metric) (fun _ => rfl) a1, by simpa using h⟩])
  · simp at H
instance slices_Clone_Simpl_Metric_impl_Metric_i {a1 : List Metric} : FOK R (slices_Clone_Simpl_Metric_impl_Metric a1) 79 [.c (cL enc_Metric a1) none] fun r => (.c (cL enc_Metric r) (some (3, false)), []) := ⟨fun {r} H => slices_Clone_Simpl_Metric_impl_Metric_ok H⟩
theorem slices_Clone_Simpl_Note_impl_Note_ok {a1 r : List Note} (H : slices_Clone_Simpl_Note_impl_Note a1 = some r) : R 80 [.c (cL enc_Note a1) none] = some (.c (cL enc_Note r) (some (2, false)), []) := by
  unfold slices_Clone_Simpl_Note_impl_Note Nt.clone at H
  split at H
  · rename_i h
    obtain rfl := Option.some.inj H
    exact Fz_pr rfl (by simp only [cloneF]; rw [if_pos ⟨wide_map (en := enc_Note) (fun _ => rfl) a1, by simpa using h⟩])
  · simp at H
instance slices_Clone_Simpl_Note_impl_Note_i {a1 : List Note} : FOK R (slices_Clone_Simpl_Note_impl_Note a1) 80 [.c (cL enc_Note a1) none] fun r => (.c (cL enc_Note r) (some (2, false)), []) := ⟨fun {r} H => slices_Clone_Simpl_Note_impl_Note_ok H⟩
instance impl_copyOrder_ok  {a1 : Order} : FOK R (impl_copyOrder a1) 58 [gOrder a1] fun r => (gOrder_oo r, []) := ⟨fun {r} H => by
 unfold impl_copyOrder at H
 refine fw false 12 Try.func58 ?_
 exact au0 H⟩
instance impl_copyItem_ok  {a1 : Item} : FOK R (impl_copyItem a1) 33 [gItem a1] fun r => (gItem_oo r, []) := ⟨fun {r} H => by
 unfold impl_copyItem at H
 refine fw false 9 Try.func33 ?_
 exact au0 H⟩
instance impl_copyItems_ok  {a1 : List Item} : FOK R (impl_copyItems a1) 64 [.c (cL enc_Item a1) none] fun r => (.c (cL enc_Item r) (some (11, true)), []) := ⟨fun {r} H => by
 unfold impl_copyItems at H
 refine fw false 20 Try.func64 ?_
 refine s_ ?_
 refine WO_op (x := .row 0) (σ' := ⟨[], [], [rd 11 enc_Item ([] : List Item)]⟩) rfl rfl (ev_bsD ([] : List Item) enc_Item dg_nil rfl rfl rfl rfl rfl rfl rfl rfl rfl rfl rfl rfl rfl) (n1 ?_)
 refine s_ ?_
 obtain ⟨t7, ht7, H⟩ := bnd H
 refine loop_rule (ls := []) 0 (fun t7 : List Item => ⟨[.no, .no, .no, .row 0], [], [rd 11 enc_Item t7]⟩) (fun t => t7 = t) ⟨[.no, .no, .no, .row 0, .no, .no, .no, .c (cL enc_Item a1), qi (a1.length : Int), qi 0], [], [rd 11 enc_Item ([] : List Item)]⟩ mO lE ?_ ?_
 ·
  rintro t1 rfl
  exact au0 H
 ·
  intro V1 hV1 hW1 hX1
  refine (impl_copyItems.l0.partial_correctness a1 (fun v2 v3 s' => s' = t7 → (V1 ⟨[.no, .no, .no, .row 0, .no, .no, .no, .c (cL enc_Item a1), qi (a1.length : Int), qi v2], [], [rd 11 enc_Item v3]⟩)) ?_ _ _ _ ht7 rfl)
  intro l0 IH1 v2 v3 s' H1 e
  subst e
  refine hV1 _ ?_
  have J1a := fun {v2 v3 τ} h l => hW1 _ τ ((IH1 v2 v3 _ h rfl)) l
  refine s_ ?_
  refine W_ite rfl H1 (fun hc H1 => ?_) (fun hc H1 => ?_)
  ·
   refine s_ ?_
   obtain ⟨x4, hx4, H1⟩ := bnd H1
   refine b_ hx4 ?_
   refine s_ ?_
   obtain ⟨x5, hx5, H1⟩ := bnd H1
   refine b_ hx5 ?_
   refine WO_op (x := .row 3) (σ' := ⟨[], [some (uO x4.Order (.c (cL enc_Metric x4.Order.Metrics)) (.c (cL enc_Note x4.Order.Notes)) [qi x4.Ver])], [rd 11 enc_Item v3, none, none, rd 11 enc_Item ([x5] : List Item)]⟩) rfl rfl (ev_bsD ([x5] : List Item) enc_Item (dg_c (dg_c (dg_c (dg_c (dg_f (fl_Metric _) rfl (dg_c (dg_c (dg_c (dg_c (dg_f (fl_Note _) rfl (dg_c dg_nil))))))))))) rfl rfl rfl rfl rfl rfl rfl rfl rfl rfl rfl rfl rfl) (n1 ?_)
   obtain ⟨m6, hm6, H1⟩ := bnd H1
   refine WO_op (x := .row 4) (σ' := ⟨[], [some (uO x4.Order (.c (cL enc_Metric x4.Order.Metrics)) (.c (cL enc_Note x4.Order.Notes)) [qi x4.Ver])], [none, none, none, none, rd 11 enc_Item m6]⟩) rfl rfl (ev_appD (en := enc_Item) hm6 rfl rfl rfl rfl (Or.inl rfl) rfl rfl rfl rfl rfl rfl rfl rfl rfl rfl rfl rfl rfl (fun _ => rfl) rfl) (n1 ?_)
   exact au H1 (aL @J1a hX1 (aA H trivial))
  ·
   exact au H1 (aL @J1a hX1 (aA H trivial))⟩
instance impl_copyStore_ok  {a1 : Store} : FOK R (impl_copyStore a1) 39 [gStore a1] fun r => (gStore_d r, []) := ⟨fun {r} H => by
 unfold impl_copyStore at H
 refine fw false 9 Try.func39 ?_
 exact au0 H⟩
instance impl_placeOf_1_ok  {a1 : Item} {a2 : Str} : FOK R (impl_placeOf_1 a1 a2) 57 [gItem a1, .p [(cS a2, none)]] fun r => (.c (cB r.1) none, [some [(cS r.2, none)]]) := ⟨fun {r} H => by
 unfold impl_placeOf_1 at H
 refine fw false 9 Try.func57 ?_
 exact au0 H⟩
instance slices_IndexFunc_Simpl_Item_impl_Item_impl_placeOf_1_ok  {a1 : List Item} {a2 : Str} : FOK R (slices_IndexFunc_Simpl_Item_impl_Item_impl_placeOf_1 a1 a2) 56 [.c (cL enc_Item a1) none, .f 57 [[(cS a2, none)]]] fun r => (.c (cI .i64 r.1) none, [some [(cS r.2, none)]]) := ⟨fun {r} H => by
 unfold slices_IndexFunc_Simpl_Item_impl_Item_impl_placeOf_1 at H
 refine fw false 19 Try.func56 ?_
 refine s_ ?_
 obtain ⟨s8, hs8, H⟩ := bnd H
 refine loop_rule (ls := [.b 0]) 0 (fun t7 : Str => ⟨[], [some [qs t7]], []⟩) (fun t => s8 = .inr t) ⟨[.c (cL enc_Item a1), .fn 57 [0], .no, .no, .no, .no, .no, qi (a1.length : Int), qi 0], [some [qs a2]], []⟩ mO lE ?_ ?_
 ·
  rintro t7 rfl
  exact au0 H
 ·
  intro V1 hV1 hW1 hX1
  refine (slices_IndexFunc_Simpl_Item_impl_Item_impl_placeOf_1.l0.partial_correctness a1 (fun v3 v4 s' => s' = s8 → (V1 ⟨[.c (cL enc_Item a1), .fn 57 [0], .no, .no, .no, .no, .no, qi (a1.length : Int), qi v3], [some [qs v4]], []⟩)) ?_ _ _ _ hs8 rfl)
  intro l0 IH1 v3 v4 s' H1 e
  subst e
  refine hV1 _ ?_
  have J1a := fun {v3 v4 τ} h l => hW1 _ τ ((IH1 v3 v4 _ h rfl)) l
  exact au H1 (aL @J1a hX1 (aA H trivial))⟩
instance impl_placeOf_ok  {a1 : List Item} {a2 : Str} : FOK R (impl_placeOf a1 a2) 32 [.c (cL enc_Item a1) none, .c (cS a2) none] fun r => (.c (cI .i64 r) none, []) := ⟨fun {r} H => by
 unfold impl_placeOf at H
 refine fw false 8 Try.func32 ?_
 exact au0 H⟩
instance impl_Find_ok  {a1 : Store} {a2 : Str} : FOK R (impl_Find a1 a2) 10 [gStore a1, .c (cS a2) none] fun r => (.tu [gItem_oo r.1, .c (cB r.2) none], []) := ⟨fun {r} H => by
 unfold impl_Find at H
 refine fw false 20 Try.func10 ?_
 exact au0 H⟩
theorem slices_Delete_Simpl_Item_impl_Item_ok {a1 : List Item} {a2 a3 : Int} {r : List Item} (H : slices_Delete_Simpl_Item_impl_Item a1 a2 a3 = some r) : R 41 [.c (cL enc_Item a1) (some (11, true)), .c (cI .i64 a2) none, .c (cI .i64 a3) none] = some (.c (cL enc_Item r) (some (11, true)), [none]) :=
  Fz_pr rfl (delD_of H)
instance slices_Delete_Simpl_Item_impl_Item_i {a1 : List Item} {a2 a3 : Int}  : FOK R (slices_Delete_Simpl_Item_impl_Item a1 a2 a3) 41 [.c (cL enc_Item a1) (some (11, true)), .c (cI .i64 a2) none, .c (cI .i64 a3) none] fun r => (.c (cL enc_Item r) (some (11, true)), [none]) := ⟨fun {r} H => slices_Delete_Simpl_Item_impl_Item_ok H⟩
instance impl_Drop_ok  {a1 : Store} {a2 : Str} : FOK R (impl_Drop a1 a2) 17 [gStore a1, .c (cS a2) none] fun r => (.tu [gStore_d r.1, .c (cB r.2) none], []) := ⟨fun {r} H => by
 unfold impl_Drop at H
 refine fw false 29 Try.func17 ?_
 exact au0 H⟩
instance impl_Delete_ok  {a1 : Store} {a2 : Str} : FOK R (impl_Delete a1 a2) 20 [gStore a1, .c (cS a2) none] fun r => (.tu [gStore_d r.1, gAnswer r.2], []) := ⟨fun {r} H => by
 unfold impl_Delete at H
 refine fw false 37 Try.func20 ?_
 exact au0 H⟩
instance laws_eqMetric_ok  {a1 : Metric} {a2 : Metric} : FOK R (laws_eqMetric a1 a2) 77 [gMetric a1, gMetric a2] fun r => (.c (cB r) none, []) := ⟨fun {r} H => by
 unfold laws_eqMetric at H
 refine fw false 20 Try.func77 ?_
 exact au0 H⟩
instance laws_eqMetricS_ok  {a1 : List Metric} {a2 : List Metric} : FOK R (laws_eqMetricS a1 a2) 49 [.c (cL enc_Metric a1) none, .c (cL enc_Metric a2) none] fun r => (.c (cB r) none, []) := ⟨fun {r} H => by
 unfold laws_eqMetricS at H
 refine fw false 27 Try.func49 ?_
 refine s_ ?_
 refine W_ite rfl H (fun hc H => ?_) (fun hc H => ?_)
 ·
  exact au0 H
 ·
  refine s_ ?_
  obtain ⟨s8, hs8, H⟩ := bnd H
  refine loop_rule (ls := []) 0 (fun t7 : Unit => ⟨[], [], []⟩) (fun t => s8 = .inr t) ⟨[.c (cL enc_Metric a1), .c (cL enc_Metric a2), .no, .no, .no, qi 0], [], []⟩ mO lE ?_ ?_
  ·
   rintro t7 rfl
   exact au0 H
  ·
   intro V1 hV1 hW1 hX1
   refine (laws_eqMetricS.l0.partial_correctness a1 a2 (fun v3 s' => s' = s8 → (V1 ⟨[.c (cL enc_Metric a1), .c (cL enc_Metric a2), .no, .no, .no, qi v3], [], []⟩)) ?_ _ _ hs8 rfl)
   intro l0 IH1 v3 s' H1 e
   subst e
   refine hV1 _ ?_
   have J1a := fun {v3 τ} h l => hW1 _ τ ((IH1 v3 _ h rfl)) l
   exact au H1 (aL @J1a hX1 (aA H trivial))⟩
instance laws_eqPace_ok  {a1 : Pace} {a2 : Pace} : FOK R (laws_eqPace a1 a2) 50 [gPace a1, gPace a2] fun r => (.c (cB r) none, []) := ⟨fun {r} H => by
 unfold laws_eqPace at H
 refine fw false 25 Try.func50 ?_
 exact au0 H⟩
instance laws_eqNote_ok  {a1 : Note} {a2 : Note} : FOK R (laws_eqNote a1 a2) 78 [gNote a1, gNote a2] fun r => (.c (cB r) none, []) := ⟨fun {r} H => by
 unfold laws_eqNote at H
 refine fw false 15 Try.func78 ?_
 exact au0 H⟩
instance laws_eqNoteS_ok  {a1 : List Note} {a2 : List Note} : FOK R (laws_eqNoteS a1 a2) 51 [.c (cL enc_Note a1) none, .c (cL enc_Note a2) none] fun r => (.c (cB r) none, []) := ⟨fun {r} H => by
 unfold laws_eqNoteS at H
 refine fw false 27 Try.func51 ?_
 refine s_ ?_
 refine W_ite rfl H (fun hc H => ?_) (fun hc H => ?_)
 ·
  exact au0 H
 ·
  refine s_ ?_
  obtain ⟨s8, hs8, H⟩ := bnd H
  refine loop_rule (ls := []) 0 (fun t7 : Unit => ⟨[], [], []⟩) (fun t => s8 = .inr t) ⟨[.c (cL enc_Note a1), .c (cL enc_Note a2), .no, .no, .no, qi 0], [], []⟩ mO lE ?_ ?_
  ·
   rintro t7 rfl
   exact au0 H
  ·
   intro V1 hV1 hW1 hX1
   refine (laws_eqNoteS.l0.partial_correctness a1 a2 (fun v3 s' => s' = s8 → (V1 ⟨[.c (cL enc_Note a1), .c (cL enc_Note a2), .no, .no, .no, qi v3], [], []⟩)) ?_ _ _ hs8 rfl)
   intro l0 IH1 v3 s' H1 e
   subst e
   refine hV1 _ ?_
   have J1a := fun {v3 τ} h l => hW1 _ τ ((IH1 v3 _ h rfl)) l
   exact au H1 (aL @J1a hX1 (aA H trivial))⟩
end Go.Pu
