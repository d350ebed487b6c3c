import Derived.Test.YtbndndpimaocdaaStoreOk1
set_option linter.unusedVariables false
set_option linter.unusedSimpArgs false
set_option synthInstance.maxSize 1000000000
set_option maxRecDepth 20000
set_option maxHeartbeats 20000000
namespace Go.Pu
open Go Go.SX Go.Nt Go.Proofs
instance slices_IndexFunc_Simpl_Item_impl_Item_impl_put_1_ok  {a1 : List Item} {a2 : Item} : FOK R (slices_IndexFunc_Simpl_Item_impl_Item_impl_put_1 a1 a2) 50 [.c (cL enc_Item a1) (some (11, false)), .f 49 [[(cS a2.Order.Name, none), (cS a2.Order.Target, none), (cI .i64 a2.Order.Low, none), (cI .i64 a2.Order.High, none), (cL enc_Metric a2.Order.Metrics, none), (cI .i64 a2.Order.Pace.Up, none), (cI .i64 a2.Order.Pace.Down, none), (cI .i64 a2.Order.Pace.UpSpan, none), (cI .i64 a2.Order.Pace.DownSpan, none), (cL enc_Note a2.Order.Notes, none), (cI .i64 a2.Ver, none)]]] fun r => (.c (cI .i64 r.1) none, [some [(cL enc_Item r.2.1, some (11, false))], some [(cS r.2.2.Order.Name, none), (cS r.2.2.Order.Target, none), (cI .i64 r.2.2.Order.Low, none), (cI .i64 r.2.2.Order.High, none), (cL enc_Metric r.2.2.Order.Metrics, none), (cI .i64 r.2.2.Order.Pace.Up, none), (cI .i64 r.2.2.Order.Pace.Down, none), (cI .i64 r.2.2.Order.Pace.UpSpan, none), (cI .i64 r.2.2.Order.Pace.DownSpan, none), (cL enc_Note r.2.2.Order.Notes, none), (cI .i64 r.2.2.Ver, none)]]) := ⟨fun {r} H => by
 unfold slices_IndexFunc_Simpl_Item_impl_Item_impl_put_1 at H
 refine fw false 19 Try.func50 ?_
 refine s_ ?_
 obtain ⟨s18, hs18, H⟩ := bnd H
 refine loop_rule (ls := [.r 0, .b 0]) 0 (fun t17 : Str × Str × Int × Int × List Metric × Int × Int × Int × Int × List Note × Int => ⟨[], [some [qs t17.1, qs t17.2.1, qi t17.2.2.1, qi t17.2.2.2.1, .c (cL enc_Metric t17.2.2.2.2.1), qi t17.2.2.2.2.2.1, qi t17.2.2.2.2.2.2.1, qi t17.2.2.2.2.2.2.2.1, qi t17.2.2.2.2.2.2.2.2.1, .c (cL enc_Note t17.2.2.2.2.2.2.2.2.2.1), qi t17.2.2.2.2.2.2.2.2.2.2]], [rr 11 enc_Item a1 true]⟩) (fun t => s18 = .inr t) ⟨[.row 0, .fn 49 [0], .no, .no, .no, .no, .no, qi (a1.length : Int), qi 0], [some (uO a2.Order (.c (cL enc_Metric a2.Order.Metrics)) (.c (cL enc_Note a2.Order.Notes)) [qi a2.Ver])], [rr 11 enc_Item a1 true]⟩ mO lE ?_ ?_
 ·
  rintro t17 rfl
  exact au0 H
 ·
  intro V1 hV1 hW1 hX1
  refine (slices_IndexFunc_Simpl_Item_impl_Item_impl_put_1.l0.partial_correctness a1 (fun v3 v4 v5 v6 v7 v8 v9 v10 v11 v12 v13 v14 s' => s' = s18 → (V1 ⟨[.row 0, .fn 49 [0], .no, .no, .no, .no, .no, qi (a1.length : Int), qi v3], [some [qs v4, qs v5, qi v6, qi v7, .c (cL enc_Metric v8), qi v9, qi v10, qi v11, qi v12, .c (cL enc_Note v13), qi v14]], [rr 11 enc_Item a1 true]⟩)) ?_ _ _ _ _ _ _ _ _ _ _ _ _ _ hs18 rfl)
  intro l0 IH1 v3 v4 v5 v6 v7 v8 v9 v10 v11 v12 v13 v14 s' H1 e
  subst e
  refine hV1 _ ?_
  have J1a := fun {v3 v4 v5 v6 v7 v8 v9 v10 v11 v12 v13 v14 τ} h l => hW1 _ τ ((IH1 v3 v4 v5 v6 v7 v8 v9 v10 v11 v12 v13 v14 _ h rfl)) l
  exact au H1 (aL @J1a hX1 (aA H trivial))⟩
instance slices_DeleteFunc_Simpl_Item_impl_Item_impl_put_1_ok  {a1 : List Item} {a2 : Item} : FOK R (slices_DeleteFunc_Simpl_Item_impl_Item_impl_put_1 a1 a2) 47 [.c (cL enc_Item a1) (some (11, false)), .f 49 [[(cS a2.Order.Name, none), (cS a2.Order.Target, none), (cI .i64 a2.Order.Low, none), (cI .i64 a2.Order.High, none), (cL enc_Metric a2.Order.Metrics, none), (cI .i64 a2.Order.Pace.Up, none), (cI .i64 a2.Order.Pace.Down, none), (cI .i64 a2.Order.Pace.UpSpan, none), (cI .i64 a2.Order.Pace.DownSpan, none), (cL enc_Note a2.Order.Notes, none), (cI .i64 a2.Ver, none)]]] fun r => (.c (cL enc_Item r.1) (some (11, false)), [none, some [(cS r.2.Order.Name, none), (cS r.2.Order.Target, none), (cI .i64 r.2.Order.Low, none), (cI .i64 r.2.Order.High, none), (cL enc_Metric r.2.Order.Metrics, none), (cI .i64 r.2.Order.Pace.Up, none), (cI .i64 r.2.Order.Pace.Down, none), (cI .i64 r.2.Order.Pace.UpSpan, none), (cI .i64 r.2.Order.Pace.DownSpan, none), (cL enc_Note r.2.Order.Notes, none), (cI .i64 r.2.Ver, none)]]) := ⟨fun {r} H => by
 unfold slices_DeleteFunc_Simpl_Item_impl_Item_impl_put_1 at H
 refine fw false 42 Try.func47 ?_
 refine s_ ?_
 obtain ⟨x3, hx3, H⟩ := bnd H
 refine b_ hx3 ?_
 refine s_ ?_
 refine W_ite rfl H (fun hc H => ?_) (fun hc H => ?_)
 ·
  exact au0 H
 ·
  refine s_ ?_
  obtain ⟨t22, ht22, H⟩ := bnd H
  refine loop_rule (ls := [.r 0, .b 0]) 0 (fun t22 : Int × Str × Str × Int × Int × List Metric × Int × Int × Int × Int × List Note × Int × List Item => ⟨[.row 0, .no, .no, .no, .no, qi t22.1], [some [qs t22.2.1, qs t22.2.2.1, qi t22.2.2.2.1, qi t22.2.2.2.2.1, .c (cL enc_Metric t22.2.2.2.2.2.1), qi t22.2.2.2.2.2.2.1, qi t22.2.2.2.2.2.2.2.1, qi t22.2.2.2.2.2.2.2.2.1, qi t22.2.2.2.2.2.2.2.2.2.1, .c (cL enc_Note t22.2.2.2.2.2.2.2.2.2.2.1), qi t22.2.2.2.2.2.2.2.2.2.2.2.1]], [rr 11 enc_Item t22.2.2.2.2.2.2.2.2.2.2.2.2 true]⟩) (fun t => t22 = t) ⟨[.row 0, .fn 49 [0], .no, .no, .no, qi x3.1, qi (IntKind.i64.wrap (x3.1 + 1))], [some (uO x3.2.2.Order (.c (cL enc_Metric x3.2.2.Order.Metrics)) (.c (cL enc_Note x3.2.2.Order.Notes)) [qi x3.2.2.Ver])], [rr 11 enc_Item x3.2.1 true]⟩ mO lE ?_ ?_
  ·
   rintro t1 rfl
   refine s_ ?_
   obtain ⟨s23, hs23, H⟩ := bnd H
   refine b_ hs23 ?_
   refine WO_op (x := .tu []) (σ' := ⟨[], [some [qs t22.2.1, qs t22.2.2.1, qi t22.2.2.2.1, qi t22.2.2.2.2.1, .c (cL enc_Metric t22.2.2.2.2.2.1), qi t22.2.2.2.2.2.2.1, qi t22.2.2.2.2.2.2.2.1, qi t22.2.2.2.2.2.2.2.2.1, qi t22.2.2.2.2.2.2.2.2.2.1, .c (cL enc_Note t22.2.2.2.2.2.2.2.2.2.2.1), qi t22.2.2.2.2.2.2.2.2.2.2.2.1]], [rr 11 enc_Item (Nt.clr t22.2.2.2.2.2.2.2.2.2.2.2.2 t22.1 (t22.2.2.2.2.2.2.2.2.2.2.2.2.length : Int) (Item.mk (Order.mk [] [] 0 0 [] (Pace.mk 0 0 0 0) []) 0)) true]⟩) rfl rfl (ev_clr (en := enc_Item) (a := (Item.mk (Order.mk [] [] 0 0 [] (Pace.mk 0 0 0 0) []) 0)) hs23 rfl rfl rfl rfl rfl rfl rfl rfl rfl rfl rfl rfl rfl rfl rfl rfl rfl) (n1 ?_)
   refine s_ ?_
   obtain ⟨s24, hs24, H⟩ := bnd H
   refine b_ hs24 ?_
   refine s_ ?_
   obtain rfl := Option.some.inj H
   exact told5 rfl rfl rfl rfl (fitAs_nz rfl) (by simp only [outA, cut_map]; rw [← (slc_some hs24).2.2.2]; try rfl)
  ·
   intro V1 hV1 hW1 hX1
   refine (slices_DeleteFunc_Simpl_Item_impl_Item_impl_put_1.l0.partial_correctness (fun v4 v5 v6 v7 v8 v9 v10 v11 v12 v13 v14 v15 v16 v17 s' => s' = t22 → (V1 ⟨[.row 0, .fn 49 [0], .no, .no, .no, qi v4, qi v5], [some [qs v6, qs v7, qi v8, qi v9, .c (cL enc_Metric v10), qi v11, qi v12, qi v13, qi v14, .c (cL enc_Note v15), qi v16]], [rr 11 enc_Item v17 true]⟩)) ?_ _ _ _ _ _ _ _ _ _ _ _ _ _ _ _ ht22 rfl)
   intro l0 IH1 v4 v5 v6 v7 v8 v9 v10 v11 v12 v13 v14 v15 v16 v17 s' H1 e
   subst e
   refine hV1 _ ?_
   have J1a := fun {v4 v5 v6 v7 v8 v9 v10 v11 v12 v13 v14 v15 v16 v17 τ} h l => hW1 _ τ ((IH1 v4 v5 v6 v7 v8 v9 v10 v11 v12 v13 v14 v15 v16 v17 _ h rfl)) l
   exact au H1 (aL @J1a hX1 (aA H trivial))⟩
instance impl_put_2_ok  {a1 : Item} {a2 : Item} : FOK R (impl_put_2 a1 a2) 51 [gItem a1, gPItem a2] fun r => (.c (cB r.1) none, [some [(cS r.2.Order.Name, none), (cS r.2.Order.Target, none), (cI .i64 r.2.Order.Low, none), (cI .i64 r.2.Order.High, none), (cL enc_Metric r.2.Order.Metrics, none), (cI .i64 r.2.Order.Pace.Up, none), (cI .i64 r.2.Order.Pace.Down, none), (cI .i64 r.2.Order.Pace.UpSpan, none), (cI .i64 r.2.Order.Pace.DownSpan, none), (cL enc_Note r.2.Order.Notes, none), (cI .i64 r.2.Ver, none)]]) := ⟨fun {r} H => by
 unfold impl_put_2 at H
 refine fw false 11 Try.func51 ?_
 exact au0 H⟩
instance slices_IndexFunc_Simpl_Item_impl_Item_impl_put_2_ok  {a1 : List Item} {a2 : Item} : FOK R (slices_IndexFunc_Simpl_Item_impl_Item_impl_put_2 a1 a2) 50 [.c (cL enc_Item a1) (some (11, false)), .f 51 [[(cS a2.Order.Name, none), (cS a2.Order.Target, none), (cI .i64 a2.Order.Low, none), (cI .i64 a2.Order.High, none), (cL enc_Metric a2.Order.Metrics, none), (cI .i64 a2.Order.Pace.Up, none), (cI .i64 a2.Order.Pace.Down, none), (cI .i64 a2.Order.Pace.UpSpan, none), (cI .i64 a2.Order.Pace.DownSpan, none), (cL enc_Note a2.Order.Notes, none), (cI .i64 a2.Ver, none)]]] fun r => (.c (cI .i64 r.1) none, [some [(cL enc_Item r.2.1, some (11, false))], some [(cS r.2.2.Order.Name, none), (cS r.2.2.Order.Target, none), (cI .i64 r.2.2.Order.Low, none), (cI .i64 r.2.2.Order.High, none), (cL enc_Metric r.2.2.Order.Metrics, none), (cI .i64 r.2.2.Order.Pace.Up, none), (cI .i64 r.2.2.Order.Pace.Down, none), (cI .i64 r.2.2.Order.Pace.UpSpan, none), (cI .i64 r.2.2.Order.Pace.DownSpan, none), (cL enc_Note r.2.2.Order.Notes, none), (cI .i64 r.2.2.Ver, none)]]) := ⟨fun {r} H => by
 unfold slices_IndexFunc_Simpl_Item_impl_Item_impl_put_2 at H
 refine fw false 19 Try.func50 ?_
 refine s_ ?_
 obtain ⟨s18, hs18, H⟩ := bnd H
 refine loop_rule (ls := [.r 0, .b 0]) 0 (fun t17 : Str × Str × Int × Int × List Metric × Int × Int × Int × Int × List Note × Int => ⟨[], [some [qs t17.1, qs t17.2.1, qi t17.2.2.1, qi t17.2.2.2.1, .c (cL enc_Metric t17.2.2.2.2.1), qi t17.2.2.2.2.2.1, qi t17.2.2.2.2.2.2.1, qi t17.2.2.2.2.2.2.2.1, qi t17.2.2.2.2.2.2.2.2.1, .c (cL enc_Note t17.2.2.2.2.2.2.2.2.2.1), qi t17.2.2.2.2.2.2.2.2.2.2]], [rr 11 enc_Item a1 true]⟩) (fun t => s18 = .inr t) ⟨[.row 0, .fn 51 [0], .no, .no, .no, .no, .no, qi (a1.length : Int), qi 0], [some (uO a2.Order (.c (cL enc_Metric a2.Order.Metrics)) (.c (cL enc_Note a2.Order.Notes)) [qi a2.Ver])], [rr 11 enc_Item a1 true]⟩ mO lE ?_ ?_
 ·
  rintro t17 rfl
  exact au0 H
 ·
  intro V1 hV1 hW1 hX1
  refine (slices_IndexFunc_Simpl_Item_impl_Item_impl_put_2.l0.partial_correctness a1 (fun v3 v4 v5 v6 v7 v8 v9 v10 v11 v12 v13 v14 s' => s' = s18 → (V1 ⟨[.row 0, .fn 51 [0], .no, .no, .no, .no, .no, qi (a1.length : Int), qi v3], [some [qs v4, qs v5, qi v6, qi v7, .c (cL enc_Metric v8), qi v9, qi v10, qi v11, qi v12, .c (cL enc_Note v13), qi v14]], [rr 11 enc_Item a1 true]⟩)) ?_ _ _ _ _ _ _ _ _ _ _ _ _ _ hs18 rfl)
  intro l0 IH1 v3 v4 v5 v6 v7 v8 v9 v10 v11 v12 v13 v14 s' H1 e
  subst e
  refine hV1 _ ?_
  have J1a := fun {v3 v4 v5 v6 v7 v8 v9 v10 v11 v12 v13 v14 τ} h l => hW1 _ τ ((IH1 v3 v4 v5 v6 v7 v8 v9 v10 v11 v12 v13 v14 _ h rfl)) l
  exact au H1 (aL @J1a hX1 (aA H trivial))⟩
theorem slices_Insert_Simpl_Item_impl_Item_ok {a1 : List Item} {a2 : Int} {a3 r : List Item} (H : slices_Insert_Simpl_Item_impl_Item a1 a2 a3 = some r) : R 52 [.c (cL enc_Item a1) (some (11, false)), .c (cI .i64 a2) none, .c (cL enc_Item a3) (some (11, false))] = some (.c (cL enc_Item r) (some (11, false)), [none, none]) :=
  Fz_pr rfl (insF_of H)
instance slices_Insert_Simpl_Item_impl_Item_i {a1 : List Item} {a2 : Int} {a3 : List Item} : FOK R (slices_Insert_Simpl_Item_impl_Item a1 a2 a3) 52 [.c (cL enc_Item a1) (some (11, false)), .c (cI .i64 a2) none, .c (cL enc_Item a3) (some (11, false))] fun r => (.c (cL enc_Item r) (some (11, false)), [none, none]) := ⟨fun {r} H => slices_Insert_Simpl_Item_impl_Item_ok H⟩
instance impl_put_ok  {a1 : List Item} {a2 : Item} : FOK R (impl_put a1 a2) 23 [.c (cL enc_Item a1) none, gItem a2] fun r => (.c (cL enc_Item r) (some (11, false)), []) := ⟨fun {r} H => by
 unfold impl_put at H
 refine fw false 24 Try.func23 ?_
 exact au0 H⟩
instance impl_from_ok  {a1 : Int} {a2 : Int} {a3 : Int} : FOK R (impl_from a1 a2 a3) 35 [.c (cI .i64 a1) none, .c (cI .i64 a2) none, .c (cI .i64 a3) none] fun r => (.c (cB r) none, []) := ⟨fun {r} H => by
 unfold impl_from at H
 refine fw false 15 Try.func35 ?_
 exact au0 H⟩
instance impl_isDigit_ok  {a1 : Int} : FOK R (impl_isDigit a1) 71 [.c (cI .u8 a1) none] fun r => (.c (cB r) none, []) := ⟨fun {r} H => by
 unfold impl_isDigit at H
 refine fw false 9 Try.func71 ?_
 exact au0 H⟩
instance impl_NameOk_ok  {a1 : Str} : FOK R (impl_NameOk a1) 56 [.c (cS a1) none] fun r => (.c (cB r) none, []) := ⟨fun {r} H => by
 unfold impl_NameOk at H
 refine fw false 43 Try.func56 ?_
 refine s_ ?_
 obtain ⟨s13, hs13, H⟩ := bnd H
 refine loop_rule (ls := []) 0 (fun t11 : Unit => ⟨[qs a1], [], []⟩) (fun t => s13 = .inr t) ⟨[qs a1, .no, .no, .no, .no, .no, qi (a1.length : Int), qi 0], [], []⟩ mO lE ?_ ?_
 ·
  rintro t11 rfl
  exact au0 H
 ·
  intro V1 hV1 hW1 hX1
  refine (impl_NameOk.l0.partial_correctness a1 (fun v2 s' => s' = s13 → (V1 ⟨[qs a1, .no, .no, .no, .no, .no, qi (a1.length : Int), qi v2], [], []⟩)) ?_ _ _ hs13 rfl)
  intro l0 IH1 v2 s' H1 e
  subst e
  refine hV1 _ ?_
  have J1a := fun {v2 τ} h l => hW1 _ τ ((IH1 v2 _ h rfl)) l
  exact au H1 (aL @J1a hX1 (aA H trivial))⟩
instance impl_MetricOk_ok  {a1 : Metric} : FOK R (impl_MetricOk a1) 55 [gMetric a1] fun r => (.c (cB r) none, []) := ⟨fun {r} H => by
 unfold impl_MetricOk at H
 refine fw false 16 Try.func55 ?_
 exact au0 H⟩
instance impl_isMany_ok  {a1 : Int} : FOK R (impl_isMany a1) 72 [.c (cI .i64 a1) none] fun r => (.c (cB r) none, []) := ⟨fun {r} H => by
 unfold impl_isMany at H
 refine fw false 5 Try.func72 ?_
 exact au0 H⟩
instance impl_PaceOk_ok  {a1 : Pace} : FOK R (impl_PaceOk a1) 57 [gPace a1] fun r => (.c (cB r) none, []) := ⟨fun {r} H => by
 unfold impl_PaceOk at H
 refine fw false 21 Try.func57 ?_
 exact au0 H⟩
instance impl_isLetter_ok  {a1 : Int} : FOK R (impl_isLetter a1) 82 [.c (cI .u8 a1) none] fun r => (.c (cB r) none, []) := ⟨fun {r} H => by
 unfold impl_isLetter at H
 refine fw false 17 Try.func82 ?_
 exact au0 H⟩
theorem internal_bytealg_IndexByteString_ok {a1 : Str} {a2 r : Int} (H : internal_bytealg_IndexByteString a1 a2 = some r) : R 88 [.c (cS a1) none, .c (cI .u8 a2) none] = some (.c (cI .i64 r) none, []) := by
  obtain rfl := Option.some.inj H
  exact Fz_pr rfl (by simp only [indexByteF, indexByte_lib])
instance internal_bytealg_IndexByteString_i {a1 : Str} {a2 : Int} : FOK R (internal_bytealg_IndexByteString a1 a2) 88 [.c (cS a1) none, .c (cI .u8 a2) none] fun r => (.c (cI .i64 r) none, []) := ⟨fun {r} H => internal_bytealg_IndexByteString_ok H⟩
instance internal_stringslite_IndexByte_ok  {a1 : Str} {a2 : Int} : FOK R (internal_stringslite_IndexByte a1 a2) 87 [.c (cS a1) none, .c (cI .u8 a2) none] fun r => (.c (cI .i64 r) none, []) := ⟨fun {r} H => by
 unfold internal_stringslite_IndexByte at H
 refine fw false 8 Try.func87 ?_
 exact au0 H⟩
instance strings_IndexByte_ok  {a1 : Str} {a2 : Int} : FOK R (strings_IndexByte a1 a2) 83 [.c (cS a1) none, .c (cI .u8 a2) none] fun r => (.c (cI .i64 r) none, []) := ⟨fun {r} H => by
 unfold strings_IndexByte at H
 refine fw false 8 Try.func83 ?_
 exact au0 H⟩
instance impl_PlainOk_ok  {a1 : Str} : FOK R (impl_PlainOk a1) 73 [.c (cS a1) none] fun r => (.c (cB r) none, []) := ⟨fun {r} H => by
 unfold impl_PlainOk at H
 refine fw false 48 Try.func73 ?_
 refine s_ ?_
 obtain ⟨s11, hs11, H⟩ := bnd H
 refine loop_rule (ls := []) 0 (fun t9 : Unit => ⟨[qs a1], [], []⟩) (fun t => s11 = .inr t) ⟨[qs a1, .no, .no, .no, .no, qi (a1.length : Int), qi 0], [], []⟩ mO lE ?_ ?_
 ·
  rintro t9 rfl
  exact au0 H
 ·
  intro V1 hV1 hW1 hX1
  refine (impl_PlainOk.l0.partial_correctness a1 (fun v2 s' => s' = s11 → (V1 ⟨[qs a1, .no, .no, .no, .no, qi (a1.length : Int), qi v2], [], []⟩)) ?_ _ _ hs11 rfl)
  intro l0 IH1 v2 s' H1 e
  subst e
  refine hV1 _ ?_
  have J1a := fun {v2 τ} h l => hW1 _ τ ((IH1 v2 _ h rfl)) l
  exact au H1 (aL @J1a hX1 (aA H trivial))⟩
instance internal_stringslite_HasPrefix_ok  {a1 : Str} {a2 : Str} : FOK R (internal_stringslite_HasPrefix a1 a2) 84 [.c (cS a1) none, .c (cS a2) none] fun r => (.c (cB r) none, []) := ⟨fun {r} H => by
 unfold internal_stringslite_HasPrefix at H
 refine fw false 18 Try.func84 ?_
 exact au0 H⟩
instance strings_HasPrefix_ok  {a1 : Str} {a2 : Str} : FOK R (strings_HasPrefix a1 a2) 74 [.c (cS a1) none, .c (cS a2) none] fun r => (.c (cB r) none, []) := ⟨fun {r} H => by
 unfold strings_HasPrefix at H
 refine fw false 8 Try.func74 ?_
 exact au0 H⟩
instance impl_TextOk_ok  {a1 : Str} : FOK R (impl_TextOk a1) 75 [.c (cS a1) none] fun r => (.c (cB r) none, []) := ⟨fun {r} H => by
 unfold impl_TextOk at H
 refine fw false 19 Try.func75 ?_
 refine s_ ?_
 obtain ⟨s6, hs6, H⟩ := bnd H
 refine loop_rule (ls := []) 0 (fun t5 : Unit => ⟨[qs a1], [], []⟩) (fun t => s6 = .inr t) ⟨[qs a1, .no, .no, .no, .no, qi (a1.length : Int), qi 0], [], []⟩ mO lE ?_ ?_
 ·
  rintro t5 rfl
  exact au0 H
 ·
  intro V1 hV1 hW1 hX1
  refine (impl_TextOk.l0.partial_correctness a1 (fun v2 s' => s' = s6 → (V1 ⟨[qs a1, .no, .no, .no, .no, qi (a1.length : Int), qi v2], [], []⟩)) ?_ _ _ hs6 rfl)
  intro l0 IH1 v2 s' H1 e
  subst e
  refine hV1 _ ?_
  have J1a := fun {v2 τ} h l => hW1 _ τ ((IH1 v2 _ h rfl)) l
  exact au H1 (aL @J1a hX1 (aA H trivial))⟩
instance impl_notesOk_ok  {a1 : List Note} : FOK R (impl_notesOk a1) 58 [.c (cL enc_Note a1) none] fun r => (.c (cB r) none, []) := ⟨fun {r} H => by
 unfold impl_notesOk at H
 refine fw false 52 Try.func58 ?_
 refine s_ ?_
 obtain ⟨s9, hs9, H⟩ := bnd H
 refine loop_rule (ls := []) 0 (fun t8 : Unit => ⟨[.c (cL enc_Note a1)], [], []⟩) (fun t => s9 = .inr t) ⟨[.c (cL enc_Note a1), .no, .no, .no, .no, .c (cL enc_Note a1), qi (a1.length : Int), qi 0], [], []⟩ mO lE ?_ ?_
 ·
  rintro t8 rfl
  exact au0 H
 ·
  intro V1 hV1 hW1 hX1
  refine (impl_notesOk.l0.partial_correctness a1 (fun v2 s' => s' = s9 → (V1 ⟨[.c (cL enc_Note a1), .no, .no, .no, .no, .c (cL enc_Note a1), qi (a1.length : Int), qi v2], [], []⟩)) ?_ _ _ hs9 rfl)
  intro l0 IH1 v2 s' H1 e
  subst e
  refine hV1 _ ?_
  have J1a := fun {v2 τ} h l => hW1 _ τ ((IH1 v2 _ h rfl)) l
  exact au H1 (aL @J1a hX1 (aA H trivial))⟩
instance impl_OrderOk_ok  {a1 : Order} : FOK R (impl_OrderOk a1) 36 [gOrder a1] fun r => (.c (cB r) none, []) := ⟨fun {r} H => by
 unfold impl_OrderOk at H
 refine fw false 69 Try.func36 ?_
 refine s_ ?_
 obtain ⟨s12, hs12, H⟩ := bnd H
 refine loop_rule (ls := []) 0 (fun t6 : Unit => ⟨[.no, .bp 0 0], [some (uO a1 (.c (cL enc_Metric a1.Metrics)) (.c (cL enc_Note a1.Notes)) [])], []⟩) (fun t => s12 = .inr t) ⟨[.no, .bp 0 0, .no, .no, .no, .no, .c (cL enc_Metric a1.Metrics), qi (a1.Metrics.length : Int), qi 0], [some (uO a1 (.c (cL enc_Metric a1.Metrics)) (.c (cL enc_Note a1.Notes)) [])], []⟩ mO lE ?_ ?_
 ·
  rintro t6 rfl
  exact au0 H
 ·
  intro V1 hV1 hW1 hX1
  refine (impl_OrderOk.l0.partial_correctness a1 (fun v2 s' => s' = s12 → (V1 ⟨[.no, .bp 0 0, .no, .no, .no, .no, .c (cL enc_Metric a1.Metrics), qi (a1.Metrics.length : Int), qi v2], [some (uO a1 (.c (cL enc_Metric a1.Metrics)) (.c (cL enc_Note a1.Notes)) [])], []⟩)) ?_ _ _ hs12 rfl)
  intro l0 IH1 v2 s' H1 e
  subst e
  refine hV1 _ ?_
  have J1a := fun {v2 τ} h l => hW1 _ τ ((IH1 v2 _ h rfl)) l
  exact au H1 (aL @J1a hX1 (aA H trivial))⟩
instance impl_StoreOk_1_ok  {a1 : Item} {a2 : Item} : FOK R (impl_StoreOk_1 a1 a2) 38 [gItem a1, gPItem a2] fun r => (.c (cB r.1) none, [some [(cS r.2.Order.Name, none), (cS r.2.Order.Target, none), (cI .i64 r.2.Order.Low, none), (cI .i64 r.2.Order.High, none), (cL enc_Metric r.2.Order.Metrics, none), (cI .i64 r.2.Order.Pace.Up, none), (cI .i64 r.2.Order.Pace.Down, none), (cI .i64 r.2.Order.Pace.UpSpan, none), (cI .i64 r.2.Order.Pace.DownSpan, none), (cL enc_Note r.2.Order.Notes, none), (cI .i64 r.2.Ver, none)]]) := ⟨fun {r} H => by
 unfold impl_StoreOk_1 at H
 refine fw false 9 Try.func38 ?_
 exact au0 H⟩
instance slices_IndexFunc_Simpl_Item_impl_Item_impl_StoreOk_1_ok  {a1 : List Item} {a2 : Item} : FOK R (slices_IndexFunc_Simpl_Item_impl_Item_impl_StoreOk_1 a1 a2) 50 [.c (cL enc_Item a1) none, .f 38 [[(cS a2.Order.Name, none), (cS a2.Order.Target, none), (cI .i64 a2.Order.Low, none), (cI .i64 a2.Order.High, none), (cL enc_Metric a2.Order.Metrics, none), (cI .i64 a2.Order.Pace.Up, none), (cI .i64 a2.Order.Pace.Down, none), (cI .i64 a2.Order.Pace.UpSpan, none), (cI .i64 a2.Order.Pace.DownSpan, none), (cL enc_Note a2.Order.Notes, none), (cI .i64 a2.Ver, none)]]] fun r => (.c (cI .i64 r.1) none, [some [(cS r.2.Order.Name, none), (cS r.2.Order.Target, none), (cI .i64 r.2.Order.Low, none), (cI .i64 r.2.Order.High, none), (cL enc_Metric r.2.Order.Metrics, none), (cI .i64 r.2.Order.Pace.Up, none), (cI .i64 r.2.Order.Pace.Down, none), (cI .i64 r.2.Order.Pace.UpSpan, none), (cI .i64 r.2.Order.Pace.DownSpan, none), (cL enc_Note r.2.Order.Notes, none), (cI .i64 r.2.Ver, none)]]) := ⟨fun {r} H => by
 unfold slices_IndexFunc_Simpl_Item_impl_Item_impl_StoreOk_1 at H
 refine fw false 19 Try.func50 ?_
 refine s_ ?_
 obtain ⟨s18, hs18, H⟩ := bnd H
 refine loop_rule (ls := [.b 0]) 0 (fun t17 : Str × Str × Int × Int × List Metric × Int × Int × Int × Int × List Note × Int => ⟨[], [some [qs t17.1, qs t17.2.1, qi t17.2.2.1, qi t17.2.2.2.1, .c (cL enc_Metric t17.2.2.2.2.1), qi t17.2.2.2.2.2.1, qi t17.2.2.2.2.2.2.1, qi t17.2.2.2.2.2.2.2.1, qi t17.2.2.2.2.2.2.2.2.1, .c (cL enc_Note t17.2.2.2.2.2.2.2.2.2.1), qi t17.2.2.2.2.2.2.2.2.2.2]], []⟩) (fun t => s18 = .inr t) ⟨[.c (cL enc_Item a1), .fn 38 [0], .no, .no, .no, .no, .no, qi (a1.length : Int), qi 0], [some (uO a2.Order (.c (cL enc_Metric a2.Order.Metrics)) (.c (cL enc_Note a2.Order.Notes)) [qi a2.Ver])], []⟩ mO lE ?_ ?_
 ·
  rintro t17 rfl
  exact au0 H
 ·
  intro V1 hV1 hW1 hX1
  refine (slices_IndexFunc_Simpl_Item_impl_Item_impl_StoreOk_1.l0.partial_correctness a1 (fun v3 v4 v5 v6 v7 v8 v9 v10 v11 v12 v13 v14 s' => s' = s18 → (V1 ⟨[.c (cL enc_Item a1), .fn 38 [0], .no, .no, .no, .no, .no, qi (a1.length : Int), qi v3], [some [qs v4, qs v5, qi v6, qi v7, .c (cL enc_Metric v8), qi v9, qi v10, qi v11, qi v12, .c (cL enc_Note v13), qi v14]], []⟩)) ?_ _ _ _ _ _ _ _ _ _ _ _ _ _ hs18 rfl)
  intro l0 IH1 v3 v4 v5 v6 v7 v8 v9 v10 v11 v12 v13 v14 s' H1 e
  subst e
  refine hV1 _ ?_
  have J1a := fun {v3 v4 v5 v6 v7 v8 v9 v10 v11 v12 v13 v14 τ} h l => hW1 _ τ ((IH1 v3 v4 v5 v6 v7 v8 v9 v10 v11 v12 v13 v14 _ h rfl)) l
  exact au H1 (aL @J1a hX1 (aA H trivial))⟩
instance slices_ContainsFunc_Simpl_Item_impl_Item_impl_StoreOk_1_ok  {a1 : List Item} {a2 : Item} : FOK R (slices_ContainsFunc_Simpl_Item_impl_Item_impl_StoreOk_1 a1 a2) 37 [.c (cL enc_Item a1) none, .f 38 [[(cS a2.Order.Name, none), (cS a2.Order.Target, none), (cI .i64 a2.Order.Low, none), (cI .i64 a2.Order.High, none), (cL enc_Metric a2.Order.Metrics, none), (cI .i64 a2.Order.Pace.Up, none), (cI .i64 a2.Order.Pace.Down, none), (cI .i64 a2.Order.Pace.UpSpan, none), (cI .i64 a2.Order.Pace.DownSpan, none), (cL enc_Note a2.Order.Notes, none), (cI .i64 a2.Ver, none)]]] fun r => (.c (cB r.1) none, [some [(cS r.2.Order.Name, none), (cS r.2.Order.Target, none), (cI .i64 r.2.Order.Low, none), (cI .i64 r.2.Order.High, none), (cL enc_Metric r.2.Order.Metrics, none), (cI .i64 r.2.Order.Pace.Up, none), (cI .i64 r.2.Order.Pace.Down, none), (cI .i64 r.2.Order.Pace.UpSpan, none), (cI .i64 r.2.Order.Pace.DownSpan, none), (cL enc_Note r.2.Order.Notes, none), (cI .i64 r.2.Ver, none)]]) := ⟨fun {r} H => by
 unfold slices_ContainsFunc_Simpl_Item_impl_Item_impl_StoreOk_1 at H
 refine fw false 9 Try.func37 ?_
 exact au0 H⟩
end Go.Pu
