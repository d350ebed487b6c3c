import Derived.Test.YtnjjfghnbgbclaaGreatFetchOk1
set_option linter.unusedVariables false
set_option linter.unusedSimpArgs false
set_option synthInstance.maxSize 1000000000
set_option maxRecDepth 20000
set_option maxHeartbeats 20000000
namespace Go.Pu
open Go Go.SX Go.Nt Go.Proofs
instance impl_notesOk_ok  {a1 : List Note} : FOK R (impl_notesOk a1) 53 [.c (cL enc_Note a1) none] fun r => (.c (cB r) none, []) := ⟨fun {r} H => by
 unfold impl_notesOk at H
 refine fw false 52 Tryz.func53 ?_
 refine s_ ?_
 obtain ⟨s9, hs9, H⟩ := bnd H
 refine loop_rule (ls := []) 0 (fun t8 : Unit => ⟨[.c (cL enc_Note a1)], [], []⟩) (fun t => s9 = .inr t) ⟨[.c (cL enc_Note a1), .no, .no, .no, .no, .c (cL enc_Note a1), qi (a1.length : Int), qi 0], [], []⟩ mO lE ?_ ?_
 ·
  rintro t8 rfl
  exact au0 H
 ·
  intro V1 hV1 hW1 hX1
  refine (impl_notesOk.l0.partial_correctness a1 (fun v2 s' => s' = s9 → (V1 ⟨[.c (cL enc_Note a1), .no, .no, .no, .no, .c (cL enc_Note a1), qi (a1.length : Int), qi v2], [], []⟩)) ?_ _ _ hs9 rfl)
  intro l0 IH1 v2 s' H1 e
  subst e
  refine hV1 _ ?_
  have J1a := fun {v2 τ} h l => hW1 _ τ ((IH1 v2 _ h rfl)) l
  exact au H1 (aL @J1a hX1 (aA H trivial))⟩
instance impl_OrderOk_ok  {a1 : Order} : FOK R (impl_OrderOk a1) 30 [gOrder a1] fun r => (.c (cB r) none, []) := ⟨fun {r} H => by
 unfold impl_OrderOk at H
 refine fw false 69 Tryz.func30 ?_
 refine s_ ?_
 obtain ⟨s12, hs12, H⟩ := bnd H
 refine loop_rule (ls := []) 0 (fun t6 : Unit => ⟨[.no, .bp 0 0], [some (uO a1 (.c (cL enc_Metric a1.Metrics)) (.c (cL enc_Note a1.Notes)) [])], []⟩) (fun t => s12 = .inr t) ⟨[.no, .bp 0 0, .no, .no, .no, .no, .c (cL enc_Metric a1.Metrics), qi (a1.Metrics.length : Int), qi 0], [some (uO a1 (.c (cL enc_Metric a1.Metrics)) (.c (cL enc_Note a1.Notes)) [])], []⟩ mO lE ?_ ?_
 ·
  rintro t6 rfl
  exact au0 H
 ·
  intro V1 hV1 hW1 hX1
  refine (impl_OrderOk.l0.partial_correctness a1 (fun v2 s' => s' = s12 → (V1 ⟨[.no, .bp 0 0, .no, .no, .no, .no, .c (cL enc_Metric a1.Metrics), qi (a1.Metrics.length : Int), qi v2], [some (uO a1 (.c (cL enc_Metric a1.Metrics)) (.c (cL enc_Note a1.Notes)) [])], []⟩)) ?_ _ _ hs12 rfl)
  intro l0 IH1 v2 s' H1 e
  subst e
  refine hV1 _ ?_
  have J1a := fun {v2 τ} h l => hW1 _ τ ((IH1 v2 _ h rfl)) l
  exact au H1 (aL @J1a hX1 (aA H trivial))⟩
instance impl_StoreOk_1_ok  {a1 : Item} {a2 : Item} : FOK R (impl_StoreOk_1 a1 a2) 32 [gItem a1, gPItem a2] fun r => (.c (cB r.1) none, [some [(cS r.2.Order.Name, none), (cS r.2.Order.Target, none), (cI .i64 r.2.Order.Low, none), (cI .i64 r.2.Order.High, none), (cL enc_Metric r.2.Order.Metrics, none), (cI .i64 r.2.Order.Pace.Up, none), (cI .i64 r.2.Order.Pace.Down, none), (cI .i64 r.2.Order.Pace.UpSpan, none), (cI .i64 r.2.Order.Pace.DownSpan, none), (cL enc_Note r.2.Order.Notes, none), (cI .i64 r.2.Ver, none)]]) := ⟨fun {r} H => by
 unfold impl_StoreOk_1 at H
 refine fw false 9 Tryz.func32 ?_
 exact au0 H⟩
instance slices_IndexFunc_Simpl_Item_impl_Item_impl_StoreOk_1_ok  {a1 : List Item} {a2 : Item} : FOK R (slices_IndexFunc_Simpl_Item_impl_Item_impl_StoreOk_1 a1 a2) 47 [.c (cL enc_Item a1) none, .f 32 [[(cS a2.Order.Name, none), (cS a2.Order.Target, none), (cI .i64 a2.Order.Low, none), (cI .i64 a2.Order.High, none), (cL enc_Metric a2.Order.Metrics, none), (cI .i64 a2.Order.Pace.Up, none), (cI .i64 a2.Order.Pace.Down, none), (cI .i64 a2.Order.Pace.UpSpan, none), (cI .i64 a2.Order.Pace.DownSpan, none), (cL enc_Note a2.Order.Notes, none), (cI .i64 a2.Ver, none)]]] fun r => (.c (cI .i64 r.1) none, [some [(cS r.2.Order.Name, none), (cS r.2.Order.Target, none), (cI .i64 r.2.Order.Low, none), (cI .i64 r.2.Order.High, none), (cL enc_Metric r.2.Order.Metrics, none), (cI .i64 r.2.Order.Pace.Up, none), (cI .i64 r.2.Order.Pace.Down, none), (cI .i64 r.2.Order.Pace.UpSpan, none), (cI .i64 r.2.Order.Pace.DownSpan, none), (cL enc_Note r.2.Order.Notes, none), (cI .i64 r.2.Ver, none)]]) := ⟨fun {r} H => by
 unfold slices_IndexFunc_Simpl_Item_impl_Item_impl_StoreOk_1 at H
 refine fw false 19 Tryz.func47 ?_
 refine s_ ?_
 obtain ⟨s18, hs18, H⟩ := bnd H
 refine loop_rule (ls := [.b 0]) 0 (fun t17 : Str × Str × Int × Int × List Metric × Int × Int × Int × Int × List Note × Int => ⟨[], [some [qs t17.1, qs t17.2.1, qi t17.2.2.1, qi t17.2.2.2.1, .c (cL enc_Metric t17.2.2.2.2.1), qi t17.2.2.2.2.2.1, qi t17.2.2.2.2.2.2.1, qi t17.2.2.2.2.2.2.2.1, qi t17.2.2.2.2.2.2.2.2.1, .c (cL enc_Note t17.2.2.2.2.2.2.2.2.2.1), qi t17.2.2.2.2.2.2.2.2.2.2]], []⟩) (fun t => s18 = .inr t) ⟨[.c (cL enc_Item a1), .fn 32 [0], .no, .no, .no, .no, .no, qi (a1.length : Int), qi 0], [some (uO a2.Order (.c (cL enc_Metric a2.Order.Metrics)) (.c (cL enc_Note a2.Order.Notes)) [qi a2.Ver])], []⟩ mO lE ?_ ?_
 ·
  rintro t17 rfl
  exact au0 H
 ·
  intro V1 hV1 hW1 hX1
  refine (slices_IndexFunc_Simpl_Item_impl_Item_impl_StoreOk_1.l0.partial_correctness a1 (fun v3 v4 v5 v6 v7 v8 v9 v10 v11 v12 v13 v14 s' => s' = s18 → (V1 ⟨[.c (cL enc_Item a1), .fn 32 [0], .no, .no, .no, .no, .no, qi (a1.length : Int), qi v3], [some [qs v4, qs v5, qi v6, qi v7, .c (cL enc_Metric v8), qi v9, qi v10, qi v11, qi v12, .c (cL enc_Note v13), qi v14]], []⟩)) ?_ _ _ _ _ _ _ _ _ _ _ _ _ _ hs18 rfl)
  intro l0 IH1 v3 v4 v5 v6 v7 v8 v9 v10 v11 v12 v13 v14 s' H1 e
  subst e
  refine hV1 _ ?_
  have J1a := fun {v3 v4 v5 v6 v7 v8 v9 v10 v11 v12 v13 v14 τ} h l => hW1 _ τ ((IH1 v3 v4 v5 v6 v7 v8 v9 v10 v11 v12 v13 v14 _ h rfl)) l
  exact au H1 (aL @J1a hX1 (aA H trivial))⟩
instance slices_ContainsFunc_Simpl_Item_impl_Item_impl_StoreOk_1_ok  {a1 : List Item} {a2 : Item} : FOK R (slices_ContainsFunc_Simpl_Item_impl_Item_impl_StoreOk_1 a1 a2) 31 [.c (cL enc_Item a1) none, .f 32 [[(cS a2.Order.Name, none), (cS a2.Order.Target, none), (cI .i64 a2.Order.Low, none), (cI .i64 a2.Order.High, none), (cL enc_Metric a2.Order.Metrics, none), (cI .i64 a2.Order.Pace.Up, none), (cI .i64 a2.Order.Pace.Down, none), (cI .i64 a2.Order.Pace.UpSpan, none), (cI .i64 a2.Order.Pace.DownSpan, none), (cL enc_Note a2.Order.Notes, none), (cI .i64 a2.Ver, none)]]] fun r => (.c (cB r.1) none, [some [(cS r.2.Order.Name, none), (cS r.2.Order.Target, none), (cI .i64 r.2.Order.Low, none), (cI .i64 r.2.Order.High, none), (cL enc_Metric r.2.Order.Metrics, none), (cI .i64 r.2.Order.Pace.Up, none), (cI .i64 r.2.Order.Pace.Down, none), (cI .i64 r.2.Order.Pace.UpSpan, none), (cI .i64 r.2.Order.Pace.DownSpan, none), (cL enc_Note r.2.Order.Notes, none), (cI .i64 r.2.Ver, none)]]) := ⟨fun {r} H => by
 unfold slices_ContainsFunc_Simpl_Item_impl_Item_impl_StoreOk_1 at H
 refine fw false 9 Tryz.func31 ?_
 exact au0 H⟩
instance impl_StoreOk_ok  {a1 : Store} : FOK R (impl_StoreOk a1) 16 [gStore a1] fun r => (.c (cB r) none, []) := ⟨fun {r} H => by
 unfold impl_StoreOk at H
 refine fw false 61 Tryz.func16 ?_
 refine s_ ?_
 refine WO_iA H (fun hc H => ?_) (fun hc H => ?_)
 ·
  exact au0 H
 ·
  refine s_ ?_
  obtain ⟨x2, hx2, H⟩ := bnd H
  refine b_ hx2 ?_
  refine s_ ?_
  refine W_ite rfl H (fun hc H => ?_) (fun hc H => ?_)
  ·
   exact au0 H
  ·
   refine s_ ?_
   obtain ⟨s13, hs13, H⟩ := bnd H
   refine loop_rule (ls := []) 0 (fun t12 : Unit => ⟨[], [], []⟩) (fun t => s13 = .inr t) ⟨[.no, .bp 0 0, .no, .no, .no, .no, .no, .no, .no, .no, .no, .no, .no, .no, .no, .no, .c (cL enc_Item a1.Items), qi (a1.Items.length : Int), qi 0], [some [.c (cL enc_Item a1.Items), qi a1.Next]], []⟩ mO lE ?_ ?_
   ·
    rintro t12 rfl
    exact au0 H
   ·
    intro V1 hV1 hW1 hX1
    refine (impl_StoreOk.l0.partial_correctness a1 (fun v3 s' => s' = s13 → (V1 ⟨[.no, .bp 0 0, .no, .no, .no, .no, .no, .no, .no, .no, .no, .no, .no, .no, .no, .no, .c (cL enc_Item a1.Items), qi (a1.Items.length : Int), qi v3], [some [.c (cL enc_Item a1.Items), qi a1.Next]], []⟩)) ?_ _ _ hs13 rfl)
    intro l0 IH1 v3 s' H1 e
    subst e
    refine hV1 _ ?_
    have J1a := fun {v3 τ} h l => hW1 _ τ ((IH1 v3 _ h rfl)) l
    exact au H1 (aL @J1a hX1 (aA H trivial))⟩
instance impl_TextOf_ok  {a1 : Str} : FOK R (impl_TextOf a1) 104 [.c (cS a1) none] fun r => (gNode_oo r, []) := ⟨fun {r} H => by
 unfold impl_TextOf at H
 refine fw false 5 Tryz.func104 ?_
 exact au0 H⟩
instance impl_IntOf_ok  {a1 : Int} : FOK R (impl_IntOf a1) 101 [.c (cI .i64 a1) none] fun r => (gNode_oo r, []) := ⟨fun {r} H => by
 unfold impl_IntOf at H
 refine fw false 5 Tryz.func101 ?_
 exact au0 H⟩
theorem slices_Clone_Sstring_string_ok {a1 r : List Str} (H : slices_Clone_Sstring_string a1 = some r) : R 162 [.c (cL eS a1) none] = some (.c (cL eS r) (some (1, false)), []) := by
  unfold slices_Clone_Sstring_string Nt.clone at H
  split at H
  · rename_i h
    obtain rfl := Option.some.inj H
    exact Fz_pr rfl (by simp only [cloneF]; rw [if_pos ⟨wide_map (en := eS) (fun _ => rfl) a1, by simpa using h⟩])
  · simp at H
instance slices_Clone_Sstring_string_i {a1 : List Str} : FOK R (slices_Clone_Sstring_string a1) 162 [.c (cL eS a1) none] fun r => (.c (cL eS r) (some (1, false)), []) := ⟨fun {r} H => slices_Clone_Sstring_string_ok H⟩
instance impl_copyTree_F_ok {rc108 : Node → Option (Node)} [hrc108 : ∀ {a1 : Node}, FOK R (rc108 a1) 135 [gNode a1] fun r => (gNode_oo r, [])] {a1 : Node} : FOK R (impl_copyTree_F rc108 a1) 135 [gNode a1] fun r => (gNode_oo r, []) := ⟨fun {r} H => by
 unfold impl_copyTree_F at H
 refine fw false 27 Tryz.func135 ?_
 refine s_ ?_
 obtain ⟨x2, hx2, H⟩ := bnd H
 refine b_ hx2 ?_
 refine s_ ?_
 obtain ⟨t9, ht9, H⟩ := bnd H
 refine loop_rule (ls := []) 0 (fun t9 : List RNode => ⟨[.no, .bp 0 0, .bp 1 0, .row 0], [some [qi a1.Kind, qi a1.N, qs a1.S, .row 1, .c (cL eR_Node a1.Kids)], some [qi 0, qi 0, qs [], .nil, .nil]], [rr 5 eR_Node t9 true, rr 1 eS x2 true]⟩) (fun t => t9 = t) ⟨[.no, .bp 0 0, .bp 1 0, .row 0, .no, .no, .no, .no, .no, .no, .no, .no, .c (cL eR_Node a1.Kids), qi (a1.Kids.length : Int), qi 0], [some [qi a1.Kind, qi a1.N, qs a1.S, .row 1, .c (cL eR_Node a1.Kids)], some [qi 0, qi 0, qs [], .nil, .nil]], [rr 5 eR_Node ([] : List RNode) true, rr 1 eS x2 true]⟩ mO lE ?_ ?_
 ·
  rintro t1 rfl
  exact au0 H
 ·
  intro V1 hV1 hW1 hX1
  refine (impl_copyTree.l0.partial_correctness rc108 a1 (fun v3 v4 s' => s' = t9 → (V1 ⟨[.no, .bp 0 0, .bp 1 0, .row 0, .no, .no, .no, .no, .no, .no, .no, .no, .c (cL eR_Node a1.Kids), qi (a1.Kids.length : Int), qi v3], [some [qi a1.Kind, qi a1.N, qs a1.S, .row 1, .c (cL eR_Node a1.Kids)], some [qi 0, qi 0, qs [], .nil, .nil]], [rr 5 eR_Node v4 true, rr 1 eS x2 true]⟩)) ?_ _ _ _ ht9 rfl)
  intro l0 IH1 v3 v4 s' H1 e
  subst e
  refine hV1 _ ?_
  have J1a := fun {v3 v4 τ} h l => hW1 _ τ ((IH1 v3 v4 _ h rfl)) l
  exact au H1 (aL @J1a hX1 (aA H trivial))⟩
theorem impl_copyTree_n_ok : ∀ (k : Nat) {a1 : Node} {r : Node}, impl_copyTree_n k a1 = some r → R 135 [gNode a1] = some ((fun r => (gNode_oo r, [])) r)
  | 0, _, _, h => by simp [impl_copyTree_n] at h
  | k + 1, _, _, h => (impl_copyTree_F_ok (hrc108 := ⟨fun h => impl_copyTree_n_ok k h⟩)).ok h
instance impl_copyTree_ok {a1 : Node} : FOK R (impl_copyTree a1) 135 [gNode a1] fun r => (gNode_oo r, []) := ⟨fun {r} H => by
 obtain ⟨k, hk⟩ := Nt.lim_ex H
 exact impl_copyTree_n_ok k (hk k (Nat.le_refl k))⟩
instance impl_isMap_ok  {a1 : Node} : FOK R (impl_isMap a1) 136 [gNode a1] fun r => (.c (cB r) none, []) := ⟨fun {r} H => by
 unfold impl_isMap at H
 refine fw false 15 Tryz.func136 ?_
 exact au0 H⟩
instance slices_Index_Sstring_string_ok  {a1 : List Str} {a2 : Str} : FOK R (slices_Index_Sstring_string a1 a2) 137 [.c (cL eS a1) none, .c (cS a2) none] fun r => (.c (cI .i64 r) none, []) := ⟨fun {r} H => by
 unfold slices_Index_Sstring_string at H
 refine fw false 19 Tryz.func137 ?_
 refine s_ ?_
 obtain ⟨s6, hs6, H⟩ := bnd H
 refine loop_rule (ls := []) 0 (fun t5 : Unit => ⟨[], [], []⟩) (fun t => s6 = .inr t) ⟨[.c (cL eS a1), qs a2, .no, .no, .no, .no, .no, qi (a1.length : Int), qi 0], [], []⟩ mO lE ?_ ?_
 ·
  rintro t5 rfl
  exact au0 H
 ·
  intro V1 hV1 hW1 hX1
  refine (slices_Index_Sstring_string.l0.partial_correctness a1 a2 (fun v3 s' => s' = s6 → (V1 ⟨[.c (cL eS a1), qs a2, .no, .no, .no, .no, .no, qi (a1.length : Int), qi v3], [], []⟩)) ?_ _ _ hs6 rfl)
  intro l0 IH1 v3 s' H1 e
  subst e
  refine hV1 _ ?_
  have J1a := fun {v3 τ} h l => hW1 _ τ ((IH1 v3 _ h rfl)) l
  exact au H1 (aL @J1a hX1 (aA H trivial))⟩
instance impl_Set_1_ok  {a1 : Str} {a2 : Str} : FOK R (impl_Set_1 a1 a2) 139 [.c (cS a1) none, .p [(cS a2, none)]] fun r => (.c (cB r.1) none, [some [(cS r.2, none)]]) := ⟨fun {r} H => by
 unfold impl_Set_1 at H
 refine fw false 7 Tryz.func139 ?_
 exact au0 H⟩
instance slices_IndexFunc_Sstring_string_impl_Set_1_ok  {a1 : List Str} {a2 : Str} : FOK R (slices_IndexFunc_Sstring_string_impl_Set_1 a1 a2) 138 [.c (cL eS a1) (some (1, false)), .f 139 [[(cS a2, none)]]] fun r => (.c (cI .i64 r.1) none, [some [(cL eS r.2.1, some (1, false))], some [(cS r.2.2, none)]]) := ⟨fun {r} H => by
 unfold slices_IndexFunc_Sstring_string_impl_Set_1 at H
 refine fw false 19 Tryz.func138 ?_
 refine s_ ?_
 obtain ⟨s8, hs8, H⟩ := bnd H
 refine loop_rule (ls := [.r 0, .b 0]) 0 (fun t7 : Str => ⟨[], [some [qs t7]], [rr 1 eS a1 true]⟩) (fun t => s8 = .inr t) ⟨[.row 0, .fn 139 [0], .no, .no, .no, .no, .no, qi (a1.length : Int), qi 0], [some [qs a2]], [rr 1 eS a1 true]⟩ mO lE ?_ ?_
 ·
  rintro t7 rfl
  exact au0 H
 ·
  intro V1 hV1 hW1 hX1
  refine (slices_IndexFunc_Sstring_string_impl_Set_1.l0.partial_correctness a1 (fun v3 v4 s' => s' = s8 → (V1 ⟨[.row 0, .fn 139 [0], .no, .no, .no, .no, .no, qi (a1.length : Int), qi v3], [some [qs v4]], [rr 1 eS a1 true]⟩)) ?_ _ _ _ hs8 rfl)
  intro l0 IH1 v3 v4 s' H1 e
  subst e
  refine hV1 _ ?_
  have J1a := fun {v3 v4 τ} h l => hW1 _ τ ((IH1 v3 v4 _ h rfl)) l
  exact au H1 (aL @J1a hX1 (aA H trivial))⟩
theorem slices_Insert_Sstring_string_ok {a1 : List Str} {a2 : Int} {a3 r : List Str} (H : slices_Insert_Sstring_string a1 a2 a3 = some r) : R 140 [.c (cL eS a1) (some (1, false)), .c (cI .i64 a2) none, .c (cL eS a3) (some (1, false))] = some (.c (cL eS r) (some (1, false)), [none, none]) :=
  Fz_pr rfl (insF_of H)
instance slices_Insert_Sstring_string_i {a1 : List Str} {a2 : Int} {a3 : List Str} : FOK R (slices_Insert_Sstring_string a1 a2 a3) 140 [.c (cL eS a1) (some (1, false)), .c (cI .i64 a2) none, .c (cL eS a3) (some (1, false))] fun r => (.c (cL eS r) (some (1, false)), [none, none]) := ⟨fun {r} H => slices_Insert_Sstring_string_ok H⟩
theorem slices_Insert_Simpl_Node_impl_Node_ok {a1 : List RNode} {a2 : Int} {a3 r : List RNode} (H : slices_Insert_Simpl_Node_impl_Node a1 a2 a3 = some r) : R 141 [.c (cL eR_Node a1) (some (5, false)), .c (cI .i64 a2) none, .c (cL eR_Node a3) (some (5, false))] = some (.c (cL eR_Node r) (some (5, false)), [none, none]) :=
  Fz_pr rfl (insF_of H)
instance slices_Insert_Simpl_Node_impl_Node_i {a1 : List RNode} {a2 : Int} {a3 : List RNode} : FOK R (slices_Insert_Simpl_Node_impl_Node a1 a2 a3) 141 [.c (cL eR_Node a1) (some (5, false)), .c (cI .i64 a2) none, .c (cL eR_Node a3) (some (5, false))] fun r => (.c (cL eR_Node r) (some (5, false)), [none, none]) := ⟨fun {r} H => slices_Insert_Simpl_Node_impl_Node_ok H⟩
instance impl_Set_ok  {a1 : Node} {a2 : Str} {a3 : Node} : FOK R (impl_Set a1 a2 a3) 95 [gNode a1, .c (cS a2) none, gNode a3] fun r => (gNode_oo r, []) := ⟨fun {r} H => by
 unfold impl_Set at H
 refine fw false 53 Tryz.func95 ?_
 exact au0 H⟩
instance impl_mapOf_ok  {a1 : List Str} {a2 : List RNode} : FOK R (impl_mapOf a1 a2) 134 [.c (cL eS a1) none, .c (cL eR_Node a2) none] fun r => (gNode_oo r, []) := ⟨fun {r} H => by
 unfold impl_mapOf at H
 refine fw false 25 Tryz.func134 ?_
 refine s_ ?_
 obtain ⟨t13, ht13, H⟩ := bnd H
 refine loop_ruleM (ls := []) 0 (fun (i : Nat) (t13 : Int × Int × Str × List Str × List RNode) => match i with | 0 => ⟨[.no, .no, .no, .no, .bp 0 0, .bp 1 0], [some [qi 0, qi 0, qs [], .nil, .nil], some [qi t13.1, qi t13.2.1, qs t13.2.2.1, .nil, .nil]], []⟩ | _ => ⟨[.no, .no, .no, .no, .bp 0 0, .bp 1 0], [some [qi 0, qi 0, qs [], .nil, .nil], some [qi t13.1, qi t13.2.1, qs t13.2.2.1, .row 0, .row 1]], [rr 1 eS t13.2.2.2.1 true, rr 5 eR_Node t13.2.2.2.2 true]⟩) (fun (i : Nat) t => match i with | 0 => t13 = t ∧ t.2.2.2.1 = [] ∧ t.2.2.2.2 = [] | 1 => t13 = t | _ => False) ⟨[.no, .c (cL eR_Node a2), .no, .no, .bp 0 0, .bp 1 0, .no, .no, .no, .c (cL eS a1), qi (a1.length : Int), qi 0], [some [qi 0, qi 0, qs [], .nil, .nil], some [qi 5, qi 0, qs [], .nil, .nil]], []⟩ mO lE ?_ ?_
 ·
  intro i t1 hp
  rcases i with _ | _ | i
  ·
   obtain ⟨rfl, hz_t13_3, hz_t13_4⟩ := hp
   refine s_ ?_
   obtain rfl := Option.some.inj H
   exact told5 rfl rfl rfl rfl rfl (by simp only [hz_t13_3, hz_t13_4]; try rfl)
  ·
   obtain rfl := hp
   exact au0 H
  ·
   exact hp.elim
 ·
  intro V1 hV1 hW1 hX1
  refine (impl_mapOf.l0.partial_correctness a1 a2 (fun v3 v4 v5 v6 v7 v8 s' => s' = t13 → (v7 = [] → v8 = [] → V1 ⟨[.no, .c (cL eR_Node a2), .no, .no, .bp 0 0, .bp 1 0, .no, .no, .no, .c (cL eS a1), qi (a1.length : Int), qi v3], [some [qi 0, qi 0, qs [], .nil, .nil], some [qi v4, qi v5, qs v6, .nil, .nil]], []⟩) ∧ (V1 ⟨[.no, .c (cL eR_Node a2), .no, .no, .bp 0 0, .bp 1 0, .no, .no, .no, .c (cL eS a1), qi (a1.length : Int), qi v3], [some [qi 0, qi 0, qs [], .nil, .nil], some [qi v4, qi v5, qs v6, .row 0, .row 1]], [rr 1 eS v7 true, rr 5 eR_Node v8 true]⟩)) ?_ _ _ _ _ _ _ _ ht13 rfl).1 rfl rfl
  intro l0 IH1 v3 v4 v5 v6 v7 v8 s' H1 e
  subst e
  refine ⟨?_, ?_⟩
  ·
   intro hn_v7 hn_v8
   refine hV1 _ ?_
   have J1a := fun {v3 v4 v5 v6 v7 v8 τ} h n0 n1 l => hW1 _ τ ((IH1 v3 v4 v5 v6 v7 v8 _ h rfl).1 n0 n1) l
   have J1b := fun {v3 v4 v5 v6 v7 v8 τ} h l => hW1 _ τ ((IH1 v3 v4 v5 v6 v7 v8 _ h rfl).2) l
   refine s_ ?_
   refine W_ite rfl H1 (fun hc H1 => ?_) (fun hc H1 => ?_)
   ·
    refine s_ ?_
    obtain ⟨x9, hx9, H1⟩ := bnd H1
    refine b_ hx9 ?_
    refine s_ ?_
    obtain ⟨x10, hx10, H1⟩ := bnd H1
    obtain ⟨y11, hy11, H1⟩ := bnd H1
    rw [dN_Node_some hy11] at hx10
    refine b_ hx10 ?_
    refine s_ ?_
    obtain ⟨x12, hx12, H1⟩ := bnd H1
    refine WO_op (x := .ag [qi x12.Kind, qi x12.N, qs x12.S, .row 0, .row 1]) (σ' := ⟨[], [some [qi 0, qi 0, qs [], .nil, .nil], some [qi v4, qi v5, qs v6, .nil, .nil]], [rr 1 eS x12.Keys true, rr 5 eR_Node x12.Kids true]⟩) rfl rfl (ev_callG (al := [.ag [qi v4, qi v5, qs v6, .nil, .nil], qs x9, .ag [qi y11.Kind, qi y11.N, qs y11.S, .c (cL eS y11.Keys), .c (cL eR_Node y11.Kids)]]) (ls := []) (okz hx12 rfl) rfl rfl rfl rfl rfl (by decide) rfl (by rw [hn_v7, hn_v8]; rfl) rfl rfl rfl rfl) (n1 ?_)
    exact au H1 (aL @J1b hX1 (aA H trivial))
   ·
    exact au H1 (aL @J1a (hX1 0) (aA H trivial))
  ·
   skip
   refine hV1 _ ?_
   have J1a := fun {v3 v4 v5 v6 v7 v8 τ} h n0 n1 l => hW1 _ τ ((IH1 v3 v4 v5 v6 v7 v8 _ h rfl).1 n0 n1) l
   have J1b := fun {v3 v4 v5 v6 v7 v8 τ} h l => hW1 _ τ ((IH1 v3 v4 v5 v6 v7 v8 _ h rfl).2) l
   exact au H1 (aL @J1b (hX1 1) (aA H trivial))⟩
instance impl_commonTree_ok  {a1 : Order} {a2 : Str} : FOK R (impl_commonTree a1 a2) 94 [gOrder a1, .c (cS a2) none] fun r => (gNode_oo r, []) := ⟨fun {r} H => by
 unfold impl_commonTree at H
 refine fw false 22 Tryz.func94 ?_
 refine s_ ?_
 refine W_lateLP [1, 2, 3, 4, 5, 6, 7, 8, 9, 10, 11, 12, 13, 14, 15, 0, 16, 17] [5] (by kernel_rfl) (by kernel_rfl) (by kernel_rfl) (by decide +kernel) (by kernel_rfl) ?_; simp only [SX.clr,List.foldl,putT,st,ev,gt,hp,ofV,constT,intT,lm,hoist,renO,opAt,List.map_cons,List.map_nil,List.toList_toArray,List.getElem?_toArray,List.getElem?_cons_succ,List.getElem?_cons_zero,Option.getD_some,Option.map_none,Option.map_some]; refine WL_c rfl ?_
 exact au0 H⟩
instance impl_kindWord_ok  {a1 : Int} : FOK R (impl_kindWord a1) 167 [.c (cI .i64 a1) none] fun r => (.c (cS r) none, []) := ⟨fun {r} H => by
 unfold impl_kindWord at H
 refine fw false 10 Tryz.func167 ?_
 exact au0 H⟩
instance impl_isAmount_ok  {a1 : Int} : FOK R (impl_isAmount a1) 177 [.c (cI .i64 a1) none] fun r => (.c (cB r) none, []) := ⟨fun {r} H => by
 unfold impl_isAmount at H
 refine fw false 5 Tryz.func177 ?_
 exact au0 H⟩
instance impl_Digits_F_ok {rc118 : Int → Option (Str)} [hrc118 : ∀ {a1 : Int}, FOK R (rc118 a1) 129 [.c (cI .i64 a1) none] fun r => (.c (cS r) none, [])] {a1 : Int} : FOK R (impl_Digits_F rc118 a1) 129 [.c (cI .i64 a1) none] fun r => (.c (cS r) none, []) := ⟨fun {r} H => by
 unfold impl_Digits_F at H
 refine fw false 41 Tryz.func129 ?_
 exact au0 H⟩
theorem impl_Digits_n_ok : ∀ (k : Nat) {a1 : Int} {r : Str}, impl_Digits_n k a1 = some r → R 129 [.c (cI .i64 a1) none] = some ((fun r => (.c (cS r) none, [])) r)
  | 0, _, _, h => by simp [impl_Digits_n] at h
  | k + 1, _, _, h => (impl_Digits_F_ok (hrc118 := ⟨fun h => impl_Digits_n_ok k h⟩)).ok h
instance impl_Digits_ok {a1 : Int} : FOK R (impl_Digits a1) 129 [.c (cI .i64 a1) none] fun r => (.c (cS r) none, []) := ⟨fun {r} H => by
 obtain ⟨k, hk⟩ := Nt.lim_ex H
 exact impl_Digits_n_ok k (hk k (Nat.le_refl k))⟩
instance impl_AmountText_ok  {a1 : Int} : FOK R (impl_AmountText a1) 168 [.c (cI .i64 a1) none] fun r => (.c (cS r) none, []) := ⟨fun {r} H => by
 unfold impl_AmountText at H
 refine fw false 29 Tryz.func168 ?_
 exact au0 H⟩
instance impl_MetricTree_ok  {a1 : Metric} : FOK R (impl_MetricTree a1) 142 [gMetric a1] fun r => (gNode_oo r, []) := ⟨fun {r} H => by
 unfold impl_MetricTree at H
 refine fw false 17 Tryz.func142 ?_
 refine s_ ?_
 refine W_lateLP [1, 2, 3, 4, 5, 6, 7, 8, 9, 10, 11, 12, 0, 13, 14] [3] (by kernel_rfl) (by kernel_rfl) (by kernel_rfl) (by decide +kernel) (by kernel_rfl) ?_; simp only [SX.clr,List.foldl,putT,st,ev,gt,hp,ofV,constT,intT,lm,hoist,renO,opAt,List.map_cons,List.map_nil,List.toList_toArray,List.getElem?_toArray,List.getElem?_cons_succ,List.getElem?_cons_zero,Option.getD_some,Option.map_none,Option.map_some]; refine WL_c rfl ?_
 exact au0 H⟩
instance impl_metricsTree_ok  {a1 : List Metric} : FOK R (impl_metricsTree a1) 96 [.c (cL enc_Metric a1) none] fun r => (gNode_oo r, []) := ⟨fun {r} H => by
 unfold impl_metricsTree at H
 refine fw false 22 Tryz.func96 ?_
 refine s_ ?_
 obtain ⟨t7, ht7, H⟩ := bnd H
 refine loop_ruleM (ls := []) 0 (fun (i : Nat) (t7 : List RNode) => match i with | 0 => ⟨[.no, .no, .bp 0 0, .bp 1 0], [some [qi 0, qi 0, qs [], .nil, .nil], some [qi 4, qi 0, qs [], .nil, .nil]], []⟩ | _ => ⟨[.no, .no, .bp 0 0, .bp 1 0], [some [qi 0, qi 0, qs [], .nil, .nil], some [qi 4, qi 0, qs [], .nil, .row 0]], [rr 5 eR_Node t7 true]⟩) (fun (i : Nat) t => match i with | 0 => t7 = t ∧ t = [] | 1 => t7 = t | _ => False) ⟨[.no, .no, .bp 0 0, .bp 1 0, .no, .no, .no, .c (cL enc_Metric a1), qi (a1.length : Int), qi 0], [some [qi 0, qi 0, qs [], .nil, .nil], some [qi 4, qi 0, qs [], .nil, .nil]], []⟩ mO lE ?_ ?_
 ·
  intro i t1 hp
  rcases i with _ | _ | i
  ·
   obtain ⟨rfl, hz_t7_0⟩ := hp
   refine s_ ?_
   obtain rfl := Option.some.inj H
   exact told5 rfl rfl rfl rfl rfl (by simp only [hz_t7_0]; try rfl)
  ·
   obtain rfl := hp
   exact au0 H
  ·
   exact hp.elim
 ·
  intro V1 hV1 hW1 hX1
  refine (impl_metricsTree.l0.partial_correctness a1 (fun v2 v3 s' => s' = t7 → (v3 = [] → V1 ⟨[.no, .no, .bp 0 0, .bp 1 0, .no, .no, .no, .c (cL enc_Metric a1), qi (a1.length : Int), qi v2], [some [qi 0, qi 0, qs [], .nil, .nil], some [qi 4, qi 0, qs [], .nil, .nil]], []⟩) ∧ (V1 ⟨[.no, .no, .bp 0 0, .bp 1 0, .no, .no, .no, .c (cL enc_Metric a1), qi (a1.length : Int), qi v2], [some [qi 0, qi 0, qs [], .nil, .nil], some [qi 4, qi 0, qs [], .nil, .row 0]], [rr 5 eR_Node v3 true]⟩)) ?_ _ _ _ ht7 rfl).1 rfl
  intro l0 IH1 v2 v3 s' H1 e
  subst e
  refine ⟨?_, ?_⟩
  ·
   intro hn_v3
   refine hV1 _ ?_
   have J1a := fun {v2 v3 τ} h n0 l => hW1 _ τ ((IH1 v2 v3 _ h rfl).1 n0) l
   have J1b := fun {v2 v3 τ} h l => hW1 _ τ ((IH1 v2 v3 _ h rfl).2) l
   exact au H1 (aL @J1b (hX1 0) (aA H trivial))
  ·
   skip
   refine hV1 _ ?_
   have J1a := fun {v2 v3 τ} h n0 l => hW1 _ τ ((IH1 v2 v3 _ h rfl).1 n0) l
   have J1b := fun {v2 v3 τ} h l => hW1 _ τ ((IH1 v2 v3 _ h rfl).2) l
   exact au H1 (aL @J1b (hX1 1) (aA H trivial))⟩
instance impl_SpanText_ok  {a1 : Int} : FOK R (impl_SpanText a1) 143 [.c (cI .i64 a1) none] fun r => (.c (cS r) none, []) := ⟨fun {r} H => by
 unfold impl_SpanText at H
 refine fw false 34 Tryz.func143 ?_
 exact au0 H⟩
instance impl_PaceTree_ok  {a1 : Pace} : FOK R (impl_PaceTree a1) 97 [gPace a1] fun r => (gNode_oo r, []) := ⟨fun {r} H => by
 unfold impl_PaceTree at H
 refine fw false 20 Tryz.func97 ?_
 refine s_ ?_
 refine W_lateLP [1, 2, 3, 4, 5, 6, 7, 8, 9, 10, 11, 12, 13, 14, 15, 0, 16, 17] [3] (by kernel_rfl) (by kernel_rfl) (by kernel_rfl) (by decide +kernel) (by kernel_rfl) ?_; simp only [SX.clr,List.foldl,putT,st,ev,gt,hp,ofV,constT,intT,lm,hoist,renO,opAt,List.map_cons,List.map_nil,List.toList_toArray,List.getElem?_toArray,List.getElem?_cons_succ,List.getElem?_cons_zero,Option.getD_some,Option.map_none,Option.map_some]; refine WL_c rfl ?_
 exact au0 H⟩
instance impl_notesTree_ok  {a1 : List Note} : FOK R (impl_notesTree a1) 98 [.c (cL enc_Note a1) none] fun r => (gNode_oo r, []) := ⟨fun {r} H => by
 unfold impl_notesTree at H
 refine fw false 22 Tryz.func98 ?_
 refine s_ ?_
 obtain ⟨t11, ht11, H⟩ := bnd H
 refine loop_ruleM (ls := []) 0 (fun (i : Nat) (t11 : Int × Int × Str × List Str × List RNode) => match i with | 0 => ⟨[.no, .no, .bp 0 0, .bp 1 0], [some [qi 0, qi 0, qs [], .nil, .nil], some [qi t11.1, qi t11.2.1, qs t11.2.2.1, .nil, .nil]], []⟩ | _ => ⟨[.no, .no, .bp 0 0, .bp 1 0], [some [qi 0, qi 0, qs [], .nil, .nil], some [qi t11.1, qi t11.2.1, qs t11.2.2.1, .row 0, .row 1]], [rr 1 eS t11.2.2.2.1 true, rr 5 eR_Node t11.2.2.2.2 true]⟩) (fun (i : Nat) t => match i with | 0 => t11 = t ∧ t.2.2.2.1 = [] ∧ t.2.2.2.2 = [] | 1 => t11 = t | _ => False) ⟨[.no, .no, .bp 0 0, .bp 1 0, .no, .no, .no, .c (cL enc_Note a1), qi (a1.length : Int), qi 0], [some [qi 0, qi 0, qs [], .nil, .nil], some [qi 5, qi 0, qs [], .nil, .nil]], []⟩ mO lE ?_ ?_
 ·
  intro i t1 hp
  rcases i with _ | _ | i
  ·
   obtain ⟨rfl, hz_t11_3, hz_t11_4⟩ := hp
   refine s_ ?_
   obtain rfl := Option.some.inj H
   exact told5 rfl rfl rfl rfl rfl (by simp only [hz_t11_3, hz_t11_4]; try rfl)
  ·
   obtain rfl := hp
   exact au0 H
  ·
   exact hp.elim
 ·
  intro V1 hV1 hW1 hX1
  refine (impl_notesTree.l0.partial_correctness a1 (fun v2 v3 v4 v5 v6 v7 s' => s' = t11 → (v6 = [] → v7 = [] → V1 ⟨[.no, .no, .bp 0 0, .bp 1 0, .no, .no, .no, .c (cL enc_Note a1), qi (a1.length : Int), qi v2], [some [qi 0, qi 0, qs [], .nil, .nil], some [qi v3, qi v4, qs v5, .nil, .nil]], []⟩) ∧ (V1 ⟨[.no, .no, .bp 0 0, .bp 1 0, .no, .no, .no, .c (cL enc_Note a1), qi (a1.length : Int), qi v2], [some [qi 0, qi 0, qs [], .nil, .nil], some [qi v3, qi v4, qs v5, .row 0, .row 1]], [rr 1 eS v6 true, rr 5 eR_Node v7 true]⟩)) ?_ _ _ _ _ _ _ _ ht11 rfl).1 rfl rfl
  intro l0 IH1 v2 v3 v4 v5 v6 v7 s' H1 e
  subst e
  refine ⟨?_, ?_⟩
  ·
   intro hn_v6 hn_v7
   refine hV1 _ ?_
   have J1a := fun {v2 v3 v4 v5 v6 v7 τ} h n0 n1 l => hW1 _ τ ((IH1 v2 v3 v4 v5 v6 v7 _ h rfl).1 n0 n1) l
   have J1b := fun {v2 v3 v4 v5 v6 v7 τ} h l => hW1 _ τ ((IH1 v2 v3 v4 v5 v6 v7 _ h rfl).2) l
   refine s_ ?_
   refine W_ite rfl H1 (fun hc H1 => ?_) (fun hc H1 => ?_)
   ·
    refine s_ ?_
    obtain ⟨x8, hx8, H1⟩ := bnd H1
    refine b_ hx8 ?_
    refine s_ ?_
    obtain ⟨x9, hx9, H1⟩ := bnd H1
    refine b_ hx9 ?_
    obtain ⟨x10, hx10, H1⟩ := bnd H1
    refine WL_op (x := .ag [qi x10.Kind, qi x10.N, qs x10.S, .row 2, .row 3]) (σ' := ⟨[], [some [qi 0, qi 0, qs [], .nil, .nil], some [qi v3, qi v4, qs v5, .nil, .nil], some [qs x8.Key, qs x8.Text]], [rr 1 eS x9.Keys false, rr 5 eR_Node x9.Kids false, rr 1 eS x10.Keys true, rr 5 eR_Node x10.Kids true]⟩) rfl rfl rfl (ev_callG (al := [.ag [qi v3, qi v4, qs v5, .nil, .nil], qs x8.Key, .ag [qi x9.Kind, qi x9.N, qs x9.S, .row 0, .row 1]]) (ls := []) (okz hx10 rfl) rfl rfl rfl rfl rfl (by decide) rfl (by rw [hn_v6, hn_v7]; rfl) rfl rfl rfl rfl) (n1 ?_)
    exact au H1 (aL @J1b hX1 (aA H trivial))
   ·
    exact au H1 (aL @J1a (hX1 0) (aA H trivial))
  ·
   skip
   refine hV1 _ ?_
   have J1a := fun {v2 v3 v4 v5 v6 v7 τ} h n0 n1 l => hW1 _ τ ((IH1 v2 v3 v4 v5 v6 v7 _ h rfl).1 n0 n1) l
   have J1b := fun {v2 v3 v4 v5 v6 v7 τ} h l => hW1 _ τ ((IH1 v2 v3 v4 v5 v6 v7 _ h rfl).2) l
   exact au H1 (aL @J1b (hX1 1) (aA H trivial))⟩
instance impl_FullTree_ok  {a1 : Order} : FOK R (impl_FullTree a1) 56 [gOrder a1] fun r => (gNode_oo r, []) := ⟨fun {r} H => by
 unfold impl_FullTree at H
 refine fw false 25 Tryz.func56 ?_
 exact au0 H⟩
instance impl_PaceNew_ok   : FOK R (impl_PaceNew) 144 [] fun r => (gPace r, []) := ⟨fun {r} H => by
 unfold impl_PaceNew at H
 refine fw false 2 Tryz.func144 ?_
 exact au0 H⟩
instance impl_size_F_ok {rc127 : Node → Int → Option (Int × Int)} [hrc127 : ∀ {a1 : Node} {a2 : Int}, FOK R (rc127 a1 a2) 127 [gNode a1, .c (cI .i64 a2) none] fun r => (.tu [.c (cI .i64 r.1) none, .c (cI .i64 r.2) none], [])] {a1 : Node} {a2 : Int} : FOK R (impl_size_F rc127 a1 a2) 127 [gNode a1, .c (cI .i64 a2) none] fun r => (.tu [.c (cI .i64 r.1) none, .c (cI .i64 r.2) none], []) := ⟨fun {r} H => by
 unfold impl_size_F at H
 refine fw false 39 Tryz.func127 ?_
 refine s_ ?_
 refine W_ite rfl H (fun hc H => ?_) (fun hc H => ?_)
 ·
  exact au0 H
 ·
  refine s_ ?_
  obtain ⟨t9, ht9, H⟩ := bnd H
  refine loop_rule (ls := []) 0 (fun t9 : Int × Int => ⟨[.no, .no, .no, .no, .no, .no, qi t9.1, qi t9.2], [], []⟩) (fun t => t9 = t) ⟨[.no, qi a2, .no, .no, .no, .no, qi 1, qi 0, .no, .no, .no, .no, .no, .no, .no, .c (cL eR_Node a1.Kids), qi (a1.Kids.length : Int), qi 0], [], []⟩ mO lE ?_ ?_
  ·
   rintro t1 rfl
   exact au0 H
  ·
   intro V1 hV1 hW1 hX1
   refine (impl_size.l0.partial_correctness rc127 a1 a2 (fun v3 v4 v5 s' => s' = t9 → (V1 ⟨[.no, qi a2, .no, .no, .no, .no, qi v3, qi v4, .no, .no, .no, .no, .no, .no, .no, .c (cL eR_Node a1.Kids), qi (a1.Kids.length : Int), qi v5], [], []⟩)) ?_ _ _ _ _ ht9 rfl)
   intro l0 IH1 v3 v4 v5 s' H1 e
   subst e
   refine hV1 _ ?_
   have J1a := fun {v3 v4 v5 τ} h l => hW1 _ τ ((IH1 v3 v4 v5 _ h rfl)) l
   exact au H1 (aL @J1a hX1 (aA H trivial))⟩
theorem impl_size_n_ok : ∀ (k : Nat) {a1 : Node} {a2 : Int} {r : Int × Int}, impl_size_n k a1 a2 = some r → R 127 [gNode a1, .c (cI .i64 a2) none] = some ((fun r => (.tu [.c (cI .i64 r.1) none, .c (cI .i64 r.2) none], [])) r)
  | 0, _, _, _, h => by simp [impl_size_n] at h
  | k + 1, _, _, _, h => (impl_size_F_ok (hrc127 := ⟨fun h => impl_size_n_ok k h⟩)).ok h
instance impl_size_ok {a1 : Node} {a2 : Int} : FOK R (impl_size a1 a2) 127 [gNode a1, .c (cI .i64 a2) none] fun r => (.tu [.c (cI .i64 r.1) none, .c (cI .i64 r.2) none], []) := ⟨fun {r} H => by
 obtain ⟨k, hk⟩ := Nt.lim_ex H
 exact impl_size_n_ok k (hk k (Nat.le_refl k))⟩
end Go.Pu
