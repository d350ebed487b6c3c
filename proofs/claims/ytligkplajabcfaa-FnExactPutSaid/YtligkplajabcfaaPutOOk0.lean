import Derived.Test.YtligkplajabcfaaPutOEn
set_option linter.unusedVariables false
set_option linter.unusedSimpArgs false
set_option synthInstance.maxSize 1000000000
set_option maxRecDepth 20000
set_option maxHeartbeats 20000000
namespace Go.PuO
open Go Go.SX Go.Nt Go.Proofs
instance impl_put_1_ok  {a1 : Item} {a2 : Item} : FOK R (impl_put_1 a1 a2) 74 [gItem a1, gPItem a2] fun r => (.c (cB r.1) none, [some [(cS r.2.Order.Name, none), (cS r.2.Order.Target, none), (cI .i64 r.2.Order.Low, none), (cI .i64 r.2.Order.High, none), (r.2.Order.Metrics, none), (cI .i64 r.2.Order.Pace.Up, none), (cI .i64 r.2.Order.Pace.Down, none), (cI .i64 r.2.Order.Pace.UpSpan, none), (cI .i64 r.2.Order.Pace.DownSpan, none), (r.2.Order.Notes, none), (cI .i64 r.2.Ver, none)]]) := ⟨fun {r} H => by
 unfold impl_put_1 at H
 refine fw false 11 Try.func74 ?_
 exact au0 H⟩
instance slices_IndexFunc_Simpl_Item_impl_Item_impl_put_1_ok  {a1 : List Item} {a2 : Item} : FOK R (slices_IndexFunc_Simpl_Item_impl_Item_impl_put_1 a1 a2) 56 [.c (cL enc_Item a1) (some (11, false)), .f 74 [[(cS a2.Order.Name, none), (cS a2.Order.Target, none), (cI .i64 a2.Order.Low, none), (cI .i64 a2.Order.High, none), (a2.Order.Metrics, none), (cI .i64 a2.Order.Pace.Up, none), (cI .i64 a2.Order.Pace.Down, none), (cI .i64 a2.Order.Pace.UpSpan, none), (cI .i64 a2.Order.Pace.DownSpan, none), (a2.Order.Notes, none), (cI .i64 a2.Ver, none)]]] fun r => (.c (cI .i64 r.1) none, [some [(cL enc_Item r.2.1, some (11, false))], some [(cS r.2.2.Order.Name, none), (cS r.2.2.Order.Target, none), (cI .i64 r.2.2.Order.Low, none), (cI .i64 r.2.2.Order.High, none), (r.2.2.Order.Metrics, none), (cI .i64 r.2.2.Order.Pace.Up, none), (cI .i64 r.2.2.Order.Pace.Down, none), (cI .i64 r.2.2.Order.Pace.UpSpan, none), (cI .i64 r.2.2.Order.Pace.DownSpan, none), (r.2.2.Order.Notes, none), (cI .i64 r.2.2.Ver, none)]]) := ⟨fun {r} H => by
 unfold slices_IndexFunc_Simpl_Item_impl_Item_impl_put_1 at H
 refine fw false 19 Try.func56 ?_
 refine s_ ?_
 obtain ⟨s18, hs18, H⟩ := bnd H
 refine loop_rule (ls := [.r 0, .b 0]) 0 (fun t17 : Str × Str × Int × Int × Go.SX.C × Int × Int × Int × Int × Go.SX.C × Int => ⟨[], [some [qs t17.1, qs t17.2.1, qi t17.2.2.1, qi t17.2.2.2.1, .c (t17.2.2.2.2.1), qi t17.2.2.2.2.2.1, qi t17.2.2.2.2.2.2.1, qi t17.2.2.2.2.2.2.2.1, qi t17.2.2.2.2.2.2.2.2.1, .c (t17.2.2.2.2.2.2.2.2.2.1), qi t17.2.2.2.2.2.2.2.2.2.2]], [rr 11 enc_Item a1 true]⟩) (fun t => s18 = .inr t) ⟨[.row 0, .fn 74 [0], .no, .no, .no, .no, .no, qi (a1.length : Int), qi 0], [some (uO a2.Order (.c (a2.Order.Metrics)) (.c (a2.Order.Notes)) [qi a2.Ver])], [rr 11 enc_Item a1 true]⟩ mO lE ?_ ?_
 ·
  rintro t17 rfl
  exact au0 H
 ·
  intro V1 hV1 hW1 hX1
  refine (slices_IndexFunc_Simpl_Item_impl_Item_impl_put_1.l0.partial_correctness a1 (fun v3 v4 v5 v6 v7 v8 v9 v10 v11 v12 v13 v14 s' => s' = s18 → (V1 ⟨[.row 0, .fn 74 [0], .no, .no, .no, .no, .no, qi (a1.length : Int), qi v3], [some [qs v4, qs v5, qi v6, qi v7, .c (v8), qi v9, qi v10, qi v11, qi v12, .c (v13), qi v14]], [rr 11 enc_Item a1 true]⟩)) ?_ _ _ _ _ _ _ _ _ _ _ _ _ _ hs18 rfl)
  intro l0 IH1 v3 v4 v5 v6 v7 v8 v9 v10 v11 v12 v13 v14 s' H1 e
  subst e
  refine hV1 _ ?_
  have J1a := fun {v3 v4 v5 v6 v7 v8 v9 v10 v11 v12 v13 v14 τ} h l => hW1 _ τ ((IH1 v3 v4 v5 v6 v7 v8 v9 v10 v11 v12 v13 v14 _ h rfl)) l
  exact au H1 (aL @J1a hX1 (aA H trivial))⟩
instance slices_DeleteFunc_Simpl_Item_impl_Item_impl_put_1_ok  {a1 : List Item} {a2 : Item} : FOK R (slices_DeleteFunc_Simpl_Item_impl_Item_impl_put_1 a1 a2) 73 [.c (cL enc_Item a1) (some (11, false)), .f 74 [[(cS a2.Order.Name, none), (cS a2.Order.Target, none), (cI .i64 a2.Order.Low, none), (cI .i64 a2.Order.High, none), (a2.Order.Metrics, none), (cI .i64 a2.Order.Pace.Up, none), (cI .i64 a2.Order.Pace.Down, none), (cI .i64 a2.Order.Pace.UpSpan, none), (cI .i64 a2.Order.Pace.DownSpan, none), (a2.Order.Notes, none), (cI .i64 a2.Ver, none)]]] fun r => (.c (cL enc_Item r.1) (some (11, false)), [none, some [(cS r.2.Order.Name, none), (cS r.2.Order.Target, none), (cI .i64 r.2.Order.Low, none), (cI .i64 r.2.Order.High, none), (r.2.Order.Metrics, none), (cI .i64 r.2.Order.Pace.Up, none), (cI .i64 r.2.Order.Pace.Down, none), (cI .i64 r.2.Order.Pace.UpSpan, none), (cI .i64 r.2.Order.Pace.DownSpan, none), (r.2.Order.Notes, none), (cI .i64 r.2.Ver, none)]]) := ⟨fun {r} H => by
 unfold slices_DeleteFunc_Simpl_Item_impl_Item_impl_put_1 at H
 refine fw false 42 Try.func73 ?_
 refine s_ ?_
 obtain ⟨x3, hx3, H⟩ := bnd H
 refine b_ hx3 ?_
 refine s_ ?_
 refine W_ite rfl H (fun hc H => ?_) (fun hc H => ?_)
 ·
  exact au0 H
 ·
  refine s_ ?_
  obtain ⟨t22, ht22, H⟩ := bnd H
  refine loop_rule (ls := [.r 0, .b 0]) 0 (fun t22 : Int × Str × Str × Int × Int × Go.SX.C × Int × Int × Int × Int × Go.SX.C × Int × List Item => ⟨[.row 0, .no, .no, .no, .no, qi t22.1], [some [qs t22.2.1, qs t22.2.2.1, qi t22.2.2.2.1, qi t22.2.2.2.2.1, .c (t22.2.2.2.2.2.1), qi t22.2.2.2.2.2.2.1, qi t22.2.2.2.2.2.2.2.1, qi t22.2.2.2.2.2.2.2.2.1, qi t22.2.2.2.2.2.2.2.2.2.1, .c (t22.2.2.2.2.2.2.2.2.2.2.1), qi t22.2.2.2.2.2.2.2.2.2.2.2.1]], [rr 11 enc_Item t22.2.2.2.2.2.2.2.2.2.2.2.2 true]⟩) (fun t => t22 = t) ⟨[.row 0, .fn 74 [0], .no, .no, .no, qi x3.1, qi (IntKind.i64.wrap (x3.1 + 1))], [some (uO x3.2.2.Order (.c (x3.2.2.Order.Metrics)) (.c (x3.2.2.Order.Notes)) [qi x3.2.2.Ver])], [rr 11 enc_Item x3.2.1 true]⟩ mO lE ?_ ?_
  ·
   rintro t1 rfl
   refine s_ ?_
   obtain ⟨s23, hs23, H⟩ := bnd H
   refine b_ hs23 ?_
   refine WO_op (x := .tu []) (σ' := ⟨[], [some [qs t22.2.1, qs t22.2.2.1, qi t22.2.2.2.1, qi t22.2.2.2.2.1, .c (t22.2.2.2.2.2.1), qi t22.2.2.2.2.2.2.1, qi t22.2.2.2.2.2.2.2.1, qi t22.2.2.2.2.2.2.2.2.1, qi t22.2.2.2.2.2.2.2.2.2.1, .c (t22.2.2.2.2.2.2.2.2.2.2.1), qi t22.2.2.2.2.2.2.2.2.2.2.2.1]], [rr 11 enc_Item (Nt.clr t22.2.2.2.2.2.2.2.2.2.2.2.2 t22.1 (t22.2.2.2.2.2.2.2.2.2.2.2.2.length : Int) (Item.mk (Order.mk [] [] 0 0 (.r []) (Pace.mk 0 0 0 0) (.r [])) 0)) true]⟩) rfl rfl (ev_clr (en := enc_Item) (a := (Item.mk (Order.mk [] [] 0 0 (.r []) (Pace.mk 0 0 0 0) (.r [])) 0)) hs23 rfl rfl rfl rfl rfl rfl rfl rfl rfl rfl rfl rfl rfl rfl rfl rfl rfl) (n1 ?_)
   refine s_ ?_
   obtain ⟨s24, hs24, H⟩ := bnd H
   refine b_ hs24 ?_
   refine s_ ?_
   obtain rfl := Option.some.inj H
   exact told5 rfl rfl rfl rfl (fitAs_nz rfl) (by simp only [outA, cut_map]; rw [← (slc_some hs24).2.2.2]; try rfl)
  ·
   intro V1 hV1 hW1 hX1
   refine (slices_DeleteFunc_Simpl_Item_impl_Item_impl_put_1.l0.partial_correctness (fun v4 v5 v6 v7 v8 v9 v10 v11 v12 v13 v14 v15 v16 v17 s' => s' = t22 → (V1 ⟨[.row 0, .fn 74 [0], .no, .no, .no, qi v4, qi v5], [some [qs v6, qs v7, qi v8, qi v9, .c (v10), qi v11, qi v12, qi v13, qi v14, .c (v15), qi v16]], [rr 11 enc_Item v17 true]⟩)) ?_ _ _ _ _ _ _ _ _ _ _ _ _ _ _ _ ht22 rfl)
   intro l0 IH1 v4 v5 v6 v7 v8 v9 v10 v11 v12 v13 v14 v15 v16 v17 s' H1 e
   subst e
   refine hV1 _ ?_
   have J1a := fun {v4 v5 v6 v7 v8 v9 v10 v11 v12 v13 v14 v15 v16 v17 τ} h l => hW1 _ τ ((IH1 v4 v5 v6 v7 v8 v9 v10 v11 v12 v13 v14 v15 v16 v17 _ h rfl)) l
   exact au H1 (aL @J1a hX1 (aA H trivial))⟩
instance impl_put_2_ok  {a1 : Item} {a2 : Item} : FOK R (impl_put_2 a1 a2) 75 [gItem a1, gPItem a2] fun r => (.c (cB r.1) none, [some [(cS r.2.Order.Name, none), (cS r.2.Order.Target, none), (cI .i64 r.2.Order.Low, none), (cI .i64 r.2.Order.High, none), (r.2.Order.Metrics, none), (cI .i64 r.2.Order.Pace.Up, none), (cI .i64 r.2.Order.Pace.Down, none), (cI .i64 r.2.Order.Pace.UpSpan, none), (cI .i64 r.2.Order.Pace.DownSpan, none), (r.2.Order.Notes, none), (cI .i64 r.2.Ver, none)]]) := ⟨fun {r} H => by
 unfold impl_put_2 at H
 refine fw false 11 Try.func75 ?_
 exact au0 H⟩
instance slices_IndexFunc_Simpl_Item_impl_Item_impl_put_2_ok  {a1 : List Item} {a2 : Item} : FOK R (slices_IndexFunc_Simpl_Item_impl_Item_impl_put_2 a1 a2) 56 [.c (cL enc_Item a1) (some (11, false)), .f 75 [[(cS a2.Order.Name, none), (cS a2.Order.Target, none), (cI .i64 a2.Order.Low, none), (cI .i64 a2.Order.High, none), (a2.Order.Metrics, none), (cI .i64 a2.Order.Pace.Up, none), (cI .i64 a2.Order.Pace.Down, none), (cI .i64 a2.Order.Pace.UpSpan, none), (cI .i64 a2.Order.Pace.DownSpan, none), (a2.Order.Notes, none), (cI .i64 a2.Ver, none)]]] fun r => (.c (cI .i64 r.1) none, [some [(cL enc_Item r.2.1, some (11, false))], some [(cS r.2.2.Order.Name, none), (cS r.2.2.Order.Target, none), (cI .i64 r.2.2.Order.Low, none), (cI .i64 r.2.2.Order.High, none), (r.2.2.Order.Metrics, none), (cI .i64 r.2.2.Order.Pace.Up, none), (cI .i64 r.2.2.Order.Pace.Down, none), (cI .i64 r.2.2.Order.Pace.UpSpan, none), (cI .i64 r.2.2.Order.Pace.DownSpan, none), (r.2.2.Order.Notes, none), (cI .i64 r.2.2.Ver, none)]]) := ⟨fun {r} H => by
 unfold slices_IndexFunc_Simpl_Item_impl_Item_impl_put_2 at H
 refine fw false 19 Try.func56 ?_
 refine s_ ?_
 obtain ⟨s18, hs18, H⟩ := bnd H
 refine loop_rule (ls := [.r 0, .b 0]) 0 (fun t17 : Str × Str × Int × Int × Go.SX.C × Int × Int × Int × Int × Go.SX.C × Int => ⟨[], [some [qs t17.1, qs t17.2.1, qi t17.2.2.1, qi t17.2.2.2.1, .c (t17.2.2.2.2.1), qi t17.2.2.2.2.2.1, qi t17.2.2.2.2.2.2.1, qi t17.2.2.2.2.2.2.2.1, qi t17.2.2.2.2.2.2.2.2.1, .c (t17.2.2.2.2.2.2.2.2.2.1), qi t17.2.2.2.2.2.2.2.2.2.2]], [rr 11 enc_Item a1 true]⟩) (fun t => s18 = .inr t) ⟨[.row 0, .fn 75 [0], .no, .no, .no, .no, .no, qi (a1.length : Int), qi 0], [some (uO a2.Order (.c (a2.Order.Metrics)) (.c (a2.Order.Notes)) [qi a2.Ver])], [rr 11 enc_Item a1 true]⟩ mO lE ?_ ?_
 ·
  rintro t17 rfl
  exact au0 H
 ·
  intro V1 hV1 hW1 hX1
  refine (slices_IndexFunc_Simpl_Item_impl_Item_impl_put_2.l0.partial_correctness a1 (fun v3 v4 v5 v6 v7 v8 v9 v10 v11 v12 v13 v14 s' => s' = s18 → (V1 ⟨[.row 0, .fn 75 [0], .no, .no, .no, .no, .no, qi (a1.length : Int), qi v3], [some [qs v4, qs v5, qi v6, qi v7, .c (v8), qi v9, qi v10, qi v11, qi v12, .c (v13), qi v14]], [rr 11 enc_Item a1 true]⟩)) ?_ _ _ _ _ _ _ _ _ _ _ _ _ _ hs18 rfl)
  intro l0 IH1 v3 v4 v5 v6 v7 v8 v9 v10 v11 v12 v13 v14 s' H1 e
  subst e
  refine hV1 _ ?_
  have J1a := fun {v3 v4 v5 v6 v7 v8 v9 v10 v11 v12 v13 v14 τ} h l => hW1 _ τ ((IH1 v3 v4 v5 v6 v7 v8 v9 v10 v11 v12 v13 v14 _ h rfl)) l
  exact au H1 (aL @J1a hX1 (aA H trivial))⟩
end Go.PuO
