import Derived.Test.YtgcpppnhhponmaaWorldOkOk0
import Derived.Test.YtgcpppnhhponmaaWorldOkOk1
set_option linter.unusedVariables false
set_option linter.unusedSimpArgs false
set_option synthInstance.maxSize 1000000000
set_option maxRecDepth 20000
set_option maxHeartbeats 1000000
namespace Go.Pu
open Go Go.SX Go.Nt Go.Proofs
theorem slices_IndexFunc_Simpl_Item_impl_Item_impl_StoreOk_1_ok {a1 : List Item} {a2 : Item} {r : Int × Item} (H : slices_IndexFunc_Simpl_Item_impl_Item_impl_StoreOk_1 a1 a2 = some r) : R 149 [.c (cL enc_Item a1) none, .f 107 [[(cS a2.Order.Name, none), (cS a2.Order.Target, none), (cI .i64 a2.Order.Low, none), (cI .i64 a2.Order.High, none), (cL enc_Metric a2.Order.Metrics, none), (cI .i64 a2.Order.Pace.Up, none), (cI .i64 a2.Order.Pace.Down, none), (cI .i64 a2.Order.Pace.UpSpan, none), (cI .i64 a2.Order.Pace.DownSpan, none), (cL enc_Note a2.Order.Notes, none), (cI .i64 a2.Ver, none)]]] = some (.c (cI .i64 r.1) none, [some [(cS r.2.Order.Name, none), (cS r.2.Order.Target, none), (cI .i64 r.2.Order.Low, none), (cI .i64 r.2.Order.High, none), (cL enc_Metric r.2.Order.Metrics, none), (cI .i64 r.2.Order.Pace.Up, none), (cI .i64 r.2.Order.Pace.Down, none), (cI .i64 r.2.Order.Pace.UpSpan, none), (cI .i64 r.2.Order.Pace.DownSpan, none), (cL enc_Note r.2.Order.Notes, none), (cI .i64 r.2.Ver, none)]]) := by
 unfold slices_IndexFunc_Simpl_Item_impl_Item_impl_StoreOk_1 at H
 refine Fz_walk 19 rfl rfl Try.func149 rfl (by kernel_rfl) rfl rfl rfl rfl ?_
 simp only [tellVs, tellV, tells, tell, st0, padT, SX.newRow, SX.newBox, List.length_cons, List.length_nil, Nat.reduceAdd, Nat.reduceSub, List.replicate, List.cons_append, List.nil_append, List.foldl_cons, List.foldl_nil]
 refine W_seq (W_region ?_)
 refine WO_op rfl rfl rfl ?_; simp only [putT,st,ev,gt,hp,ofV,constT,intT,lm]
 refine WO_nil (W_seq (W_seq (W_region ?_)))
 iterate 3 (refine WO_op rfl rfl rfl ?_; simp only [putT,st,ev,gt,hp,ofV,constT,intT,lm])
 refine WO_nil ?_
 refine W_block ?_
 obtain ⟨s18, hs18, H⟩ := bnd H
 refine loop_rule (ls := [.b 0]) 0 (fun t17 : Str × Str × Int × Int × List Metric × Int × Int × Int × Int × List Note × Int => ⟨[], [some [qs t17.1, qs t17.2.1, qi t17.2.2.1, qi t17.2.2.2.1, .c (cL enc_Metric t17.2.2.2.2.1), qi t17.2.2.2.2.2.1, qi t17.2.2.2.2.2.2.1, qi t17.2.2.2.2.2.2.2.1, qi t17.2.2.2.2.2.2.2.2.1, .c (cL enc_Note t17.2.2.2.2.2.2.2.2.2.1), qi t17.2.2.2.2.2.2.2.2.2.2]], []⟩) (fun t => s18 = .inr t) ⟨[.c (cL enc_Item a1), .fn 107 [0], .no, .no, .no, .no, .no, qi (a1.length : Int), qi 0], [some [qs a2.Order.Name, qs a2.Order.Target, qi a2.Order.Low, qi a2.Order.High, .c (cL enc_Metric a2.Order.Metrics), qi a2.Order.Pace.Up, qi a2.Order.Pace.Down, qi a2.Order.Pace.UpSpan, qi a2.Order.Pace.DownSpan, .c (cL enc_Note a2.Order.Notes), qi a2.Ver]], []⟩ (by repeat (first | exact mono_told | refine mono_seq ?_ | refine mono_blk ?_ | refine mono_lp ?_)) (le_intro [0] [] (by decide) (by decide) rfl (by simp [leS, leT, leA, gt]) (by simp [leB, leT, leA]) (by simp [leR])) ?_ ?_
 ·
  rintro t17 rfl
  refine W_seq (W_region ?_)
  refine WO_op rfl rfl rfl ?_; simp only [putT,st,ev,gt,hp,ofV,constT,intT,lm]
  refine WO_nil ?_
  refine W_ret ?_
  obtain rfl := Option.some.inj H
  exact told3 rfl
 ·
  intro V1 hV1 hW1 hX1
  refine (slices_IndexFunc_Simpl_Item_impl_Item_impl_StoreOk_1.l0.partial_correctness a1 (fun v3 v4 v5 v6 v7 v8 v9 v10 v11 v12 v13 v14 s' => s' = s18 → (V1 ⟨[.c (cL enc_Item a1), .fn 107 [0], .no, .no, .no, .no, .no, qi (a1.length : Int), qi v3], [some [qs v4, qs v5, qi v6, qi v7, .c (cL enc_Metric v8), qi v9, qi v10, qi v11, qi v12, .c (cL enc_Note v13), qi v14]], []⟩)) ?_ _ _ _ _ _ _ _ _ _ _ _ _ _ hs18 rfl)
  intro l0 IH1 v3 v4 v5 v6 v7 v8 v9 v10 v11 v12 v13 v14 s' H1 e
  subst e
  refine hV1 _ ?_
  refine W_seq (W_region ?_)
  refine WO_op rfl rfl rfl ?_; simp only [putT,st,ev,gt,hp,ofV,constT,intT,lm]
  refine WO_nil (W_seq ?_)
  refine W_cond rfl (fun hc => ?_) (fun hc => ?_)
  ·
   replace H1 := tr hc H1
   refine W_skip ?_
   refine W_seq ?_
   refine W_block ?_
   refine W_seq (W_region ?_)
   iterate 2 (refine WO_op rfl rfl rfl ?_; simp only [putT,st,ev,gt,hp,ofV,constT,intT,lm])
   refine WO_nil (W_seq (W_region ?_))
   iterate 3 (refine WO_op rfl rfl rfl ?_; simp only [putT,st,ev,gt,hp,ofV,constT,intT,lm])
   obtain ⟨x15, hx15, H1⟩ := bnd H1
   refine WO_op rfl rfl (ev_ix (en := enc_Item) hx15 rfl rfl rfl rfl rfl rfl rfl) ?_; simp only [putT,st,ev,gt,hp,ofV,constT,intT,lm]
   refine WO_op (x := .ag [qs x15.Order.Name, qs x15.Order.Target, qi x15.Order.Low, qi x15.Order.High, .c (cL enc_Metric x15.Order.Metrics), qi x15.Order.Pace.Up, qi x15.Order.Pace.Down, qi x15.Order.Pace.UpSpan, qi x15.Order.Pace.DownSpan, .c (cL enc_Note x15.Order.Notes), qi x15.Ver]) rfl rfl rfl ?_; simp only [putT,st,ev,gt,hp,ofV,constT,intT,lm]
   obtain ⟨x16, hx16, H1⟩ := bnd H1
   refine WO_op (x := qb x16.1) (σ' := ⟨[], [some [qs x16.2.Order.Name, qs x16.2.Order.Target, qi x16.2.Order.Low, qi x16.2.Order.High, .c (cL enc_Metric x16.2.Order.Metrics), qi x16.2.Order.Pace.Up, qi x16.2.Order.Pace.Down, qi x16.2.Order.Pace.UpSpan, qi x16.2.Order.Pace.DownSpan, .c (cL enc_Note x16.2.Order.Notes), qi x16.2.Ver]], []⟩) rfl rfl (ev_callG (al := [.ag [qs x15.Order.Name, qs x15.Order.Target, qi x15.Order.Low, qi x15.Order.High, .c (cL enc_Metric x15.Order.Metrics), qi x15.Order.Pace.Up, qi x15.Order.Pace.Down, qi x15.Order.Pace.UpSpan, qi x15.Order.Pace.DownSpan, .c (cL enc_Note x15.Order.Notes), qi x15.Ver], .bp 0 0]) (ls := [.b 0]) (impl_StoreOk_1_ok hx16) rfl rfl rfl rfl rfl (by decide) rfl rfl rfl rfl rfl rfl) ?_; simp only [putT,st,ev,gt,hp,ofV,constT,intT,lm]
   refine WO_nil ?_
   refine W_cond rfl (fun hc => ?_) (fun hc => ?_)
   ·
    replace H1 := tr hc H1
    refine W_seq (W_region ?_)
    iterate 2 (refine WO_op rfl rfl rfl ?_; simp only [putT,st,ev,gt,hp,ofV,constT,intT,lm])
    refine WO_nil ?_
    refine W_ret ?_
    obtain rfl := Option.some.inj H1
    obtain rfl := Option.some.inj H
    exact told3 rfl
   ·
    replace H1 := fl hc H1
    refine W_skip ?_
    refine W_region ?_
    iterate 2 (refine WO_op rfl rfl rfl ?_; simp only [putT,st,ev,gt,hp,ofV,constT,intT,lm])
    refine WO_nil ?_
    exact hW1 _ _ ((IH1 _ _ _ _ _ _ _ _ _ _ _ _ _ H1 rfl)) (le_intro [0] [] (by decide) (by decide) rfl (by simp [leS, leT, leA, gt]) (by simp [leB, leT, leA]) (by simp [leR]))
  ·
   replace H1 := fl hc H1
   refine W_exit ?_
   obtain rfl := Option.some.inj H1
   exact hX1 (v4, v5, v6, v7, v8, v9, v10, v11, v12, v13, v14) _ rfl (le_intro [0] [] (by decide) (by decide) rfl (by simp [leS, leT, leA, gt]) (by simp [leB, leT, leA]) (by simp [leR]))
theorem slices_ContainsFunc_Simpl_Item_impl_Item_impl_StoreOk_1_ok {a1 : List Item} {a2 : Item} {r : Bool × Item} (H : slices_ContainsFunc_Simpl_Item_impl_Item_impl_StoreOk_1 a1 a2 = some r) : R 106 [.c (cL enc_Item a1) none, .f 107 [[(cS a2.Order.Name, none), (cS a2.Order.Target, none), (cI .i64 a2.Order.Low, none), (cI .i64 a2.Order.High, none), (cL enc_Metric a2.Order.Metrics, none), (cI .i64 a2.Order.Pace.Up, none), (cI .i64 a2.Order.Pace.Down, none), (cI .i64 a2.Order.Pace.UpSpan, none), (cI .i64 a2.Order.Pace.DownSpan, none), (cL enc_Note a2.Order.Notes, none), (cI .i64 a2.Ver, none)]]] = some (.c (cB r.1) none, [some [(cS r.2.Order.Name, none), (cS r.2.Order.Target, none), (cI .i64 r.2.Order.Low, none), (cI .i64 r.2.Order.High, none), (cL enc_Metric r.2.Order.Metrics, none), (cI .i64 r.2.Order.Pace.Up, none), (cI .i64 r.2.Order.Pace.Down, none), (cI .i64 r.2.Order.Pace.UpSpan, none), (cI .i64 r.2.Order.Pace.DownSpan, none), (cL enc_Note r.2.Order.Notes, none), (cI .i64 r.2.Ver, none)]]) := by
 unfold slices_ContainsFunc_Simpl_Item_impl_Item_impl_StoreOk_1 at H
 refine Fz_walk 9 rfl rfl Try.func106 rfl (by kernel_rfl) rfl rfl rfl rfl ?_
 simp only [tellVs, tellV, tells, tell, st0, padT, SX.newRow, SX.newBox, List.length_cons, List.length_nil, Nat.reduceAdd, Nat.reduceSub, List.replicate, List.cons_append, List.nil_append, List.foldl_cons, List.foldl_nil]
 refine W_seq (W_region ?_)
 refine WO_op rfl rfl rfl ?_; simp only [putT,st,ev,gt,hp,ofV,constT,intT,lm]
 refine WO_nil (W_seq (W_region ?_))
 iterate 2 (refine WO_op rfl rfl rfl ?_; simp only [putT,st,ev,gt,hp,ofV,constT,intT,lm])
 obtain ⟨x3, hx3, H⟩ := bnd H
 refine WO_op (x := qi x3.1) (σ' := ⟨[], [some [qs x3.2.Order.Name, qs x3.2.Order.Target, qi x3.2.Order.Low, qi x3.2.Order.High, .c (cL enc_Metric x3.2.Order.Metrics), qi x3.2.Order.Pace.Up, qi x3.2.Order.Pace.Down, qi x3.2.Order.Pace.UpSpan, qi x3.2.Order.Pace.DownSpan, .c (cL enc_Note x3.2.Order.Notes), qi x3.2.Ver]], []⟩) rfl rfl (ev_callG (al := [.c (cL enc_Item a1), .fn 107 [0]]) (ls := [.b 0]) (slices_IndexFunc_Simpl_Item_impl_Item_impl_StoreOk_1_ok hx3) rfl rfl rfl rfl rfl (by decide) rfl rfl rfl rfl rfl rfl) ?_; simp only [putT,st,ev,gt,hp,ofV,constT,intT,lm]
 iterate 2 (refine WO_op rfl rfl rfl ?_; simp only [putT,st,ev,gt,hp,ofV,constT,intT,lm])
 refine WO_nil ?_
 refine W_ret ?_
 obtain rfl := Option.some.inj H
 exact told3 rfl
theorem impl_StoreOk_ok {a1 : Store} {r : Bool} (H : impl_StoreOk a1 = some r) : R 47 [.ag [(cL enc_Item a1.Items, none), (cI .i64 a1.Next, none)]] = some (.c (cB r) none, []) := by
 unfold impl_StoreOk at H
 refine Fz_walk 61 rfl rfl Try.func47 rfl (by kernel_rfl) rfl rfl rfl rfl ?_
 simp only [tellVs, tellV, tells, tell, st0, padT, SX.newRow, SX.newBox, List.length_cons, List.length_nil, Nat.reduceAdd, Nat.reduceSub, List.replicate, List.cons_append, List.nil_append, List.foldl_cons, List.foldl_nil]
 refine W_seq (W_region ?_)
 refine WO_op (x := .bp 0 0) (σ' := ⟨[], [some [.c (cL enc_Item a1.Items), qi a1.Next]], []⟩) rfl rfl rfl ?_
 refine WO_op rfl rfl rfl ?_; simp only [putT,st,ev,gt,hp,ofV,constT,intT,lm]
 refine WO_nil (W_seq (W_seq (W_region ?_)))
 refine WO_op (x := .bp 0 0) rfl rfl rfl ?_
 refine WO_op (x := .c (cL enc_Item a1.Items)) rfl rfl rfl ?_; simp only [putT,st,ev,gt,hp,ofV,constT,intT,lm]
 iterate 3 (refine WO_op rfl rfl rfl ?_; simp only [putT,st,ev,gt,hp,ofV,constT,intT,lm])
 refine WO_if rfl rfl rfl (fun hc => ?_) (fun hc => ?_)
 ·
  replace H := tr hc H
  simp only [putT,st,ev,gt,hp,ofV,constT,intT,lm]
  iterate 4 refine WO_skip rfl rfl ?_
  refine WO_op (x := qb true) rfl rfl rfl ?_; simp only [putT,st,ev,gt,hp,ofV,constT,intT,lm]
  refine WO_nil ?_
  refine W_cond (t := true) rfl (fun _ => ?_) (fun h => by cases h)
  refine W_seq (W_region ?_)
  refine WO_op rfl rfl rfl ?_; simp only [putT,st,ev,gt,hp,ofV,constT,intT,lm]
  refine WO_nil ?_
  refine W_ret ?_
  obtain rfl := Option.some.inj H
  exact told3 rfl
 ·
  replace H := fl hc H
  refine WO_want (x := .bp 0 1) rfl rfl rfl ?_
  refine WO_want (x := qi a1.Next) rfl rfl rfl ?_; simp only [putT,st,ev,gt,hp,ofV,constT,intT,lm]
  obtain ⟨x2, hx2, H⟩ := bnd H
  refine WO_want (x := qb x2) (σ' := ⟨[], [some [.c (cL enc_Item a1.Items), qi a1.Next]], []⟩) rfl rfl (ev_callG (al := [qi a1.Next, qi 1, qi 100000]) (ls := []) (impl_from_ok hx2) rfl rfl rfl rfl rfl (by decide) rfl rfl rfl rfl rfl rfl) ?_; simp only [putT,st,ev,gt,hp,ofV,constT,intT,lm]
  refine WO_want rfl rfl rfl ?_
  refine WO_op (x := qb (!x2)) rfl rfl rfl ?_; simp only [putT,st,ev,gt,hp,ofV,constT,intT,lm]
  refine WO_nil ?_
  refine W_cond rfl (fun hc => ?_) (fun hc => ?_)
  ·
   replace H := tr hc H
   refine W_seq (W_region ?_)
   refine WO_op rfl rfl rfl ?_; simp only [putT,st,ev,gt,hp,ofV,constT,intT,lm]
   refine WO_nil ?_
   refine W_ret ?_
   obtain rfl := Option.some.inj H
   exact told3 rfl
  ·
   replace H := fl hc H
   refine W_skip ?_
   refine W_seq (W_seq (W_region ?_))
   refine WO_op (x := .bp 0 0) rfl rfl rfl ?_
   refine WO_op (x := .c (cL enc_Item a1.Items)) rfl rfl rfl ?_; simp only [putT,st,ev,gt,hp,ofV,constT,intT,lm]
   iterate 2 (refine WO_op rfl rfl rfl ?_; simp only [putT,st,ev,gt,hp,ofV,constT,intT,lm])
   refine WO_nil ?_
   refine W_block ?_
   obtain ⟨s13, hs13, H⟩ := bnd H
   refine loop_rule (ls := []) 0 (fun t12 : Unit => ⟨[], [], []⟩) (fun t => s13 = .inr t) ⟨[.no, .bp 0 0, .no, .no, .no, .no, .no, .no, .no, .no, .no, .no, .no, .no, .no, .no, .c (cL enc_Item a1.Items), qi (a1.Items.length : Int), qi 0], [some [.c (cL enc_Item a1.Items), qi a1.Next]], []⟩ (by repeat (first | exact mono_told | refine mono_seq ?_ | refine mono_blk ?_ | refine mono_lp ?_)) (le_intro [0] [] (by decide) (by decide) rfl (by simp [leS, leT, leA, gt]) (by simp [leB, leT, leA]) (by simp [leR])) ?_ ?_
   ·
    rintro t12 rfl
    refine W_seq (W_region ?_)
    refine WO_op rfl rfl rfl ?_; simp only [putT,st,ev,gt,hp,ofV,constT,intT,lm]
    refine WO_nil ?_
    refine W_ret ?_
    obtain rfl := Option.some.inj H
    exact told3 rfl
   ·
    intro V1 hV1 hW1 hX1
    refine (impl_StoreOk.l0.partial_correctness a1 (fun v3 s' => s' = s13 → (V1 ⟨[.no, .bp 0 0, .no, .no, .no, .no, .no, .no, .no, .no, .no, .no, .no, .no, .no, .no, .c (cL enc_Item a1.Items), qi (a1.Items.length : Int), qi v3], [some [.c (cL enc_Item a1.Items), qi a1.Next]], []⟩)) ?_ _ _ hs13 rfl)
    intro l0 IH1 v3 s' H1 e
    subst e
    refine hV1 _ ?_
    refine W_seq (W_region ?_)
    refine WO_op rfl rfl rfl ?_; simp only [putT,st,ev,gt,hp,ofV,constT,intT,lm]
    refine WO_nil (W_seq ?_)
    refine W_cond rfl (fun hc => ?_) (fun hc => ?_)
    ·
     replace H1 := tr hc H1
     refine W_skip ?_
     refine W_seq ?_
     refine W_block ?_
     refine W_seq (W_region ?_)
     refine WO_op rfl rfl rfl ?_; simp only [putT,st,ev,gt,hp,ofV,constT,intT,lm]
     obtain ⟨x4, hx4, H1⟩ := bnd H1
     refine WO_op rfl rfl (ev_ix (en := enc_Item) hx4 rfl rfl rfl rfl rfl rfl rfl) ?_; simp only [putT,st,ev,gt,hp,ofV,constT,intT,lm]
     refine WO_op (x := .ag [qs x4.Order.Name, qs x4.Order.Target, qi x4.Order.Low, qi x4.Order.High, .c (cL enc_Metric x4.Order.Metrics), qi x4.Order.Pace.Up, qi x4.Order.Pace.Down, qi x4.Order.Pace.UpSpan, qi x4.Order.Pace.DownSpan, .c (cL enc_Note x4.Order.Notes), qi x4.Ver]) rfl rfl rfl ?_
     refine WO_op (x := .bp 1 0) (σ' := ⟨[], [some [.c (cL enc_Item a1.Items), qi a1.Next], some [qs [], qs [], qi 0, qi 0, .nil, qi 0, qi 0, qi 0, qi 0, .nil, qi 0]], []⟩) rfl rfl rfl ?_
     refine WO_op rfl rfl rfl ?_
     refine WO_op (x := .no) (σ' := ⟨[], [some [.c (cL enc_Item a1.Items), qi a1.Next], some [qs x4.Order.Name, qs x4.Order.Target, qi x4.Order.Low, qi x4.Order.High, .c (cL enc_Metric x4.Order.Metrics), qi x4.Order.Pace.Up, qi x4.Order.Pace.Down, qi x4.Order.Pace.UpSpan, qi x4.Order.Pace.DownSpan, .c (cL enc_Note x4.Order.Notes), qi x4.Ver]], []⟩) rfl rfl rfl ?_; simp only [putT,st,ev,gt,hp,ofV,constT,intT,lm]
     refine WO_nil (W_seq (W_seq ?_))
     refine W_draw (by kernel_rfl) (by kernel_rfl) ?_
     refine WO_op (x := .bp 1 0) rfl rfl rfl ?_
     refine WO_op (x := .ag [qs x4.Order.Name, qs x4.Order.Target, qi x4.Order.Low, qi x4.Order.High, .c (cL enc_Metric x4.Order.Metrics), qi x4.Order.Pace.Up, qi x4.Order.Pace.Down, qi x4.Order.Pace.UpSpan, qi x4.Order.Pace.DownSpan, .c (cL enc_Note x4.Order.Notes)]) rfl rfl rfl ?_; simp only [putT,st,ev,gt,hp,ofV,constT,intT,lm]
     obtain ⟨x5, hx5, H1⟩ := bnd H1
     refine WO_op (x := qb x5) (σ' := ⟨[], [some [.c (cL enc_Item a1.Items), qi a1.Next], some [qs x4.Order.Name, qs x4.Order.Target, qi x4.Order.Low, qi x4.Order.High, .c (cL enc_Metric x4.Order.Metrics), qi x4.Order.Pace.Up, qi x4.Order.Pace.Down, qi x4.Order.Pace.UpSpan, qi x4.Order.Pace.DownSpan, .c (cL enc_Note x4.Order.Notes), qi x4.Ver]], []⟩) rfl rfl (ev_callG (al := [.ag [qs x4.Order.Name, qs x4.Order.Target, qi x4.Order.Low, qi x4.Order.High, .c (cL enc_Metric x4.Order.Metrics), qi x4.Order.Pace.Up, qi x4.Order.Pace.Down, qi x4.Order.Pace.UpSpan, qi x4.Order.Pace.DownSpan, .c (cL enc_Note x4.Order.Notes)]]) (ls := []) (impl_OrderOk_ok hx5) rfl rfl rfl rfl rfl (by decide) rfl rfl rfl rfl rfl rfl) ?_; simp only [putT,st,ev,gt,hp,ofV,constT,intT,lm]
     iterate 2 (refine WO_op rfl rfl rfl ?_; simp only [putT,st,ev,gt,hp,ofV,constT,intT,lm])
     refine WO_if rfl rfl rfl (fun hc => ?_) (fun hc => ?_)
     ·
      replace H1 := tr hc H1
      simp only [putT,st,ev,gt,hp,ofV,constT,intT,lm]
      iterate 7 refine WO_skip rfl rfl ?_
      refine WO_op (x := qb true) rfl rfl rfl ?_
      refine WO_op rfl rfl rfl ?_; simp only [putT,st,ev,gt,hp,ofV,constT,intT,lm]
      iterate 16 refine WO_skip rfl rfl ?_
      refine WO_op (x := qb true) rfl rfl rfl ?_; simp only [putT,st,ev,gt,hp,ofV,constT,intT,lm]
      refine WO_nil ?_
      refine W_cond (t := true) rfl (fun _ => ?_) (fun h => by cases h)
      refine W_seq (W_region ?_)
      refine WO_op rfl rfl rfl ?_; simp only [putT,st,ev,gt,hp,ofV,constT,intT,lm]
      refine WO_nil ?_
      refine W_ret ?_
      obtain rfl := Option.some.inj H1
      obtain rfl := Option.some.inj H
      exact told3 rfl
     ·
      replace H1 := fl hc H1
      refine WO_want (x := .bp 1 10) rfl rfl rfl ?_
      refine WO_want (x := qi x4.Ver) rfl rfl rfl ?_
      refine WO_want (x := .bp 0 1) rfl rfl rfl ?_; simp only [putT,st,ev,gt,hp,ofV,constT,intT,lm]
      refine WO_want (x := qi a1.Next) rfl rfl rfl ?_
      refine WO_want rfl rfl rfl ?_; simp only [putT,st,ev,gt,hp,ofV,constT,intT,lm]
      obtain ⟨x6, hx6, H1⟩ := bnd H1
      refine WO_want (x := qb x6) (σ' := ⟨[], [some [.c (cL enc_Item a1.Items), qi a1.Next], some [qs x4.Order.Name, qs x4.Order.Target, qi x4.Order.Low, qi x4.Order.High, .c (cL enc_Metric x4.Order.Metrics), qi x4.Order.Pace.Up, qi x4.Order.Pace.Down, qi x4.Order.Pace.UpSpan, qi x4.Order.Pace.DownSpan, .c (cL enc_Note x4.Order.Notes), qi x4.Ver]], []⟩) rfl rfl (ev_callG (al := [qi x4.Ver, qi 1, qi (IntKind.i64.wrap (a1.Next - 1))]) (ls := []) (impl_from_ok hx6) rfl rfl rfl rfl rfl (by decide) rfl rfl rfl rfl rfl rfl) ?_; simp only [putT,st,ev,gt,hp,ofV,constT,intT,lm]
      refine WO_want rfl rfl rfl ?_
      refine WO_op (x := qb (!x6)) rfl rfl rfl ?_
      refine WO_op rfl rfl rfl ?_; simp only [putT,st,ev,gt,hp,ofV,constT,intT,lm]
      refine WO_if rfl rfl rfl (fun hc => ?_) (fun hc => ?_)
      ·
       replace H1 := tr hc H1
       simp only [putT,st,ev,gt,hp,ofV,constT,intT,lm]
       iterate 16 refine WO_skip rfl rfl ?_
       refine WO_op (x := qb true) rfl rfl rfl ?_; simp only [putT,st,ev,gt,hp,ofV,constT,intT,lm]
       refine WO_nil ?_
       refine W_cond (t := true) rfl (fun _ => ?_) (fun h => by cases h)
       refine W_seq (W_region ?_)
       refine WO_op rfl rfl rfl ?_; simp only [putT,st,ev,gt,hp,ofV,constT,intT,lm]
       refine WO_nil ?_
       refine W_ret ?_
       obtain rfl := Option.some.inj H1
       obtain rfl := Option.some.inj H
       exact told3 rfl
      ·
       replace H1 := fl hc H1
       simp only [putT,st,ev,gt,hp,ofV,constT,intT,lm]
       iterate 3 (refine WO_want rfl rfl rfl ?_; simp only [putT,st,ev,gt,hp,ofV,constT,intT,lm])
       refine WO_if rfl rfl rfl (fun hc => ?_) (fun hc => ?_)
       ·
        replace H1 := tr hc H1
        refine WO_want (x := .bp 0 0) rfl rfl rfl ?_
        refine WO_want (x := .c (cL enc_Item a1.Items)) rfl rfl rfl ?_; simp only [putT,st,ev,gt,hp,ofV,constT,intT,lm]
        iterate 2 (refine WO_want rfl rfl rfl ?_; simp only [putT,st,ev,gt,hp,ofV,constT,intT,lm])
        obtain ⟨x7, hx7, H1⟩ := bnd H1
        refine WO_want rfl rfl (ev_ix (en := enc_Item) hx7 rfl rfl rfl rfl rfl rfl rfl) ?_; simp only [putT,st,ev,gt,hp,ofV,constT,intT,lm]
        iterate 2 (refine WO_want (x := .cp (enc_Item x7) 0) rfl rfl rfl ?_; simp only [putT,st,ev,gt,hp,ofV,constT,intT,lm])
        refine WO_want (x := qs x7.Order.Name) rfl rfl rfl ?_; simp only [putT,st,ev,gt,hp,ofV,constT,intT,lm]
        iterate 2 (refine WO_want (x := .bp 1 0) rfl rfl rfl ?_; simp only [putT,st,ev,gt,hp,ofV,constT,intT,lm])
        refine WO_want (x := qs x4.Order.Name) rfl rfl rfl ?_; simp only [putT,st,ev,gt,hp,ofV,constT,intT,lm]
        refine WO_want rfl rfl (ev_geq_s rfl rfl rfl) ?_; simp only [putT,st,ev,gt,hp,ofV,constT,intT,lm]
        refine WO_want (x := qb (!(slt x7.Order.Name x4.Order.Name))) rfl rfl rfl ?_
        refine WO_op (x := qb (!(slt x7.Order.Name x4.Order.Name))) rfl rfl rfl ?_; simp only [putT,st,ev,gt,hp,ofV,constT,intT,lm]
        refine WO_nil ?_
        refine W_cond rfl (fun hc => ?_) (fun hc => ?_)
        ·
         replace H1 := tr hc H1
         refine W_seq (W_region ?_)
         refine WO_op rfl rfl rfl ?_; simp only [putT,st,ev,gt,hp,ofV,constT,intT,lm]
         refine WO_nil ?_
         refine W_ret ?_
         obtain rfl := Option.some.inj H1
         obtain rfl := Option.some.inj H
         exact told3 rfl
        ·
         replace H1 := fl hc H1
         refine W_skip ?_
         refine W_seq (W_region ?_)
         refine WO_op (x := .bp 0 0) rfl rfl rfl ?_
         refine WO_op (x := .c (cL enc_Item a1.Items)) rfl rfl rfl ?_
         refine WO_op rfl rfl rfl ?_; simp only [putT,st,ev,gt,hp,ofV,constT,intT,lm]
         obtain ⟨s8, hs8, H1⟩ := bnd H1
         refine WO_op rfl rfl (ev_sl (en := enc_Item) hs8 rfl rfl rfl rfl rfl ⟨_, rfl⟩ (fun _ => rfl)) ?_; simp only [putT,st,ev,gt,hp,ofV,constT,intT,lm]
         refine WO_op rfl rfl rfl ?_; simp only [putT,st,ev,gt,hp,ofV,constT,intT,lm]
         obtain ⟨x9, hx9, H1⟩ := bnd H1
         refine WO_op (x := qb x9.1) (σ' := ⟨[], [some [.c (cL enc_Item a1.Items), qi a1.Next], some [qs x9.2.Order.Name, qs x9.2.Order.Target, qi x9.2.Order.Low, qi x9.2.Order.High, .c (cL enc_Metric x9.2.Order.Metrics), qi x9.2.Order.Pace.Up, qi x9.2.Order.Pace.Down, qi x9.2.Order.Pace.UpSpan, qi x9.2.Order.Pace.DownSpan, .c (cL enc_Note x9.2.Order.Notes), qi x9.2.Ver]], []⟩) rfl rfl (ev_callG (al := [.c (cL enc_Item s8), .fn 107 [1]]) (ls := [.b 1]) (slices_ContainsFunc_Simpl_Item_impl_Item_impl_StoreOk_1_ok hx9) rfl rfl rfl rfl rfl (by decide) rfl rfl rfl rfl rfl rfl) ?_; simp only [putT,st,ev,gt,hp,ofV,constT,intT,lm]
         refine WO_nil ?_
         refine W_cond rfl (fun hc => ?_) (fun hc => ?_)
         ·
          replace H1 := tr hc H1
          refine W_seq (W_region ?_)
          refine WO_op rfl rfl rfl ?_; simp only [putT,st,ev,gt,hp,ofV,constT,intT,lm]
          refine WO_nil ?_
          refine W_ret ?_
          obtain rfl := Option.some.inj H1
          obtain rfl := Option.some.inj H
          exact told3 rfl
         ·
          replace H1 := fl hc H1
          refine W_skip ?_
          refine W_region ?_
          iterate 2 (refine WO_op rfl rfl rfl ?_; simp only [putT,st,ev,gt,hp,ofV,constT,intT,lm])
          refine WO_nil ?_
          exact hW1 _ _ ((IH1 _ _ H1 rfl)) (le_intro [0] [] (by decide) (by decide) rfl (by simp [leS, leT, leA, gt]) (by simp [leB, leT, leA]) (by simp [leR]))
       ·
        replace H1 := fl hc H1
        simp only [putT,st,ev,gt,hp,ofV,constT,intT,lm]
        iterate 12 refine WO_skip rfl rfl ?_
        refine WO_want (x := qb false) rfl rfl rfl ?_
        refine WO_op (x := qb false) rfl rfl rfl ?_; simp only [putT,st,ev,gt,hp,ofV,constT,intT,lm]
        refine WO_nil ?_
        refine W_cond (t := false) rfl (fun h => by cases h) (fun _ => ?_)
        refine W_skip ?_
        refine W_seq (W_region ?_)
        refine WO_op (x := .bp 0 0) rfl rfl rfl ?_
        refine WO_op (x := .c (cL enc_Item a1.Items)) rfl rfl rfl ?_
        refine WO_op rfl rfl rfl ?_; simp only [putT,st,ev,gt,hp,ofV,constT,intT,lm]
        obtain ⟨s10, hs10, H1⟩ := bnd H1
        refine WO_op rfl rfl (ev_sl (en := enc_Item) hs10 rfl rfl rfl rfl rfl ⟨_, rfl⟩ (fun _ => rfl)) ?_; simp only [putT,st,ev,gt,hp,ofV,constT,intT,lm]
        refine WO_op rfl rfl rfl ?_; simp only [putT,st,ev,gt,hp,ofV,constT,intT,lm]
        obtain ⟨x11, hx11, H1⟩ := bnd H1
        refine WO_op (x := qb x11.1) (σ' := ⟨[], [some [.c (cL enc_Item a1.Items), qi a1.Next], some [qs x11.2.Order.Name, qs x11.2.Order.Target, qi x11.2.Order.Low, qi x11.2.Order.High, .c (cL enc_Metric x11.2.Order.Metrics), qi x11.2.Order.Pace.Up, qi x11.2.Order.Pace.Down, qi x11.2.Order.Pace.UpSpan, qi x11.2.Order.Pace.DownSpan, .c (cL enc_Note x11.2.Order.Notes), qi x11.2.Ver]], []⟩) rfl rfl (ev_callG (al := [.c (cL enc_Item s10), .fn 107 [1]]) (ls := [.b 1]) (slices_ContainsFunc_Simpl_Item_impl_Item_impl_StoreOk_1_ok hx11) rfl rfl rfl rfl rfl (by decide) rfl rfl rfl rfl rfl rfl) ?_; simp only [putT,st,ev,gt,hp,ofV,constT,intT,lm]
        refine WO_nil ?_
        refine W_cond rfl (fun hc => ?_) (fun hc => ?_)
        ·
         replace H1 := tr hc H1
         refine W_seq (W_region ?_)
         refine WO_op rfl rfl rfl ?_; simp only [putT,st,ev,gt,hp,ofV,constT,intT,lm]
         refine WO_nil ?_
         refine W_ret ?_
         obtain rfl := Option.some.inj H1
         obtain rfl := Option.some.inj H
         exact told3 rfl
        ·
         replace H1 := fl hc H1
         refine W_skip ?_
         refine W_region ?_
         iterate 2 (refine WO_op rfl rfl rfl ?_; simp only [putT,st,ev,gt,hp,ofV,constT,intT,lm])
         refine WO_nil ?_
         exact hW1 _ _ ((IH1 _ _ H1 rfl)) (le_intro [0] [] (by decide) (by decide) rfl (by simp [leS, leT, leA, gt]) (by simp [leB, leT, leA]) (by simp [leR]))
    ·
     replace H1 := fl hc H1
     refine W_exit ?_
     obtain rfl := Option.some.inj H1
     exact hX1 () _ rfl (le_intro [] [] (by decide) (by decide) rfl (by simp [leS, leT, leA, gt]) (by simp [leB, leT, leA]) (by simp [leR]))
theorem impl_isTime_ok {a1 : Int} {r : Bool} (H : impl_isTime a1 = some r) : R 92 [.c (cI .i64 a1) none] = some (.c (cB r) none, []) := by
 unfold impl_isTime at H
 refine Fz_walk 5 rfl rfl Try.func92 rfl (by kernel_rfl) rfl rfl rfl rfl ?_
 simp only [tellVs, tellV, tells, tell, st0, padT, SX.newRow, SX.newBox, List.length_cons, List.length_nil, Nat.reduceAdd, Nat.reduceSub, List.replicate, List.cons_append, List.nil_append, List.foldl_cons, List.foldl_nil]
 refine W_seq (W_region ?_)
 refine WO_op rfl rfl rfl ?_; simp only [putT,st,ev,gt,hp,ofV,constT,intT,lm]
 refine WO_nil (W_seq (W_region ?_))
 refine WO_op rfl rfl rfl ?_; simp only [putT,st,ev,gt,hp,ofV,constT,intT,lm]
 obtain ⟨x2, hx2, H⟩ := bnd H
 refine WO_op (x := qb x2) (σ' := ⟨[], [], []⟩) rfl rfl (ev_callG (al := [qi a1, qi 0, qi 1000000]) (ls := []) (impl_from_ok hx2) rfl rfl rfl rfl rfl (by decide) rfl rfl rfl rfl rfl rfl) ?_; simp only [putT,st,ev,gt,hp,ofV,constT,intT,lm]
 refine WO_op rfl rfl rfl ?_; simp only [putT,st,ev,gt,hp,ofV,constT,intT,lm]
 refine WO_nil ?_
 refine W_ret ?_
 obtain rfl := Option.some.inj H
 exact told3 rfl
theorem impl_RecsOk_ok {a1 : List Rec} {r : Bool} (H : impl_RecsOk a1 = some r) : R 101 [.c (cL enc_Rec a1) none] = some (.c (cB r) none, []) := by
 unfold impl_RecsOk at H
 refine Fz_walk 41 rfl rfl Try.func101 rfl (by kernel_rfl) rfl rfl rfl rfl ?_
 simp only [tellVs, tellV, tells, tell, st0, padT, SX.newRow, SX.newBox, List.length_cons, List.length_nil, Nat.reduceAdd, Nat.reduceSub, List.replicate, List.cons_append, List.nil_append, List.foldl_cons, List.foldl_nil]
 refine W_seq (W_region ?_)
 refine WO_op rfl rfl rfl ?_; simp only [putT,st,ev,gt,hp,ofV,constT,intT,lm]
 refine WO_nil (W_seq (W_seq (W_region ?_)))
 iterate 3 (refine WO_op rfl rfl rfl ?_; simp only [putT,st,ev,gt,hp,ofV,constT,intT,lm])
 refine WO_nil ?_
 refine W_block ?_
 obtain ⟨s8, hs8, H⟩ := bnd H
 refine loop_rule (ls := []) 0 (fun t7 : Unit => ⟨[.c (cL enc_Rec a1)], [], []⟩) (fun t => s8 = .inr t) ⟨[.c (cL enc_Rec a1), .no, .no, .no, .no, .c (cL enc_Rec a1), qi (a1.length : Int), qi 0], [], []⟩ (by repeat (first | exact mono_told | refine mono_seq ?_ | refine mono_blk ?_ | refine mono_lp ?_)) (le_intro [] [] (by decide) (by decide) rfl (by simp [leS, leT, leA, gt]) (by simp [leB, leT, leA]) (by simp [leR])) ?_ ?_
 ·
  rintro t7 rfl
  refine W_seq (W_region ?_)
  iterate 4 (refine WO_op rfl rfl rfl ?_; simp only [putT,st,ev,gt,hp,ofV,constT,intT,lm])
  refine WO_nil ?_
  refine W_ret ?_
  obtain rfl := Option.some.inj H
  exact told3 rfl
 ·
  intro V1 hV1 hW1 hX1
  refine (impl_RecsOk.l0.partial_correctness a1 (fun v2 s' => s' = s8 → (V1 ⟨[.c (cL enc_Rec a1), .no, .no, .no, .no, .c (cL enc_Rec a1), qi (a1.length : Int), qi v2], [], []⟩)) ?_ _ _ hs8 rfl)
  intro l0 IH1 v2 s' H1 e
  subst e
  refine hV1 _ ?_
  refine W_seq (W_region ?_)
  refine WO_op rfl rfl rfl ?_; simp only [putT,st,ev,gt,hp,ofV,constT,intT,lm]
  refine WO_nil (W_seq ?_)
  refine W_cond rfl (fun hc => ?_) (fun hc => ?_)
  ·
   replace H1 := tr hc H1
   refine W_skip ?_
   refine W_seq ?_
   refine W_block ?_
   refine W_seq (W_region ?_)
   refine WO_op rfl rfl rfl ?_; simp only [putT,st,ev,gt,hp,ofV,constT,intT,lm]
   obtain ⟨x3, hx3, H1⟩ := bnd H1
   refine WO_op rfl rfl (ev_ix (en := enc_Rec) hx3 rfl rfl rfl rfl rfl rfl rfl) ?_; simp only [putT,st,ev,gt,hp,ofV,constT,intT,lm]
   refine WO_op (x := .ag [qi x3.Time, qi x3.N]) rfl rfl rfl ?_
   refine WO_op (x := .bp 0 0) (σ' := ⟨[], [some [qi 0, qi 0]], []⟩) rfl rfl rfl ?_
   refine WO_op rfl rfl rfl ?_
   refine WO_op (x := .no) (σ' := ⟨[], [some [qi x3.Time, qi x3.N]], []⟩) rfl rfl rfl ?_; simp only [putT,st,ev,gt,hp,ofV,constT,intT,lm]
   refine WO_nil (W_seq ?_)
   refine W_draw (by kernel_rfl) (by kernel_rfl) ?_
   refine WO_op (x := .bp 0 0) rfl rfl rfl ?_
   refine WO_op (x := qi x3.Time) rfl rfl rfl ?_; simp only [putT,st,ev,gt,hp,ofV,constT,intT,lm]
   obtain ⟨x4, hx4, H1⟩ := bnd H1
   refine WO_op (x := qb x4) (σ' := ⟨[], [some [qi x3.Time, qi x3.N]], []⟩) rfl rfl (ev_callG (al := [qi x3.Time]) (ls := []) (impl_isTime_ok hx4) rfl rfl rfl rfl rfl (by decide) rfl rfl rfl rfl rfl rfl) ?_; simp only [putT,st,ev,gt,hp,ofV,constT,intT,lm]
   iterate 2 (refine WO_op rfl rfl rfl ?_; simp only [putT,st,ev,gt,hp,ofV,constT,intT,lm])
   refine WO_if rfl rfl rfl (fun hc => ?_) (fun hc => ?_)
   ·
    replace H1 := tr hc H1
    simp only [putT,st,ev,gt,hp,ofV,constT,intT,lm]
    iterate 4 refine WO_skip rfl rfl ?_
    refine WO_op (x := qb true) rfl rfl rfl ?_
    refine WO_op rfl rfl rfl ?_; simp only [putT,st,ev,gt,hp,ofV,constT,intT,lm]
    iterate 13 refine WO_skip rfl rfl ?_
    refine WO_op (x := qb true) rfl rfl rfl ?_; simp only [putT,st,ev,gt,hp,ofV,constT,intT,lm]
    refine WO_nil ?_
    refine W_cond (t := true) rfl (fun _ => ?_) (fun h => by cases h)
    refine W_seq (W_region ?_)
    refine WO_op rfl rfl rfl ?_; simp only [putT,st,ev,gt,hp,ofV,constT,intT,lm]
    refine WO_nil ?_
    refine W_ret ?_
    obtain rfl := Option.some.inj H1
    obtain rfl := Option.some.inj H
    exact told3 rfl
   ·
    replace H1 := fl hc H1
    refine WO_want (x := .bp 0 1) rfl rfl rfl ?_
    refine WO_want (x := qi x3.N) rfl rfl rfl ?_; simp only [putT,st,ev,gt,hp,ofV,constT,intT,lm]
    obtain ⟨x5, hx5, H1⟩ := bnd H1
    refine WO_want (x := qb x5) (σ' := ⟨[], [some [qi x3.Time, qi x3.N]], []⟩) rfl rfl (ev_callG (al := [qi x3.N]) (ls := []) (impl_isMany_ok hx5) rfl rfl rfl rfl rfl (by decide) rfl rfl rfl rfl rfl rfl) ?_; simp only [putT,st,ev,gt,hp,ofV,constT,intT,lm]
    refine WO_want rfl rfl rfl ?_
    refine WO_op (x := qb (!x5)) rfl rfl rfl ?_
    refine WO_op rfl rfl rfl ?_; simp only [putT,st,ev,gt,hp,ofV,constT,intT,lm]
    refine WO_if rfl rfl rfl (fun hc => ?_) (fun hc => ?_)
    ·
     replace H1 := tr hc H1
     simp only [putT,st,ev,gt,hp,ofV,constT,intT,lm]
     iterate 13 refine WO_skip rfl rfl ?_
     refine WO_op (x := qb true) rfl rfl rfl ?_; simp only [putT,st,ev,gt,hp,ofV,constT,intT,lm]
     refine WO_nil ?_
     refine W_cond (t := true) rfl (fun _ => ?_) (fun h => by cases h)
     refine W_seq (W_region ?_)
     refine WO_op rfl rfl rfl ?_; simp only [putT,st,ev,gt,hp,ofV,constT,intT,lm]
     refine WO_nil ?_
     refine W_ret ?_
     obtain rfl := Option.some.inj H1
     obtain rfl := Option.some.inj H
     exact told3 rfl
    ·
     replace H1 := fl hc H1
     simp only [putT,st,ev,gt,hp,ofV,constT,intT,lm]
     iterate 3 (refine WO_want rfl rfl rfl ?_; simp only [putT,st,ev,gt,hp,ofV,constT,intT,lm])
     refine WO_if rfl rfl rfl (fun hc => ?_) (fun hc => ?_)
     ·
      replace H1 := tr hc H1
      simp only [putT,st,ev,gt,hp,ofV,constT,intT,lm]
      iterate 3 (refine WO_want rfl rfl rfl ?_; simp only [putT,st,ev,gt,hp,ofV,constT,intT,lm])
      obtain ⟨x6, hx6, H1⟩ := bnd H1
      refine WO_want rfl rfl (ev_ix (en := enc_Rec) hx6 rfl rfl rfl rfl rfl rfl rfl) ?_; simp only [putT,st,ev,gt,hp,ofV,constT,intT,lm]
      refine WO_want (x := .cp (enc_Rec x6) 0) rfl rfl rfl ?_
      refine WO_want (x := qi x6.Time) rfl rfl rfl ?_
      refine WO_want (x := .bp 0 0) rfl rfl rfl ?_
      refine WO_want (x := qi x3.Time) rfl rfl rfl ?_; simp only [putT,st,ev,gt,hp,ofV,constT,intT,lm]
      refine WO_want rfl rfl rfl ?_
      refine WO_want (x := qb (decide (x6.Time > x3.Time))) rfl rfl rfl ?_
      refine WO_op (x := qb (decide (x6.Time > x3.Time))) rfl rfl rfl ?_; simp only [putT,st,ev,gt,hp,ofV,constT,intT,lm]
      refine WO_nil ?_
      refine W_cond rfl (fun hc => ?_) (fun hc => ?_)
      ·
       replace H1 := tr hc H1
       refine W_seq (W_region ?_)
       refine WO_op rfl rfl rfl ?_; simp only [putT,st,ev,gt,hp,ofV,constT,intT,lm]
       refine WO_nil ?_
       refine W_ret ?_
       obtain rfl := Option.some.inj H1
       obtain rfl := Option.some.inj H
       exact told3 rfl
      ·
       replace H1 := fl hc H1
       refine W_skip ?_
       refine W_region ?_
       iterate 2 (refine WO_op rfl rfl rfl ?_; simp only [putT,st,ev,gt,hp,ofV,constT,intT,lm])
       refine WO_nil ?_
       exact hW1 _ _ ((IH1 _ _ H1 rfl)) (le_intro [] [] (by decide) (by decide) rfl (by simp [leS, leT, leA, gt]) (by simp [leB, leT, leA]) (by simp [leR]))
     ·
      replace H1 := fl hc H1
      simp only [putT,st,ev,gt,hp,ofV,constT,intT,lm]
      iterate 9 refine WO_skip rfl rfl ?_
      refine WO_want (x := qb false) rfl rfl rfl ?_
      refine WO_op (x := qb false) rfl rfl rfl ?_; simp only [putT,st,ev,gt,hp,ofV,constT,intT,lm]
      refine WO_nil ?_
      refine W_cond (t := false) rfl (fun h => by cases h) (fun _ => ?_)
      refine W_skip ?_
      refine W_region ?_
      iterate 2 (refine WO_op rfl rfl rfl ?_; simp only [putT,st,ev,gt,hp,ofV,constT,intT,lm])
      refine WO_nil ?_
      exact hW1 _ _ ((IH1 _ _ H1 rfl)) (le_intro [] [] (by decide) (by decide) rfl (by simp [leS, leT, leA, gt]) (by simp [leB, leT, leA]) (by simp [leR]))
  ·
   replace H1 := fl hc H1
   refine W_exit ?_
   obtain rfl := Option.some.inj H1
   exact hX1 () _ rfl (le_intro [] [] (by decide) (by decide) rfl (by simp [leS, leT, leA, gt]) (by simp [leB, leT, leA]) (by simp [leR]))
theorem impl_ScaleOk_ok {a1 : Scale} {r : Bool} (H : impl_ScaleOk a1 = some r) : R 37 [.ag [(cS a1.Name, none), (cI .i64 a1.Now, none), (cL enc_Rec a1.Recs, none)]] = some (.c (cB r) none, []) := by
 unfold impl_ScaleOk at H
 refine Fz_walk 16 rfl rfl Try.func37 rfl (by kernel_rfl) rfl rfl rfl rfl ?_
 simp only [tellVs, tellV, tells, tell, st0, padT, SX.newRow, SX.newBox, List.length_cons, List.length_nil, Nat.reduceAdd, Nat.reduceSub, List.replicate, List.cons_append, List.nil_append, List.foldl_cons, List.foldl_nil]
 refine W_seq (W_region ?_)
 refine WO_op (x := .bp 0 0) (σ' := ⟨[], [some [qs a1.Name, qi a1.Now, .c (cL enc_Rec a1.Recs)]], []⟩) rfl rfl rfl ?_
 refine WO_op rfl rfl rfl ?_; simp only [putT,st,ev,gt,hp,ofV,constT,intT,lm]
 refine WO_nil (W_seq (W_region ?_))
 refine WO_op (x := .bp 0 0) rfl rfl rfl ?_
 refine WO_op (x := qs a1.Name) rfl rfl rfl ?_; simp only [putT,st,ev,gt,hp,ofV,constT,intT,lm]
 obtain ⟨x2, hx2, H⟩ := bnd H
 refine WO_op (x := qb x2) (σ' := ⟨[], [some [qs a1.Name, qi a1.Now, .c (cL enc_Rec a1.Recs)]], []⟩) rfl rfl (ev_callG (al := [qs a1.Name]) (ls := []) (impl_NameOk_ok hx2) rfl rfl rfl rfl rfl (by decide) rfl rfl rfl rfl rfl rfl) ?_; simp only [putT,st,ev,gt,hp,ofV,constT,intT,lm]
 refine WO_op rfl rfl rfl ?_; simp only [putT,st,ev,gt,hp,ofV,constT,intT,lm]
 refine WO_if rfl rfl rfl (fun hc => ?_) (fun hc => ?_)
 ·
  replace H := tr hc H
  refine WO_want (x := .bp 0 1) rfl rfl rfl ?_
  refine WO_want (x := qi a1.Now) rfl rfl rfl ?_; simp only [putT,st,ev,gt,hp,ofV,constT,intT,lm]
  obtain ⟨x3, hx3, H⟩ := bnd H
  refine WO_want (x := qb x3) (σ' := ⟨[], [some [qs a1.Name, qi a1.Now, .c (cL enc_Rec a1.Recs)]], []⟩) rfl rfl (ev_callG (al := [qi a1.Now]) (ls := []) (impl_isMany_ok hx3) rfl rfl rfl rfl rfl (by decide) rfl rfl rfl rfl rfl rfl) ?_; simp only [putT,st,ev,gt,hp,ofV,constT,intT,lm]
  refine WO_op (x := qb x3) rfl rfl rfl ?_
  refine WO_op rfl rfl rfl ?_; simp only [putT,st,ev,gt,hp,ofV,constT,intT,lm]
  refine WO_if rfl rfl rfl (fun hc => ?_) (fun hc => ?_)
  ·
   replace H := tr hc H
   refine WO_want (x := .bp 0 2) rfl rfl rfl ?_
   refine WO_want (x := .c (cL enc_Rec a1.Recs)) rfl rfl rfl ?_; simp only [putT,st,ev,gt,hp,ofV,constT,intT,lm]
   obtain ⟨x4, hx4, H⟩ := bnd H
   refine WO_want (x := qb x4) (σ' := ⟨[], [some [qs a1.Name, qi a1.Now, .c (cL enc_Rec a1.Recs)]], []⟩) rfl rfl (ev_callG (al := [.c (cL enc_Rec a1.Recs)]) (ls := []) (impl_RecsOk_ok hx4) rfl rfl rfl rfl rfl (by decide) rfl rfl rfl rfl rfl rfl) ?_; simp only [putT,st,ev,gt,hp,ofV,constT,intT,lm]
   refine WO_op (x := qb x4) rfl rfl rfl ?_
   refine WO_op rfl rfl rfl ?_; simp only [putT,st,ev,gt,hp,ofV,constT,intT,lm]
   refine WO_nil ?_
   refine W_ret ?_
   obtain rfl := Option.some.inj H
   exact told3 rfl
  ·
   replace H := fl hc H
   simp only [putT,st,ev,gt,hp,ofV,constT,intT,lm]
   iterate 3 refine WO_skip rfl rfl ?_
   refine WO_op (x := qb false) rfl rfl rfl ?_
   refine WO_op rfl rfl rfl ?_; simp only [putT,st,ev,gt,hp,ofV,constT,intT,lm]
   refine WO_nil ?_
   refine W_ret ?_
   obtain rfl := Option.some.inj H
   exact told3 rfl
 ·
  replace H := fl hc H
  simp only [putT,st,ev,gt,hp,ofV,constT,intT,lm]
  iterate 3 refine WO_skip rfl rfl ?_
  refine WO_op (x := qb false) rfl rfl rfl ?_
  refine WO_op rfl rfl rfl ?_; simp only [putT,st,ev,gt,hp,ofV,constT,intT,lm]
  iterate 3 refine WO_skip rfl rfl ?_
  refine WO_op (x := qb false) rfl rfl rfl ?_
  refine WO_op rfl rfl rfl ?_; simp only [putT,st,ev,gt,hp,ofV,constT,intT,lm]
  refine WO_nil ?_
  refine W_ret ?_
  obtain rfl := Option.some.inj H
  exact told3 rfl
theorem impl_WorldOk_ok {a1 : World} {r : Bool} (H : impl_WorldOk a1 = some r) : R 52 [.ag [(cL enc_Item a1.Store.Items, none), (cI .i64 a1.Store.Next, none), (cL enc_Scale a1.Scales, none), (cI .i64 a1.Time, none), (cL enc_Told a1.Log, none)]] = some (.c (cB r) none, []) := by
 unfold impl_WorldOk at H
 refine Fz_walk 121 rfl rfl Try.func52 rfl (by kernel_rfl) rfl rfl rfl rfl ?_
 simp only [tellVs, tellV, tells, tell, st0, padT, SX.newRow, SX.newBox, List.length_cons, List.length_nil, Nat.reduceAdd, Nat.reduceSub, List.replicate, List.cons_append, List.nil_append, List.foldl_cons, List.foldl_nil]
 refine W_seq (W_region ?_)
 refine WO_op (x := .bp 0 0) (σ' := ⟨[], [some [.c (cL enc_Item a1.Store.Items), qi a1.Store.Next, .c (cL enc_Scale a1.Scales), qi a1.Time, .c (cL enc_Told a1.Log)]], []⟩) rfl rfl rfl ?_
 refine WO_op rfl rfl rfl ?_; simp only [putT,st,ev,gt,hp,ofV,constT,intT,lm]
 refine WO_nil (W_seq (W_seq (W_region ?_)))
 refine WO_op (x := .bp 0 0) rfl rfl rfl ?_
 refine WO_op (x := .ag [.c (cL enc_Item a1.Store.Items), qi a1.Store.Next]) rfl rfl rfl ?_; simp only [putT,st,ev,gt,hp,ofV,constT,intT,lm]
 obtain ⟨x2, hx2, H⟩ := bnd H
 refine WO_op (x := qb x2) (σ' := ⟨[], [some [.c (cL enc_Item a1.Store.Items), qi a1.Store.Next, .c (cL enc_Scale a1.Scales), qi a1.Time, .c (cL enc_Told a1.Log)]], []⟩) rfl rfl (ev_callG (al := [.ag [.c (cL enc_Item a1.Store.Items), qi a1.Store.Next]]) (ls := []) (impl_StoreOk_ok hx2) rfl rfl rfl rfl rfl (by decide) rfl rfl rfl rfl rfl rfl) ?_; simp only [putT,st,ev,gt,hp,ofV,constT,intT,lm]
 iterate 2 (refine WO_op rfl rfl rfl ?_; simp only [putT,st,ev,gt,hp,ofV,constT,intT,lm])
 refine WO_if rfl rfl rfl (fun hc => ?_) (fun hc => ?_)
 ·
  replace H := tr hc H
  simp only [putT,st,ev,gt,hp,ofV,constT,intT,lm]
  iterate 8 refine WO_skip rfl rfl ?_
  refine WO_op (x := qb true) rfl rfl rfl ?_
  refine WO_op rfl rfl rfl ?_; simp only [putT,st,ev,gt,hp,ofV,constT,intT,lm]
  iterate 4 refine WO_skip rfl rfl ?_
  refine WO_op (x := qb true) rfl rfl rfl ?_
  refine WO_op rfl rfl rfl ?_; simp only [putT,st,ev,gt,hp,ofV,constT,intT,lm]
  iterate 4 refine WO_skip rfl rfl ?_
  refine WO_op (x := qb true) rfl rfl rfl ?_; simp only [putT,st,ev,gt,hp,ofV,constT,intT,lm]
  refine WO_nil ?_
  refine W_cond (t := true) rfl (fun _ => ?_) (fun h => by cases h)
  refine W_seq (W_region ?_)
  refine WO_op rfl rfl rfl ?_; simp only [putT,st,ev,gt,hp,ofV,constT,intT,lm]
  refine WO_nil ?_
  refine W_ret ?_
  obtain rfl := Option.some.inj H
  exact told3 rfl
 ·
  replace H := fl hc H
  refine WO_want (x := .bp 0 2) rfl rfl rfl ?_
  refine WO_want (x := .c (cL enc_Scale a1.Scales)) rfl rfl rfl ?_
  refine WO_want rfl rfl rfl ?_; simp only [putT,st,ev,gt,hp,ofV,constT,intT,lm]
  iterate 2 (refine WO_want (x := .bp 0 0) rfl rfl rfl ?_; simp only [putT,st,ev,gt,hp,ofV,constT,intT,lm])
  refine WO_want (x := .c (cL enc_Item a1.Store.Items)) rfl rfl rfl ?_; simp only [putT,st,ev,gt,hp,ofV,constT,intT,lm]
  iterate 2 (refine WO_want rfl rfl rfl ?_; simp only [putT,st,ev,gt,hp,ofV,constT,intT,lm])
  refine WO_op (x := qb ((a1.Scales.length : Int) != (a1.Store.Items.length : Int))) rfl rfl rfl ?_
  refine WO_op rfl rfl rfl ?_; simp only [putT,st,ev,gt,hp,ofV,constT,intT,lm]
  refine WO_if rfl rfl rfl (fun hc => ?_) (fun hc => ?_)
  ·
   replace H := tr hc H
   simp only [putT,st,ev,gt,hp,ofV,constT,intT,lm]
   iterate 4 refine WO_skip rfl rfl ?_
   refine WO_op (x := qb true) rfl rfl rfl ?_
   refine WO_op rfl rfl rfl ?_; simp only [putT,st,ev,gt,hp,ofV,constT,intT,lm]
   iterate 4 refine WO_skip rfl rfl ?_
   refine WO_op (x := qb true) rfl rfl rfl ?_; simp only [putT,st,ev,gt,hp,ofV,constT,intT,lm]
   refine WO_nil ?_
   refine W_cond (t := true) rfl (fun _ => ?_) (fun h => by cases h)
   refine W_seq (W_region ?_)
   refine WO_op rfl rfl rfl ?_; simp only [putT,st,ev,gt,hp,ofV,constT,intT,lm]
   refine WO_nil ?_
   refine W_ret ?_
   obtain rfl := Option.some.inj H
   exact told3 rfl
  ·
   replace H := fl hc H
   refine WO_want (x := .bp 0 3) rfl rfl rfl ?_
   refine WO_want (x := qi a1.Time) rfl rfl rfl ?_; simp only [putT,st,ev,gt,hp,ofV,constT,intT,lm]
   obtain ⟨x3, hx3, H⟩ := bnd H
   refine WO_want (x := qb x3) (σ' := ⟨[], [some [.c (cL enc_Item a1.Store.Items), qi a1.Store.Next, .c (cL enc_Scale a1.Scales), qi a1.Time, .c (cL enc_Told a1.Log)]], []⟩) rfl rfl (ev_callG (al := [qi a1.Time]) (ls := []) (impl_isTime_ok hx3) rfl rfl rfl rfl rfl (by decide) rfl rfl rfl rfl rfl rfl) ?_; simp only [putT,st,ev,gt,hp,ofV,constT,intT,lm]
   refine WO_want rfl rfl rfl ?_
   refine WO_op (x := qb (!x3)) rfl rfl rfl ?_
   refine WO_op rfl rfl rfl ?_; simp only [putT,st,ev,gt,hp,ofV,constT,intT,lm]
   refine WO_if rfl rfl rfl (fun hc => ?_) (fun hc => ?_)
   ·
    replace H := tr hc H
    simp only [putT,st,ev,gt,hp,ofV,constT,intT,lm]
    iterate 4 refine WO_skip rfl rfl ?_
    refine WO_op (x := qb true) rfl rfl rfl ?_; simp only [putT,st,ev,gt,hp,ofV,constT,intT,lm]
    refine WO_nil ?_
    refine W_cond (t := true) rfl (fun _ => ?_) (fun h => by cases h)
    refine W_seq (W_region ?_)
    refine WO_op rfl rfl rfl ?_; simp only [putT,st,ev,gt,hp,ofV,constT,intT,lm]
    refine WO_nil ?_
    refine W_ret ?_
    obtain rfl := Option.some.inj H
    exact told3 rfl
   ·
    replace H := fl hc H
    refine WO_want (x := .bp 0 4) rfl rfl rfl ?_
    refine WO_want (x := .c (cL enc_Told a1.Log)) rfl rfl rfl ?_; simp only [putT,st,ev,gt,hp,ofV,constT,intT,lm]
    iterate 2 (refine WO_want rfl rfl rfl ?_; simp only [putT,st,ev,gt,hp,ofV,constT,intT,lm])
    refine WO_op (x := qb (decide ((a1.Log.length : Int) > 40))) rfl rfl rfl ?_; simp only [putT,st,ev,gt,hp,ofV,constT,intT,lm]
    refine WO_nil ?_
    refine W_cond rfl (fun hc => ?_) (fun hc => ?_)
    ·
     replace H := tr hc H
     refine W_seq (W_region ?_)
     refine WO_op rfl rfl rfl ?_; simp only [putT,st,ev,gt,hp,ofV,constT,intT,lm]
     refine WO_nil ?_
     refine W_ret ?_
     obtain rfl := Option.some.inj H
     exact told3 rfl
    ·
     replace H := fl hc H
     refine W_skip ?_
     refine W_seq (W_seq (W_region ?_))
     refine WO_op (x := .bp 0 2) rfl rfl rfl ?_
     refine WO_op (x := .c (cL enc_Scale a1.Scales)) rfl rfl rfl ?_; simp only [putT,st,ev,gt,hp,ofV,constT,intT,lm]
     iterate 2 (refine WO_op rfl rfl rfl ?_; simp only [putT,st,ev,gt,hp,ofV,constT,intT,lm])
     refine WO_nil ?_
     refine W_block ?_
     obtain ⟨s18, hs18, H⟩ := bnd H
     refine loop_rule (ls := []) 0 (fun t9 : Unit => ⟨[.no, .bp 0 0], [some [.c (cL enc_Item a1.Store.Items), qi a1.Store.Next, .c (cL enc_Scale a1.Scales), qi a1.Time, .c (cL enc_Told a1.Log)]], []⟩) (fun t => s18 = .inr t) ⟨[.no, .bp 0 0, .no, .no, .no, .no, .no, .no, .no, .no, .no, .no, .no, .no, .no, .no, .no, .no, .no, .no, .no, .no, .no, .no, .no, .no, .no, .no, .no, .no, .no, .no, .no, .no, .c (cL enc_Scale a1.Scales), qi (a1.Scales.length : Int), qi 0], [some [.c (cL enc_Item a1.Store.Items), qi a1.Store.Next, .c (cL enc_Scale a1.Scales), qi a1.Time, .c (cL enc_Told a1.Log)]], []⟩ (by repeat (first | exact mono_told | refine mono_seq ?_ | refine mono_blk ?_ | refine mono_lp ?_)) (le_intro [0] [] (by decide) (by decide) rfl (by simp [leS, leT, leA, gt]) (by simp [leB, leT, leA]) (by simp [leR])) ?_ ?_
     ·
      rintro t9 rfl
      refine W_seq (W_seq (W_region ?_))
      refine WO_op (x := .bp 0 4) rfl rfl rfl ?_
      refine WO_op (x := .c (cL enc_Told a1.Log)) rfl rfl rfl ?_; simp only [putT,st,ev,gt,hp,ofV,constT,intT,lm]
      iterate 2 (refine WO_op rfl rfl rfl ?_; simp only [putT,st,ev,gt,hp,ofV,constT,intT,lm])
      refine WO_nil ?_
      refine W_block ?_
      obtain ⟨s17, hs17, H⟩ := bnd H
      refine loop_rule (ls := []) 2 (fun t16 : Unit => ⟨[], [], []⟩) (fun t => s17 = .inr t) ⟨[.no, .bp 0 0, .no, .no, .no, .no, .no, .no, .no, .no, .no, .no, .no, .no, .no, .no, .no, .no, .no, .no, .no, .no, .no, .no, .no, .no, .no, .no, .no, .no, .no, .no, .no, .no, .no, .no, .no, .no, .no, .no, .no, .no, .no, .no, .no, .no, .no, .no, .no, .no, .no, .no, .no, .no, .no, .no, .no, .no, .no, .no, .no, .no, .no, .no, .no, .no, .no, .no, .no, .no, .no, .no, .no, .no, .no, .no, .no, .no, .no, .c (cL enc_Told a1.Log), qi (a1.Log.length : Int), qi 0], [some [.c (cL enc_Item a1.Store.Items), qi a1.Store.Next, .c (cL enc_Scale a1.Scales), qi a1.Time, .c (cL enc_Told a1.Log)]], []⟩ (by repeat (first | exact mono_told | refine mono_seq ?_ | refine mono_blk ?_ | refine mono_lp ?_)) (le_intro [0] [] (by decide) (by decide) rfl (by simp [leS, leT, leA, gt]) (by simp [leB, leT, leA]) (by simp [leR])) ?_ ?_
      ·
       rintro t16 rfl
       refine W_seq (W_region ?_)
       refine WO_op rfl rfl rfl ?_; simp only [putT,st,ev,gt,hp,ofV,constT,intT,lm]
       refine WO_nil ?_
       refine W_ret ?_
       obtain rfl := Option.some.inj H
       exact told3 rfl
      ·
       intro V1 hV1 hW1 hX1
       refine (impl_WorldOk.l1.partial_correctness a1 (fun v10 s' => s' = s17 → (V1 ⟨[.no, .bp 0 0, .no, .no, .no, .no, .no, .no, .no, .no, .no, .no, .no, .no, .no, .no, .no, .no, .no, .no, .no, .no, .no, .no, .no, .no, .no, .no, .no, .no, .no, .no, .no, .no, .no, .no, .no, .no, .no, .no, .no, .no, .no, .no, .no, .no, .no, .no, .no, .no, .no, .no, .no, .no, .no, .no, .no, .no, .no, .no, .no, .no, .no, .no, .no, .no, .no, .no, .no, .no, .no, .no, .no, .no, .no, .no, .no, .no, .no, .c (cL enc_Told a1.Log), qi (a1.Log.length : Int), qi v10], [some [.c (cL enc_Item a1.Store.Items), qi a1.Store.Next, .c (cL enc_Scale a1.Scales), qi a1.Time, .c (cL enc_Told a1.Log)]], []⟩)) ?_ _ _ hs17 rfl)
       intro l0 IH1 v10 s' H1 e
       subst e
       refine hV1 _ ?_
       refine W_seq (W_region ?_)
       refine WO_op rfl rfl rfl ?_; simp only [putT,st,ev,gt,hp,ofV,constT,intT,lm]
       refine WO_nil (W_seq ?_)
       refine W_cond rfl (fun hc => ?_) (fun hc => ?_)
       ·
        replace H1 := tr hc H1
        refine W_skip ?_
        refine W_seq ?_
        refine W_block ?_
        refine W_seq (W_region ?_)
        refine WO_op rfl rfl rfl ?_; simp only [putT,st,ev,gt,hp,ofV,constT,intT,lm]
        obtain ⟨x11, hx11, H1⟩ := bnd H1
        refine WO_op rfl rfl (ev_ix (en := enc_Told) hx11 rfl rfl rfl rfl rfl rfl rfl) ?_; simp only [putT,st,ev,gt,hp,ofV,constT,intT,lm]
        refine WO_op (x := .ag [qi x11.Time, qs x11.Name, qi x11.N]) rfl rfl rfl ?_
        refine WO_op (x := .bp 1 0) (σ' := ⟨[], [some [.c (cL enc_Item a1.Store.Items), qi a1.Store.Next, .c (cL enc_Scale a1.Scales), qi a1.Time, .c (cL enc_Told a1.Log)], some [qi 0, qs [], qi 0]], []⟩) rfl rfl rfl ?_
        refine WO_op rfl rfl rfl ?_
        refine WO_op (x := .no) (σ' := ⟨[], [some [.c (cL enc_Item a1.Store.Items), qi a1.Store.Next, .c (cL enc_Scale a1.Scales), qi a1.Time, .c (cL enc_Told a1.Log)], some [qi x11.Time, qs x11.Name, qi x11.N]], []⟩) rfl rfl rfl ?_; simp only [putT,st,ev,gt,hp,ofV,constT,intT,lm]
        refine WO_nil (W_seq ?_)
        refine W_draw (by kernel_rfl) (by kernel_rfl) ?_
        refine WO_op (x := .bp 1 0) rfl rfl rfl ?_
        refine WO_op (x := qi x11.Time) rfl rfl rfl ?_
        refine WO_op (x := .bp 0 3) rfl rfl rfl ?_
        refine WO_op (x := qi a1.Time) rfl rfl rfl ?_; simp only [putT,st,ev,gt,hp,ofV,constT,intT,lm]
        obtain ⟨x12, hx12, H1⟩ := bnd H1
        refine WO_op (x := qb x12) (σ' := ⟨[], [some [.c (cL enc_Item a1.Store.Items), qi a1.Store.Next, .c (cL enc_Scale a1.Scales), qi a1.Time, .c (cL enc_Told a1.Log)], some [qi x11.Time, qs x11.Name, qi x11.N]], []⟩) rfl rfl (ev_callG (al := [qi x11.Time, qi 0, qi a1.Time]) (ls := []) (impl_from_ok hx12) rfl rfl rfl rfl rfl (by decide) rfl rfl rfl rfl rfl rfl) ?_; simp only [putT,st,ev,gt,hp,ofV,constT,intT,lm]
        iterate 2 (refine WO_op rfl rfl rfl ?_; simp only [putT,st,ev,gt,hp,ofV,constT,intT,lm])
        refine WO_if rfl rfl rfl (fun hc => ?_) (fun hc => ?_)
        ·
         replace H1 := tr hc H1
         simp only [putT,st,ev,gt,hp,ofV,constT,intT,lm]
         iterate 4 refine WO_skip rfl rfl ?_
         refine WO_op (x := qb true) rfl rfl rfl ?_
         refine WO_op rfl rfl rfl ?_; simp only [putT,st,ev,gt,hp,ofV,constT,intT,lm]
         iterate 4 refine WO_skip rfl rfl ?_
         refine WO_op (x := qb true) rfl rfl rfl ?_
         refine WO_op rfl rfl rfl ?_; simp only [putT,st,ev,gt,hp,ofV,constT,intT,lm]
         iterate 14 refine WO_skip rfl rfl ?_
         refine WO_op (x := qb true) rfl rfl rfl ?_; simp only [putT,st,ev,gt,hp,ofV,constT,intT,lm]
         refine WO_nil ?_
         refine W_cond (t := true) rfl (fun _ => ?_) (fun h => by cases h)
         refine W_seq (W_region ?_)
         refine WO_op rfl rfl rfl ?_; simp only [putT,st,ev,gt,hp,ofV,constT,intT,lm]
         refine WO_nil ?_
         refine W_ret ?_
         obtain rfl := Option.some.inj H1
         obtain rfl := Option.some.inj H
         exact told3 rfl
        ·
         replace H1 := fl hc H1
         refine WO_want (x := .bp 1 1) rfl rfl rfl ?_
         refine WO_want (x := qs x11.Name) rfl rfl rfl ?_; simp only [putT,st,ev,gt,hp,ofV,constT,intT,lm]
         obtain ⟨x13, hx13, H1⟩ := bnd H1
         refine WO_want (x := qb x13) (σ' := ⟨[], [some [.c (cL enc_Item a1.Store.Items), qi a1.Store.Next, .c (cL enc_Scale a1.Scales), qi a1.Time, .c (cL enc_Told a1.Log)], some [qi x11.Time, qs x11.Name, qi x11.N]], []⟩) rfl rfl (ev_callG (al := [qs x11.Name]) (ls := []) (impl_NameOk_ok hx13) rfl rfl rfl rfl rfl (by decide) rfl rfl rfl rfl rfl rfl) ?_; simp only [putT,st,ev,gt,hp,ofV,constT,intT,lm]
         refine WO_want rfl rfl rfl ?_
         refine WO_op (x := qb (!x13)) rfl rfl rfl ?_
         refine WO_op rfl rfl rfl ?_; simp only [putT,st,ev,gt,hp,ofV,constT,intT,lm]
         refine WO_if rfl rfl rfl (fun hc => ?_) (fun hc => ?_)
         ·
          replace H1 := tr hc H1
          simp only [putT,st,ev,gt,hp,ofV,constT,intT,lm]
          iterate 4 refine WO_skip rfl rfl ?_
          refine WO_op (x := qb true) rfl rfl rfl ?_
          refine WO_op rfl rfl rfl ?_; simp only [putT,st,ev,gt,hp,ofV,constT,intT,lm]
          iterate 14 refine WO_skip rfl rfl ?_
          refine WO_op (x := qb true) rfl rfl rfl ?_; simp only [putT,st,ev,gt,hp,ofV,constT,intT,lm]
          refine WO_nil ?_
          refine W_cond (t := true) rfl (fun _ => ?_) (fun h => by cases h)
          refine W_seq (W_region ?_)
          refine WO_op rfl rfl rfl ?_; simp only [putT,st,ev,gt,hp,ofV,constT,intT,lm]
          refine WO_nil ?_
          refine W_ret ?_
          obtain rfl := Option.some.inj H1
          obtain rfl := Option.some.inj H
          exact told3 rfl
         ·
          replace H1 := fl hc H1
          refine WO_want (x := .bp 1 2) rfl rfl rfl ?_
          refine WO_want (x := qi x11.N) rfl rfl rfl ?_; simp only [putT,st,ev,gt,hp,ofV,constT,intT,lm]
          obtain ⟨x14, hx14, H1⟩ := bnd H1
          refine WO_want (x := qb x14) (σ' := ⟨[], [some [.c (cL enc_Item a1.Store.Items), qi a1.Store.Next, .c (cL enc_Scale a1.Scales), qi a1.Time, .c (cL enc_Told a1.Log)], some [qi x11.Time, qs x11.Name, qi x11.N]], []⟩) rfl rfl (ev_callG (al := [qi x11.N]) (ls := []) (impl_isMany_ok hx14) rfl rfl rfl rfl rfl (by decide) rfl rfl rfl rfl rfl rfl) ?_; simp only [putT,st,ev,gt,hp,ofV,constT,intT,lm]
          refine WO_want rfl rfl rfl ?_
          refine WO_op (x := qb (!x14)) rfl rfl rfl ?_
          refine WO_op rfl rfl rfl ?_; simp only [putT,st,ev,gt,hp,ofV,constT,intT,lm]
          refine WO_if rfl rfl rfl (fun hc => ?_) (fun hc => ?_)
          ·
           replace H1 := tr hc H1
           simp only [putT,st,ev,gt,hp,ofV,constT,intT,lm]
           iterate 14 refine WO_skip rfl rfl ?_
           refine WO_op (x := qb true) rfl rfl rfl ?_; simp only [putT,st,ev,gt,hp,ofV,constT,intT,lm]
           refine WO_nil ?_
           refine W_cond (t := true) rfl (fun _ => ?_) (fun h => by cases h)
           refine W_seq (W_region ?_)
           refine WO_op rfl rfl rfl ?_; simp only [putT,st,ev,gt,hp,ofV,constT,intT,lm]
           refine WO_nil ?_
           refine W_ret ?_
           obtain rfl := Option.some.inj H1
           obtain rfl := Option.some.inj H
           exact told3 rfl
          ·
           replace H1 := fl hc H1
           simp only [putT,st,ev,gt,hp,ofV,constT,intT,lm]
           iterate 3 (refine WO_want rfl rfl rfl ?_; simp only [putT,st,ev,gt,hp,ofV,constT,intT,lm])
           refine WO_if rfl rfl rfl (fun hc => ?_) (fun hc => ?_)
           ·
            replace H1 := tr hc H1
            refine WO_want (x := .bp 0 4) rfl rfl rfl ?_
            refine WO_want (x := .c (cL enc_Told a1.Log)) rfl rfl rfl ?_; simp only [putT,st,ev,gt,hp,ofV,constT,intT,lm]
            iterate 2 (refine WO_want rfl rfl rfl ?_; simp only [putT,st,ev,gt,hp,ofV,constT,intT,lm])
            obtain ⟨x15, hx15, H1⟩ := bnd H1
            refine WO_want rfl rfl (ev_ix (en := enc_Told) hx15 rfl rfl rfl rfl rfl rfl rfl) ?_; simp only [putT,st,ev,gt,hp,ofV,constT,intT,lm]
            refine WO_want (x := .cp (enc_Told x15) 0) rfl rfl rfl ?_
            refine WO_want (x := qi x15.Time) rfl rfl rfl ?_
            refine WO_want (x := .bp 1 0) rfl rfl rfl ?_
            refine WO_want (x := qi x11.Time) rfl rfl rfl ?_; simp only [putT,st,ev,gt,hp,ofV,constT,intT,lm]
            refine WO_want rfl rfl rfl ?_
            refine WO_want (x := qb (decide (x15.Time > x11.Time))) rfl rfl rfl ?_
            refine WO_op (x := qb (decide (x15.Time > x11.Time))) rfl rfl rfl ?_; simp only [putT,st,ev,gt,hp,ofV,constT,intT,lm]
            refine WO_nil ?_
            refine W_cond rfl (fun hc => ?_) (fun hc => ?_)
            ·
             replace H1 := tr hc H1
             refine W_seq (W_region ?_)
             refine WO_op rfl rfl rfl ?_; simp only [putT,st,ev,gt,hp,ofV,constT,intT,lm]
             refine WO_nil ?_
             refine W_ret ?_
             obtain rfl := Option.some.inj H1
             obtain rfl := Option.some.inj H
             exact told3 rfl
            ·
             replace H1 := fl hc H1
             refine W_skip ?_
             refine W_region ?_
             iterate 2 (refine WO_op rfl rfl rfl ?_; simp only [putT,st,ev,gt,hp,ofV,constT,intT,lm])
             refine WO_nil ?_
             exact hW1 _ _ ((IH1 _ _ H1 rfl)) (le_intro [0] [] (by decide) (by decide) rfl (by simp [leS, leT, leA, gt]) (by simp [leB, leT, leA]) (by simp [leR]))
           ·
            replace H1 := fl hc H1
            simp only [putT,st,ev,gt,hp,ofV,constT,intT,lm]
            iterate 10 refine WO_skip rfl rfl ?_
            refine WO_want (x := qb false) rfl rfl rfl ?_
            refine WO_op (x := qb false) rfl rfl rfl ?_; simp only [putT,st,ev,gt,hp,ofV,constT,intT,lm]
            refine WO_nil ?_
            refine W_cond (t := false) rfl (fun h => by cases h) (fun _ => ?_)
            refine W_skip ?_
            refine W_region ?_
            iterate 2 (refine WO_op rfl rfl rfl ?_; simp only [putT,st,ev,gt,hp,ofV,constT,intT,lm])
            refine WO_nil ?_
            exact hW1 _ _ ((IH1 _ _ H1 rfl)) (le_intro [0] [] (by decide) (by decide) rfl (by simp [leS, leT, leA, gt]) (by simp [leB, leT, leA]) (by simp [leR]))
       ·
        replace H1 := fl hc H1
        refine W_exit ?_
        obtain rfl := Option.some.inj H1
        exact hX1 () _ rfl (le_intro [] [] (by decide) (by decide) rfl (by simp [leS, leT, leA, gt]) (by simp [leB, leT, leA]) (by simp [leR]))
     ·
      intro V1 hV1 hW1 hX1
      refine (impl_WorldOk.l0.partial_correctness a1 (fun v4 s' => s' = s18 → (V1 ⟨[.no, .bp 0 0, .no, .no, .no, .no, .no, .no, .no, .no, .no, .no, .no, .no, .no, .no, .no, .no, .no, .no, .no, .no, .no, .no, .no, .no, .no, .no, .no, .no, .no, .no, .no, .no, .c (cL enc_Scale a1.Scales), qi (a1.Scales.length : Int), qi v4], [some [.c (cL enc_Item a1.Store.Items), qi a1.Store.Next, .c (cL enc_Scale a1.Scales), qi a1.Time, .c (cL enc_Told a1.Log)]], []⟩)) ?_ _ _ hs18 rfl)
      intro l0 IH1 v4 s' H1 e
      subst e
      refine hV1 _ ?_
      refine W_seq (W_region ?_)
      refine WO_op rfl rfl rfl ?_; simp only [putT,st,ev,gt,hp,ofV,constT,intT,lm]
      refine WO_nil (W_seq ?_)
      refine W_cond rfl (fun hc => ?_) (fun hc => ?_)
      ·
       replace H1 := tr hc H1
       refine W_skip ?_
       refine W_seq ?_
       refine W_block ?_
       refine W_seq (W_region ?_)
       refine WO_op rfl rfl rfl ?_; simp only [putT,st,ev,gt,hp,ofV,constT,intT,lm]
       obtain ⟨x5, hx5, H1⟩ := bnd H1
       refine WO_op rfl rfl (ev_ix (en := enc_Scale) hx5 rfl rfl rfl rfl rfl rfl rfl) ?_; simp only [putT,st,ev,gt,hp,ofV,constT,intT,lm]
       refine WO_op (x := .ag [qs x5.Name, qi x5.Now, .c (cL enc_Rec x5.Recs)]) rfl rfl rfl ?_
       refine WO_op (x := .bp 1 0) (σ' := ⟨[], [some [.c (cL enc_Item a1.Store.Items), qi a1.Store.Next, .c (cL enc_Scale a1.Scales), qi a1.Time, .c (cL enc_Told a1.Log)], some [qs [], qi 0, .nil]], []⟩) rfl rfl rfl ?_
       refine WO_op rfl rfl rfl ?_
       refine WO_op (x := .no) (σ' := ⟨[], [some [.c (cL enc_Item a1.Store.Items), qi a1.Store.Next, .c (cL enc_Scale a1.Scales), qi a1.Time, .c (cL enc_Told a1.Log)], some [qs x5.Name, qi x5.Now, .c (cL enc_Rec x5.Recs)]], []⟩) rfl rfl rfl ?_; simp only [putT,st,ev,gt,hp,ofV,constT,intT,lm]
       refine WO_nil (W_seq ?_)
       refine W_draw (by kernel_rfl) (by kernel_rfl) ?_
       refine WO_op (x := .ag [qs x5.Name, qi x5.Now, .c (cL enc_Rec x5.Recs)]) rfl rfl rfl ?_; simp only [putT,st,ev,gt,hp,ofV,constT,intT,lm]
       obtain ⟨x6, hx6, H1⟩ := bnd H1
       refine WO_op (x := qb x6) (σ' := ⟨[], [some [.c (cL enc_Item a1.Store.Items), qi a1.Store.Next, .c (cL enc_Scale a1.Scales), qi a1.Time, .c (cL enc_Told a1.Log)], some [qs x5.Name, qi x5.Now, .c (cL enc_Rec x5.Recs)]], []⟩) rfl rfl (ev_callG (al := [.ag [qs x5.Name, qi x5.Now, .c (cL enc_Rec x5.Recs)]]) (ls := []) (impl_ScaleOk_ok hx6) rfl rfl rfl rfl rfl (by decide) rfl rfl rfl rfl rfl rfl) ?_; simp only [putT,st,ev,gt,hp,ofV,constT,intT,lm]
       iterate 2 (refine WO_op rfl rfl rfl ?_; simp only [putT,st,ev,gt,hp,ofV,constT,intT,lm])
       refine WO_if rfl rfl rfl (fun hc => ?_) (fun hc => ?_)
       ·
        replace H1 := tr hc H1
        simp only [putT,st,ev,gt,hp,ofV,constT,intT,lm]
        iterate 11 refine WO_skip rfl rfl ?_
        refine WO_op (x := qb true) rfl rfl rfl ?_
        refine WO_op rfl rfl rfl ?_; simp only [putT,st,ev,gt,hp,ofV,constT,intT,lm]
        iterate 18 refine WO_skip rfl rfl ?_
        refine WO_op (x := qb true) rfl rfl rfl ?_; simp only [putT,st,ev,gt,hp,ofV,constT,intT,lm]
        refine WO_nil ?_
        refine W_cond (t := true) rfl (fun _ => ?_) (fun h => by cases h)
        refine W_seq (W_region ?_)
        refine WO_op rfl rfl rfl ?_; simp only [putT,st,ev,gt,hp,ofV,constT,intT,lm]
        refine WO_nil ?_
        refine W_ret ?_
        obtain rfl := Option.some.inj H1
        obtain rfl := Option.some.inj H
        exact told3 rfl
       ·
        replace H1 := fl hc H1
        refine WO_want (x := .bp 1 0) rfl rfl rfl ?_
        refine WO_want (x := qs x5.Name) rfl rfl rfl ?_; simp only [putT,st,ev,gt,hp,ofV,constT,intT,lm]
        iterate 2 (refine WO_want (x := .bp 0 0) rfl rfl rfl ?_; simp only [putT,st,ev,gt,hp,ofV,constT,intT,lm])
        refine WO_want (x := .c (cL enc_Item a1.Store.Items)) rfl rfl rfl ?_
        refine WO_want rfl rfl rfl ?_; simp only [putT,st,ev,gt,hp,ofV,constT,intT,lm]
        obtain ⟨x7, hx7, H1⟩ := bnd H1
        refine WO_want rfl rfl (ev_ix (en := enc_Item) hx7 rfl rfl rfl rfl rfl rfl rfl) ?_; simp only [putT,st,ev,gt,hp,ofV,constT,intT,lm]
        iterate 2 (refine WO_want (x := .cp (enc_Item x7) 0) rfl rfl rfl ?_; simp only [putT,st,ev,gt,hp,ofV,constT,intT,lm])
        refine WO_want (x := qs x7.Order.Name) rfl rfl rfl ?_; simp only [putT,st,ev,gt,hp,ofV,constT,intT,lm]
        refine WO_want rfl rfl (ev_neq_s rfl rfl rfl) ?_; simp only [putT,st,ev,gt,hp,ofV,constT,intT,lm]
        refine WO_op (x := qb (!(x5.Name == x7.Order.Name))) rfl rfl rfl ?_
        refine WO_op rfl rfl rfl ?_; simp only [putT,st,ev,gt,hp,ofV,constT,intT,lm]
        refine WO_if rfl rfl rfl (fun hc => ?_) (fun hc => ?_)
        ·
         replace H1 := tr hc H1
         simp only [putT,st,ev,gt,hp,ofV,constT,intT,lm]
         iterate 18 refine WO_skip rfl rfl ?_
         refine WO_op (x := qb true) rfl rfl rfl ?_; simp only [putT,st,ev,gt,hp,ofV,constT,intT,lm]
         refine WO_nil ?_
         refine W_cond (t := true) rfl (fun _ => ?_) (fun h => by cases h)
         refine W_seq (W_region ?_)
         refine WO_op rfl rfl rfl ?_; simp only [putT,st,ev,gt,hp,ofV,constT,intT,lm]
         refine WO_nil ?_
         refine W_ret ?_
         obtain rfl := Option.some.inj H1
         obtain rfl := Option.some.inj H
         exact told3 rfl
        ·
         replace H1 := fl hc H1
         refine WO_want (x := .bp 1 2) rfl rfl rfl ?_
         refine WO_want (x := .c (cL enc_Rec x5.Recs)) rfl rfl rfl ?_; simp only [putT,st,ev,gt,hp,ofV,constT,intT,lm]
         iterate 3 (refine WO_want rfl rfl rfl ?_; simp only [putT,st,ev,gt,hp,ofV,constT,intT,lm])
         refine WO_if rfl rfl rfl (fun hc => ?_) (fun hc => ?_)
         ·
          replace H1 := tr hc H1
          refine WO_want (x := .bp 1 2) rfl rfl rfl ?_
          refine WO_want (x := .c (cL enc_Rec x5.Recs)) rfl rfl rfl ?_
          refine WO_want (x := .bp 1 2) rfl rfl rfl ?_; simp only [putT,st,ev,gt,hp,ofV,constT,intT,lm]
          refine WO_want (x := .c (cL enc_Rec x5.Recs)) rfl rfl rfl ?_; simp only [putT,st,ev,gt,hp,ofV,constT,intT,lm]
          iterate 2 (refine WO_want rfl rfl rfl ?_; simp only [putT,st,ev,gt,hp,ofV,constT,intT,lm])
          obtain ⟨x8, hx8, H1⟩ := bnd H1
          refine WO_want rfl rfl (ev_ix (en := enc_Rec) hx8 rfl rfl rfl rfl rfl rfl rfl) ?_; simp only [putT,st,ev,gt,hp,ofV,constT,intT,lm]
          refine WO_want (x := .cp (enc_Rec x8) 0) rfl rfl rfl ?_
          refine WO_want (x := qi x8.Time) rfl rfl rfl ?_
          refine WO_want (x := .bp 0 3) rfl rfl rfl ?_
          refine WO_want (x := qi a1.Time) rfl rfl rfl ?_; simp only [putT,st,ev,gt,hp,ofV,constT,intT,lm]
          refine WO_want rfl rfl rfl ?_
          refine WO_want (x := qb (decide (x8.Time > a1.Time))) rfl rfl rfl ?_
          refine WO_op (x := qb (decide (x8.Time > a1.Time))) rfl rfl rfl ?_; simp only [putT,st,ev,gt,hp,ofV,constT,intT,lm]
          refine WO_nil ?_
          refine W_cond rfl (fun hc => ?_) (fun hc => ?_)
          ·
           replace H1 := tr hc H1
           refine W_seq (W_region ?_)
           refine WO_op rfl rfl rfl ?_; simp only [putT,st,ev,gt,hp,ofV,constT,intT,lm]
           refine WO_nil ?_
           refine W_ret ?_
           obtain rfl := Option.some.inj H1
           obtain rfl := Option.some.inj H
           exact told3 rfl
          ·
           replace H1 := fl hc H1
           refine W_skip ?_
           refine W_region ?_
           iterate 2 (refine WO_op rfl rfl rfl ?_; simp only [putT,st,ev,gt,hp,ofV,constT,intT,lm])
           refine WO_nil ?_
           exact hW1 _ _ ((IH1 _ _ H1 rfl)) (le_intro [0] [] (by decide) (by decide) rfl (by simp [leS, leT, leA, gt]) (by simp [leB, leT, leA]) (by simp [leR]))
         ·
          replace H1 := fl hc H1
          simp only [putT,st,ev,gt,hp,ofV,constT,intT,lm]
          iterate 12 refine WO_skip rfl rfl ?_
          refine WO_want (x := qb false) rfl rfl rfl ?_
          refine WO_op (x := qb false) rfl rfl rfl ?_; simp only [putT,st,ev,gt,hp,ofV,constT,intT,lm]
          refine WO_nil ?_
          refine W_cond (t := false) rfl (fun h => by cases h) (fun _ => ?_)
          refine W_skip ?_
          refine W_region ?_
          iterate 2 (refine WO_op rfl rfl rfl ?_; simp only [putT,st,ev,gt,hp,ofV,constT,intT,lm])
          refine WO_nil ?_
          exact hW1 _ _ ((IH1 _ _ H1 rfl)) (le_intro [0] [] (by decide) (by decide) rfl (by simp [leS, leT, leA, gt]) (by simp [leB, leT, leA]) (by simp [leR]))
      ·
       replace H1 := fl hc H1
       refine W_exit ?_
       obtain rfl := Option.some.inj H1
       exact hX1 () _ rfl (le_intro [0] [] (by decide) (by decide) rfl (by simp [leS, leT, leA, gt]) (by simp [leB, leT, leA]) (by simp [leR]))
theorem laws_eqMetric_ok {a1 : Metric} {a2 : Metric} {r : Bool} (H : laws_eqMetric a1 a2 = some r) : R 128 [.ag [(cS a1.Name, none), (cI .i64 a1.Kind, none), (cI .i64 a1.Goal, none)], .ag [(cS a2.Name, none), (cI .i64 a2.Kind, none), (cI .i64 a2.Goal, none)]] = some (.c (cB r) none, []) := by
 unfold laws_eqMetric at H
 refine Fz_walk 20 rfl rfl Try.func128 rfl (by kernel_rfl) rfl rfl rfl rfl ?_
 simp only [tellVs, tellV, tells, tell, st0, padT, SX.newRow, SX.newBox, List.length_cons, List.length_nil, Nat.reduceAdd, Nat.reduceSub, List.replicate, List.cons_append, List.nil_append, List.foldl_cons, List.foldl_nil]
 refine W_seq (W_region ?_)
 refine WO_op (x := .bp 0 0) (σ' := ⟨[], [some [qs a1.Name, qi a1.Kind, qi a1.Goal]], []⟩) rfl rfl rfl ?_
 refine WO_op (x := .bp 1 0) (σ' := ⟨[], [some [qs a1.Name, qi a1.Kind, qi a1.Goal], some [qs a2.Name, qi a2.Kind, qi a2.Goal]], []⟩) rfl rfl rfl ?_
 refine WO_op rfl rfl rfl ?_; simp only [putT,st,ev,gt,hp,ofV,constT,intT,lm]
 refine WO_nil (W_seq (W_seq (W_region ?_)))
 refine WO_op (x := .bp 0 0) rfl rfl rfl ?_
 refine WO_op (x := qs a1.Name) rfl rfl rfl ?_
 refine WO_op (x := .bp 1 0) rfl rfl rfl ?_
 refine WO_op (x := qs a2.Name) rfl rfl rfl ?_; simp only [putT,st,ev,gt,hp,ofV,constT,intT,lm]
 refine WO_op rfl rfl (ev_neq_s rfl rfl rfl) ?_; simp only [putT,st,ev,gt,hp,ofV,constT,intT,lm]
 refine WO_nil ?_
 refine W_cond rfl (fun hc => ?_) (fun hc => ?_)
 ·
  replace H := tr hc H
  refine W_seq (W_region ?_)
  refine WO_op rfl rfl rfl ?_; simp only [putT,st,ev,gt,hp,ofV,constT,intT,lm]
  refine WO_nil ?_
  refine W_ret ?_
  obtain rfl := Option.some.inj H
  exact told3 rfl
 ·
  replace H := fl hc H
  refine W_skip ?_
  refine W_seq (W_seq (W_region ?_))
  refine WO_op (x := .bp 0 1) rfl rfl rfl ?_
  refine WO_op (x := qi a1.Kind) rfl rfl rfl ?_
  refine WO_op (x := .bp 1 1) rfl rfl rfl ?_
  refine WO_op (x := qi a2.Kind) rfl rfl rfl ?_; simp only [putT,st,ev,gt,hp,ofV,constT,intT,lm]
  refine WO_op rfl rfl rfl ?_; simp only [putT,st,ev,gt,hp,ofV,constT,intT,lm]
  refine WO_nil ?_
  refine W_cond rfl (fun hc => ?_) (fun hc => ?_)
  ·
   replace H := tr hc H
   refine W_seq (W_region ?_)
   refine WO_op rfl rfl rfl ?_; simp only [putT,st,ev,gt,hp,ofV,constT,intT,lm]
   refine WO_nil ?_
   refine W_ret ?_
   obtain rfl := Option.some.inj H
   exact told3 rfl
  ·
   replace H := fl hc H
   refine W_skip ?_
   refine W_seq (W_seq (W_region ?_))
   refine WO_op (x := .bp 0 2) rfl rfl rfl ?_
   refine WO_op (x := qi a1.Goal) rfl rfl rfl ?_
   refine WO_op (x := .bp 1 2) rfl rfl rfl ?_
   refine WO_op (x := qi a2.Goal) rfl rfl rfl ?_; simp only [putT,st,ev,gt,hp,ofV,constT,intT,lm]
   refine WO_op rfl rfl rfl ?_; simp only [putT,st,ev,gt,hp,ofV,constT,intT,lm]
   refine WO_nil ?_
   refine W_cond rfl (fun hc => ?_) (fun hc => ?_)
   ·
    replace H := tr hc H
    refine W_seq (W_region ?_)
    refine WO_op rfl rfl rfl ?_; simp only [putT,st,ev,gt,hp,ofV,constT,intT,lm]
    refine WO_nil ?_
    refine W_ret ?_
    obtain rfl := Option.some.inj H
    exact told3 rfl
   ·
    replace H := fl hc H
    refine W_skip ?_
    refine W_seq (W_region ?_)
    refine WO_op rfl rfl rfl ?_; simp only [putT,st,ev,gt,hp,ofV,constT,intT,lm]
    refine WO_nil ?_
    refine W_ret ?_
    obtain rfl := Option.some.inj H
    exact told3 rfl
theorem laws_eqMetricS_ok {a1 : List Metric} {a2 : List Metric} {r : Bool} (H : laws_eqMetricS a1 a2 = some r) : R 66 [.c (cL enc_Metric a1) none, .c (cL enc_Metric a2) none] = some (.c (cB r) none, []) := by
 unfold laws_eqMetricS at H
 refine Fz_walk 27 rfl rfl Try.func66 rfl (by kernel_rfl) rfl rfl rfl rfl ?_
 simp only [tellVs, tellV, tells, tell, st0, padT, SX.newRow, SX.newBox, List.length_cons, List.length_nil, Nat.reduceAdd, Nat.reduceSub, List.replicate, List.cons_append, List.nil_append, List.foldl_cons, List.foldl_nil]
 refine W_seq (W_region ?_)
 refine WO_op rfl rfl rfl ?_; simp only [putT,st,ev,gt,hp,ofV,constT,intT,lm]
 refine WO_nil (W_seq (W_seq (W_region ?_)))
 iterate 5 (refine WO_op rfl rfl rfl ?_; simp only [putT,st,ev,gt,hp,ofV,constT,intT,lm])
 refine WO_nil ?_
 refine W_cond rfl (fun hc => ?_) (fun hc => ?_)
 ·
  replace H := tr hc H
  refine W_seq (W_region ?_)
  refine WO_op rfl rfl rfl ?_; simp only [putT,st,ev,gt,hp,ofV,constT,intT,lm]
  refine WO_nil ?_
  refine W_ret ?_
  obtain rfl := Option.some.inj H
  exact told3 rfl
 ·
  replace H := fl hc H
  refine W_skip ?_
  refine W_seq (W_seq (W_region ?_))
  refine WO_op rfl rfl rfl ?_; simp only [putT,st,ev,gt,hp,ofV,constT,intT,lm]
  refine WO_nil ?_
  refine W_block ?_
  obtain ⟨s8, hs8, H⟩ := bnd H
  refine loop_rule (ls := []) 0 (fun t7 : Unit => ⟨[], [], []⟩) (fun t => s8 = .inr t) ⟨[.c (cL enc_Metric a1), .c (cL enc_Metric a2), .no, .no, .no, qi 0], [], []⟩ (by repeat (first | exact mono_told | refine mono_seq ?_ | refine mono_blk ?_ | refine mono_lp ?_)) (le_intro [] [] (by decide) (by decide) rfl (by simp [leS, leT, leA, gt]) (by simp [leB, leT, leA]) (by simp [leR])) ?_ ?_
  ·
   rintro t7 rfl
   refine W_seq (W_region ?_)
   refine WO_op rfl rfl rfl ?_; simp only [putT,st,ev,gt,hp,ofV,constT,intT,lm]
   refine WO_nil ?_
   refine W_ret ?_
   obtain rfl := Option.some.inj H
   exact told3 rfl
  ·
   intro V1 hV1 hW1 hX1
   refine (laws_eqMetricS.l0.partial_correctness a1 a2 (fun v3 s' => s' = s8 → (V1 ⟨[.c (cL enc_Metric a1), .c (cL enc_Metric a2), .no, .no, .no, qi v3], [], []⟩)) ?_ _ _ hs8 rfl)
   intro l0 IH1 v3 s' H1 e
   subst e
   refine hV1 _ ?_
   refine W_seq (W_seq (W_region ?_))
   iterate 4 (refine WO_op rfl rfl rfl ?_; simp only [putT,st,ev,gt,hp,ofV,constT,intT,lm])
   refine WO_nil ?_
   refine W_cond rfl (fun hc => ?_) (fun hc => ?_)
   ·
    replace H1 := tr hc H1
    refine W_skip ?_
    refine W_seq ?_
    refine W_block ?_
    refine W_seq ?_
    refine W_draw (by kernel_rfl) (by kernel_rfl) ?_
    iterate 2 (refine WO_op rfl rfl rfl ?_; simp only [putT,st,ev,gt,hp,ofV,constT,intT,lm])
    obtain ⟨x4, hx4, H1⟩ := bnd H1
    refine WO_op rfl rfl (ev_ix (en := enc_Metric) hx4 rfl rfl rfl rfl rfl rfl rfl) ?_; simp only [putT,st,ev,gt,hp,ofV,constT,intT,lm]
    refine WO_op (x := .ag [qs x4.Name, qi x4.Kind, qi x4.Goal]) rfl rfl rfl ?_; simp only [putT,st,ev,gt,hp,ofV,constT,intT,lm]
    iterate 2 (refine WO_op rfl rfl rfl ?_; simp only [putT,st,ev,gt,hp,ofV,constT,intT,lm])
    obtain ⟨x5, hx5, H1⟩ := bnd H1
    refine WO_op rfl rfl (ev_ix (en := enc_Metric) hx5 rfl rfl rfl rfl rfl rfl rfl) ?_; simp only [putT,st,ev,gt,hp,ofV,constT,intT,lm]
    refine WO_op (x := .ag [qs x5.Name, qi x5.Kind, qi x5.Goal]) rfl rfl rfl ?_; simp only [putT,st,ev,gt,hp,ofV,constT,intT,lm]
    obtain ⟨x6, hx6, H1⟩ := bnd H1
    refine WO_op (x := qb x6) (σ' := ⟨[], [], []⟩) rfl rfl (ev_callG (al := [.ag [qs x4.Name, qi x4.Kind, qi x4.Goal], .ag [qs x5.Name, qi x5.Kind, qi x5.Goal]]) (ls := []) (laws_eqMetric_ok hx6) rfl rfl rfl rfl rfl (by decide) rfl rfl rfl rfl rfl rfl) ?_; simp only [putT,st,ev,gt,hp,ofV,constT,intT,lm]
    refine WO_op rfl rfl rfl ?_; simp only [putT,st,ev,gt,hp,ofV,constT,intT,lm]
    refine WO_nil ?_
    refine W_cond rfl (fun hc => ?_) (fun hc => ?_)
    ·
     replace H1 := tr hc H1
     refine W_seq (W_region ?_)
     refine WO_op rfl rfl rfl ?_; simp only [putT,st,ev,gt,hp,ofV,constT,intT,lm]
     refine WO_nil ?_
     refine W_ret ?_
     obtain rfl := Option.some.inj H1
     obtain rfl := Option.some.inj H
     exact told3 rfl
    ·
     replace H1 := fl hc H1
     refine W_skip ?_
     refine W_region ?_
     iterate 3 (refine WO_op rfl rfl rfl ?_; simp only [putT,st,ev,gt,hp,ofV,constT,intT,lm])
     refine WO_nil ?_
     exact hW1 _ _ ((IH1 _ _ H1 rfl)) (le_intro [] [] (by decide) (by decide) rfl (by simp [leS, leT, leA, gt]) (by simp [leB, leT, leA]) (by simp [leR]))
   ·
    replace H1 := fl hc H1
    refine W_exit ?_
    obtain rfl := Option.some.inj H1
    exact hX1 () _ rfl (le_intro [] [] (by decide) (by decide) rfl (by simp [leS, leT, leA, gt]) (by simp [leB, leT, leA]) (by simp [leR]))
theorem laws_eqPace_ok {a1 : Pace} {a2 : Pace} {r : Bool} (H : laws_eqPace a1 a2 = some r) : R 67 [.ag [(cI .i64 a1.Up, none), (cI .i64 a1.Down, none), (cI .i64 a1.UpSpan, none), (cI .i64 a1.DownSpan, none)], .ag [(cI .i64 a2.Up, none), (cI .i64 a2.Down, none), (cI .i64 a2.UpSpan, none), (cI .i64 a2.DownSpan, none)]] = some (.c (cB r) none, []) := by
 unfold laws_eqPace at H
 refine Fz_walk 25 rfl rfl Try.func67 rfl (by kernel_rfl) rfl rfl rfl rfl ?_
 simp only [tellVs, tellV, tells, tell, st0, padT, SX.newRow, SX.newBox, List.length_cons, List.length_nil, Nat.reduceAdd, Nat.reduceSub, List.replicate, List.cons_append, List.nil_append, List.foldl_cons, List.foldl_nil]
 refine W_seq (W_region ?_)
 refine WO_op (x := .bp 0 0) (σ' := ⟨[], [some [qi a1.Up, qi a1.Down, qi a1.UpSpan, qi a1.DownSpan]], []⟩) rfl rfl rfl ?_
 refine WO_op (x := .bp 1 0) (σ' := ⟨[], [some [qi a1.Up, qi a1.Down, qi a1.UpSpan, qi a1.DownSpan], some [qi a2.Up, qi a2.Down, qi a2.UpSpan, qi a2.DownSpan]], []⟩) rfl rfl rfl ?_
 refine WO_op rfl rfl rfl ?_; simp only [putT,st,ev,gt,hp,ofV,constT,intT,lm]
 refine WO_nil (W_seq (W_seq (W_region ?_)))
 refine WO_op (x := .bp 0 0) rfl rfl rfl ?_
 refine WO_op (x := qi a1.Up) rfl rfl rfl ?_
 refine WO_op (x := .bp 1 0) rfl rfl rfl ?_
 refine WO_op (x := qi a2.Up) rfl rfl rfl ?_; simp only [putT,st,ev,gt,hp,ofV,constT,intT,lm]
 refine WO_op rfl rfl rfl ?_; simp only [putT,st,ev,gt,hp,ofV,constT,intT,lm]
 refine WO_nil ?_
 refine W_cond rfl (fun hc => ?_) (fun hc => ?_)
 ·
  replace H := tr hc H
  refine W_seq (W_region ?_)
  refine WO_op rfl rfl rfl ?_; simp only [putT,st,ev,gt,hp,ofV,constT,intT,lm]
  refine WO_nil ?_
  refine W_ret ?_
  obtain rfl := Option.some.inj H
  exact told3 rfl
 ·
  replace H := fl hc H
  refine W_skip ?_
  refine W_seq (W_seq (W_region ?_))
  refine WO_op (x := .bp 0 1) rfl rfl rfl ?_
  refine WO_op (x := qi a1.Down) rfl rfl rfl ?_
  refine WO_op (x := .bp 1 1) rfl rfl rfl ?_
  refine WO_op (x := qi a2.Down) rfl rfl rfl ?_; simp only [putT,st,ev,gt,hp,ofV,constT,intT,lm]
  refine WO_op rfl rfl rfl ?_; simp only [putT,st,ev,gt,hp,ofV,constT,intT,lm]
  refine WO_nil ?_
  refine W_cond rfl (fun hc => ?_) (fun hc => ?_)
  ·
   replace H := tr hc H
   refine W_seq (W_region ?_)
   refine WO_op rfl rfl rfl ?_; simp only [putT,st,ev,gt,hp,ofV,constT,intT,lm]
   refine WO_nil ?_
   refine W_ret ?_
   obtain rfl := Option.some.inj H
   exact told3 rfl
  ·
   replace H := fl hc H
   refine W_skip ?_
   refine W_seq (W_seq (W_region ?_))
   refine WO_op (x := .bp 0 2) rfl rfl rfl ?_
   refine WO_op (x := qi a1.UpSpan) rfl rfl rfl ?_
   refine WO_op (x := .bp 1 2) rfl rfl rfl ?_
   refine WO_op (x := qi a2.UpSpan) rfl rfl rfl ?_; simp only [putT,st,ev,gt,hp,ofV,constT,intT,lm]
   refine WO_op rfl rfl rfl ?_; simp only [putT,st,ev,gt,hp,ofV,constT,intT,lm]
   refine WO_nil ?_
   refine W_cond rfl (fun hc => ?_) (fun hc => ?_)
   ·
    replace H := tr hc H
    refine W_seq (W_region ?_)
    refine WO_op rfl rfl rfl ?_; simp only [putT,st,ev,gt,hp,ofV,constT,intT,lm]
    refine WO_nil ?_
    refine W_ret ?_
    obtain rfl := Option.some.inj H
    exact told3 rfl
   ·
    replace H := fl hc H
    refine W_skip ?_
    refine W_seq (W_seq (W_region ?_))
    refine WO_op (x := .bp 0 3) rfl rfl rfl ?_
    refine WO_op (x := qi a1.DownSpan) rfl rfl rfl ?_
    refine WO_op (x := .bp 1 3) rfl rfl rfl ?_
    refine WO_op (x := qi a2.DownSpan) rfl rfl rfl ?_; simp only [putT,st,ev,gt,hp,ofV,constT,intT,lm]
    refine WO_op rfl rfl rfl ?_; simp only [putT,st,ev,gt,hp,ofV,constT,intT,lm]
    refine WO_nil ?_
    refine W_cond rfl (fun hc => ?_) (fun hc => ?_)
    ·
     replace H := tr hc H
     refine W_seq (W_region ?_)
     refine WO_op rfl rfl rfl ?_; simp only [putT,st,ev,gt,hp,ofV,constT,intT,lm]
     refine WO_nil ?_
     refine W_ret ?_
     obtain rfl := Option.some.inj H
     exact told3 rfl
    ·
     replace H := fl hc H
     refine W_skip ?_
     refine W_seq (W_region ?_)
     refine WO_op rfl rfl rfl ?_; simp only [putT,st,ev,gt,hp,ofV,constT,intT,lm]
     refine WO_nil ?_
     refine W_ret ?_
     obtain rfl := Option.some.inj H
     exact told3 rfl
theorem laws_eqNote_ok {a1 : Note} {a2 : Note} {r : Bool} (H : laws_eqNote a1 a2 = some r) : R 129 [.ag [(cS a1.Key, none), (cS a1.Text, none)], .ag [(cS a2.Key, none), (cS a2.Text, none)]] = some (.c (cB r) none, []) := by
 unfold laws_eqNote at H
 refine Fz_walk 15 rfl rfl Try.func129 rfl (by kernel_rfl) rfl rfl rfl rfl ?_
 simp only [tellVs, tellV, tells, tell, st0, padT, SX.newRow, SX.newBox, List.length_cons, List.length_nil, Nat.reduceAdd, Nat.reduceSub, List.replicate, List.cons_append, List.nil_append, List.foldl_cons, List.foldl_nil]
 refine W_seq (W_region ?_)
 refine WO_op (x := .bp 0 0) (σ' := ⟨[], [some [qs a1.Key, qs a1.Text]], []⟩) rfl rfl rfl ?_
 refine WO_op (x := .bp 1 0) (σ' := ⟨[], [some [qs a1.Key, qs a1.Text], some [qs a2.Key, qs a2.Text]], []⟩) rfl rfl rfl ?_
 refine WO_op rfl rfl rfl ?_; simp only [putT,st,ev,gt,hp,ofV,constT,intT,lm]
 refine WO_nil (W_seq (W_seq (W_region ?_)))
 refine WO_op (x := .bp 0 0) rfl rfl rfl ?_
 refine WO_op (x := qs a1.Key) rfl rfl rfl ?_
 refine WO_op (x := .bp 1 0) rfl rfl rfl ?_
 refine WO_op (x := qs a2.Key) rfl rfl rfl ?_; simp only [putT,st,ev,gt,hp,ofV,constT,intT,lm]
 refine WO_op rfl rfl (ev_neq_s rfl rfl rfl) ?_; simp only [putT,st,ev,gt,hp,ofV,constT,intT,lm]
 refine WO_nil ?_
 refine W_cond rfl (fun hc => ?_) (fun hc => ?_)
 ·
  replace H := tr hc H
  refine W_seq (W_region ?_)
  refine WO_op rfl rfl rfl ?_; simp only [putT,st,ev,gt,hp,ofV,constT,intT,lm]
  refine WO_nil ?_
  refine W_ret ?_
  obtain rfl := Option.some.inj H
  exact told3 rfl
 ·
  replace H := fl hc H
  refine W_skip ?_
  refine W_seq (W_seq (W_region ?_))
  refine WO_op (x := .bp 0 1) rfl rfl rfl ?_
  refine WO_op (x := qs a1.Text) rfl rfl rfl ?_
  refine WO_op (x := .bp 1 1) rfl rfl rfl ?_
  refine WO_op (x := qs a2.Text) rfl rfl rfl ?_; simp only [putT,st,ev,gt,hp,ofV,constT,intT,lm]
  refine WO_op rfl rfl (ev_neq_s rfl rfl rfl) ?_; simp only [putT,st,ev,gt,hp,ofV,constT,intT,lm]
  refine WO_nil ?_
  refine W_cond rfl (fun hc => ?_) (fun hc => ?_)
  ·
   replace H := tr hc H
   refine W_seq (W_region ?_)
   refine WO_op rfl rfl rfl ?_; simp only [putT,st,ev,gt,hp,ofV,constT,intT,lm]
   refine WO_nil ?_
   refine W_ret ?_
   obtain rfl := Option.some.inj H
   exact told3 rfl
  ·
   replace H := fl hc H
   refine W_skip ?_
   refine W_seq (W_region ?_)
   refine WO_op rfl rfl rfl ?_; simp only [putT,st,ev,gt,hp,ofV,constT,intT,lm]
   refine WO_nil ?_
   refine W_ret ?_
   obtain rfl := Option.some.inj H
   exact told3 rfl
theorem laws_eqNoteS_ok {a1 : List Note} {a2 : List Note} {r : Bool} (H : laws_eqNoteS a1 a2 = some r) : R 68 [.c (cL enc_Note a1) none, .c (cL enc_Note a2) none] = some (.c (cB r) none, []) := by
 unfold laws_eqNoteS at H
 refine Fz_walk 27 rfl rfl Try.func68 rfl (by kernel_rfl) rfl rfl rfl rfl ?_
 simp only [tellVs, tellV, tells, tell, st0, padT, SX.newRow, SX.newBox, List.length_cons, List.length_nil, Nat.reduceAdd, Nat.reduceSub, List.replicate, List.cons_append, List.nil_append, List.foldl_cons, List.foldl_nil]
 refine W_seq (W_region ?_)
 refine WO_op rfl rfl rfl ?_; simp only [putT,st,ev,gt,hp,ofV,constT,intT,lm]
 refine WO_nil (W_seq (W_seq (W_region ?_)))
 iterate 5 (refine WO_op rfl rfl rfl ?_; simp only [putT,st,ev,gt,hp,ofV,constT,intT,lm])
 refine WO_nil ?_
 refine W_cond rfl (fun hc => ?_) (fun hc => ?_)
 ·
  replace H := tr hc H
  refine W_seq (W_region ?_)
  refine WO_op rfl rfl rfl ?_; simp only [putT,st,ev,gt,hp,ofV,constT,intT,lm]
  refine WO_nil ?_
  refine W_ret ?_
  obtain rfl := Option.some.inj H
  exact told3 rfl
 ·
  replace H := fl hc H
  refine W_skip ?_
  refine W_seq (W_seq (W_region ?_))
  refine WO_op rfl rfl rfl ?_; simp only [putT,st,ev,gt,hp,ofV,constT,intT,lm]
  refine WO_nil ?_
  refine W_block ?_
  obtain ⟨s8, hs8, H⟩ := bnd H
  refine loop_rule (ls := []) 0 (fun t7 : Unit => ⟨[], [], []⟩) (fun t => s8 = .inr t) ⟨[.c (cL enc_Note a1), .c (cL enc_Note a2), .no, .no, .no, qi 0], [], []⟩ (by repeat (first | exact mono_told | refine mono_seq ?_ | refine mono_blk ?_ | refine mono_lp ?_)) (le_intro [] [] (by decide) (by decide) rfl (by simp [leS, leT, leA, gt]) (by simp [leB, leT, leA]) (by simp [leR])) ?_ ?_
  ·
   rintro t7 rfl
   refine W_seq (W_region ?_)
   refine WO_op rfl rfl rfl ?_; simp only [putT,st,ev,gt,hp,ofV,constT,intT,lm]
   refine WO_nil ?_
   refine W_ret ?_
   obtain rfl := Option.some.inj H
   exact told3 rfl
  ·
   intro V1 hV1 hW1 hX1
   refine (laws_eqNoteS.l0.partial_correctness a1 a2 (fun v3 s' => s' = s8 → (V1 ⟨[.c (cL enc_Note a1), .c (cL enc_Note a2), .no, .no, .no, qi v3], [], []⟩)) ?_ _ _ hs8 rfl)
   intro l0 IH1 v3 s' H1 e
   subst e
   refine hV1 _ ?_
   refine W_seq (W_seq (W_region ?_))
   iterate 4 (refine WO_op rfl rfl rfl ?_; simp only [putT,st,ev,gt,hp,ofV,constT,intT,lm])
   refine WO_nil ?_
   refine W_cond rfl (fun hc => ?_) (fun hc => ?_)
   ·
    replace H1 := tr hc H1
    refine W_skip ?_
    refine W_seq ?_
    refine W_block ?_
    refine W_seq ?_
    refine W_draw (by kernel_rfl) (by kernel_rfl) ?_
    iterate 2 (refine WO_op rfl rfl rfl ?_; simp only [putT,st,ev,gt,hp,ofV,constT,intT,lm])
    obtain ⟨x4, hx4, H1⟩ := bnd H1
    refine WO_op rfl rfl (ev_ix (en := enc_Note) hx4 rfl rfl rfl rfl rfl rfl rfl) ?_; simp only [putT,st,ev,gt,hp,ofV,constT,intT,lm]
    refine WO_op (x := .ag [qs x4.Key, qs x4.Text]) rfl rfl rfl ?_; simp only [putT,st,ev,gt,hp,ofV,constT,intT,lm]
    iterate 2 (refine WO_op rfl rfl rfl ?_; simp only [putT,st,ev,gt,hp,ofV,constT,intT,lm])
    obtain ⟨x5, hx5, H1⟩ := bnd H1
    refine WO_op rfl rfl (ev_ix (en := enc_Note) hx5 rfl rfl rfl rfl rfl rfl rfl) ?_; simp only [putT,st,ev,gt,hp,ofV,constT,intT,lm]
    refine WO_op (x := .ag [qs x5.Key, qs x5.Text]) rfl rfl rfl ?_; simp only [putT,st,ev,gt,hp,ofV,constT,intT,lm]
    obtain ⟨x6, hx6, H1⟩ := bnd H1
    refine WO_op (x := qb x6) (σ' := ⟨[], [], []⟩) rfl rfl (ev_callG (al := [.ag [qs x4.Key, qs x4.Text], .ag [qs x5.Key, qs x5.Text]]) (ls := []) (laws_eqNote_ok hx6) rfl rfl rfl rfl rfl (by decide) rfl rfl rfl rfl rfl rfl) ?_; simp only [putT,st,ev,gt,hp,ofV,constT,intT,lm]
    refine WO_op rfl rfl rfl ?_; simp only [putT,st,ev,gt,hp,ofV,constT,intT,lm]
    refine WO_nil ?_
    refine W_cond rfl (fun hc => ?_) (fun hc => ?_)
    ·
     replace H1 := tr hc H1
     refine W_seq (W_region ?_)
     refine WO_op rfl rfl rfl ?_; simp only [putT,st,ev,gt,hp,ofV,constT,intT,lm]
     refine WO_nil ?_
     refine W_ret ?_
     obtain rfl := Option.some.inj H1
     obtain rfl := Option.some.inj H
     exact told3 rfl
    ·
     replace H1 := fl hc H1
     refine W_skip ?_
     refine W_region ?_
     iterate 3 (refine WO_op rfl rfl rfl ?_; simp only [putT,st,ev,gt,hp,ofV,constT,intT,lm])
     refine WO_nil ?_
     exact hW1 _ _ ((IH1 _ _ H1 rfl)) (le_intro [] [] (by decide) (by decide) rfl (by simp [leS, leT, leA, gt]) (by simp [leB, leT, leA]) (by simp [leR]))
   ·
    replace H1 := fl hc H1
    refine W_exit ?_
    obtain rfl := Option.some.inj H1
    exact hX1 () _ rfl (le_intro [] [] (by decide) (by decide) rfl (by simp [leS, leT, leA, gt]) (by simp [leB, leT, leA]) (by simp [leR]))
theorem laws_eqOrder_ok {a1 : Order} {a2 : Order} {r : Bool} (H : laws_eqOrder a1 a2 = some r) : R 18 [.ag [(cS a1.Name, none), (cS a1.Target, none), (cI .i64 a1.Low, none), (cI .i64 a1.High, none), (cL enc_Metric a1.Metrics, none), (cI .i64 a1.Pace.Up, none), (cI .i64 a1.Pace.Down, none), (cI .i64 a1.Pace.UpSpan, none), (cI .i64 a1.Pace.DownSpan, none), (cL enc_Note a1.Notes, none)], .ag [(cS a2.Name, none), (cS a2.Target, none), (cI .i64 a2.Low, none), (cI .i64 a2.High, none), (cL enc_Metric a2.Metrics, none), (cI .i64 a2.Pace.Up, none), (cI .i64 a2.Pace.Down, none), (cI .i64 a2.Pace.UpSpan, none), (cI .i64 a2.Pace.DownSpan, none), (cL enc_Note a2.Notes, none)]] = some (.c (cB r) none, []) := by
 unfold laws_eqOrder at H
 refine Fz_walk 43 rfl rfl Try.func18 rfl (by kernel_rfl) rfl rfl rfl rfl ?_
 simp only [tellVs, tellV, tells, tell, st0, padT, SX.newRow, SX.newBox, List.length_cons, List.length_nil, Nat.reduceAdd, Nat.reduceSub, List.replicate, List.cons_append, List.nil_append, List.foldl_cons, List.foldl_nil]
 refine W_seq (W_region ?_)
 refine WO_op (x := .bp 0 0) (σ' := ⟨[], [some [qs a1.Name, qs a1.Target, qi a1.Low, qi a1.High, .c (cL enc_Metric a1.Metrics), qi a1.Pace.Up, qi a1.Pace.Down, qi a1.Pace.UpSpan, qi a1.Pace.DownSpan, .c (cL enc_Note a1.Notes)]], []⟩) rfl rfl rfl ?_
 refine WO_op (x := .bp 1 0) (σ' := ⟨[], [some [qs a1.Name, qs a1.Target, qi a1.Low, qi a1.High, .c (cL enc_Metric a1.Metrics), qi a1.Pace.Up, qi a1.Pace.Down, qi a1.Pace.UpSpan, qi a1.Pace.DownSpan, .c (cL enc_Note a1.Notes)], some [qs a2.Name, qs a2.Target, qi a2.Low, qi a2.High, .c (cL enc_Metric a2.Metrics), qi a2.Pace.Up, qi a2.Pace.Down, qi a2.Pace.UpSpan, qi a2.Pace.DownSpan, .c (cL enc_Note a2.Notes)]], []⟩) rfl rfl rfl ?_
 refine WO_op rfl rfl rfl ?_; simp only [putT,st,ev,gt,hp,ofV,constT,intT,lm]
 refine WO_nil (W_seq (W_seq (W_region ?_)))
 refine WO_op (x := .bp 0 0) rfl rfl rfl ?_
 refine WO_op (x := qs a1.Name) rfl rfl rfl ?_
 refine WO_op (x := .bp 1 0) rfl rfl rfl ?_
 refine WO_op (x := qs a2.Name) rfl rfl rfl ?_; simp only [putT,st,ev,gt,hp,ofV,constT,intT,lm]
 refine WO_op rfl rfl (ev_neq_s rfl rfl rfl) ?_; simp only [putT,st,ev,gt,hp,ofV,constT,intT,lm]
 refine WO_nil ?_
 refine W_cond rfl (fun hc => ?_) (fun hc => ?_)
 ·
  replace H := tr hc H
  refine W_seq (W_region ?_)
  refine WO_op rfl rfl rfl ?_; simp only [putT,st,ev,gt,hp,ofV,constT,intT,lm]
  refine WO_nil ?_
  refine W_ret ?_
  obtain rfl := Option.some.inj H
  exact told3 rfl
 ·
  replace H := fl hc H
  refine W_skip ?_
  refine W_seq (W_seq (W_region ?_))
  refine WO_op (x := .bp 0 1) rfl rfl rfl ?_
  refine WO_op (x := qs a1.Target) rfl rfl rfl ?_
  refine WO_op (x := .bp 1 1) rfl rfl rfl ?_
  refine WO_op (x := qs a2.Target) rfl rfl rfl ?_; simp only [putT,st,ev,gt,hp,ofV,constT,intT,lm]
  refine WO_op rfl rfl (ev_neq_s rfl rfl rfl) ?_; simp only [putT,st,ev,gt,hp,ofV,constT,intT,lm]
  refine WO_nil ?_
  refine W_cond rfl (fun hc => ?_) (fun hc => ?_)
  ·
   replace H := tr hc H
   refine W_seq (W_region ?_)
   refine WO_op rfl rfl rfl ?_; simp only [putT,st,ev,gt,hp,ofV,constT,intT,lm]
   refine WO_nil ?_
   refine W_ret ?_
   obtain rfl := Option.some.inj H
   exact told3 rfl
  ·
   replace H := fl hc H
   refine W_skip ?_
   refine W_seq (W_seq (W_region ?_))
   refine WO_op (x := .bp 0 2) rfl rfl rfl ?_
   refine WO_op (x := qi a1.Low) rfl rfl rfl ?_
   refine WO_op (x := .bp 1 2) rfl rfl rfl ?_
   refine WO_op (x := qi a2.Low) rfl rfl rfl ?_; simp only [putT,st,ev,gt,hp,ofV,constT,intT,lm]
   refine WO_op rfl rfl rfl ?_; simp only [putT,st,ev,gt,hp,ofV,constT,intT,lm]
   refine WO_nil ?_
   refine W_cond rfl (fun hc => ?_) (fun hc => ?_)
   ·
    replace H := tr hc H
    refine W_seq (W_region ?_)
    refine WO_op rfl rfl rfl ?_; simp only [putT,st,ev,gt,hp,ofV,constT,intT,lm]
    refine WO_nil ?_
    refine W_ret ?_
    obtain rfl := Option.some.inj H
    exact told3 rfl
   ·
    replace H := fl hc H
    refine W_skip ?_
    refine W_seq (W_seq (W_region ?_))
    refine WO_op (x := .bp 0 3) rfl rfl rfl ?_
    refine WO_op (x := qi a1.High) rfl rfl rfl ?_
    refine WO_op (x := .bp 1 3) rfl rfl rfl ?_
    refine WO_op (x := qi a2.High) rfl rfl rfl ?_; simp only [putT,st,ev,gt,hp,ofV,constT,intT,lm]
    refine WO_op rfl rfl rfl ?_; simp only [putT,st,ev,gt,hp,ofV,constT,intT,lm]
    refine WO_nil ?_
    refine W_cond rfl (fun hc => ?_) (fun hc => ?_)
    ·
     replace H := tr hc H
     refine W_seq (W_region ?_)
     refine WO_op rfl rfl rfl ?_; simp only [putT,st,ev,gt,hp,ofV,constT,intT,lm]
     refine WO_nil ?_
     refine W_ret ?_
     obtain rfl := Option.some.inj H
     exact told3 rfl
    ·
     replace H := fl hc H
     refine W_skip ?_
     refine W_seq (W_seq (W_region ?_))
     refine WO_op (x := .bp 0 4) rfl rfl rfl ?_
     refine WO_op (x := .c (cL enc_Metric a1.Metrics)) rfl rfl rfl ?_
     refine WO_op (x := .bp 1 4) rfl rfl rfl ?_
     refine WO_op (x := .c (cL enc_Metric a2.Metrics)) rfl rfl rfl ?_; simp only [putT,st,ev,gt,hp,ofV,constT,intT,lm]
     obtain ⟨x3, hx3, H⟩ := bnd H
     refine WO_op (x := qb x3) (σ' := ⟨[], [some [qs a1.Name, qs a1.Target, qi a1.Low, qi a1.High, .c (cL enc_Metric a1.Metrics), qi a1.Pace.Up, qi a1.Pace.Down, qi a1.Pace.UpSpan, qi a1.Pace.DownSpan, .c (cL enc_Note a1.Notes)], some [qs a2.Name, qs a2.Target, qi a2.Low, qi a2.High, .c (cL enc_Metric a2.Metrics), qi a2.Pace.Up, qi a2.Pace.Down, qi a2.Pace.UpSpan, qi a2.Pace.DownSpan, .c (cL enc_Note a2.Notes)]], []⟩) rfl rfl (ev_callG (al := [.c (cL enc_Metric a1.Metrics), .c (cL enc_Metric a2.Metrics)]) (ls := []) (laws_eqMetricS_ok hx3) rfl rfl rfl rfl rfl (by decide) rfl rfl rfl rfl rfl rfl) ?_; simp only [putT,st,ev,gt,hp,ofV,constT,intT,lm]
     refine WO_op rfl rfl rfl ?_; simp only [putT,st,ev,gt,hp,ofV,constT,intT,lm]
     refine WO_nil ?_
     refine W_cond rfl (fun hc => ?_) (fun hc => ?_)
     ·
      replace H := tr hc H
      refine W_seq (W_region ?_)
      refine WO_op rfl rfl rfl ?_; simp only [putT,st,ev,gt,hp,ofV,constT,intT,lm]
      refine WO_nil ?_
      refine W_ret ?_
      obtain rfl := Option.some.inj H
      exact told3 rfl
     ·
      replace H := fl hc H
      refine W_skip ?_
      refine W_seq (W_seq (W_region ?_))
      refine WO_op (x := .bp 0 5) rfl rfl rfl ?_
      refine WO_op (x := .ag [qi a1.Pace.Up, qi a1.Pace.Down, qi a1.Pace.UpSpan, qi a1.Pace.DownSpan]) rfl rfl rfl ?_
      refine WO_op (x := .bp 1 5) rfl rfl rfl ?_
      refine WO_op (x := .ag [qi a2.Pace.Up, qi a2.Pace.Down, qi a2.Pace.UpSpan, qi a2.Pace.DownSpan]) rfl rfl rfl ?_; simp only [putT,st,ev,gt,hp,ofV,constT,intT,lm]
      obtain ⟨x4, hx4, H⟩ := bnd H
      refine WO_op (x := qb x4) (σ' := ⟨[], [some [qs a1.Name, qs a1.Target, qi a1.Low, qi a1.High, .c (cL enc_Metric a1.Metrics), qi a1.Pace.Up, qi a1.Pace.Down, qi a1.Pace.UpSpan, qi a1.Pace.DownSpan, .c (cL enc_Note a1.Notes)], some [qs a2.Name, qs a2.Target, qi a2.Low, qi a2.High, .c (cL enc_Metric a2.Metrics), qi a2.Pace.Up, qi a2.Pace.Down, qi a2.Pace.UpSpan, qi a2.Pace.DownSpan, .c (cL enc_Note a2.Notes)]], []⟩) rfl rfl (ev_callG (al := [.ag [qi a1.Pace.Up, qi a1.Pace.Down, qi a1.Pace.UpSpan, qi a1.Pace.DownSpan], .ag [qi a2.Pace.Up, qi a2.Pace.Down, qi a2.Pace.UpSpan, qi a2.Pace.DownSpan]]) (ls := []) (laws_eqPace_ok hx4) rfl rfl rfl rfl rfl (by decide) rfl rfl rfl rfl rfl rfl) ?_; simp only [putT,st,ev,gt,hp,ofV,constT,intT,lm]
      refine WO_op rfl rfl rfl ?_; simp only [putT,st,ev,gt,hp,ofV,constT,intT,lm]
      refine WO_nil ?_
      refine W_cond rfl (fun hc => ?_) (fun hc => ?_)
      ·
       replace H := tr hc H
       refine W_seq (W_region ?_)
       refine WO_op rfl rfl rfl ?_; simp only [putT,st,ev,gt,hp,ofV,constT,intT,lm]
       refine WO_nil ?_
       refine W_ret ?_
       obtain rfl := Option.some.inj H
       exact told3 rfl
      ·
       replace H := fl hc H
       refine W_skip ?_
       refine W_seq (W_seq (W_region ?_))
       refine WO_op (x := .bp 0 9) rfl rfl rfl ?_
       refine WO_op (x := .c (cL enc_Note a1.Notes)) rfl rfl rfl ?_
       refine WO_op (x := .bp 1 9) rfl rfl rfl ?_
       refine WO_op (x := .c (cL enc_Note a2.Notes)) rfl rfl rfl ?_; simp only [putT,st,ev,gt,hp,ofV,constT,intT,lm]
       obtain ⟨x5, hx5, H⟩ := bnd H
       refine WO_op (x := qb x5) (σ' := ⟨[], [some [qs a1.Name, qs a1.Target, qi a1.Low, qi a1.High, .c (cL enc_Metric a1.Metrics), qi a1.Pace.Up, qi a1.Pace.Down, qi a1.Pace.UpSpan, qi a1.Pace.DownSpan, .c (cL enc_Note a1.Notes)], some [qs a2.Name, qs a2.Target, qi a2.Low, qi a2.High, .c (cL enc_Metric a2.Metrics), qi a2.Pace.Up, qi a2.Pace.Down, qi a2.Pace.UpSpan, qi a2.Pace.DownSpan, .c (cL enc_Note a2.Notes)]], []⟩) rfl rfl (ev_callG (al := [.c (cL enc_Note a1.Notes), .c (cL enc_Note a2.Notes)]) (ls := []) (laws_eqNoteS_ok hx5) rfl rfl rfl rfl rfl (by decide) rfl rfl rfl rfl rfl rfl) ?_; simp only [putT,st,ev,gt,hp,ofV,constT,intT,lm]
       refine WO_op rfl rfl rfl ?_; simp only [putT,st,ev,gt,hp,ofV,constT,intT,lm]
       refine WO_nil ?_
       refine W_cond rfl (fun hc => ?_) (fun hc => ?_)
       ·
        replace H := tr hc H
        refine W_seq (W_region ?_)
        refine WO_op rfl rfl rfl ?_; simp only [putT,st,ev,gt,hp,ofV,constT,intT,lm]
        refine WO_nil ?_
        refine W_ret ?_
        obtain rfl := Option.some.inj H
        exact told3 rfl
       ·
        replace H := fl hc H
        refine W_skip ?_
        refine W_seq (W_region ?_)
        refine WO_op rfl rfl rfl ?_; simp only [putT,st,ev,gt,hp,ofV,constT,intT,lm]
        refine WO_nil ?_
        refine W_ret ?_
        obtain rfl := Option.some.inj H
        exact told3 rfl
theorem laws_eqItem_ok {a1 : Item} {a2 : Item} {r : Bool} (H : laws_eqItem a1 a2 = some r) : R 150 [.ag [(cS a1.Order.Name, none), (cS a1.Order.Target, none), (cI .i64 a1.Order.Low, none), (cI .i64 a1.Order.High, none), (cL enc_Metric a1.Order.Metrics, none), (cI .i64 a1.Order.Pace.Up, none), (cI .i64 a1.Order.Pace.Down, none), (cI .i64 a1.Order.Pace.UpSpan, none), (cI .i64 a1.Order.Pace.DownSpan, none), (cL enc_Note a1.Order.Notes, none), (cI .i64 a1.Ver, none)], .ag [(cS a2.Order.Name, none), (cS a2.Order.Target, none), (cI .i64 a2.Order.Low, none), (cI .i64 a2.Order.High, none), (cL enc_Metric a2.Order.Metrics, none), (cI .i64 a2.Order.Pace.Up, none), (cI .i64 a2.Order.Pace.Down, none), (cI .i64 a2.Order.Pace.UpSpan, none), (cI .i64 a2.Order.Pace.DownSpan, none), (cL enc_Note a2.Order.Notes, none), (cI .i64 a2.Ver, none)]] = some (.c (cB r) none, []) := by
 unfold laws_eqItem at H
 refine Fz_walk 16 rfl rfl Try.func150 rfl (by kernel_rfl) rfl rfl rfl rfl ?_
 simp only [tellVs, tellV, tells, tell, st0, padT, SX.newRow, SX.newBox, List.length_cons, List.length_nil, Nat.reduceAdd, Nat.reduceSub, List.replicate, List.cons_append, List.nil_append, List.foldl_cons, List.foldl_nil]
 refine W_seq (W_region ?_)
 refine WO_op (x := .bp 0 0) (σ' := ⟨[], [some [qs a1.Order.Name, qs a1.Order.Target, qi a1.Order.Low, qi a1.Order.High, .c (cL enc_Metric a1.Order.Metrics), qi a1.Order.Pace.Up, qi a1.Order.Pace.Down, qi a1.Order.Pace.UpSpan, qi a1.Order.Pace.DownSpan, .c (cL enc_Note a1.Order.Notes), qi a1.Ver]], []⟩) rfl rfl rfl ?_
 refine WO_op (x := .bp 1 0) (σ' := ⟨[], [some [qs a1.Order.Name, qs a1.Order.Target, qi a1.Order.Low, qi a1.Order.High, .c (cL enc_Metric a1.Order.Metrics), qi a1.Order.Pace.Up, qi a1.Order.Pace.Down, qi a1.Order.Pace.UpSpan, qi a1.Order.Pace.DownSpan, .c (cL enc_Note a1.Order.Notes), qi a1.Ver], some [qs a2.Order.Name, qs a2.Order.Target, qi a2.Order.Low, qi a2.Order.High, .c (cL enc_Metric a2.Order.Metrics), qi a2.Order.Pace.Up, qi a2.Order.Pace.Down, qi a2.Order.Pace.UpSpan, qi a2.Order.Pace.DownSpan, .c (cL enc_Note a2.Order.Notes), qi a2.Ver]], []⟩) rfl rfl rfl ?_
 refine WO_op rfl rfl rfl ?_; simp only [putT,st,ev,gt,hp,ofV,constT,intT,lm]
 refine WO_nil (W_seq (W_seq (W_region ?_)))
 refine WO_op (x := .bp 0 0) rfl rfl rfl ?_
 refine WO_op (x := .ag [qs a1.Order.Name, qs a1.Order.Target, qi a1.Order.Low, qi a1.Order.High, .c (cL enc_Metric a1.Order.Metrics), qi a1.Order.Pace.Up, qi a1.Order.Pace.Down, qi a1.Order.Pace.UpSpan, qi a1.Order.Pace.DownSpan, .c (cL enc_Note a1.Order.Notes)]) rfl rfl rfl ?_
 refine WO_op (x := .bp 1 0) rfl rfl rfl ?_
 refine WO_op (x := .ag [qs a2.Order.Name, qs a2.Order.Target, qi a2.Order.Low, qi a2.Order.High, .c (cL enc_Metric a2.Order.Metrics), qi a2.Order.Pace.Up, qi a2.Order.Pace.Down, qi a2.Order.Pace.UpSpan, qi a2.Order.Pace.DownSpan, .c (cL enc_Note a2.Order.Notes)]) rfl rfl rfl ?_; simp only [putT,st,ev,gt,hp,ofV,constT,intT,lm]
 obtain ⟨x3, hx3, H⟩ := bnd H
 refine WO_op (x := qb x3) (σ' := ⟨[], [some [qs a1.Order.Name, qs a1.Order.Target, qi a1.Order.Low, qi a1.Order.High, .c (cL enc_Metric a1.Order.Metrics), qi a1.Order.Pace.Up, qi a1.Order.Pace.Down, qi a1.Order.Pace.UpSpan, qi a1.Order.Pace.DownSpan, .c (cL enc_Note a1.Order.Notes), qi a1.Ver], some [qs a2.Order.Name, qs a2.Order.Target, qi a2.Order.Low, qi a2.Order.High, .c (cL enc_Metric a2.Order.Metrics), qi a2.Order.Pace.Up, qi a2.Order.Pace.Down, qi a2.Order.Pace.UpSpan, qi a2.Order.Pace.DownSpan, .c (cL enc_Note a2.Order.Notes), qi a2.Ver]], []⟩) rfl rfl (ev_callG (al := [.ag [qs a1.Order.Name, qs a1.Order.Target, qi a1.Order.Low, qi a1.Order.High, .c (cL enc_Metric a1.Order.Metrics), qi a1.Order.Pace.Up, qi a1.Order.Pace.Down, qi a1.Order.Pace.UpSpan, qi a1.Order.Pace.DownSpan, .c (cL enc_Note a1.Order.Notes)], .ag [qs a2.Order.Name, qs a2.Order.Target, qi a2.Order.Low, qi a2.Order.High, .c (cL enc_Metric a2.Order.Metrics), qi a2.Order.Pace.Up, qi a2.Order.Pace.Down, qi a2.Order.Pace.UpSpan, qi a2.Order.Pace.DownSpan, .c (cL enc_Note a2.Order.Notes)]]) (ls := []) (laws_eqOrder_ok hx3) rfl rfl rfl rfl rfl (by decide) rfl rfl rfl rfl rfl rfl) ?_; simp only [putT,st,ev,gt,hp,ofV,constT,intT,lm]
 refine WO_op rfl rfl rfl ?_; simp only [putT,st,ev,gt,hp,ofV,constT,intT,lm]
 refine WO_nil ?_
 refine W_cond rfl (fun hc => ?_) (fun hc => ?_)
 ·
  replace H := tr hc H
  refine W_seq (W_region ?_)
  refine WO_op rfl rfl rfl ?_; simp only [putT,st,ev,gt,hp,ofV,constT,intT,lm]
  refine WO_nil ?_
  refine W_ret ?_
  obtain rfl := Option.some.inj H
  exact told3 rfl
 ·
  replace H := fl hc H
  refine W_skip ?_
  refine W_seq (W_seq (W_region ?_))
  refine WO_op (x := .bp 0 10) rfl rfl rfl ?_
  refine WO_op (x := qi a1.Ver) rfl rfl rfl ?_
  refine WO_op (x := .bp 1 10) rfl rfl rfl ?_
  refine WO_op (x := qi a2.Ver) rfl rfl rfl ?_; simp only [putT,st,ev,gt,hp,ofV,constT,intT,lm]
  refine WO_op rfl rfl rfl ?_; simp only [putT,st,ev,gt,hp,ofV,constT,intT,lm]
  refine WO_nil ?_
  refine W_cond rfl (fun hc => ?_) (fun hc => ?_)
  ·
   replace H := tr hc H
   refine W_seq (W_region ?_)
   refine WO_op rfl rfl rfl ?_; simp only [putT,st,ev,gt,hp,ofV,constT,intT,lm]
   refine WO_nil ?_
   refine W_ret ?_
   obtain rfl := Option.some.inj H
   exact told3 rfl
  ·
   replace H := fl hc H
   refine W_skip ?_
   refine W_seq (W_region ?_)
   refine WO_op rfl rfl rfl ?_; simp only [putT,st,ev,gt,hp,ofV,constT,intT,lm]
   refine WO_nil ?_
   refine W_ret ?_
   obtain rfl := Option.some.inj H
   exact told3 rfl
theorem laws_eqItemS_ok {a1 : List Item} {a2 : List Item} {r : Bool} (H : laws_eqItemS a1 a2 = some r) : R 108 [.c (cL enc_Item a1) none, .c (cL enc_Item a2) none] = some (.c (cB r) none, []) := by
 unfold laws_eqItemS at H
 refine Fz_walk 27 rfl rfl Try.func108 rfl (by kernel_rfl) rfl rfl rfl rfl ?_
 simp only [tellVs, tellV, tells, tell, st0, padT, SX.newRow, SX.newBox, List.length_cons, List.length_nil, Nat.reduceAdd, Nat.reduceSub, List.replicate, List.cons_append, List.nil_append, List.foldl_cons, List.foldl_nil]
 refine W_seq (W_region ?_)
 refine WO_op rfl rfl rfl ?_; simp only [putT,st,ev,gt,hp,ofV,constT,intT,lm]
 refine WO_nil (W_seq (W_seq (W_region ?_)))
 iterate 5 (refine WO_op rfl rfl rfl ?_; simp only [putT,st,ev,gt,hp,ofV,constT,intT,lm])
 refine WO_nil ?_
 refine W_cond rfl (fun hc => ?_) (fun hc => ?_)
 ·
  replace H := tr hc H
  refine W_seq (W_region ?_)
  refine WO_op rfl rfl rfl ?_; simp only [putT,st,ev,gt,hp,ofV,constT,intT,lm]
  refine WO_nil ?_
  refine W_ret ?_
  obtain rfl := Option.some.inj H
  exact told3 rfl
 ·
  replace H := fl hc H
  refine W_skip ?_
  refine W_seq (W_seq (W_region ?_))
  refine WO_op rfl rfl rfl ?_; simp only [putT,st,ev,gt,hp,ofV,constT,intT,lm]
  refine WO_nil ?_
  refine W_block ?_
  obtain ⟨s8, hs8, H⟩ := bnd H
  refine loop_rule (ls := []) 0 (fun t7 : Unit => ⟨[], [], []⟩) (fun t => s8 = .inr t) ⟨[.c (cL enc_Item a1), .c (cL enc_Item a2), .no, .no, .no, qi 0], [], []⟩ (by repeat (first | exact mono_told | refine mono_seq ?_ | refine mono_blk ?_ | refine mono_lp ?_)) (le_intro [] [] (by decide) (by decide) rfl (by simp [leS, leT, leA, gt]) (by simp [leB, leT, leA]) (by simp [leR])) ?_ ?_
  ·
   rintro t7 rfl
   refine W_seq (W_region ?_)
   refine WO_op rfl rfl rfl ?_; simp only [putT,st,ev,gt,hp,ofV,constT,intT,lm]
   refine WO_nil ?_
   refine W_ret ?_
   obtain rfl := Option.some.inj H
   exact told3 rfl
  ·
   intro V1 hV1 hW1 hX1
   refine (laws_eqItemS.l0.partial_correctness a1 a2 (fun v3 s' => s' = s8 → (V1 ⟨[.c (cL enc_Item a1), .c (cL enc_Item a2), .no, .no, .no, qi v3], [], []⟩)) ?_ _ _ hs8 rfl)
   intro l0 IH1 v3 s' H1 e
   subst e
   refine hV1 _ ?_
   refine W_seq (W_seq (W_region ?_))
   iterate 4 (refine WO_op rfl rfl rfl ?_; simp only [putT,st,ev,gt,hp,ofV,constT,intT,lm])
   refine WO_nil ?_
   refine W_cond rfl (fun hc => ?_) (fun hc => ?_)
   ·
    replace H1 := tr hc H1
    refine W_skip ?_
    refine W_seq ?_
    refine W_block ?_
    refine W_seq ?_
    refine W_draw (by kernel_rfl) (by kernel_rfl) ?_
    iterate 2 (refine WO_op rfl rfl rfl ?_; simp only [putT,st,ev,gt,hp,ofV,constT,intT,lm])
    obtain ⟨x4, hx4, H1⟩ := bnd H1
    refine WO_op rfl rfl (ev_ix (en := enc_Item) hx4 rfl rfl rfl rfl rfl rfl rfl) ?_; simp only [putT,st,ev,gt,hp,ofV,constT,intT,lm]
    refine WO_op (x := .ag [qs x4.Order.Name, qs x4.Order.Target, qi x4.Order.Low, qi x4.Order.High, .c (cL enc_Metric x4.Order.Metrics), qi x4.Order.Pace.Up, qi x4.Order.Pace.Down, qi x4.Order.Pace.UpSpan, qi x4.Order.Pace.DownSpan, .c (cL enc_Note x4.Order.Notes), qi x4.Ver]) rfl rfl rfl ?_; simp only [putT,st,ev,gt,hp,ofV,constT,intT,lm]
    iterate 2 (refine WO_op rfl rfl rfl ?_; simp only [putT,st,ev,gt,hp,ofV,constT,intT,lm])
    obtain ⟨x5, hx5, H1⟩ := bnd H1
    refine WO_op rfl rfl (ev_ix (en := enc_Item) hx5 rfl rfl rfl rfl rfl rfl rfl) ?_; simp only [putT,st,ev,gt,hp,ofV,constT,intT,lm]
    refine WO_op (x := .ag [qs x5.Order.Name, qs x5.Order.Target, qi x5.Order.Low, qi x5.Order.High, .c (cL enc_Metric x5.Order.Metrics), qi x5.Order.Pace.Up, qi x5.Order.Pace.Down, qi x5.Order.Pace.UpSpan, qi x5.Order.Pace.DownSpan, .c (cL enc_Note x5.Order.Notes), qi x5.Ver]) rfl rfl rfl ?_; simp only [putT,st,ev,gt,hp,ofV,constT,intT,lm]
    obtain ⟨x6, hx6, H1⟩ := bnd H1
    refine WO_op (x := qb x6) (σ' := ⟨[], [], []⟩) rfl rfl (ev_callG (al := [.ag [qs x4.Order.Name, qs x4.Order.Target, qi x4.Order.Low, qi x4.Order.High, .c (cL enc_Metric x4.Order.Metrics), qi x4.Order.Pace.Up, qi x4.Order.Pace.Down, qi x4.Order.Pace.UpSpan, qi x4.Order.Pace.DownSpan, .c (cL enc_Note x4.Order.Notes), qi x4.Ver], .ag [qs x5.Order.Name, qs x5.Order.Target, qi x5.Order.Low, qi x5.Order.High, .c (cL enc_Metric x5.Order.Metrics), qi x5.Order.Pace.Up, qi x5.Order.Pace.Down, qi x5.Order.Pace.UpSpan, qi x5.Order.Pace.DownSpan, .c (cL enc_Note x5.Order.Notes), qi x5.Ver]]) (ls := []) (laws_eqItem_ok hx6) rfl rfl rfl rfl rfl (by decide) rfl rfl rfl rfl rfl rfl) ?_; simp only [putT,st,ev,gt,hp,ofV,constT,intT,lm]
    refine WO_op rfl rfl rfl ?_; simp only [putT,st,ev,gt,hp,ofV,constT,intT,lm]
    refine WO_nil ?_
    refine W_cond rfl (fun hc => ?_) (fun hc => ?_)
    ·
     replace H1 := tr hc H1
     refine W_seq (W_region ?_)
     refine WO_op rfl rfl rfl ?_; simp only [putT,st,ev,gt,hp,ofV,constT,intT,lm]
     refine WO_nil ?_
     refine W_ret ?_
     obtain rfl := Option.some.inj H1
     obtain rfl := Option.some.inj H
     exact told3 rfl
    ·
     replace H1 := fl hc H1
     refine W_skip ?_
     refine W_region ?_
     iterate 3 (refine WO_op rfl rfl rfl ?_; simp only [putT,st,ev,gt,hp,ofV,constT,intT,lm])
     refine WO_nil ?_
     exact hW1 _ _ ((IH1 _ _ H1 rfl)) (le_intro [] [] (by decide) (by decide) rfl (by simp [leS, leT, leA, gt]) (by simp [leB, leT, leA]) (by simp [leR]))
   ·
    replace H1 := fl hc H1
    refine W_exit ?_
    obtain rfl := Option.some.inj H1
    exact hX1 () _ rfl (le_intro [] [] (by decide) (by decide) rfl (by simp [leS, leT, leA, gt]) (by simp [leB, leT, leA]) (by simp [leR]))
theorem laws_eqStore_ok {a1 : Store} {a2 : Store} {r : Bool} (H : laws_eqStore a1 a2 = some r) : R 48 [.ag [(cL enc_Item a1.Items, none), (cI .i64 a1.Next, none)], .ag [(cL enc_Item a2.Items, none), (cI .i64 a2.Next, none)]] = some (.c (cB r) none, []) := by
 unfold laws_eqStore at H
 refine Fz_walk 16 rfl rfl Try.func48 rfl (by kernel_rfl) rfl rfl rfl rfl ?_
 simp only [tellVs, tellV, tells, tell, st0, padT, SX.newRow, SX.newBox, List.length_cons, List.length_nil, Nat.reduceAdd, Nat.reduceSub, List.replicate, List.cons_append, List.nil_append, List.foldl_cons, List.foldl_nil]
 refine W_seq (W_region ?_)
 refine WO_op (x := .bp 0 0) (σ' := ⟨[], [some [.c (cL enc_Item a1.Items), qi a1.Next]], []⟩) rfl rfl rfl ?_
 refine WO_op (x := .bp 1 0) (σ' := ⟨[], [some [.c (cL enc_Item a1.Items), qi a1.Next], some [.c (cL enc_Item a2.Items), qi a2.Next]], []⟩) rfl rfl rfl ?_
 refine WO_op rfl rfl rfl ?_; simp only [putT,st,ev,gt,hp,ofV,constT,intT,lm]
 refine WO_nil (W_seq (W_seq (W_region ?_)))
 refine WO_op (x := .bp 0 0) rfl rfl rfl ?_
 refine WO_op (x := .c (cL enc_Item a1.Items)) rfl rfl rfl ?_
 refine WO_op (x := .bp 1 0) rfl rfl rfl ?_
 refine WO_op (x := .c (cL enc_Item a2.Items)) rfl rfl rfl ?_; simp only [putT,st,ev,gt,hp,ofV,constT,intT,lm]
 obtain ⟨x3, hx3, H⟩ := bnd H
 refine WO_op (x := qb x3) (σ' := ⟨[], [some [.c (cL enc_Item a1.Items), qi a1.Next], some [.c (cL enc_Item a2.Items), qi a2.Next]], []⟩) rfl rfl (ev_callG (al := [.c (cL enc_Item a1.Items), .c (cL enc_Item a2.Items)]) (ls := []) (laws_eqItemS_ok hx3) rfl rfl rfl rfl rfl (by decide) rfl rfl rfl rfl rfl rfl) ?_; simp only [putT,st,ev,gt,hp,ofV,constT,intT,lm]
 refine WO_op rfl rfl rfl ?_; simp only [putT,st,ev,gt,hp,ofV,constT,intT,lm]
 refine WO_nil ?_
 refine W_cond rfl (fun hc => ?_) (fun hc => ?_)
 ·
  replace H := tr hc H
  refine W_seq (W_region ?_)
  refine WO_op rfl rfl rfl ?_; simp only [putT,st,ev,gt,hp,ofV,constT,intT,lm]
  refine WO_nil ?_
  refine W_ret ?_
  obtain rfl := Option.some.inj H
  exact told3 rfl
 ·
  replace H := fl hc H
  refine W_skip ?_
  refine W_seq (W_seq (W_region ?_))
  refine WO_op (x := .bp 0 1) rfl rfl rfl ?_
  refine WO_op (x := qi a1.Next) rfl rfl rfl ?_
  refine WO_op (x := .bp 1 1) rfl rfl rfl ?_
  refine WO_op (x := qi a2.Next) rfl rfl rfl ?_; simp only [putT,st,ev,gt,hp,ofV,constT,intT,lm]
  refine WO_op rfl rfl rfl ?_; simp only [putT,st,ev,gt,hp,ofV,constT,intT,lm]
  refine WO_nil ?_
  refine W_cond rfl (fun hc => ?_) (fun hc => ?_)
  ·
   replace H := tr hc H
   refine W_seq (W_region ?_)
   refine WO_op rfl rfl rfl ?_; simp only [putT,st,ev,gt,hp,ofV,constT,intT,lm]
   refine WO_nil ?_
   refine W_ret ?_
   obtain rfl := Option.some.inj H
   exact told3 rfl
  ·
   replace H := fl hc H
   refine W_skip ?_
   refine W_seq (W_region ?_)
   refine WO_op rfl rfl rfl ?_; simp only [putT,st,ev,gt,hp,ofV,constT,intT,lm]
   refine WO_nil ?_
   refine W_ret ?_
   obtain rfl := Option.some.inj H
   exact told3 rfl
theorem laws_eqRec_ok {a1 : Rec} {a2 : Rec} {r : Bool} (H : laws_eqRec a1 a2 = some r) : R 180 [.ag [(cI .i64 a1.Time, none), (cI .i64 a1.N, none)], .ag [(cI .i64 a2.Time, none), (cI .i64 a2.N, none)]] = some (.c (cB r) none, []) := by
 unfold laws_eqRec at H
 refine Fz_walk 15 rfl rfl Try.func180 rfl (by kernel_rfl) rfl rfl rfl rfl ?_
 simp only [tellVs, tellV, tells, tell, st0, padT, SX.newRow, SX.newBox, List.length_cons, List.length_nil, Nat.reduceAdd, Nat.reduceSub, List.replicate, List.cons_append, List.nil_append, List.foldl_cons, List.foldl_nil]
 refine W_seq (W_region ?_)
 refine WO_op (x := .bp 0 0) (σ' := ⟨[], [some [qi a1.Time, qi a1.N]], []⟩) rfl rfl rfl ?_
 refine WO_op (x := .bp 1 0) (σ' := ⟨[], [some [qi a1.Time, qi a1.N], some [qi a2.Time, qi a2.N]], []⟩) rfl rfl rfl ?_
 refine WO_op rfl rfl rfl ?_; simp only [putT,st,ev,gt,hp,ofV,constT,intT,lm]
 refine WO_nil (W_seq (W_seq (W_region ?_)))
 refine WO_op (x := .bp 0 0) rfl rfl rfl ?_
 refine WO_op (x := qi a1.Time) rfl rfl rfl ?_
 refine WO_op (x := .bp 1 0) rfl rfl rfl ?_
 refine WO_op (x := qi a2.Time) rfl rfl rfl ?_; simp only [putT,st,ev,gt,hp,ofV,constT,intT,lm]
 refine WO_op rfl rfl rfl ?_; simp only [putT,st,ev,gt,hp,ofV,constT,intT,lm]
 refine WO_nil ?_
 refine W_cond rfl (fun hc => ?_) (fun hc => ?_)
 ·
  replace H := tr hc H
  refine W_seq (W_region ?_)
  refine WO_op rfl rfl rfl ?_; simp only [putT,st,ev,gt,hp,ofV,constT,intT,lm]
  refine WO_nil ?_
  refine W_ret ?_
  obtain rfl := Option.some.inj H
  exact told3 rfl
 ·
  replace H := fl hc H
  refine W_skip ?_
  refine W_seq (W_seq (W_region ?_))
  refine WO_op (x := .bp 0 1) rfl rfl rfl ?_
  refine WO_op (x := qi a1.N) rfl rfl rfl ?_
  refine WO_op (x := .bp 1 1) rfl rfl rfl ?_
  refine WO_op (x := qi a2.N) rfl rfl rfl ?_; simp only [putT,st,ev,gt,hp,ofV,constT,intT,lm]
  refine WO_op rfl rfl rfl ?_; simp only [putT,st,ev,gt,hp,ofV,constT,intT,lm]
  refine WO_nil ?_
  refine W_cond rfl (fun hc => ?_) (fun hc => ?_)
  ·
   replace H := tr hc H
   refine W_seq (W_region ?_)
   refine WO_op rfl rfl rfl ?_; simp only [putT,st,ev,gt,hp,ofV,constT,intT,lm]
   refine WO_nil ?_
   refine W_ret ?_
   obtain rfl := Option.some.inj H
   exact told3 rfl
  ·
   replace H := fl hc H
   refine W_skip ?_
   refine W_seq (W_region ?_)
   refine WO_op rfl rfl rfl ?_; simp only [putT,st,ev,gt,hp,ofV,constT,intT,lm]
   refine WO_nil ?_
   refine W_ret ?_
   obtain rfl := Option.some.inj H
   exact told3 rfl
theorem laws_eqRecS_ok {a1 : List Rec} {a2 : List Rec} {r : Bool} (H : laws_eqRecS a1 a2 = some r) : R 172 [.c (cL enc_Rec a1) none, .c (cL enc_Rec a2) none] = some (.c (cB r) none, []) := by
 unfold laws_eqRecS at H
 refine Fz_walk 27 rfl rfl Try.func172 rfl (by kernel_rfl) rfl rfl rfl rfl ?_
 simp only [tellVs, tellV, tells, tell, st0, padT, SX.newRow, SX.newBox, List.length_cons, List.length_nil, Nat.reduceAdd, Nat.reduceSub, List.replicate, List.cons_append, List.nil_append, List.foldl_cons, List.foldl_nil]
 refine W_seq (W_region ?_)
 refine WO_op rfl rfl rfl ?_; simp only [putT,st,ev,gt,hp,ofV,constT,intT,lm]
 refine WO_nil (W_seq (W_seq (W_region ?_)))
 iterate 5 (refine WO_op rfl rfl rfl ?_; simp only [putT,st,ev,gt,hp,ofV,constT,intT,lm])
 refine WO_nil ?_
 refine W_cond rfl (fun hc => ?_) (fun hc => ?_)
 ·
  replace H := tr hc H
  refine W_seq (W_region ?_)
  refine WO_op rfl rfl rfl ?_; simp only [putT,st,ev,gt,hp,ofV,constT,intT,lm]
  refine WO_nil ?_
  refine W_ret ?_
  obtain rfl := Option.some.inj H
  exact told3 rfl
 ·
  replace H := fl hc H
  refine W_skip ?_
  refine W_seq (W_seq (W_region ?_))
  refine WO_op rfl rfl rfl ?_; simp only [putT,st,ev,gt,hp,ofV,constT,intT,lm]
  refine WO_nil ?_
  refine W_block ?_
  obtain ⟨s8, hs8, H⟩ := bnd H
  refine loop_rule (ls := []) 0 (fun t7 : Unit => ⟨[], [], []⟩) (fun t => s8 = .inr t) ⟨[.c (cL enc_Rec a1), .c (cL enc_Rec a2), .no, .no, .no, qi 0], [], []⟩ (by repeat (first | exact mono_told | refine mono_seq ?_ | refine mono_blk ?_ | refine mono_lp ?_)) (le_intro [] [] (by decide) (by decide) rfl (by simp [leS, leT, leA, gt]) (by simp [leB, leT, leA]) (by simp [leR])) ?_ ?_
  ·
   rintro t7 rfl
   refine W_seq (W_region ?_)
   refine WO_op rfl rfl rfl ?_; simp only [putT,st,ev,gt,hp,ofV,constT,intT,lm]
   refine WO_nil ?_
   refine W_ret ?_
   obtain rfl := Option.some.inj H
   exact told3 rfl
  ·
   intro V1 hV1 hW1 hX1
   refine (laws_eqRecS.l0.partial_correctness a1 a2 (fun v3 s' => s' = s8 → (V1 ⟨[.c (cL enc_Rec a1), .c (cL enc_Rec a2), .no, .no, .no, qi v3], [], []⟩)) ?_ _ _ hs8 rfl)
   intro l0 IH1 v3 s' H1 e
   subst e
   refine hV1 _ ?_
   refine W_seq (W_seq (W_region ?_))
   iterate 4 (refine WO_op rfl rfl rfl ?_; simp only [putT,st,ev,gt,hp,ofV,constT,intT,lm])
   refine WO_nil ?_
   refine W_cond rfl (fun hc => ?_) (fun hc => ?_)
   ·
    replace H1 := tr hc H1
    refine W_skip ?_
    refine W_seq ?_
    refine W_block ?_
    refine W_seq ?_
    refine W_draw (by kernel_rfl) (by kernel_rfl) ?_
    iterate 2 (refine WO_op rfl rfl rfl ?_; simp only [putT,st,ev,gt,hp,ofV,constT,intT,lm])
    obtain ⟨x4, hx4, H1⟩ := bnd H1
    refine WO_op rfl rfl (ev_ix (en := enc_Rec) hx4 rfl rfl rfl rfl rfl rfl rfl) ?_; simp only [putT,st,ev,gt,hp,ofV,constT,intT,lm]
    refine WO_op (x := .ag [qi x4.Time, qi x4.N]) rfl rfl rfl ?_; simp only [putT,st,ev,gt,hp,ofV,constT,intT,lm]
    iterate 2 (refine WO_op rfl rfl rfl ?_; simp only [putT,st,ev,gt,hp,ofV,constT,intT,lm])
    obtain ⟨x5, hx5, H1⟩ := bnd H1
    refine WO_op rfl rfl (ev_ix (en := enc_Rec) hx5 rfl rfl rfl rfl rfl rfl rfl) ?_; simp only [putT,st,ev,gt,hp,ofV,constT,intT,lm]
    refine WO_op (x := .ag [qi x5.Time, qi x5.N]) rfl rfl rfl ?_; simp only [putT,st,ev,gt,hp,ofV,constT,intT,lm]
    obtain ⟨x6, hx6, H1⟩ := bnd H1
    refine WO_op (x := qb x6) (σ' := ⟨[], [], []⟩) rfl rfl (ev_callG (al := [.ag [qi x4.Time, qi x4.N], .ag [qi x5.Time, qi x5.N]]) (ls := []) (laws_eqRec_ok hx6) rfl rfl rfl rfl rfl (by decide) rfl rfl rfl rfl rfl rfl) ?_; simp only [putT,st,ev,gt,hp,ofV,constT,intT,lm]
    refine WO_op rfl rfl rfl ?_; simp only [putT,st,ev,gt,hp,ofV,constT,intT,lm]
    refine WO_nil ?_
    refine W_cond rfl (fun hc => ?_) (fun hc => ?_)
    ·
     replace H1 := tr hc H1
     refine W_seq (W_region ?_)
     refine WO_op rfl rfl rfl ?_; simp only [putT,st,ev,gt,hp,ofV,constT,intT,lm]
     refine WO_nil ?_
     refine W_ret ?_
     obtain rfl := Option.some.inj H1
     obtain rfl := Option.some.inj H
     exact told3 rfl
    ·
     replace H1 := fl hc H1
     refine W_skip ?_
     refine W_region ?_
     iterate 3 (refine WO_op rfl rfl rfl ?_; simp only [putT,st,ev,gt,hp,ofV,constT,intT,lm])
     refine WO_nil ?_
     exact hW1 _ _ ((IH1 _ _ H1 rfl)) (le_intro [] [] (by decide) (by decide) rfl (by simp [leS, leT, leA, gt]) (by simp [leB, leT, leA]) (by simp [leR]))
   ·
    replace H1 := fl hc H1
    refine W_exit ?_
    obtain rfl := Option.some.inj H1
    exact hX1 () _ rfl (le_intro [] [] (by decide) (by decide) rfl (by simp [leS, leT, leA, gt]) (by simp [leB, leT, leA]) (by simp [leR]))
theorem laws_eqScale_ok {a1 : Scale} {a2 : Scale} {r : Bool} (H : laws_eqScale a1 a2 = some r) : R 155 [.ag [(cS a1.Name, none), (cI .i64 a1.Now, none), (cL enc_Rec a1.Recs, none)], .ag [(cS a2.Name, none), (cI .i64 a2.Now, none), (cL enc_Rec a2.Recs, none)]] = some (.c (cB r) none, []) := by
 unfold laws_eqScale at H
 refine Fz_walk 21 rfl rfl Try.func155 rfl (by kernel_rfl) rfl rfl rfl rfl ?_
 simp only [tellVs, tellV, tells, tell, st0, padT, SX.newRow, SX.newBox, List.length_cons, List.length_nil, Nat.reduceAdd, Nat.reduceSub, List.replicate, List.cons_append, List.nil_append, List.foldl_cons, List.foldl_nil]
 refine W_seq (W_region ?_)
 refine WO_op (x := .bp 0 0) (σ' := ⟨[], [some [qs a1.Name, qi a1.Now, .c (cL enc_Rec a1.Recs)]], []⟩) rfl rfl rfl ?_
 refine WO_op (x := .bp 1 0) (σ' := ⟨[], [some [qs a1.Name, qi a1.Now, .c (cL enc_Rec a1.Recs)], some [qs a2.Name, qi a2.Now, .c (cL enc_Rec a2.Recs)]], []⟩) rfl rfl rfl ?_
 refine WO_op rfl rfl rfl ?_; simp only [putT,st,ev,gt,hp,ofV,constT,intT,lm]
 refine WO_nil (W_seq (W_seq (W_region ?_)))
 refine WO_op (x := .bp 0 0) rfl rfl rfl ?_
 refine WO_op (x := qs a1.Name) rfl rfl rfl ?_
 refine WO_op (x := .bp 1 0) rfl rfl rfl ?_
 refine WO_op (x := qs a2.Name) rfl rfl rfl ?_; simp only [putT,st,ev,gt,hp,ofV,constT,intT,lm]
 refine WO_op rfl rfl (ev_neq_s rfl rfl rfl) ?_; simp only [putT,st,ev,gt,hp,ofV,constT,intT,lm]
 refine WO_nil ?_
 refine W_cond rfl (fun hc => ?_) (fun hc => ?_)
 ·
  replace H := tr hc H
  refine W_seq (W_region ?_)
  refine WO_op rfl rfl rfl ?_; simp only [putT,st,ev,gt,hp,ofV,constT,intT,lm]
  refine WO_nil ?_
  refine W_ret ?_
  obtain rfl := Option.some.inj H
  exact told3 rfl
 ·
  replace H := fl hc H
  refine W_skip ?_
  refine W_seq (W_seq (W_region ?_))
  refine WO_op (x := .bp 0 1) rfl rfl rfl ?_
  refine WO_op (x := qi a1.Now) rfl rfl rfl ?_
  refine WO_op (x := .bp 1 1) rfl rfl rfl ?_
  refine WO_op (x := qi a2.Now) rfl rfl rfl ?_; simp only [putT,st,ev,gt,hp,ofV,constT,intT,lm]
  refine WO_op rfl rfl rfl ?_; simp only [putT,st,ev,gt,hp,ofV,constT,intT,lm]
  refine WO_nil ?_
  refine W_cond rfl (fun hc => ?_) (fun hc => ?_)
  ·
   replace H := tr hc H
   refine W_seq (W_region ?_)
   refine WO_op rfl rfl rfl ?_; simp only [putT,st,ev,gt,hp,ofV,constT,intT,lm]
   refine WO_nil ?_
   refine W_ret ?_
   obtain rfl := Option.some.inj H
   exact told3 rfl
  ·
   replace H := fl hc H
   refine W_skip ?_
   refine W_seq (W_seq (W_region ?_))
   refine WO_op (x := .bp 0 2) rfl rfl rfl ?_
   refine WO_op (x := .c (cL enc_Rec a1.Recs)) rfl rfl rfl ?_
   refine WO_op (x := .bp 1 2) rfl rfl rfl ?_
   refine WO_op (x := .c (cL enc_Rec a2.Recs)) rfl rfl rfl ?_; simp only [putT,st,ev,gt,hp,ofV,constT,intT,lm]
   obtain ⟨x3, hx3, H⟩ := bnd H
   refine WO_op (x := qb x3) (σ' := ⟨[], [some [qs a1.Name, qi a1.Now, .c (cL enc_Rec a1.Recs)], some [qs a2.Name, qi a2.Now, .c (cL enc_Rec a2.Recs)]], []⟩) rfl rfl (ev_callG (al := [.c (cL enc_Rec a1.Recs), .c (cL enc_Rec a2.Recs)]) (ls := []) (laws_eqRecS_ok hx3) rfl rfl rfl rfl rfl (by decide) rfl rfl rfl rfl rfl rfl) ?_; simp only [putT,st,ev,gt,hp,ofV,constT,intT,lm]
   refine WO_op rfl rfl rfl ?_; simp only [putT,st,ev,gt,hp,ofV,constT,intT,lm]
   refine WO_nil ?_
   refine W_cond rfl (fun hc => ?_) (fun hc => ?_)
   ·
    replace H := tr hc H
    refine W_seq (W_region ?_)
    refine WO_op rfl rfl rfl ?_; simp only [putT,st,ev,gt,hp,ofV,constT,intT,lm]
    refine WO_nil ?_
    refine W_ret ?_
    obtain rfl := Option.some.inj H
    exact told3 rfl
   ·
    replace H := fl hc H
    refine W_skip ?_
    refine W_seq (W_region ?_)
    refine WO_op rfl rfl rfl ?_; simp only [putT,st,ev,gt,hp,ofV,constT,intT,lm]
    refine WO_nil ?_
    refine W_ret ?_
    obtain rfl := Option.some.inj H
    exact told3 rfl
theorem laws_eqScaleS_ok {a1 : List Scale} {a2 : List Scale} {r : Bool} (H : laws_eqScaleS a1 a2 = some r) : R 114 [.c (cL enc_Scale a1) none, .c (cL enc_Scale a2) none] = some (.c (cB r) none, []) := by
 unfold laws_eqScaleS at H
 refine Fz_walk 27 rfl rfl Try.func114 rfl (by kernel_rfl) rfl rfl rfl rfl ?_
 simp only [tellVs, tellV, tells, tell, st0, padT, SX.newRow, SX.newBox, List.length_cons, List.length_nil, Nat.reduceAdd, Nat.reduceSub, List.replicate, List.cons_append, List.nil_append, List.foldl_cons, List.foldl_nil]
 refine W_seq (W_region ?_)
 refine WO_op rfl rfl rfl ?_; simp only [putT,st,ev,gt,hp,ofV,constT,intT,lm]
 refine WO_nil (W_seq (W_seq (W_region ?_)))
 iterate 5 (refine WO_op rfl rfl rfl ?_; simp only [putT,st,ev,gt,hp,ofV,constT,intT,lm])
 refine WO_nil ?_
 refine W_cond rfl (fun hc => ?_) (fun hc => ?_)
 ·
  replace H := tr hc H
  refine W_seq (W_region ?_)
  refine WO_op rfl rfl rfl ?_; simp only [putT,st,ev,gt,hp,ofV,constT,intT,lm]
  refine WO_nil ?_
  refine W_ret ?_
  obtain rfl := Option.some.inj H
  exact told3 rfl
 ·
  replace H := fl hc H
  refine W_skip ?_
  refine W_seq (W_seq (W_region ?_))
  refine WO_op rfl rfl rfl ?_; simp only [putT,st,ev,gt,hp,ofV,constT,intT,lm]
  refine WO_nil ?_
  refine W_block ?_
  obtain ⟨s8, hs8, H⟩ := bnd H
  refine loop_rule (ls := []) 0 (fun t7 : Unit => ⟨[], [], []⟩) (fun t => s8 = .inr t) ⟨[.c (cL enc_Scale a1), .c (cL enc_Scale a2), .no, .no, .no, qi 0], [], []⟩ (by repeat (first | exact mono_told | refine mono_seq ?_ | refine mono_blk ?_ | refine mono_lp ?_)) (le_intro [] [] (by decide) (by decide) rfl (by simp [leS, leT, leA, gt]) (by simp [leB, leT, leA]) (by simp [leR])) ?_ ?_
  ·
   rintro t7 rfl
   refine W_seq (W_region ?_)
   refine WO_op rfl rfl rfl ?_; simp only [putT,st,ev,gt,hp,ofV,constT,intT,lm]
   refine WO_nil ?_
   refine W_ret ?_
   obtain rfl := Option.some.inj H
   exact told3 rfl
  ·
   intro V1 hV1 hW1 hX1
   refine (laws_eqScaleS.l0.partial_correctness a1 a2 (fun v3 s' => s' = s8 → (V1 ⟨[.c (cL enc_Scale a1), .c (cL enc_Scale a2), .no, .no, .no, qi v3], [], []⟩)) ?_ _ _ hs8 rfl)
   intro l0 IH1 v3 s' H1 e
   subst e
   refine hV1 _ ?_
   refine W_seq (W_seq (W_region ?_))
   iterate 4 (refine WO_op rfl rfl rfl ?_; simp only [putT,st,ev,gt,hp,ofV,constT,intT,lm])
   refine WO_nil ?_
   refine W_cond rfl (fun hc => ?_) (fun hc => ?_)
   ·
    replace H1 := tr hc H1
    refine W_skip ?_
    refine W_seq ?_
    refine W_block ?_
    refine W_seq ?_
    refine W_draw (by kernel_rfl) (by kernel_rfl) ?_
    iterate 2 (refine WO_op rfl rfl rfl ?_; simp only [putT,st,ev,gt,hp,ofV,constT,intT,lm])
    obtain ⟨x4, hx4, H1⟩ := bnd H1
    refine WO_op rfl rfl (ev_ix (en := enc_Scale) hx4 rfl rfl rfl rfl rfl rfl rfl) ?_; simp only [putT,st,ev,gt,hp,ofV,constT,intT,lm]
    refine WO_op (x := .ag [qs x4.Name, qi x4.Now, .c (cL enc_Rec x4.Recs)]) rfl rfl rfl ?_; simp only [putT,st,ev,gt,hp,ofV,constT,intT,lm]
    iterate 2 (refine WO_op rfl rfl rfl ?_; simp only [putT,st,ev,gt,hp,ofV,constT,intT,lm])
    obtain ⟨x5, hx5, H1⟩ := bnd H1
    refine WO_op rfl rfl (ev_ix (en := enc_Scale) hx5 rfl rfl rfl rfl rfl rfl rfl) ?_; simp only [putT,st,ev,gt,hp,ofV,constT,intT,lm]
    refine WO_op (x := .ag [qs x5.Name, qi x5.Now, .c (cL enc_Rec x5.Recs)]) rfl rfl rfl ?_; simp only [putT,st,ev,gt,hp,ofV,constT,intT,lm]
    obtain ⟨x6, hx6, H1⟩ := bnd H1
    refine WO_op (x := qb x6) (σ' := ⟨[], [], []⟩) rfl rfl (ev_callG (al := [.ag [qs x4.Name, qi x4.Now, .c (cL enc_Rec x4.Recs)], .ag [qs x5.Name, qi x5.Now, .c (cL enc_Rec x5.Recs)]]) (ls := []) (laws_eqScale_ok hx6) rfl rfl rfl rfl rfl (by decide) rfl rfl rfl rfl rfl rfl) ?_; simp only [putT,st,ev,gt,hp,ofV,constT,intT,lm]
    refine WO_op rfl rfl rfl ?_; simp only [putT,st,ev,gt,hp,ofV,constT,intT,lm]
    refine WO_nil ?_
    refine W_cond rfl (fun hc => ?_) (fun hc => ?_)
    ·
     replace H1 := tr hc H1
     refine W_seq (W_region ?_)
     refine WO_op rfl rfl rfl ?_; simp only [putT,st,ev,gt,hp,ofV,constT,intT,lm]
     refine WO_nil ?_
     refine W_ret ?_
     obtain rfl := Option.some.inj H1
     obtain rfl := Option.some.inj H
     exact told3 rfl
    ·
     replace H1 := fl hc H1
     refine W_skip ?_
     refine W_region ?_
     iterate 3 (refine WO_op rfl rfl rfl ?_; simp only [putT,st,ev,gt,hp,ofV,constT,intT,lm])
     refine WO_nil ?_
     exact hW1 _ _ ((IH1 _ _ H1 rfl)) (le_intro [] [] (by decide) (by decide) rfl (by simp [leS, leT, leA, gt]) (by simp [leB, leT, leA]) (by simp [leR]))
   ·
    replace H1 := fl hc H1
    refine W_exit ?_
    obtain rfl := Option.some.inj H1
    exact hX1 () _ rfl (le_intro [] [] (by decide) (by decide) rfl (by simp [leS, leT, leA, gt]) (by simp [leB, leT, leA]) (by simp [leR]))
theorem laws_eqTold_ok {a1 : Told} {a2 : Told} {r : Bool} (H : laws_eqTold a1 a2 = some r) : R 156 [.ag [(cI .i64 a1.Time, none), (cS a1.Name, none), (cI .i64 a1.N, none)], .ag [(cI .i64 a2.Time, none), (cS a2.Name, none), (cI .i64 a2.N, none)]] = some (.c (cB r) none, []) := by
 unfold laws_eqTold at H
 refine Fz_walk 20 rfl rfl Try.func156 rfl (by kernel_rfl) rfl rfl rfl rfl ?_
 simp only [tellVs, tellV, tells, tell, st0, padT, SX.newRow, SX.newBox, List.length_cons, List.length_nil, Nat.reduceAdd, Nat.reduceSub, List.replicate, List.cons_append, List.nil_append, List.foldl_cons, List.foldl_nil]
 refine W_seq (W_region ?_)
 refine WO_op (x := .bp 0 0) (σ' := ⟨[], [some [qi a1.Time, qs a1.Name, qi a1.N]], []⟩) rfl rfl rfl ?_
 refine WO_op (x := .bp 1 0) (σ' := ⟨[], [some [qi a1.Time, qs a1.Name, qi a1.N], some [qi a2.Time, qs a2.Name, qi a2.N]], []⟩) rfl rfl rfl ?_
 refine WO_op rfl rfl rfl ?_; simp only [putT,st,ev,gt,hp,ofV,constT,intT,lm]
 refine WO_nil (W_seq (W_seq (W_region ?_)))
 refine WO_op (x := .bp 0 0) rfl rfl rfl ?_
 refine WO_op (x := qi a1.Time) rfl rfl rfl ?_
 refine WO_op (x := .bp 1 0) rfl rfl rfl ?_
 refine WO_op (x := qi a2.Time) rfl rfl rfl ?_; simp only [putT,st,ev,gt,hp,ofV,constT,intT,lm]
 refine WO_op rfl rfl rfl ?_; simp only [putT,st,ev,gt,hp,ofV,constT,intT,lm]
 refine WO_nil ?_
 refine W_cond rfl (fun hc => ?_) (fun hc => ?_)
 ·
  replace H := tr hc H
  refine W_seq (W_region ?_)
  refine WO_op rfl rfl rfl ?_; simp only [putT,st,ev,gt,hp,ofV,constT,intT,lm]
  refine WO_nil ?_
  refine W_ret ?_
  obtain rfl := Option.some.inj H
  exact told3 rfl
 ·
  replace H := fl hc H
  refine W_skip ?_
  refine W_seq (W_seq (W_region ?_))
  refine WO_op (x := .bp 0 1) rfl rfl rfl ?_
  refine WO_op (x := qs a1.Name) rfl rfl rfl ?_
  refine WO_op (x := .bp 1 1) rfl rfl rfl ?_
  refine WO_op (x := qs a2.Name) rfl rfl rfl ?_; simp only [putT,st,ev,gt,hp,ofV,constT,intT,lm]
  refine WO_op rfl rfl (ev_neq_s rfl rfl rfl) ?_; simp only [putT,st,ev,gt,hp,ofV,constT,intT,lm]
  refine WO_nil ?_
  refine W_cond rfl (fun hc => ?_) (fun hc => ?_)
  ·
   replace H := tr hc H
   refine W_seq (W_region ?_)
   refine WO_op rfl rfl rfl ?_; simp only [putT,st,ev,gt,hp,ofV,constT,intT,lm]
   refine WO_nil ?_
   refine W_ret ?_
   obtain rfl := Option.some.inj H
   exact told3 rfl
  ·
   replace H := fl hc H
   refine W_skip ?_
   refine W_seq (W_seq (W_region ?_))
   refine WO_op (x := .bp 0 2) rfl rfl rfl ?_
   refine WO_op (x := qi a1.N) rfl rfl rfl ?_
   refine WO_op (x := .bp 1 2) rfl rfl rfl ?_
   refine WO_op (x := qi a2.N) rfl rfl rfl ?_; simp only [putT,st,ev,gt,hp,ofV,constT,intT,lm]
   refine WO_op rfl rfl rfl ?_; simp only [putT,st,ev,gt,hp,ofV,constT,intT,lm]
   refine WO_nil ?_
   refine W_cond rfl (fun hc => ?_) (fun hc => ?_)
   ·
    replace H := tr hc H
    refine W_seq (W_region ?_)
    refine WO_op rfl rfl rfl ?_; simp only [putT,st,ev,gt,hp,ofV,constT,intT,lm]
    refine WO_nil ?_
    refine W_ret ?_
    obtain rfl := Option.some.inj H
    exact told3 rfl
   ·
    replace H := fl hc H
    refine W_skip ?_
    refine W_seq (W_region ?_)
    refine WO_op rfl rfl rfl ?_; simp only [putT,st,ev,gt,hp,ofV,constT,intT,lm]
    refine WO_nil ?_
    refine W_ret ?_
    obtain rfl := Option.some.inj H
    exact told3 rfl
theorem laws_eqToldS_ok {a1 : List Told} {a2 : List Told} {r : Bool} (H : laws_eqToldS a1 a2 = some r) : R 115 [.c (cL enc_Told a1) none, .c (cL enc_Told a2) none] = some (.c (cB r) none, []) := by
 unfold laws_eqToldS at H
 refine Fz_walk 27 rfl rfl Try.func115 rfl (by kernel_rfl) rfl rfl rfl rfl ?_
 simp only [tellVs, tellV, tells, tell, st0, padT, SX.newRow, SX.newBox, List.length_cons, List.length_nil, Nat.reduceAdd, Nat.reduceSub, List.replicate, List.cons_append, List.nil_append, List.foldl_cons, List.foldl_nil]
 refine W_seq (W_region ?_)
 refine WO_op rfl rfl rfl ?_; simp only [putT,st,ev,gt,hp,ofV,constT,intT,lm]
 refine WO_nil (W_seq (W_seq (W_region ?_)))
 iterate 5 (refine WO_op rfl rfl rfl ?_; simp only [putT,st,ev,gt,hp,ofV,constT,intT,lm])
 refine WO_nil ?_
 refine W_cond rfl (fun hc => ?_) (fun hc => ?_)
 ·
  replace H := tr hc H
  refine W_seq (W_region ?_)
  refine WO_op rfl rfl rfl ?_; simp only [putT,st,ev,gt,hp,ofV,constT,intT,lm]
  refine WO_nil ?_
  refine W_ret ?_
  obtain rfl := Option.some.inj H
  exact told3 rfl
 ·
  replace H := fl hc H
  refine W_skip ?_
  refine W_seq (W_seq (W_region ?_))
  refine WO_op rfl rfl rfl ?_; simp only [putT,st,ev,gt,hp,ofV,constT,intT,lm]
  refine WO_nil ?_
  refine W_block ?_
  obtain ⟨s8, hs8, H⟩ := bnd H
  refine loop_rule (ls := []) 0 (fun t7 : Unit => ⟨[], [], []⟩) (fun t => s8 = .inr t) ⟨[.c (cL enc_Told a1), .c (cL enc_Told a2), .no, .no, .no, qi 0], [], []⟩ (by repeat (first | exact mono_told | refine mono_seq ?_ | refine mono_blk ?_ | refine mono_lp ?_)) (le_intro [] [] (by decide) (by decide) rfl (by simp [leS, leT, leA, gt]) (by simp [leB, leT, leA]) (by simp [leR])) ?_ ?_
  ·
   rintro t7 rfl
   refine W_seq (W_region ?_)
   refine WO_op rfl rfl rfl ?_; simp only [putT,st,ev,gt,hp,ofV,constT,intT,lm]
   refine WO_nil ?_
   refine W_ret ?_
   obtain rfl := Option.some.inj H
   exact told3 rfl
  ·
   intro V1 hV1 hW1 hX1
   refine (laws_eqToldS.l0.partial_correctness a1 a2 (fun v3 s' => s' = s8 → (V1 ⟨[.c (cL enc_Told a1), .c (cL enc_Told a2), .no, .no, .no, qi v3], [], []⟩)) ?_ _ _ hs8 rfl)
   intro l0 IH1 v3 s' H1 e
   subst e
   refine hV1 _ ?_
   refine W_seq (W_seq (W_region ?_))
   iterate 4 (refine WO_op rfl rfl rfl ?_; simp only [putT,st,ev,gt,hp,ofV,constT,intT,lm])
   refine WO_nil ?_
   refine W_cond rfl (fun hc => ?_) (fun hc => ?_)
   ·
    replace H1 := tr hc H1
    refine W_skip ?_
    refine W_seq ?_
    refine W_block ?_
    refine W_seq ?_
    refine W_draw (by kernel_rfl) (by kernel_rfl) ?_
    iterate 2 (refine WO_op rfl rfl rfl ?_; simp only [putT,st,ev,gt,hp,ofV,constT,intT,lm])
    obtain ⟨x4, hx4, H1⟩ := bnd H1
    refine WO_op rfl rfl (ev_ix (en := enc_Told) hx4 rfl rfl rfl rfl rfl rfl rfl) ?_; simp only [putT,st,ev,gt,hp,ofV,constT,intT,lm]
    refine WO_op (x := .ag [qi x4.Time, qs x4.Name, qi x4.N]) rfl rfl rfl ?_; simp only [putT,st,ev,gt,hp,ofV,constT,intT,lm]
    iterate 2 (refine WO_op rfl rfl rfl ?_; simp only [putT,st,ev,gt,hp,ofV,constT,intT,lm])
    obtain ⟨x5, hx5, H1⟩ := bnd H1
    refine WO_op rfl rfl (ev_ix (en := enc_Told) hx5 rfl rfl rfl rfl rfl rfl rfl) ?_; simp only [putT,st,ev,gt,hp,ofV,constT,intT,lm]
    refine WO_op (x := .ag [qi x5.Time, qs x5.Name, qi x5.N]) rfl rfl rfl ?_; simp only [putT,st,ev,gt,hp,ofV,constT,intT,lm]
    obtain ⟨x6, hx6, H1⟩ := bnd H1
    refine WO_op (x := qb x6) (σ' := ⟨[], [], []⟩) rfl rfl (ev_callG (al := [.ag [qi x4.Time, qs x4.Name, qi x4.N], .ag [qi x5.Time, qs x5.Name, qi x5.N]]) (ls := []) (laws_eqTold_ok hx6) rfl rfl rfl rfl rfl (by decide) rfl rfl rfl rfl rfl rfl) ?_; simp only [putT,st,ev,gt,hp,ofV,constT,intT,lm]
    refine WO_op rfl rfl rfl ?_; simp only [putT,st,ev,gt,hp,ofV,constT,intT,lm]
    refine WO_nil ?_
    refine W_cond rfl (fun hc => ?_) (fun hc => ?_)
    ·
     replace H1 := tr hc H1
     refine W_seq (W_region ?_)
     refine WO_op rfl rfl rfl ?_; simp only [putT,st,ev,gt,hp,ofV,constT,intT,lm]
     refine WO_nil ?_
     refine W_ret ?_
     obtain rfl := Option.some.inj H1
     obtain rfl := Option.some.inj H
     exact told3 rfl
    ·
     replace H1 := fl hc H1
     refine W_skip ?_
     refine W_region ?_
     iterate 3 (refine WO_op rfl rfl rfl ?_; simp only [putT,st,ev,gt,hp,ofV,constT,intT,lm])
     refine WO_nil ?_
     exact hW1 _ _ ((IH1 _ _ H1 rfl)) (le_intro [] [] (by decide) (by decide) rfl (by simp [leS, leT, leA, gt]) (by simp [leB, leT, leA]) (by simp [leR]))
   ·
    replace H1 := fl hc H1
    refine W_exit ?_
    obtain rfl := Option.some.inj H1
    exact hX1 () _ rfl (le_intro [] [] (by decide) (by decide) rfl (by simp [leS, leT, leA, gt]) (by simp [leB, leT, leA]) (by simp [leR]))
theorem laws_eqWorld_ok {a1 : World} {a2 : World} {r : Bool} (H : laws_eqWorld a1 a2 = some r) : R 53 [.ag [(cL enc_Item a1.Store.Items, none), (cI .i64 a1.Store.Next, none), (cL enc_Scale a1.Scales, none), (cI .i64 a1.Time, none), (cL enc_Told a1.Log, none)], .ag [(cL enc_Item a2.Store.Items, none), (cI .i64 a2.Store.Next, none), (cL enc_Scale a2.Scales, none), (cI .i64 a2.Time, none), (cL enc_Told a2.Log, none)]] = some (.c (cB r) none, []) := by
 unfold laws_eqWorld at H
 refine Fz_walk 28 rfl rfl Try.func53 rfl (by kernel_rfl) rfl rfl rfl rfl ?_
 simp only [tellVs, tellV, tells, tell, st0, padT, SX.newRow, SX.newBox, List.length_cons, List.length_nil, Nat.reduceAdd, Nat.reduceSub, List.replicate, List.cons_append, List.nil_append, List.foldl_cons, List.foldl_nil]
 refine W_seq (W_region ?_)
 refine WO_op (x := .bp 0 0) (σ' := ⟨[], [some [.c (cL enc_Item a1.Store.Items), qi a1.Store.Next, .c (cL enc_Scale a1.Scales), qi a1.Time, .c (cL enc_Told a1.Log)]], []⟩) rfl rfl rfl ?_
 refine WO_op (x := .bp 1 0) (σ' := ⟨[], [some [.c (cL enc_Item a1.Store.Items), qi a1.Store.Next, .c (cL enc_Scale a1.Scales), qi a1.Time, .c (cL enc_Told a1.Log)], some [.c (cL enc_Item a2.Store.Items), qi a2.Store.Next, .c (cL enc_Scale a2.Scales), qi a2.Time, .c (cL enc_Told a2.Log)]], []⟩) rfl rfl rfl ?_
 refine WO_op rfl rfl rfl ?_; simp only [putT,st,ev,gt,hp,ofV,constT,intT,lm]
 refine WO_nil (W_seq (W_seq (W_region ?_)))
 refine WO_op (x := .bp 0 0) rfl rfl rfl ?_
 refine WO_op (x := .ag [.c (cL enc_Item a1.Store.Items), qi a1.Store.Next]) rfl rfl rfl ?_
 refine WO_op (x := .bp 1 0) rfl rfl rfl ?_
 refine WO_op (x := .ag [.c (cL enc_Item a2.Store.Items), qi a2.Store.Next]) rfl rfl rfl ?_; simp only [putT,st,ev,gt,hp,ofV,constT,intT,lm]
 obtain ⟨x3, hx3, H⟩ := bnd H
 refine WO_op (x := qb x3) (σ' := ⟨[], [some [.c (cL enc_Item a1.Store.Items), qi a1.Store.Next, .c (cL enc_Scale a1.Scales), qi a1.Time, .c (cL enc_Told a1.Log)], some [.c (cL enc_Item a2.Store.Items), qi a2.Store.Next, .c (cL enc_Scale a2.Scales), qi a2.Time, .c (cL enc_Told a2.Log)]], []⟩) rfl rfl (ev_callG (al := [.ag [.c (cL enc_Item a1.Store.Items), qi a1.Store.Next], .ag [.c (cL enc_Item a2.Store.Items), qi a2.Store.Next]]) (ls := []) (laws_eqStore_ok hx3) rfl rfl rfl rfl rfl (by decide) rfl rfl rfl rfl rfl rfl) ?_; simp only [putT,st,ev,gt,hp,ofV,constT,intT,lm]
 refine WO_op rfl rfl rfl ?_; simp only [putT,st,ev,gt,hp,ofV,constT,intT,lm]
 refine WO_nil ?_
 refine W_cond rfl (fun hc => ?_) (fun hc => ?_)
 ·
  replace H := tr hc H
  refine W_seq (W_region ?_)
  refine WO_op rfl rfl rfl ?_; simp only [putT,st,ev,gt,hp,ofV,constT,intT,lm]
  refine WO_nil ?_
  refine W_ret ?_
  obtain rfl := Option.some.inj H
  exact told3 rfl
 ·
  replace H := fl hc H
  refine W_skip ?_
  refine W_seq (W_seq (W_region ?_))
  refine WO_op (x := .bp 0 2) rfl rfl rfl ?_
  refine WO_op (x := .c (cL enc_Scale a1.Scales)) rfl rfl rfl ?_
  refine WO_op (x := .bp 1 2) rfl rfl rfl ?_
  refine WO_op (x := .c (cL enc_Scale a2.Scales)) rfl rfl rfl ?_; simp only [putT,st,ev,gt,hp,ofV,constT,intT,lm]
  obtain ⟨x4, hx4, H⟩ := bnd H
  refine WO_op (x := qb x4) (σ' := ⟨[], [some [.c (cL enc_Item a1.Store.Items), qi a1.Store.Next, .c (cL enc_Scale a1.Scales), qi a1.Time, .c (cL enc_Told a1.Log)], some [.c (cL enc_Item a2.Store.Items), qi a2.Store.Next, .c (cL enc_Scale a2.Scales), qi a2.Time, .c (cL enc_Told a2.Log)]], []⟩) rfl rfl (ev_callG (al := [.c (cL enc_Scale a1.Scales), .c (cL enc_Scale a2.Scales)]) (ls := []) (laws_eqScaleS_ok hx4) rfl rfl rfl rfl rfl (by decide) rfl rfl rfl rfl rfl rfl) ?_; simp only [putT,st,ev,gt,hp,ofV,constT,intT,lm]
  refine WO_op rfl rfl rfl ?_; simp only [putT,st,ev,gt,hp,ofV,constT,intT,lm]
  refine WO_nil ?_
  refine W_cond rfl (fun hc => ?_) (fun hc => ?_)
  ·
   replace H := tr hc H
   refine W_seq (W_region ?_)
   refine WO_op rfl rfl rfl ?_; simp only [putT,st,ev,gt,hp,ofV,constT,intT,lm]
   refine WO_nil ?_
   refine W_ret ?_
   obtain rfl := Option.some.inj H
   exact told3 rfl
  ·
   replace H := fl hc H
   refine W_skip ?_
   refine W_seq (W_seq (W_region ?_))
   refine WO_op (x := .bp 0 3) rfl rfl rfl ?_
   refine WO_op (x := qi a1.Time) rfl rfl rfl ?_
   refine WO_op (x := .bp 1 3) rfl rfl rfl ?_
   refine WO_op (x := qi a2.Time) rfl rfl rfl ?_; simp only [putT,st,ev,gt,hp,ofV,constT,intT,lm]
   refine WO_op rfl rfl rfl ?_; simp only [putT,st,ev,gt,hp,ofV,constT,intT,lm]
   refine WO_nil ?_
   refine W_cond rfl (fun hc => ?_) (fun hc => ?_)
   ·
    replace H := tr hc H
    refine W_seq (W_region ?_)
    refine WO_op rfl rfl rfl ?_; simp only [putT,st,ev,gt,hp,ofV,constT,intT,lm]
    refine WO_nil ?_
    refine W_ret ?_
    obtain rfl := Option.some.inj H
    exact told3 rfl
   ·
    replace H := fl hc H
    refine W_skip ?_
    refine W_seq (W_seq (W_region ?_))
    refine WO_op (x := .bp 0 4) rfl rfl rfl ?_
    refine WO_op (x := .c (cL enc_Told a1.Log)) rfl rfl rfl ?_
    refine WO_op (x := .bp 1 4) rfl rfl rfl ?_
    refine WO_op (x := .c (cL enc_Told a2.Log)) rfl rfl rfl ?_; simp only [putT,st,ev,gt,hp,ofV,constT,intT,lm]
    obtain ⟨x5, hx5, H⟩ := bnd H
    refine WO_op (x := qb x5) (σ' := ⟨[], [some [.c (cL enc_Item a1.Store.Items), qi a1.Store.Next, .c (cL enc_Scale a1.Scales), qi a1.Time, .c (cL enc_Told a1.Log)], some [.c (cL enc_Item a2.Store.Items), qi a2.Store.Next, .c (cL enc_Scale a2.Scales), qi a2.Time, .c (cL enc_Told a2.Log)]], []⟩) rfl rfl (ev_callG (al := [.c (cL enc_Told a1.Log), .c (cL enc_Told a2.Log)]) (ls := []) (laws_eqToldS_ok hx5) rfl rfl rfl rfl rfl (by decide) rfl rfl rfl rfl rfl rfl) ?_; simp only [putT,st,ev,gt,hp,ofV,constT,intT,lm]
    refine WO_op rfl rfl rfl ?_; simp only [putT,st,ev,gt,hp,ofV,constT,intT,lm]
    refine WO_nil ?_
    refine W_cond rfl (fun hc => ?_) (fun hc => ?_)
    ·
     replace H := tr hc H
     refine W_seq (W_region ?_)
     refine WO_op rfl rfl rfl ?_; simp only [putT,st,ev,gt,hp,ofV,constT,intT,lm]
     refine WO_nil ?_
     refine W_ret ?_
     obtain rfl := Option.some.inj H
     exact told3 rfl
    ·
     replace H := fl hc H
     refine W_skip ?_
     refine W_seq (W_region ?_)
     refine WO_op rfl rfl rfl ?_; simp only [putT,st,ev,gt,hp,ofV,constT,intT,lm]
     refine WO_nil ?_
     refine W_ret ?_
     obtain rfl := Option.some.inj H
     exact told3 rfl
theorem laws_FnExactWorldOk_ok {a1 : World} {r : Bool} (H : laws_FnExactWorldOk a1 = some r) : R 10 [.ag [(cL enc_Item a1.Store.Items, none), (cI .i64 a1.Store.Next, none), (cL enc_Scale a1.Scales, none), (cI .i64 a1.Time, none), (cL enc_Told a1.Log, none)]] = some (.c (cB r) none, []) := by
 unfold laws_FnExactWorldOk at H
 refine Fz_walk 27 rfl rfl Try.func10 rfl (by kernel_rfl) rfl rfl rfl rfl ?_
 simp only [tellVs, tellV, tells, tell, st0, padT, SX.newRow, SX.newBox, List.length_cons, List.length_nil, Nat.reduceAdd, Nat.reduceSub, List.replicate, List.cons_append, List.nil_append, List.foldl_cons, List.foldl_nil]
 refine W_seq (W_region ?_)
 refine WO_op (x := .bp 0 0) (σ' := ⟨[], [some [.c (cL enc_Item a1.Store.Items), qi a1.Store.Next, .c (cL enc_Scale a1.Scales), qi a1.Time, .c (cL enc_Told a1.Log)]], []⟩) rfl rfl rfl ?_
 refine WO_op rfl rfl rfl ?_; simp only [putT,st,ev,gt,hp,ofV,constT,intT,lm]
 refine WO_nil (W_seq (W_region ?_))
 refine WO_op rfl rfl rfl ?_; simp only [putT,st,ev,gt,hp,ofV,constT,intT,lm]
 refine WO_nil (W_seq (W_region ?_))
 refine WO_op (x := .ag [.c (cL enc_Item a1.Store.Items), qi a1.Store.Next, .c (cL enc_Scale a1.Scales), qi a1.Time, .c (cL enc_Told a1.Log)]) rfl rfl rfl ?_
 refine WO_op rfl rfl rfl ?_; simp only [putT,st,ev,gt,hp,ofV,constT,intT,lm]
 obtain ⟨x2, hx2, H⟩ := bnd H
 refine WO_op (x := qi x2) (σ' := ⟨[], [some [.c (cL enc_Item a1.Store.Items), qi a1.Store.Next, .c (cL enc_Scale a1.Scales), qi a1.Time, .c (cL enc_Told a1.Log)]], []⟩) rfl rfl (ev_callG (al := [.ag [.c (cL enc_Item a1.Store.Items), qi a1.Store.Next, .c (cL enc_Scale a1.Scales), qi a1.Time, .c (cL enc_Told a1.Log)], qi 1048576]) (ls := []) (laws_szWorld_ok hx2) rfl rfl rfl rfl rfl (by decide) rfl rfl rfl rfl rfl rfl) ?_; simp only [putT,st,ev,gt,hp,ofV,constT,intT,lm]
 refine WO_op rfl rfl rfl ?_; simp only [putT,st,ev,gt,hp,ofV,constT,intT,lm]
 refine WO_nil (W_seq (W_seq (W_region ?_)))
 iterate 2 (refine WO_op rfl rfl rfl ?_; simp only [putT,st,ev,gt,hp,ofV,constT,intT,lm])
 refine WO_nil ?_
 refine W_cond rfl (fun hc => ?_) (fun hc => ?_)
 ·
  replace H := tr hc H
  refine W_seq (W_region ?_)
  refine WO_op rfl rfl rfl ?_; simp only [putT,st,ev,gt,hp,ofV,constT,intT,lm]
  refine WO_nil ?_
  refine W_ret ?_
  obtain rfl := Option.some.inj H
  exact told3 rfl
 ·
  replace H := fl hc H
  refine W_skip ?_
  refine W_seq (W_region ?_)
  refine WO_op (x := .ag [.c (cL enc_Item a1.Store.Items), qi a1.Store.Next, .c (cL enc_Scale a1.Scales), qi a1.Time, .c (cL enc_Told a1.Log)]) rfl rfl rfl ?_; simp only [putT,st,ev,gt,hp,ofV,constT,intT,lm]
  obtain ⟨x3, hx3, H⟩ := bnd H
  refine WO_op (x := .ag [.row 0, qi x3.Store.Next, .row 1, qi x3.Time, .row 2]) (σ' := ⟨[], [some [.c (cL enc_Item a1.Store.Items), qi a1.Store.Next, .c (cL enc_Scale a1.Scales), qi a1.Time, .c (cL enc_Told a1.Log)]], [rr 11 enc_Item x3.Store.Items true, rr 3 enc_Scale x3.Scales true, rr 3 enc_Told x3.Log true]⟩) rfl rfl (ev_callG (al := [.ag [.c (cL enc_Item a1.Store.Items), qi a1.Store.Next, .c (cL enc_Scale a1.Scales), qi a1.Time, .c (cL enc_Told a1.Log)]]) (ls := []) (laws_toWorld_ok hx3) rfl rfl rfl rfl rfl (by decide) rfl rfl rfl rfl rfl rfl) ?_; simp only [putT,st,ev,gt,hp,ofV,constT,intT,lm]
  obtain ⟨x4, hx4, H⟩ := bnd H
  refine WO_op (x := qb x4) (σ' := ⟨[], [some [.c (cL enc_Item a1.Store.Items), qi a1.Store.Next, .c (cL enc_Scale a1.Scales), qi a1.Time, .c (cL enc_Told a1.Log)]], [rr 11 enc_Item x3.Store.Items true, rr 3 enc_Scale x3.Scales true, rr 3 enc_Told x3.Log true]⟩) rfl rfl (ev_callG (al := [.ag [.row 0, qi x3.Store.Next, .row 1, qi x3.Time, .row 2]]) (ls := []) (spec_WorldOk_ok hx4) rfl rfl rfl rfl rfl (by decide) rfl rfl rfl rfl rfl rfl) ?_; simp only [putT,st,ev,gt,hp,ofV,constT,intT,lm]
  refine WO_op rfl rfl rfl ?_; simp only [putT,st,ev,gt,hp,ofV,constT,intT,lm]
  refine WO_nil (W_seq (W_region ?_))
  refine WO_op (x := .ag [.c (cL enc_Item a1.Store.Items), qi a1.Store.Next, .c (cL enc_Scale a1.Scales), qi a1.Time, .c (cL enc_Told a1.Log)]) rfl rfl rfl ?_; simp only [putT,st,ev,gt,hp,ofV,constT,intT,lm]
  obtain ⟨x5, hx5, H⟩ := bnd H
  refine WO_op (x := .ag [.row 3, qi x5.Store.Next, .row 4, qi x5.Time, .row 5]) (σ' := ⟨[], [some [.c (cL enc_Item a1.Store.Items), qi a1.Store.Next, .c (cL enc_Scale a1.Scales), qi a1.Time, .c (cL enc_Told a1.Log)]], [rr 11 enc_Item x3.Store.Items true, rr 3 enc_Scale x3.Scales true, rr 3 enc_Told x3.Log true, rr 11 enc_Item x5.Store.Items true, rr 3 enc_Scale x5.Scales true, rr 3 enc_Told x5.Log true]⟩) rfl rfl (ev_callG (al := [.ag [.c (cL enc_Item a1.Store.Items), qi a1.Store.Next, .c (cL enc_Scale a1.Scales), qi a1.Time, .c (cL enc_Told a1.Log)]]) (ls := []) (laws_toWorld_ok hx5) rfl rfl rfl rfl rfl (by decide) rfl rfl rfl rfl rfl rfl) ?_; simp only [putT,st,ev,gt,hp,ofV,constT,intT,lm]
  refine WO_op (x := .bp 1 0) (σ' := ⟨[], [some [.c (cL enc_Item a1.Store.Items), qi a1.Store.Next, .c (cL enc_Scale a1.Scales), qi a1.Time, .c (cL enc_Told a1.Log)], some [.nil, qi 0, .nil, qi 0, .nil]], [rr 11 enc_Item x3.Store.Items true, rr 3 enc_Scale x3.Scales true, rr 3 enc_Told x3.Log true, rr 11 enc_Item x5.Store.Items true, rr 3 enc_Scale x5.Scales true, rr 3 enc_Told x5.Log true]⟩) rfl rfl rfl ?_
  refine WO_op (x := .no) (σ' := ⟨[], [some [.c (cL enc_Item a1.Store.Items), qi a1.Store.Next, .c (cL enc_Scale a1.Scales), qi a1.Time, .c (cL enc_Told a1.Log)], some [.row 3, qi x5.Store.Next, .row 4, qi x5.Time, .row 5]], [rr 11 enc_Item x3.Store.Items true, rr 3 enc_Scale x3.Scales true, rr 3 enc_Told x3.Log true, rr 11 enc_Item x5.Store.Items true, rr 3 enc_Scale x5.Scales true, rr 3 enc_Told x5.Log true]⟩) rfl rfl rfl ?_; simp only [putT,st,ev,gt,hp,ofV,constT,intT,lm]
  refine WO_nil (W_seq (W_region ?_))
  refine WO_op (x := .ag [.row 3, qi x5.Store.Next, .row 4, qi x5.Time, .row 5]) rfl rfl rfl ?_; simp only [putT,st,ev,gt,hp,ofV,constT,intT,lm]
  obtain ⟨x6, hx6, H⟩ := bnd H
  refine WO_op (x := qb x6) (σ' := ⟨[], [some [.c (cL enc_Item a1.Store.Items), qi a1.Store.Next, .c (cL enc_Scale a1.Scales), qi a1.Time, .c (cL enc_Told a1.Log)], some [.row 3, qi x5.Store.Next, .row 4, qi x5.Time, .row 5]], [rr 11 enc_Item x3.Store.Items true, rr 3 enc_Scale x3.Scales true, rr 3 enc_Told x3.Log true, rr 11 enc_Item x5.Store.Items true, rr 3 enc_Scale x5.Scales true, rr 3 enc_Told x5.Log true]⟩) rfl rfl (ev_callG (al := [.ag [.row 3, qi x5.Store.Next, .row 4, qi x5.Time, .row 5]]) (ls := []) (impl_WorldOk_ok hx6) rfl rfl rfl rfl rfl (by decide) rfl rfl rfl rfl rfl rfl) ?_; simp only [putT,st,ev,gt,hp,ofV,constT,intT,lm]
  refine WO_op rfl rfl rfl ?_; simp only [putT,st,ev,gt,hp,ofV,constT,intT,lm]
  refine WO_nil (W_seq (W_seq (W_region ?_)))
  iterate 3 (refine WO_op rfl rfl rfl ?_; simp only [putT,st,ev,gt,hp,ofV,constT,intT,lm])
  refine WO_nil ?_
  refine W_cond rfl (fun hc => ?_) (fun hc => ?_)
  ·
   replace H := tr hc H
   refine W_seq (W_region ?_)
   refine WO_op rfl rfl rfl ?_; simp only [putT,st,ev,gt,hp,ofV,constT,intT,lm]
   refine WO_nil ?_
   refine W_ret ?_
   obtain rfl := Option.some.inj H
   exact told3 rfl
  ·
   replace H := fl hc H
   refine W_skip ?_
   refine W_seq (W_seq ?_)
   refine W_drawL (by kernel_rfl) (by decide +kernel) ?_
   refine WL_op (x := .ag [.row 3, qi x5.Store.Next, .row 4, qi x5.Time, .row 5]) rfl rfl rfl rfl ?_
   refine WL_op (x := .ag [.c (cL enc_Item a1.Store.Items), qi a1.Store.Next, .c (cL enc_Scale a1.Scales), qi a1.Time, .c (cL enc_Told a1.Log)]) rfl rfl rfl rfl ?_; simp only [putT,st,ev,gt,hp,ofV,constT,intT,lm]
   obtain ⟨x7, hx7, H⟩ := bnd H
   refine WL_op (x := .ag [.row 6, qi x7.Store.Next, .row 7, qi x7.Time, .row 8]) (σ' := ⟨[], [some [.c (cL enc_Item a1.Store.Items), qi a1.Store.Next, .c (cL enc_Scale a1.Scales), qi a1.Time, .c (cL enc_Told a1.Log)], some [.row 3, qi x5.Store.Next, .row 4, qi x5.Time, .row 5]], [rr 11 enc_Item x3.Store.Items true, rr 3 enc_Scale x3.Scales true, rr 3 enc_Told x3.Log true, rr 11 enc_Item x5.Store.Items true, rr 3 enc_Scale x5.Scales true, rr 3 enc_Told x5.Log true, rr 11 enc_Item x7.Store.Items true, rr 3 enc_Scale x7.Scales true, rr 3 enc_Told x7.Log true]⟩) rfl rfl rfl (ev_callG (al := [.ag [.c (cL enc_Item a1.Store.Items), qi a1.Store.Next, .c (cL enc_Scale a1.Scales), qi a1.Time, .c (cL enc_Told a1.Log)]]) (ls := []) (laws_toWorld_ok hx7) rfl rfl rfl rfl rfl (by decide) rfl rfl rfl rfl rfl rfl) ?_; simp only [putT,st,ev,gt,hp,ofV,constT,intT,lm]
   obtain ⟨x8, hx8, H⟩ := bnd H
   refine WL_op (x := qb x8) (σ' := ⟨[], [some [.c (cL enc_Item a1.Store.Items), qi a1.Store.Next, .c (cL enc_Scale a1.Scales), qi a1.Time, .c (cL enc_Told a1.Log)], some [.row 3, qi x5.Store.Next, .row 4, qi x5.Time, .row 5]], [rr 11 enc_Item x3.Store.Items true, rr 3 enc_Scale x3.Scales true, rr 3 enc_Told x3.Log true, rr 11 enc_Item x5.Store.Items true, rr 3 enc_Scale x5.Scales true, rr 3 enc_Told x5.Log true, rr 11 enc_Item x7.Store.Items true, rr 3 enc_Scale x7.Scales true, rr 3 enc_Told x7.Log true]⟩) rfl rfl rfl (ev_callG (al := [.ag [.row 3, qi x5.Store.Next, .row 4, qi x5.Time, .row 5], .ag [.row 6, qi x7.Store.Next, .row 7, qi x7.Time, .row 8]]) (ls := []) (laws_eqWorld_ok hx8) rfl rfl rfl rfl rfl (by decide) rfl rfl rfl rfl rfl rfl) ?_; simp only [putT,st,ev,gt,hp,ofV,constT,intT,lm]
   refine WL_op rfl rfl rfl rfl ?_; simp only [putT,st,ev,gt,hp,ofV,constT,intT,lm]
   refine WL_nil (by kernel_rfl) ?_
   refine W_cond rfl (fun hc => ?_) (fun hc => ?_)
   ·
    replace H := tr hc H
    refine W_seq (W_region ?_)
    refine WO_op rfl rfl rfl ?_; simp only [putT,st,ev,gt,hp,ofV,constT,intT,lm]
    refine WO_nil ?_
    refine W_ret ?_
    obtain rfl := Option.some.inj H
    exact told3 rfl
   ·
    replace H := fl hc H
    refine W_skip ?_
    refine W_seq (W_region ?_)
    refine WO_op rfl rfl rfl ?_; simp only [putT,st,ev,gt,hp,ofV,constT,intT,lm]
    refine WO_nil ?_
    refine W_ret ?_
    obtain rfl := Option.some.inj H
    exact told3 rfl
end Go.Pu
