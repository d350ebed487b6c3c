import Derived.Test.YtgcpppnhhponmaaWorldOkEn
set_option linter.unusedVariables false
set_option linter.unusedSimpArgs false
set_option synthInstance.maxSize 1000000000
set_option maxRecDepth 20000
set_option maxHeartbeats 1000000
namespace Go.Pu
open Go Go.SX Go.Nt Go.Proofs
theorem laws_szMetric_ok {a1 : Metric} {a2 : Int} {r : Int} (H : laws_szMetric a1 a2 = some r) : R 124 [.ag [(cS a1.Name, none), (cI .i64 a1.Kind, none), (cI .i64 a1.Goal, none)], .c (cI .i64 a2) none] = some (.c (cI .i64 r) none, []) := by
 unfold laws_szMetric at H
 refine Fz_walk 13 rfl rfl Try.func124 rfl (by kernel_rfl) rfl rfl rfl rfl ?_
 simp only [tellVs, tellV, tells, tell, st0, padT, SX.newRow, SX.newBox, List.length_cons, List.length_nil, Nat.reduceAdd, Nat.reduceSub, List.replicate, List.cons_append, List.nil_append, List.foldl_cons, List.foldl_nil]
 refine W_seq (W_region ?_)
 refine WO_op (x := .bp 0 0) (σ' := ⟨[], [some [qs a1.Name, qi a1.Kind, qi a1.Goal]], []⟩) rfl rfl rfl ?_
 refine WO_op rfl rfl rfl ?_; simp only [putT,st,ev,gt,hp,ofV,constT,intT,lm]
 refine WO_nil (W_seq (W_region ?_))
 refine WO_op rfl rfl rfl ?_
 refine WO_op (x := .bp 0 0) rfl rfl rfl ?_
 refine WO_op (x := qs a1.Name) rfl rfl rfl ?_
 refine WO_op (x := qi (a1.Name.length : Int)) rfl rfl rfl ?_; simp only [putT,st,ev,gt,hp,ofV,constT,intT,lm]
 iterate 2 (refine WO_op rfl rfl rfl ?_; simp only [putT,st,ev,gt,hp,ofV,constT,intT,lm])
 refine WO_nil (W_seq (W_seq (W_region ?_)))
 iterate 2 (refine WO_op rfl rfl rfl ?_; simp only [putT,st,ev,gt,hp,ofV,constT,intT,lm])
 refine WO_nil ?_
 refine W_cond rfl (fun hc => ?_) (fun hc => ?_)
 ·
  replace H := tr hc H
  refine W_seq (W_region ?_)
  refine WO_op rfl rfl rfl ?_; simp only [putT,st,ev,gt,hp,ofV,constT,intT,lm]
  refine WO_nil ?_
  refine W_ret ?_
  obtain rfl := Option.some.inj H
  exact told3 rfl
 ·
  replace H := fl hc H
  refine W_skip ?_
  refine W_seq (W_region ?_)
  iterate 2 (refine WO_op rfl rfl rfl ?_; simp only [putT,st,ev,gt,hp,ofV,constT,intT,lm])
  refine WO_nil ?_
  refine W_ret ?_
  obtain rfl := Option.some.inj H
  exact told3 rfl
theorem laws_szMetricS_ok {a1 : List Metric} {a2 : Int} {r : Int} (H : laws_szMetricS a1 a2 = some r) : R 58 [.c (cL enc_Metric a1) none, .c (cI .i64 a2) none] = some (.c (cI .i64 r) none, []) := by
 unfold laws_szMetricS at H
 refine Fz_walk 27 rfl rfl Try.func58 rfl (by kernel_rfl) rfl rfl rfl rfl ?_
 simp only [tellVs, tellV, tells, tell, st0, padT, SX.newRow, SX.newBox, List.length_cons, List.length_nil, Nat.reduceAdd, Nat.reduceSub, List.replicate, List.cons_append, List.nil_append, List.foldl_cons, List.foldl_nil]
 refine W_seq (W_region ?_)
 refine WO_op rfl rfl rfl ?_; simp only [putT,st,ev,gt,hp,ofV,constT,intT,lm]
 refine WO_nil (W_seq (W_region ?_))
 iterate 5 (refine WO_op rfl rfl rfl ?_; simp only [putT,st,ev,gt,hp,ofV,constT,intT,lm])
 refine WO_nil (W_seq (W_seq (W_region ?_)))
 iterate 2 (refine WO_op rfl rfl rfl ?_; simp only [putT,st,ev,gt,hp,ofV,constT,intT,lm])
 refine WO_nil ?_
 refine W_cond rfl (fun hc => ?_) (fun hc => ?_)
 ·
  replace H := tr hc H
  refine W_seq (W_region ?_)
  refine WO_op rfl rfl rfl ?_; simp only [putT,st,ev,gt,hp,ofV,constT,intT,lm]
  refine WO_nil ?_
  refine W_ret ?_
  obtain rfl := Option.some.inj H
  exact told3 rfl
 ·
  replace H := fl hc H
  refine W_skip ?_
  refine W_seq (W_seq (W_region ?_))
  refine WO_op rfl rfl rfl ?_; simp only [putT,st,ev,gt,hp,ofV,constT,intT,lm]
  refine WO_nil ?_
  refine W_block ?_
  obtain ⟨s8, hs8, H⟩ := bnd H
  refine loop_rule (ls := []) 0 (fun t7 : Int => ⟨[.no, qi t7], [], []⟩) (fun t => s8 = .inr t) ⟨[.c (cL enc_Metric a1), qi (IntKind.i64.wrap (a2 - (a1.length : Int))), .no, .no, .no, qi 0], [], []⟩ (by repeat (first | exact mono_told | refine mono_seq ?_ | refine mono_blk ?_ | refine mono_lp ?_)) (le_intro [] [] (by decide) (by decide) rfl (by simp [leS, leT, leA, gt]) (by simp [leB, leT, leA]) (by simp [leR])) ?_ ?_
  ·
   rintro t7 rfl
   refine W_seq (W_region ?_)
   iterate 2 (refine WO_op rfl rfl rfl ?_; simp only [putT,st,ev,gt,hp,ofV,constT,intT,lm])
   refine WO_nil ?_
   refine W_ret ?_
   obtain rfl := Option.some.inj H
   exact told3 rfl
  ·
   intro V1 hV1 hW1 hX1
   refine (laws_szMetricS.l0.partial_correctness a1 (fun v3 v4 s' => s' = s8 → (V1 ⟨[.c (cL enc_Metric a1), qi v3, .no, .no, .no, qi v4], [], []⟩)) ?_ _ _ _ hs8 rfl)
   intro l0 IH1 v3 v4 s' H1 e
   subst e
   refine hV1 _ ?_
   refine W_seq (W_seq (W_region ?_))
   iterate 4 (refine WO_op rfl rfl rfl ?_; simp only [putT,st,ev,gt,hp,ofV,constT,intT,lm])
   refine WO_nil ?_
   refine W_cond rfl (fun hc => ?_) (fun hc => ?_)
   ·
    replace H1 := tr hc H1
    refine W_skip ?_
    refine W_seq ?_
    refine W_block ?_
    refine W_seq (W_region ?_)
    iterate 2 (refine WO_op rfl rfl rfl ?_; simp only [putT,st,ev,gt,hp,ofV,constT,intT,lm])
    obtain ⟨x5, hx5, H1⟩ := bnd H1
    refine WO_op rfl rfl (ev_ix (en := enc_Metric) hx5 rfl rfl rfl rfl rfl rfl rfl) ?_; simp only [putT,st,ev,gt,hp,ofV,constT,intT,lm]
    refine WO_op (x := .ag [qs x5.Name, qi x5.Kind, qi x5.Goal]) rfl rfl rfl ?_
    refine WO_op rfl rfl rfl ?_; simp only [putT,st,ev,gt,hp,ofV,constT,intT,lm]
    obtain ⟨x6, hx6, H1⟩ := bnd H1
    refine WO_op (x := qi x6) (σ' := ⟨[], [], []⟩) rfl rfl (ev_callG (al := [.ag [qs x5.Name, qi x5.Kind, qi x5.Goal], qi v3]) (ls := []) (laws_szMetric_ok hx6) rfl rfl rfl rfl rfl (by decide) rfl rfl rfl rfl rfl rfl) ?_; simp only [putT,st,ev,gt,hp,ofV,constT,intT,lm]
    refine WO_op rfl rfl rfl ?_; simp only [putT,st,ev,gt,hp,ofV,constT,intT,lm]
    refine WO_nil (W_seq (W_region ?_))
    iterate 2 (refine WO_op rfl rfl rfl ?_; simp only [putT,st,ev,gt,hp,ofV,constT,intT,lm])
    refine WO_nil ?_
    refine W_cond rfl (fun hc => ?_) (fun hc => ?_)
    ·
     replace H1 := tr hc H1
     refine W_seq (W_region ?_)
     refine WO_op rfl rfl rfl ?_; simp only [putT,st,ev,gt,hp,ofV,constT,intT,lm]
     refine WO_nil ?_
     refine W_ret ?_
     obtain rfl := Option.some.inj H1
     obtain rfl := Option.some.inj H
     exact told3 rfl
    ·
     replace H1 := fl hc H1
     refine W_skip ?_
     refine W_region ?_
     iterate 3 (refine WO_op rfl rfl rfl ?_; simp only [putT,st,ev,gt,hp,ofV,constT,intT,lm])
     refine WO_nil ?_
     exact hW1 _ _ ((IH1 _ _ _ H1 rfl)) (le_intro [] [] (by decide) (by decide) rfl (by simp [leS, leT, leA, gt]) (by simp [leB, leT, leA]) (by simp [leR]))
   ·
    replace H1 := fl hc H1
    refine W_exit ?_
    obtain rfl := Option.some.inj H1
    exact hX1 v3 _ rfl (le_intro [] [] (by decide) (by decide) rfl (by simp [leS, leT, leA, gt]) (by simp [leB, leT, leA]) (by simp [leR]))
theorem laws_szNote_ok {a1 : Note} {a2 : Int} {r : Int} (H : laws_szNote a1 a2 = some r) : R 125 [.ag [(cS a1.Key, none), (cS a1.Text, none)], .c (cI .i64 a2) none] = some (.c (cI .i64 r) none, []) := by
 unfold laws_szNote at H
 refine Fz_walk 20 rfl rfl Try.func125 rfl (by kernel_rfl) rfl rfl rfl rfl ?_
 simp only [tellVs, tellV, tells, tell, st0, padT, SX.newRow, SX.newBox, List.length_cons, List.length_nil, Nat.reduceAdd, Nat.reduceSub, List.replicate, List.cons_append, List.nil_append, List.foldl_cons, List.foldl_nil]
 refine W_seq (W_region ?_)
 refine WO_op (x := .bp 0 0) (σ' := ⟨[], [some [qs a1.Key, qs a1.Text]], []⟩) rfl rfl rfl ?_
 refine WO_op rfl rfl rfl ?_; simp only [putT,st,ev,gt,hp,ofV,constT,intT,lm]
 refine WO_nil (W_seq (W_region ?_))
 refine WO_op rfl rfl rfl ?_
 refine WO_op (x := .bp 0 0) rfl rfl rfl ?_
 refine WO_op (x := qs a1.Key) rfl rfl rfl ?_
 refine WO_op (x := qi (a1.Key.length : Int)) rfl rfl rfl ?_; simp only [putT,st,ev,gt,hp,ofV,constT,intT,lm]
 iterate 2 (refine WO_op rfl rfl rfl ?_; simp only [putT,st,ev,gt,hp,ofV,constT,intT,lm])
 refine WO_nil (W_seq (W_seq (W_region ?_)))
 iterate 2 (refine WO_op rfl rfl rfl ?_; simp only [putT,st,ev,gt,hp,ofV,constT,intT,lm])
 refine WO_nil ?_
 refine W_cond rfl (fun hc => ?_) (fun hc => ?_)
 ·
  replace H := tr hc H
  refine W_seq (W_region ?_)
  refine WO_op rfl rfl rfl ?_; simp only [putT,st,ev,gt,hp,ofV,constT,intT,lm]
  refine WO_nil ?_
  refine W_ret ?_
  obtain rfl := Option.some.inj H
  exact told3 rfl
 ·
  replace H := fl hc H
  refine W_skip ?_
  refine W_seq (W_region ?_)
  refine WO_op rfl rfl rfl ?_
  refine WO_op (x := .bp 0 1) rfl rfl rfl ?_
  refine WO_op (x := qs a1.Text) rfl rfl rfl ?_
  refine WO_op (x := qi (a1.Text.length : Int)) rfl rfl rfl ?_; simp only [putT,st,ev,gt,hp,ofV,constT,intT,lm]
  iterate 2 (refine WO_op rfl rfl rfl ?_; simp only [putT,st,ev,gt,hp,ofV,constT,intT,lm])
  refine WO_nil (W_seq (W_seq (W_region ?_)))
  iterate 2 (refine WO_op rfl rfl rfl ?_; simp only [putT,st,ev,gt,hp,ofV,constT,intT,lm])
  refine WO_nil ?_
  refine W_cond rfl (fun hc => ?_) (fun hc => ?_)
  ·
   replace H := tr hc H
   refine W_seq (W_region ?_)
   refine WO_op rfl rfl rfl ?_; simp only [putT,st,ev,gt,hp,ofV,constT,intT,lm]
   refine WO_nil ?_
   refine W_ret ?_
   obtain rfl := Option.some.inj H
   exact told3 rfl
  ·
   replace H := fl hc H
   refine W_skip ?_
   refine W_seq (W_region ?_)
   iterate 2 (refine WO_op rfl rfl rfl ?_; simp only [putT,st,ev,gt,hp,ofV,constT,intT,lm])
   refine WO_nil ?_
   refine W_ret ?_
   obtain rfl := Option.some.inj H
   exact told3 rfl
theorem laws_szNoteS_ok {a1 : List Note} {a2 : Int} {r : Int} (H : laws_szNoteS a1 a2 = some r) : R 59 [.c (cL enc_Note a1) none, .c (cI .i64 a2) none] = some (.c (cI .i64 r) none, []) := by
 unfold laws_szNoteS at H
 refine Fz_walk 27 rfl rfl Try.func59 rfl (by kernel_rfl) rfl rfl rfl rfl ?_
 simp only [tellVs, tellV, tells, tell, st0, padT, SX.newRow, SX.newBox, List.length_cons, List.length_nil, Nat.reduceAdd, Nat.reduceSub, List.replicate, List.cons_append, List.nil_append, List.foldl_cons, List.foldl_nil]
 refine W_seq (W_region ?_)
 refine WO_op rfl rfl rfl ?_; simp only [putT,st,ev,gt,hp,ofV,constT,intT,lm]
 refine WO_nil (W_seq (W_region ?_))
 iterate 5 (refine WO_op rfl rfl rfl ?_; simp only [putT,st,ev,gt,hp,ofV,constT,intT,lm])
 refine WO_nil (W_seq (W_seq (W_region ?_)))
 iterate 2 (refine WO_op rfl rfl rfl ?_; simp only [putT,st,ev,gt,hp,ofV,constT,intT,lm])
 refine WO_nil ?_
 refine W_cond rfl (fun hc => ?_) (fun hc => ?_)
 ·
  replace H := tr hc H
  refine W_seq (W_region ?_)
  refine WO_op rfl rfl rfl ?_; simp only [putT,st,ev,gt,hp,ofV,constT,intT,lm]
  refine WO_nil ?_
  refine W_ret ?_
  obtain rfl := Option.some.inj H
  exact told3 rfl
 ·
  replace H := fl hc H
  refine W_skip ?_
  refine W_seq (W_seq (W_region ?_))
  refine WO_op rfl rfl rfl ?_; simp only [putT,st,ev,gt,hp,ofV,constT,intT,lm]
  refine WO_nil ?_
  refine W_block ?_
  obtain ⟨s8, hs8, H⟩ := bnd H
  refine loop_rule (ls := []) 0 (fun t7 : Int => ⟨[.no, qi t7], [], []⟩) (fun t => s8 = .inr t) ⟨[.c (cL enc_Note a1), qi (IntKind.i64.wrap (a2 - (a1.length : Int))), .no, .no, .no, qi 0], [], []⟩ (by repeat (first | exact mono_told | refine mono_seq ?_ | refine mono_blk ?_ | refine mono_lp ?_)) (le_intro [] [] (by decide) (by decide) rfl (by simp [leS, leT, leA, gt]) (by simp [leB, leT, leA]) (by simp [leR])) ?_ ?_
  ·
   rintro t7 rfl
   refine W_seq (W_region ?_)
   iterate 2 (refine WO_op rfl rfl rfl ?_; simp only [putT,st,ev,gt,hp,ofV,constT,intT,lm])
   refine WO_nil ?_
   refine W_ret ?_
   obtain rfl := Option.some.inj H
   exact told3 rfl
  ·
   intro V1 hV1 hW1 hX1
   refine (laws_szNoteS.l0.partial_correctness a1 (fun v3 v4 s' => s' = s8 → (V1 ⟨[.c (cL enc_Note a1), qi v3, .no, .no, .no, qi v4], [], []⟩)) ?_ _ _ _ hs8 rfl)
   intro l0 IH1 v3 v4 s' H1 e
   subst e
   refine hV1 _ ?_
   refine W_seq (W_seq (W_region ?_))
   iterate 4 (refine WO_op rfl rfl rfl ?_; simp only [putT,st,ev,gt,hp,ofV,constT,intT,lm])
   refine WO_nil ?_
   refine W_cond rfl (fun hc => ?_) (fun hc => ?_)
   ·
    replace H1 := tr hc H1
    refine W_skip ?_
    refine W_seq ?_
    refine W_block ?_
    refine W_seq (W_region ?_)
    iterate 2 (refine WO_op rfl rfl rfl ?_; simp only [putT,st,ev,gt,hp,ofV,constT,intT,lm])
    obtain ⟨x5, hx5, H1⟩ := bnd H1
    refine WO_op rfl rfl (ev_ix (en := enc_Note) hx5 rfl rfl rfl rfl rfl rfl rfl) ?_; simp only [putT,st,ev,gt,hp,ofV,constT,intT,lm]
    refine WO_op (x := .ag [qs x5.Key, qs x5.Text]) rfl rfl rfl ?_
    refine WO_op rfl rfl rfl ?_; simp only [putT,st,ev,gt,hp,ofV,constT,intT,lm]
    obtain ⟨x6, hx6, H1⟩ := bnd H1
    refine WO_op (x := qi x6) (σ' := ⟨[], [], []⟩) rfl rfl (ev_callG (al := [.ag [qs x5.Key, qs x5.Text], qi v3]) (ls := []) (laws_szNote_ok hx6) rfl rfl rfl rfl rfl (by decide) rfl rfl rfl rfl rfl rfl) ?_; simp only [putT,st,ev,gt,hp,ofV,constT,intT,lm]
    refine WO_op rfl rfl rfl ?_; simp only [putT,st,ev,gt,hp,ofV,constT,intT,lm]
    refine WO_nil (W_seq (W_region ?_))
    iterate 2 (refine WO_op rfl rfl rfl ?_; simp only [putT,st,ev,gt,hp,ofV,constT,intT,lm])
    refine WO_nil ?_
    refine W_cond rfl (fun hc => ?_) (fun hc => ?_)
    ·
     replace H1 := tr hc H1
     refine W_seq (W_region ?_)
     refine WO_op rfl rfl rfl ?_; simp only [putT,st,ev,gt,hp,ofV,constT,intT,lm]
     refine WO_nil ?_
     refine W_ret ?_
     obtain rfl := Option.some.inj H1
     obtain rfl := Option.some.inj H
     exact told3 rfl
    ·
     replace H1 := fl hc H1
     refine W_skip ?_
     refine W_region ?_
     iterate 3 (refine WO_op rfl rfl rfl ?_; simp only [putT,st,ev,gt,hp,ofV,constT,intT,lm])
     refine WO_nil ?_
     exact hW1 _ _ ((IH1 _ _ _ H1 rfl)) (le_intro [] [] (by decide) (by decide) rfl (by simp [leS, leT, leA, gt]) (by simp [leB, leT, leA]) (by simp [leR]))
   ·
    replace H1 := fl hc H1
    refine W_exit ?_
    obtain rfl := Option.some.inj H1
    exact hX1 v3 _ rfl (le_intro [] [] (by decide) (by decide) rfl (by simp [leS, leT, leA, gt]) (by simp [leB, leT, leA]) (by simp [leR]))
theorem laws_szOrder_ok {a1 : Order} {a2 : Int} {r : Int} (H : laws_szOrder a1 a2 = some r) : R 12 [.ag [(cS a1.Name, none), (cS a1.Target, none), (cI .i64 a1.Low, none), (cI .i64 a1.High, none), (cL enc_Metric a1.Metrics, none), (cI .i64 a1.Pace.Up, none), (cI .i64 a1.Pace.Down, none), (cI .i64 a1.Pace.UpSpan, none), (cI .i64 a1.Pace.DownSpan, none), (cL enc_Note a1.Notes, none)], .c (cI .i64 a2) none] = some (.c (cI .i64 r) none, []) := by
 unfold laws_szOrder at H
 refine Fz_walk 32 rfl rfl Try.func12 rfl (by kernel_rfl) rfl rfl rfl rfl ?_
 simp only [tellVs, tellV, tells, tell, st0, padT, SX.newRow, SX.newBox, List.length_cons, List.length_nil, Nat.reduceAdd, Nat.reduceSub, List.replicate, List.cons_append, List.nil_append, List.foldl_cons, List.foldl_nil]
 refine W_seq (W_region ?_)
 refine WO_op (x := .bp 0 0) (σ' := ⟨[], [some [qs a1.Name, qs a1.Target, qi a1.Low, qi a1.High, .c (cL enc_Metric a1.Metrics), qi a1.Pace.Up, qi a1.Pace.Down, qi a1.Pace.UpSpan, qi a1.Pace.DownSpan, .c (cL enc_Note a1.Notes)]], []⟩) rfl rfl rfl ?_
 refine WO_op rfl rfl rfl ?_; simp only [putT,st,ev,gt,hp,ofV,constT,intT,lm]
 refine WO_nil (W_seq (W_region ?_))
 refine WO_op rfl rfl rfl ?_
 refine WO_op (x := .bp 0 0) rfl rfl rfl ?_
 refine WO_op (x := qs a1.Name) rfl rfl rfl ?_
 refine WO_op (x := qi (a1.Name.length : Int)) rfl rfl rfl ?_; simp only [putT,st,ev,gt,hp,ofV,constT,intT,lm]
 iterate 2 (refine WO_op rfl rfl rfl ?_; simp only [putT,st,ev,gt,hp,ofV,constT,intT,lm])
 refine WO_nil (W_seq (W_seq (W_region ?_)))
 iterate 2 (refine WO_op rfl rfl rfl ?_; simp only [putT,st,ev,gt,hp,ofV,constT,intT,lm])
 refine WO_nil ?_
 refine W_cond rfl (fun hc => ?_) (fun hc => ?_)
 ·
  replace H := tr hc H
  refine W_seq (W_region ?_)
  refine WO_op rfl rfl rfl ?_; simp only [putT,st,ev,gt,hp,ofV,constT,intT,lm]
  refine WO_nil ?_
  refine W_ret ?_
  obtain rfl := Option.some.inj H
  exact told3 rfl
 ·
  replace H := fl hc H
  refine W_skip ?_
  refine W_seq (W_region ?_)
  refine WO_op rfl rfl rfl ?_
  refine WO_op (x := .bp 0 1) rfl rfl rfl ?_
  refine WO_op (x := qs a1.Target) rfl rfl rfl ?_
  refine WO_op (x := qi (a1.Target.length : Int)) rfl rfl rfl ?_; simp only [putT,st,ev,gt,hp,ofV,constT,intT,lm]
  iterate 2 (refine WO_op rfl rfl rfl ?_; simp only [putT,st,ev,gt,hp,ofV,constT,intT,lm])
  refine WO_nil (W_seq (W_seq (W_region ?_)))
  iterate 2 (refine WO_op rfl rfl rfl ?_; simp only [putT,st,ev,gt,hp,ofV,constT,intT,lm])
  refine WO_nil ?_
  refine W_cond rfl (fun hc => ?_) (fun hc => ?_)
  ·
   replace H := tr hc H
   refine W_seq (W_region ?_)
   refine WO_op rfl rfl rfl ?_; simp only [putT,st,ev,gt,hp,ofV,constT,intT,lm]
   refine WO_nil ?_
   refine W_ret ?_
   obtain rfl := Option.some.inj H
   exact told3 rfl
  ·
   replace H := fl hc H
   refine W_skip ?_
   refine W_seq (W_region ?_)
   refine WO_op (x := .bp 0 4) rfl rfl rfl ?_
   refine WO_op (x := .c (cL enc_Metric a1.Metrics)) rfl rfl rfl ?_
   refine WO_op rfl rfl rfl ?_; simp only [putT,st,ev,gt,hp,ofV,constT,intT,lm]
   obtain ⟨x3, hx3, H⟩ := bnd H
   refine WO_op (x := qi x3) (σ' := ⟨[], [some [qs a1.Name, qs a1.Target, qi a1.Low, qi a1.High, .c (cL enc_Metric a1.Metrics), qi a1.Pace.Up, qi a1.Pace.Down, qi a1.Pace.UpSpan, qi a1.Pace.DownSpan, .c (cL enc_Note a1.Notes)]], []⟩) rfl rfl (ev_callG (al := [.c (cL enc_Metric a1.Metrics), qi (IntKind.i64.wrap ((IntKind.i64.wrap (a2 - (a1.Name.length : Int))) - (a1.Target.length : Int)))]) (ls := []) (laws_szMetricS_ok hx3) rfl rfl rfl rfl rfl (by decide) rfl rfl rfl rfl rfl rfl) ?_; simp only [putT,st,ev,gt,hp,ofV,constT,intT,lm]
   refine WO_op rfl rfl rfl ?_; simp only [putT,st,ev,gt,hp,ofV,constT,intT,lm]
   refine WO_nil (W_seq (W_seq (W_region ?_)))
   iterate 2 (refine WO_op rfl rfl rfl ?_; simp only [putT,st,ev,gt,hp,ofV,constT,intT,lm])
   refine WO_nil ?_
   refine W_cond rfl (fun hc => ?_) (fun hc => ?_)
   ·
    replace H := tr hc H
    refine W_seq (W_region ?_)
    refine WO_op rfl rfl rfl ?_; simp only [putT,st,ev,gt,hp,ofV,constT,intT,lm]
    refine WO_nil ?_
    refine W_ret ?_
    obtain rfl := Option.some.inj H
    exact told3 rfl
   ·
    replace H := fl hc H
    refine W_skip ?_
    refine W_seq (W_region ?_)
    refine WO_op (x := .bp 0 9) rfl rfl rfl ?_
    refine WO_op (x := .c (cL enc_Note a1.Notes)) rfl rfl rfl ?_
    refine WO_op rfl rfl rfl ?_; simp only [putT,st,ev,gt,hp,ofV,constT,intT,lm]
    obtain ⟨x4, hx4, H⟩ := bnd H
    refine WO_op (x := qi x4) (σ' := ⟨[], [some [qs a1.Name, qs a1.Target, qi a1.Low, qi a1.High, .c (cL enc_Metric a1.Metrics), qi a1.Pace.Up, qi a1.Pace.Down, qi a1.Pace.UpSpan, qi a1.Pace.DownSpan, .c (cL enc_Note a1.Notes)]], []⟩) rfl rfl (ev_callG (al := [.c (cL enc_Note a1.Notes), qi x3]) (ls := []) (laws_szNoteS_ok hx4) rfl rfl rfl rfl rfl (by decide) rfl rfl rfl rfl rfl rfl) ?_; simp only [putT,st,ev,gt,hp,ofV,constT,intT,lm]
    refine WO_op rfl rfl rfl ?_; simp only [putT,st,ev,gt,hp,ofV,constT,intT,lm]
    refine WO_nil (W_seq (W_seq (W_region ?_)))
    iterate 2 (refine WO_op rfl rfl rfl ?_; simp only [putT,st,ev,gt,hp,ofV,constT,intT,lm])
    refine WO_nil ?_
    refine W_cond rfl (fun hc => ?_) (fun hc => ?_)
    ·
     replace H := tr hc H
     refine W_seq (W_region ?_)
     refine WO_op rfl rfl rfl ?_; simp only [putT,st,ev,gt,hp,ofV,constT,intT,lm]
     refine WO_nil ?_
     refine W_ret ?_
     obtain rfl := Option.some.inj H
     exact told3 rfl
    ·
     replace H := fl hc H
     refine W_skip ?_
     refine W_seq (W_region ?_)
     iterate 2 (refine WO_op rfl rfl rfl ?_; simp only [putT,st,ev,gt,hp,ofV,constT,intT,lm])
     refine WO_nil ?_
     refine W_ret ?_
     obtain rfl := Option.some.inj H
     exact told3 rfl
theorem laws_szItem_ok {a1 : Item} {a2 : Int} {r : Int} (H : laws_szItem a1 a2 = some r) : R 147 [.ag [(cS a1.Order.Name, none), (cS a1.Order.Target, none), (cI .i64 a1.Order.Low, none), (cI .i64 a1.Order.High, none), (cL enc_Metric a1.Order.Metrics, none), (cI .i64 a1.Order.Pace.Up, none), (cI .i64 a1.Order.Pace.Down, none), (cI .i64 a1.Order.Pace.UpSpan, none), (cI .i64 a1.Order.Pace.DownSpan, none), (cL enc_Note a1.Order.Notes, none), (cI .i64 a1.Ver, none)], .c (cI .i64 a2) none] = some (.c (cI .i64 r) none, []) := by
 unfold laws_szItem at H
 refine Fz_walk 12 rfl rfl Try.func147 rfl (by kernel_rfl) rfl rfl rfl rfl ?_
 simp only [tellVs, tellV, tells, tell, st0, padT, SX.newRow, SX.newBox, List.length_cons, List.length_nil, Nat.reduceAdd, Nat.reduceSub, List.replicate, List.cons_append, List.nil_append, List.foldl_cons, List.foldl_nil]
 refine W_seq (W_region ?_)
 refine WO_op (x := .bp 0 0) (σ' := ⟨[], [some [qs a1.Order.Name, qs a1.Order.Target, qi a1.Order.Low, qi a1.Order.High, .c (cL enc_Metric a1.Order.Metrics), qi a1.Order.Pace.Up, qi a1.Order.Pace.Down, qi a1.Order.Pace.UpSpan, qi a1.Order.Pace.DownSpan, .c (cL enc_Note a1.Order.Notes), qi a1.Ver]], []⟩) rfl rfl rfl ?_
 refine WO_op rfl rfl rfl ?_; simp only [putT,st,ev,gt,hp,ofV,constT,intT,lm]
 refine WO_nil (W_seq (W_region ?_))
 refine WO_op (x := .bp 0 0) rfl rfl rfl ?_
 refine WO_op (x := .ag [qs a1.Order.Name, qs a1.Order.Target, qi a1.Order.Low, qi a1.Order.High, .c (cL enc_Metric a1.Order.Metrics), qi a1.Order.Pace.Up, qi a1.Order.Pace.Down, qi a1.Order.Pace.UpSpan, qi a1.Order.Pace.DownSpan, .c (cL enc_Note a1.Order.Notes)]) rfl rfl rfl ?_
 refine WO_op rfl rfl rfl ?_; simp only [putT,st,ev,gt,hp,ofV,constT,intT,lm]
 obtain ⟨x3, hx3, H⟩ := bnd H
 refine WO_op (x := qi x3) (σ' := ⟨[], [some [qs a1.Order.Name, qs a1.Order.Target, qi a1.Order.Low, qi a1.Order.High, .c (cL enc_Metric a1.Order.Metrics), qi a1.Order.Pace.Up, qi a1.Order.Pace.Down, qi a1.Order.Pace.UpSpan, qi a1.Order.Pace.DownSpan, .c (cL enc_Note a1.Order.Notes), qi a1.Ver]], []⟩) rfl rfl (ev_callG (al := [.ag [qs a1.Order.Name, qs a1.Order.Target, qi a1.Order.Low, qi a1.Order.High, .c (cL enc_Metric a1.Order.Metrics), qi a1.Order.Pace.Up, qi a1.Order.Pace.Down, qi a1.Order.Pace.UpSpan, qi a1.Order.Pace.DownSpan, .c (cL enc_Note a1.Order.Notes)], qi a2]) (ls := []) (laws_szOrder_ok hx3) rfl rfl rfl rfl rfl (by decide) rfl rfl rfl rfl rfl rfl) ?_; simp only [putT,st,ev,gt,hp,ofV,constT,intT,lm]
 refine WO_op rfl rfl rfl ?_; simp only [putT,st,ev,gt,hp,ofV,constT,intT,lm]
 refine WO_nil (W_seq (W_seq (W_region ?_)))
 iterate 2 (refine WO_op rfl rfl rfl ?_; simp only [putT,st,ev,gt,hp,ofV,constT,intT,lm])
 refine WO_nil ?_
 refine W_cond rfl (fun hc => ?_) (fun hc => ?_)
 ·
  replace H := tr hc H
  refine W_seq (W_region ?_)
  refine WO_op rfl rfl rfl ?_; simp only [putT,st,ev,gt,hp,ofV,constT,intT,lm]
  refine WO_nil ?_
  refine W_ret ?_
  obtain rfl := Option.some.inj H
  exact told3 rfl
 ·
  replace H := fl hc H
  refine W_skip ?_
  refine W_seq (W_region ?_)
  iterate 2 (refine WO_op rfl rfl rfl ?_; simp only [putT,st,ev,gt,hp,ofV,constT,intT,lm])
  refine WO_nil ?_
  refine W_ret ?_
  obtain rfl := Option.some.inj H
  exact told3 rfl
theorem laws_szItemS_ok {a1 : List Item} {a2 : Int} {r : Int} (H : laws_szItemS a1 a2 = some r) : R 104 [.c (cL enc_Item a1) none, .c (cI .i64 a2) none] = some (.c (cI .i64 r) none, []) := by
 unfold laws_szItemS at H
 refine Fz_walk 27 rfl rfl Try.func104 rfl (by kernel_rfl) rfl rfl rfl rfl ?_
 simp only [tellVs, tellV, tells, tell, st0, padT, SX.newRow, SX.newBox, List.length_cons, List.length_nil, Nat.reduceAdd, Nat.reduceSub, List.replicate, List.cons_append, List.nil_append, List.foldl_cons, List.foldl_nil]
 refine W_seq (W_region ?_)
 refine WO_op rfl rfl rfl ?_; simp only [putT,st,ev,gt,hp,ofV,constT,intT,lm]
 refine WO_nil (W_seq (W_region ?_))
 iterate 5 (refine WO_op rfl rfl rfl ?_; simp only [putT,st,ev,gt,hp,ofV,constT,intT,lm])
 refine WO_nil (W_seq (W_seq (W_region ?_)))
 iterate 2 (refine WO_op rfl rfl rfl ?_; simp only [putT,st,ev,gt,hp,ofV,constT,intT,lm])
 refine WO_nil ?_
 refine W_cond rfl (fun hc => ?_) (fun hc => ?_)
 ·
  replace H := tr hc H
  refine W_seq (W_region ?_)
  refine WO_op rfl rfl rfl ?_; simp only [putT,st,ev,gt,hp,ofV,constT,intT,lm]
  refine WO_nil ?_
  refine W_ret ?_
  obtain rfl := Option.some.inj H
  exact told3 rfl
 ·
  replace H := fl hc H
  refine W_skip ?_
  refine W_seq (W_seq (W_region ?_))
  refine WO_op rfl rfl rfl ?_; simp only [putT,st,ev,gt,hp,ofV,constT,intT,lm]
  refine WO_nil ?_
  refine W_block ?_
  obtain ⟨s8, hs8, H⟩ := bnd H
  refine loop_rule (ls := []) 0 (fun t7 : Int => ⟨[.no, qi t7], [], []⟩) (fun t => s8 = .inr t) ⟨[.c (cL enc_Item a1), qi (IntKind.i64.wrap (a2 - (a1.length : Int))), .no, .no, .no, qi 0], [], []⟩ (by repeat (first | exact mono_told | refine mono_seq ?_ | refine mono_blk ?_ | refine mono_lp ?_)) (le_intro [] [] (by decide) (by decide) rfl (by simp [leS, leT, leA, gt]) (by simp [leB, leT, leA]) (by simp [leR])) ?_ ?_
  ·
   rintro t7 rfl
   refine W_seq (W_region ?_)
   iterate 2 (refine WO_op rfl rfl rfl ?_; simp only [putT,st,ev,gt,hp,ofV,constT,intT,lm])
   refine WO_nil ?_
   refine W_ret ?_
   obtain rfl := Option.some.inj H
   exact told3 rfl
  ·
   intro V1 hV1 hW1 hX1
   refine (laws_szItemS.l0.partial_correctness a1 (fun v3 v4 s' => s' = s8 → (V1 ⟨[.c (cL enc_Item a1), qi v3, .no, .no, .no, qi v4], [], []⟩)) ?_ _ _ _ hs8 rfl)
   intro l0 IH1 v3 v4 s' H1 e
   subst e
   refine hV1 _ ?_
   refine W_seq (W_seq (W_region ?_))
   iterate 4 (refine WO_op rfl rfl rfl ?_; simp only [putT,st,ev,gt,hp,ofV,constT,intT,lm])
   refine WO_nil ?_
   refine W_cond rfl (fun hc => ?_) (fun hc => ?_)
   ·
    replace H1 := tr hc H1
    refine W_skip ?_
    refine W_seq ?_
    refine W_block ?_
    refine W_seq (W_region ?_)
    iterate 2 (refine WO_op rfl rfl rfl ?_; simp only [putT,st,ev,gt,hp,ofV,constT,intT,lm])
    obtain ⟨x5, hx5, H1⟩ := bnd H1
    refine WO_op rfl rfl (ev_ix (en := enc_Item) hx5 rfl rfl rfl rfl rfl rfl rfl) ?_; simp only [putT,st,ev,gt,hp,ofV,constT,intT,lm]
    refine WO_op (x := .ag [qs x5.Order.Name, qs x5.Order.Target, qi x5.Order.Low, qi x5.Order.High, .c (cL enc_Metric x5.Order.Metrics), qi x5.Order.Pace.Up, qi x5.Order.Pace.Down, qi x5.Order.Pace.UpSpan, qi x5.Order.Pace.DownSpan, .c (cL enc_Note x5.Order.Notes), qi x5.Ver]) rfl rfl rfl ?_
    refine WO_op rfl rfl rfl ?_; simp only [putT,st,ev,gt,hp,ofV,constT,intT,lm]
    obtain ⟨x6, hx6, H1⟩ := bnd H1
    refine WO_op (x := qi x6) (σ' := ⟨[], [], []⟩) rfl rfl (ev_callG (al := [.ag [qs x5.Order.Name, qs x5.Order.Target, qi x5.Order.Low, qi x5.Order.High, .c (cL enc_Metric x5.Order.Metrics), qi x5.Order.Pace.Up, qi x5.Order.Pace.Down, qi x5.Order.Pace.UpSpan, qi x5.Order.Pace.DownSpan, .c (cL enc_Note x5.Order.Notes), qi x5.Ver], qi v3]) (ls := []) (laws_szItem_ok hx6) rfl rfl rfl rfl rfl (by decide) rfl rfl rfl rfl rfl rfl) ?_; simp only [putT,st,ev,gt,hp,ofV,constT,intT,lm]
    refine WO_op rfl rfl rfl ?_; simp only [putT,st,ev,gt,hp,ofV,constT,intT,lm]
    refine WO_nil (W_seq (W_region ?_))
    iterate 2 (refine WO_op rfl rfl rfl ?_; simp only [putT,st,ev,gt,hp,ofV,constT,intT,lm])
    refine WO_nil ?_
    refine W_cond rfl (fun hc => ?_) (fun hc => ?_)
    ·
     replace H1 := tr hc H1
     refine W_seq (W_region ?_)
     refine WO_op rfl rfl rfl ?_; simp only [putT,st,ev,gt,hp,ofV,constT,intT,lm]
     refine WO_nil ?_
     refine W_ret ?_
     obtain rfl := Option.some.inj H1
     obtain rfl := Option.some.inj H
     exact told3 rfl
    ·
     replace H1 := fl hc H1
     refine W_skip ?_
     refine W_region ?_
     iterate 3 (refine WO_op rfl rfl rfl ?_; simp only [putT,st,ev,gt,hp,ofV,constT,intT,lm])
     refine WO_nil ?_
     exact hW1 _ _ ((IH1 _ _ _ H1 rfl)) (le_intro [] [] (by decide) (by decide) rfl (by simp [leS, leT, leA, gt]) (by simp [leB, leT, leA]) (by simp [leR]))
   ·
    replace H1 := fl hc H1
    refine W_exit ?_
    obtain rfl := Option.some.inj H1
    exact hX1 v3 _ rfl (le_intro [] [] (by decide) (by decide) rfl (by simp [leS, leT, leA, gt]) (by simp [leB, leT, leA]) (by simp [leR]))
theorem laws_szStore_ok {a1 : Store} {a2 : Int} {r : Int} (H : laws_szStore a1 a2 = some r) : R 44 [.ag [(cL enc_Item a1.Items, none), (cI .i64 a1.Next, none)], .c (cI .i64 a2) none] = some (.c (cI .i64 r) none, []) := by
 unfold laws_szStore at H
 refine Fz_walk 12 rfl rfl Try.func44 rfl (by kernel_rfl) rfl rfl rfl rfl ?_
 simp only [tellVs, tellV, tells, tell, st0, padT, SX.newRow, SX.newBox, List.length_cons, List.length_nil, Nat.reduceAdd, Nat.reduceSub, List.replicate, List.cons_append, List.nil_append, List.foldl_cons, List.foldl_nil]
 refine W_seq (W_region ?_)
 refine WO_op (x := .bp 0 0) (σ' := ⟨[], [some [.c (cL enc_Item a1.Items), qi a1.Next]], []⟩) rfl rfl rfl ?_
 refine WO_op rfl rfl rfl ?_; simp only [putT,st,ev,gt,hp,ofV,constT,intT,lm]
 refine WO_nil (W_seq (W_region ?_))
 refine WO_op (x := .bp 0 0) rfl rfl rfl ?_
 refine WO_op (x := .c (cL enc_Item a1.Items)) rfl rfl rfl ?_
 refine WO_op rfl rfl rfl ?_; simp only [putT,st,ev,gt,hp,ofV,constT,intT,lm]
 obtain ⟨x3, hx3, H⟩ := bnd H
 refine WO_op (x := qi x3) (σ' := ⟨[], [some [.c (cL enc_Item a1.Items), qi a1.Next]], []⟩) rfl rfl (ev_callG (al := [.c (cL enc_Item a1.Items), qi a2]) (ls := []) (laws_szItemS_ok hx3) rfl rfl rfl rfl rfl (by decide) rfl rfl rfl rfl rfl rfl) ?_; simp only [putT,st,ev,gt,hp,ofV,constT,intT,lm]
 refine WO_op rfl rfl rfl ?_; simp only [putT,st,ev,gt,hp,ofV,constT,intT,lm]
 refine WO_nil (W_seq (W_seq (W_region ?_)))
 iterate 2 (refine WO_op rfl rfl rfl ?_; simp only [putT,st,ev,gt,hp,ofV,constT,intT,lm])
 refine WO_nil ?_
 refine W_cond rfl (fun hc => ?_) (fun hc => ?_)
 ·
  replace H := tr hc H
  refine W_seq (W_region ?_)
  refine WO_op rfl rfl rfl ?_; simp only [putT,st,ev,gt,hp,ofV,constT,intT,lm]
  refine WO_nil ?_
  refine W_ret ?_
  obtain rfl := Option.some.inj H
  exact told3 rfl
 ·
  replace H := fl hc H
  refine W_skip ?_
  refine W_seq (W_region ?_)
  iterate 2 (refine WO_op rfl rfl rfl ?_; simp only [putT,st,ev,gt,hp,ofV,constT,intT,lm])
  refine WO_nil ?_
  refine W_ret ?_
  obtain rfl := Option.some.inj H
  exact told3 rfl
theorem laws_szRecS_ok {a1 : List Rec} {a2 : Int} {r : Int} (H : laws_szRecS a1 a2 = some r) : R 170 [.c (cL enc_Rec a1) none, .c (cI .i64 a2) none] = some (.c (cI .i64 r) none, []) := by
 unfold laws_szRecS at H
 refine Fz_walk 12 rfl rfl Try.func170 rfl (by kernel_rfl) rfl rfl rfl rfl ?_
 simp only [tellVs, tellV, tells, tell, st0, padT, SX.newRow, SX.newBox, List.length_cons, List.length_nil, Nat.reduceAdd, Nat.reduceSub, List.replicate, List.cons_append, List.nil_append, List.foldl_cons, List.foldl_nil]
 refine W_seq (W_region ?_)
 refine WO_op rfl rfl rfl ?_; simp only [putT,st,ev,gt,hp,ofV,constT,intT,lm]
 refine WO_nil (W_seq (W_region ?_))
 iterate 5 (refine WO_op rfl rfl rfl ?_; simp only [putT,st,ev,gt,hp,ofV,constT,intT,lm])
 refine WO_nil (W_seq (W_seq (W_region ?_)))
 iterate 2 (refine WO_op rfl rfl rfl ?_; simp only [putT,st,ev,gt,hp,ofV,constT,intT,lm])
 refine WO_nil ?_
 refine W_cond rfl (fun hc => ?_) (fun hc => ?_)
 ·
  replace H := tr hc H
  refine W_seq (W_region ?_)
  refine WO_op rfl rfl rfl ?_; simp only [putT,st,ev,gt,hp,ofV,constT,intT,lm]
  refine WO_nil ?_
  refine W_ret ?_
  obtain rfl := Option.some.inj H
  exact told3 rfl
 ·
  replace H := fl hc H
  refine W_skip ?_
  refine W_seq (W_region ?_)
  iterate 2 (refine WO_op rfl rfl rfl ?_; simp only [putT,st,ev,gt,hp,ofV,constT,intT,lm])
  refine WO_nil ?_
  refine W_ret ?_
  obtain rfl := Option.some.inj H
  exact told3 rfl
theorem laws_szScale_ok {a1 : Scale} {a2 : Int} {r : Int} (H : laws_szScale a1 a2 = some r) : R 151 [.ag [(cS a1.Name, none), (cI .i64 a1.Now, none), (cL enc_Rec a1.Recs, none)], .c (cI .i64 a2) none] = some (.c (cI .i64 r) none, []) := by
 unfold laws_szScale at H
 refine Fz_walk 19 rfl rfl Try.func151 rfl (by kernel_rfl) rfl rfl rfl rfl ?_
 simp only [tellVs, tellV, tells, tell, st0, padT, SX.newRow, SX.newBox, List.length_cons, List.length_nil, Nat.reduceAdd, Nat.reduceSub, List.replicate, List.cons_append, List.nil_append, List.foldl_cons, List.foldl_nil]
 refine W_seq (W_region ?_)
 refine WO_op (x := .bp 0 0) (σ' := ⟨[], [some [qs a1.Name, qi a1.Now, .c (cL enc_Rec a1.Recs)]], []⟩) rfl rfl rfl ?_
 refine WO_op rfl rfl rfl ?_; simp only [putT,st,ev,gt,hp,ofV,constT,intT,lm]
 refine WO_nil (W_seq (W_region ?_))
 refine WO_op rfl rfl rfl ?_
 refine WO_op (x := .bp 0 0) rfl rfl rfl ?_
 refine WO_op (x := qs a1.Name) rfl rfl rfl ?_
 refine WO_op (x := qi (a1.Name.length : Int)) rfl rfl rfl ?_; simp only [putT,st,ev,gt,hp,ofV,constT,intT,lm]
 iterate 2 (refine WO_op rfl rfl rfl ?_; simp only [putT,st,ev,gt,hp,ofV,constT,intT,lm])
 refine WO_nil (W_seq (W_seq (W_region ?_)))
 iterate 2 (refine WO_op rfl rfl rfl ?_; simp only [putT,st,ev,gt,hp,ofV,constT,intT,lm])
 refine WO_nil ?_
 refine W_cond rfl (fun hc => ?_) (fun hc => ?_)
 ·
  replace H := tr hc H
  refine W_seq (W_region ?_)
  refine WO_op rfl rfl rfl ?_; simp only [putT,st,ev,gt,hp,ofV,constT,intT,lm]
  refine WO_nil ?_
  refine W_ret ?_
  obtain rfl := Option.some.inj H
  exact told3 rfl
 ·
  replace H := fl hc H
  refine W_skip ?_
  refine W_seq (W_region ?_)
  refine WO_op (x := .bp 0 2) rfl rfl rfl ?_
  refine WO_op (x := .c (cL enc_Rec a1.Recs)) rfl rfl rfl ?_
  refine WO_op rfl rfl rfl ?_; simp only [putT,st,ev,gt,hp,ofV,constT,intT,lm]
  obtain ⟨x3, hx3, H⟩ := bnd H
  refine WO_op (x := qi x3) (σ' := ⟨[], [some [qs a1.Name, qi a1.Now, .c (cL enc_Rec a1.Recs)]], []⟩) rfl rfl (ev_callG (al := [.c (cL enc_Rec a1.Recs), qi (IntKind.i64.wrap (a2 - (a1.Name.length : Int)))]) (ls := []) (laws_szRecS_ok hx3) rfl rfl rfl rfl rfl (by decide) rfl rfl rfl rfl rfl rfl) ?_; simp only [putT,st,ev,gt,hp,ofV,constT,intT,lm]
  refine WO_op rfl rfl rfl ?_; simp only [putT,st,ev,gt,hp,ofV,constT,intT,lm]
  refine WO_nil (W_seq (W_seq (W_region ?_)))
  iterate 2 (refine WO_op rfl rfl rfl ?_; simp only [putT,st,ev,gt,hp,ofV,constT,intT,lm])
  refine WO_nil ?_
  refine W_cond rfl (fun hc => ?_) (fun hc => ?_)
  ·
   replace H := tr hc H
   refine W_seq (W_region ?_)
   refine WO_op rfl rfl rfl ?_; simp only [putT,st,ev,gt,hp,ofV,constT,intT,lm]
   refine WO_nil ?_
   refine W_ret ?_
   obtain rfl := Option.some.inj H
   exact told3 rfl
  ·
   replace H := fl hc H
   refine W_skip ?_
   refine W_seq (W_region ?_)
   iterate 2 (refine WO_op rfl rfl rfl ?_; simp only [putT,st,ev,gt,hp,ofV,constT,intT,lm])
   refine WO_nil ?_
   refine W_ret ?_
   obtain rfl := Option.some.inj H
   exact told3 rfl
theorem laws_szScaleS_ok {a1 : List Scale} {a2 : Int} {r : Int} (H : laws_szScaleS a1 a2 = some r) : R 109 [.c (cL enc_Scale a1) none, .c (cI .i64 a2) none] = some (.c (cI .i64 r) none, []) := by
 unfold laws_szScaleS at H
 refine Fz_walk 27 rfl rfl Try.func109 rfl (by kernel_rfl) rfl rfl rfl rfl ?_
 simp only [tellVs, tellV, tells, tell, st0, padT, SX.newRow, SX.newBox, List.length_cons, List.length_nil, Nat.reduceAdd, Nat.reduceSub, List.replicate, List.cons_append, List.nil_append, List.foldl_cons, List.foldl_nil]
 refine W_seq (W_region ?_)
 refine WO_op rfl rfl rfl ?_; simp only [putT,st,ev,gt,hp,ofV,constT,intT,lm]
 refine WO_nil (W_seq (W_region ?_))
 iterate 5 (refine WO_op rfl rfl rfl ?_; simp only [putT,st,ev,gt,hp,ofV,constT,intT,lm])
 refine WO_nil (W_seq (W_seq (W_region ?_)))
 iterate 2 (refine WO_op rfl rfl rfl ?_; simp only [putT,st,ev,gt,hp,ofV,constT,intT,lm])
 refine WO_nil ?_
 refine W_cond rfl (fun hc => ?_) (fun hc => ?_)
 ·
  replace H := tr hc H
  refine W_seq (W_region ?_)
  refine WO_op rfl rfl rfl ?_; simp only [putT,st,ev,gt,hp,ofV,constT,intT,lm]
  refine WO_nil ?_
  refine W_ret ?_
  obtain rfl := Option.some.inj H
  exact told3 rfl
 ·
  replace H := fl hc H
  refine W_skip ?_
  refine W_seq (W_seq (W_region ?_))
  refine WO_op rfl rfl rfl ?_; simp only [putT,st,ev,gt,hp,ofV,constT,intT,lm]
  refine WO_nil ?_
  refine W_block ?_
  obtain ⟨s8, hs8, H⟩ := bnd H
  refine loop_rule (ls := []) 0 (fun t7 : Int => ⟨[.no, qi t7], [], []⟩) (fun t => s8 = .inr t) ⟨[.c (cL enc_Scale a1), qi (IntKind.i64.wrap (a2 - (a1.length : Int))), .no, .no, .no, qi 0], [], []⟩ (by repeat (first | exact mono_told | refine mono_seq ?_ | refine mono_blk ?_ | refine mono_lp ?_)) (le_intro [] [] (by decide) (by decide) rfl (by simp [leS, leT, leA, gt]) (by simp [leB, leT, leA]) (by simp [leR])) ?_ ?_
  ·
   rintro t7 rfl
   refine W_seq (W_region ?_)
   iterate 2 (refine WO_op rfl rfl rfl ?_; simp only [putT,st,ev,gt,hp,ofV,constT,intT,lm])
   refine WO_nil ?_
   refine W_ret ?_
   obtain rfl := Option.some.inj H
   exact told3 rfl
  ·
   intro V1 hV1 hW1 hX1
   refine (laws_szScaleS.l0.partial_correctness a1 (fun v3 v4 s' => s' = s8 → (V1 ⟨[.c (cL enc_Scale a1), qi v3, .no, .no, .no, qi v4], [], []⟩)) ?_ _ _ _ hs8 rfl)
   intro l0 IH1 v3 v4 s' H1 e
   subst e
   refine hV1 _ ?_
   refine W_seq (W_seq (W_region ?_))
   iterate 4 (refine WO_op rfl rfl rfl ?_; simp only [putT,st,ev,gt,hp,ofV,constT,intT,lm])
   refine WO_nil ?_
   refine W_cond rfl (fun hc => ?_) (fun hc => ?_)
   ·
    replace H1 := tr hc H1
    refine W_skip ?_
    refine W_seq ?_
    refine W_block ?_
    refine W_seq (W_region ?_)
    iterate 2 (refine WO_op rfl rfl rfl ?_; simp only [putT,st,ev,gt,hp,ofV,constT,intT,lm])
    obtain ⟨x5, hx5, H1⟩ := bnd H1
    refine WO_op rfl rfl (ev_ix (en := enc_Scale) hx5 rfl rfl rfl rfl rfl rfl rfl) ?_; simp only [putT,st,ev,gt,hp,ofV,constT,intT,lm]
    refine WO_op (x := .ag [qs x5.Name, qi x5.Now, .c (cL enc_Rec x5.Recs)]) rfl rfl rfl ?_
    refine WO_op rfl rfl rfl ?_; simp only [putT,st,ev,gt,hp,ofV,constT,intT,lm]
    obtain ⟨x6, hx6, H1⟩ := bnd H1
    refine WO_op (x := qi x6) (σ' := ⟨[], [], []⟩) rfl rfl (ev_callG (al := [.ag [qs x5.Name, qi x5.Now, .c (cL enc_Rec x5.Recs)], qi v3]) (ls := []) (laws_szScale_ok hx6) rfl rfl rfl rfl rfl (by decide) rfl rfl rfl rfl rfl rfl) ?_; simp only [putT,st,ev,gt,hp,ofV,constT,intT,lm]
    refine WO_op rfl rfl rfl ?_; simp only [putT,st,ev,gt,hp,ofV,constT,intT,lm]
    refine WO_nil (W_seq (W_region ?_))
    iterate 2 (refine WO_op rfl rfl rfl ?_; simp only [putT,st,ev,gt,hp,ofV,constT,intT,lm])
    refine WO_nil ?_
    refine W_cond rfl (fun hc => ?_) (fun hc => ?_)
    ·
     replace H1 := tr hc H1
     refine W_seq (W_region ?_)
     refine WO_op rfl rfl rfl ?_; simp only [putT,st,ev,gt,hp,ofV,constT,intT,lm]
     refine WO_nil ?_
     refine W_ret ?_
     obtain rfl := Option.some.inj H1
     obtain rfl := Option.some.inj H
     exact told3 rfl
    ·
     replace H1 := fl hc H1
     refine W_skip ?_
     refine W_region ?_
     iterate 3 (refine WO_op rfl rfl rfl ?_; simp only [putT,st,ev,gt,hp,ofV,constT,intT,lm])
     refine WO_nil ?_
     exact hW1 _ _ ((IH1 _ _ _ H1 rfl)) (le_intro [] [] (by decide) (by decide) rfl (by simp [leS, leT, leA, gt]) (by simp [leB, leT, leA]) (by simp [leR]))
   ·
    replace H1 := fl hc H1
    refine W_exit ?_
    obtain rfl := Option.some.inj H1
    exact hX1 v3 _ rfl (le_intro [] [] (by decide) (by decide) rfl (by simp [leS, leT, leA, gt]) (by simp [leB, leT, leA]) (by simp [leR]))
theorem laws_szTold_ok {a1 : Told} {a2 : Int} {r : Int} (H : laws_szTold a1 a2 = some r) : R 152 [.ag [(cI .i64 a1.Time, none), (cS a1.Name, none), (cI .i64 a1.N, none)], .c (cI .i64 a2) none] = some (.c (cI .i64 r) none, []) := by
 unfold laws_szTold at H
 refine Fz_walk 13 rfl rfl Try.func152 rfl (by kernel_rfl) rfl rfl rfl rfl ?_
 simp only [tellVs, tellV, tells, tell, st0, padT, SX.newRow, SX.newBox, List.length_cons, List.length_nil, Nat.reduceAdd, Nat.reduceSub, List.replicate, List.cons_append, List.nil_append, List.foldl_cons, List.foldl_nil]
 refine W_seq (W_region ?_)
 refine WO_op (x := .bp 0 0) (σ' := ⟨[], [some [qi a1.Time, qs a1.Name, qi a1.N]], []⟩) rfl rfl rfl ?_
 refine WO_op rfl rfl rfl ?_; simp only [putT,st,ev,gt,hp,ofV,constT,intT,lm]
 refine WO_nil (W_seq (W_region ?_))
 refine WO_op rfl rfl rfl ?_
 refine WO_op (x := .bp 0 1) rfl rfl rfl ?_
 refine WO_op (x := qs a1.Name) rfl rfl rfl ?_
 refine WO_op (x := qi (a1.Name.length : Int)) rfl rfl rfl ?_; simp only [putT,st,ev,gt,hp,ofV,constT,intT,lm]
 iterate 2 (refine WO_op rfl rfl rfl ?_; simp only [putT,st,ev,gt,hp,ofV,constT,intT,lm])
 refine WO_nil (W_seq (W_seq (W_region ?_)))
 iterate 2 (refine WO_op rfl rfl rfl ?_; simp only [putT,st,ev,gt,hp,ofV,constT,intT,lm])
 refine WO_nil ?_
 refine W_cond rfl (fun hc => ?_) (fun hc => ?_)
 ·
  replace H := tr hc H
  refine W_seq (W_region ?_)
  refine WO_op rfl rfl rfl ?_; simp only [putT,st,ev,gt,hp,ofV,constT,intT,lm]
  refine WO_nil ?_
  refine W_ret ?_
  obtain rfl := Option.some.inj H
  exact told3 rfl
 ·
  replace H := fl hc H
  refine W_skip ?_
  refine W_seq (W_region ?_)
  iterate 2 (refine WO_op rfl rfl rfl ?_; simp only [putT,st,ev,gt,hp,ofV,constT,intT,lm])
  refine WO_nil ?_
  refine W_ret ?_
  obtain rfl := Option.some.inj H
  exact told3 rfl
theorem laws_szToldS_ok {a1 : List Told} {a2 : Int} {r : Int} (H : laws_szToldS a1 a2 = some r) : R 110 [.c (cL enc_Told a1) none, .c (cI .i64 a2) none] = some (.c (cI .i64 r) none, []) := by
 unfold laws_szToldS at H
 refine Fz_walk 27 rfl rfl Try.func110 rfl (by kernel_rfl) rfl rfl rfl rfl ?_
 simp only [tellVs, tellV, tells, tell, st0, padT, SX.newRow, SX.newBox, List.length_cons, List.length_nil, Nat.reduceAdd, Nat.reduceSub, List.replicate, List.cons_append, List.nil_append, List.foldl_cons, List.foldl_nil]
 refine W_seq (W_region ?_)
 refine WO_op rfl rfl rfl ?_; simp only [putT,st,ev,gt,hp,ofV,constT,intT,lm]
 refine WO_nil (W_seq (W_region ?_))
 iterate 5 (refine WO_op rfl rfl rfl ?_; simp only [putT,st,ev,gt,hp,ofV,constT,intT,lm])
 refine WO_nil (W_seq (W_seq (W_region ?_)))
 iterate 2 (refine WO_op rfl rfl rfl ?_; simp only [putT,st,ev,gt,hp,ofV,constT,intT,lm])
 refine WO_nil ?_
 refine W_cond rfl (fun hc => ?_) (fun hc => ?_)
 ·
  replace H := tr hc H
  refine W_seq (W_region ?_)
  refine WO_op rfl rfl rfl ?_; simp only [putT,st,ev,gt,hp,ofV,constT,intT,lm]
  refine WO_nil ?_
  refine W_ret ?_
  obtain rfl := Option.some.inj H
  exact told3 rfl
 ·
  replace H := fl hc H
  refine W_skip ?_
  refine W_seq (W_seq (W_region ?_))
  refine WO_op rfl rfl rfl ?_; simp only [putT,st,ev,gt,hp,ofV,constT,intT,lm]
  refine WO_nil ?_
  refine W_block ?_
  obtain ⟨s8, hs8, H⟩ := bnd H
  refine loop_rule (ls := []) 0 (fun t7 : Int => ⟨[.no, qi t7], [], []⟩) (fun t => s8 = .inr t) ⟨[.c (cL enc_Told a1), qi (IntKind.i64.wrap (a2 - (a1.length : Int))), .no, .no, .no, qi 0], [], []⟩ (by repeat (first | exact mono_told | refine mono_seq ?_ | refine mono_blk ?_ | refine mono_lp ?_)) (le_intro [] [] (by decide) (by decide) rfl (by simp [leS, leT, leA, gt]) (by simp [leB, leT, leA]) (by simp [leR])) ?_ ?_
  ·
   rintro t7 rfl
   refine W_seq (W_region ?_)
   iterate 2 (refine WO_op rfl rfl rfl ?_; simp only [putT,st,ev,gt,hp,ofV,constT,intT,lm])
   refine WO_nil ?_
   refine W_ret ?_
   obtain rfl := Option.some.inj H
   exact told3 rfl
  ·
   intro V1 hV1 hW1 hX1
   refine (laws_szToldS.l0.partial_correctness a1 (fun v3 v4 s' => s' = s8 → (V1 ⟨[.c (cL enc_Told a1), qi v3, .no, .no, .no, qi v4], [], []⟩)) ?_ _ _ _ hs8 rfl)
   intro l0 IH1 v3 v4 s' H1 e
   subst e
   refine hV1 _ ?_
   refine W_seq (W_seq (W_region ?_))
   iterate 4 (refine WO_op rfl rfl rfl ?_; simp only [putT,st,ev,gt,hp,ofV,constT,intT,lm])
   refine WO_nil ?_
   refine W_cond rfl (fun hc => ?_) (fun hc => ?_)
   ·
    replace H1 := tr hc H1
    refine W_skip ?_
    refine W_seq ?_
    refine W_block ?_
    refine W_seq (W_region ?_)
    iterate 2 (refine WO_op rfl rfl rfl ?_; simp only [putT,st,ev,gt,hp,ofV,constT,intT,lm])
    obtain ⟨x5, hx5, H1⟩ := bnd H1
    refine WO_op rfl rfl (ev_ix (en := enc_Told) hx5 rfl rfl rfl rfl rfl rfl rfl) ?_; simp only [putT,st,ev,gt,hp,ofV,constT,intT,lm]
    refine WO_op (x := .ag [qi x5.Time, qs x5.Name, qi x5.N]) rfl rfl rfl ?_
    refine WO_op rfl rfl rfl ?_; simp only [putT,st,ev,gt,hp,ofV,constT,intT,lm]
    obtain ⟨x6, hx6, H1⟩ := bnd H1
    refine WO_op (x := qi x6) (σ' := ⟨[], [], []⟩) rfl rfl (ev_callG (al := [.ag [qi x5.Time, qs x5.Name, qi x5.N], qi v3]) (ls := []) (laws_szTold_ok hx6) rfl rfl rfl rfl rfl (by decide) rfl rfl rfl rfl rfl rfl) ?_; simp only [putT,st,ev,gt,hp,ofV,constT,intT,lm]
    refine WO_op rfl rfl rfl ?_; simp only [putT,st,ev,gt,hp,ofV,constT,intT,lm]
    refine WO_nil (W_seq (W_region ?_))
    iterate 2 (refine WO_op rfl rfl rfl ?_; simp only [putT,st,ev,gt,hp,ofV,constT,intT,lm])
    refine WO_nil ?_
    refine W_cond rfl (fun hc => ?_) (fun hc => ?_)
    ·
     replace H1 := tr hc H1
     refine W_seq (W_region ?_)
     refine WO_op rfl rfl rfl ?_; simp only [putT,st,ev,gt,hp,ofV,constT,intT,lm]
     refine WO_nil ?_
     refine W_ret ?_
     obtain rfl := Option.some.inj H1
     obtain rfl := Option.some.inj H
     exact told3 rfl
    ·
     replace H1 := fl hc H1
     refine W_skip ?_
     refine W_region ?_
     iterate 3 (refine WO_op rfl rfl rfl ?_; simp only [putT,st,ev,gt,hp,ofV,constT,intT,lm])
     refine WO_nil ?_
     exact hW1 _ _ ((IH1 _ _ _ H1 rfl)) (le_intro [] [] (by decide) (by decide) rfl (by simp [leS, leT, leA, gt]) (by simp [leB, leT, leA]) (by simp [leR]))
   ·
    replace H1 := fl hc H1
    refine W_exit ?_
    obtain rfl := Option.some.inj H1
    exact hX1 v3 _ rfl (le_intro [] [] (by decide) (by decide) rfl (by simp [leS, leT, leA, gt]) (by simp [leB, leT, leA]) (by simp [leR]))
theorem laws_szWorld_ok {a1 : World} {a2 : Int} {r : Int} (H : laws_szWorld a1 a2 = some r) : R 49 [.ag [(cL enc_Item a1.Store.Items, none), (cI .i64 a1.Store.Next, none), (cL enc_Scale a1.Scales, none), (cI .i64 a1.Time, none), (cL enc_Told a1.Log, none)], .c (cI .i64 a2) none] = some (.c (cI .i64 r) none, []) := by
 unfold laws_szWorld at H
 refine Fz_walk 24 rfl rfl Try.func49 rfl (by kernel_rfl) rfl rfl rfl rfl ?_
 simp only [tellVs, tellV, tells, tell, st0, padT, SX.newRow, SX.newBox, List.length_cons, List.length_nil, Nat.reduceAdd, Nat.reduceSub, List.replicate, List.cons_append, List.nil_append, List.foldl_cons, List.foldl_nil]
 refine W_seq (W_region ?_)
 refine WO_op (x := .bp 0 0) (σ' := ⟨[], [some [.c (cL enc_Item a1.Store.Items), qi a1.Store.Next, .c (cL enc_Scale a1.Scales), qi a1.Time, .c (cL enc_Told a1.Log)]], []⟩) rfl rfl rfl ?_
 refine WO_op rfl rfl rfl ?_; simp only [putT,st,ev,gt,hp,ofV,constT,intT,lm]
 refine WO_nil (W_seq (W_region ?_))
 refine WO_op (x := .bp 0 0) rfl rfl rfl ?_
 refine WO_op (x := .ag [.c (cL enc_Item a1.Store.Items), qi a1.Store.Next]) rfl rfl rfl ?_
 refine WO_op rfl rfl rfl ?_; simp only [putT,st,ev,gt,hp,ofV,constT,intT,lm]
 obtain ⟨x3, hx3, H⟩ := bnd H
 refine WO_op (x := qi x3) (σ' := ⟨[], [some [.c (cL enc_Item a1.Store.Items), qi a1.Store.Next, .c (cL enc_Scale a1.Scales), qi a1.Time, .c (cL enc_Told a1.Log)]], []⟩) rfl rfl (ev_callG (al := [.ag [.c (cL enc_Item a1.Store.Items), qi a1.Store.Next], qi a2]) (ls := []) (laws_szStore_ok hx3) rfl rfl rfl rfl rfl (by decide) rfl rfl rfl rfl rfl rfl) ?_; simp only [putT,st,ev,gt,hp,ofV,constT,intT,lm]
 refine WO_op rfl rfl rfl ?_; simp only [putT,st,ev,gt,hp,ofV,constT,intT,lm]
 refine WO_nil (W_seq (W_seq (W_region ?_)))
 iterate 2 (refine WO_op rfl rfl rfl ?_; simp only [putT,st,ev,gt,hp,ofV,constT,intT,lm])
 refine WO_nil ?_
 refine W_cond rfl (fun hc => ?_) (fun hc => ?_)
 ·
  replace H := tr hc H
  refine W_seq (W_region ?_)
  refine WO_op rfl rfl rfl ?_; simp only [putT,st,ev,gt,hp,ofV,constT,intT,lm]
  refine WO_nil ?_
  refine W_ret ?_
  obtain rfl := Option.some.inj H
  exact told3 rfl
 ·
  replace H := fl hc H
  refine W_skip ?_
  refine W_seq (W_region ?_)
  refine WO_op (x := .bp 0 2) rfl rfl rfl ?_
  refine WO_op (x := .c (cL enc_Scale a1.Scales)) rfl rfl rfl ?_
  refine WO_op rfl rfl rfl ?_; simp only [putT,st,ev,gt,hp,ofV,constT,intT,lm]
  obtain ⟨x4, hx4, H⟩ := bnd H
  refine WO_op (x := qi x4) (σ' := ⟨[], [some [.c (cL enc_Item a1.Store.Items), qi a1.Store.Next, .c (cL enc_Scale a1.Scales), qi a1.Time, .c (cL enc_Told a1.Log)]], []⟩) rfl rfl (ev_callG (al := [.c (cL enc_Scale a1.Scales), qi x3]) (ls := []) (laws_szScaleS_ok hx4) rfl rfl rfl rfl rfl (by decide) rfl rfl rfl rfl rfl rfl) ?_; simp only [putT,st,ev,gt,hp,ofV,constT,intT,lm]
  refine WO_op rfl rfl rfl ?_; simp only [putT,st,ev,gt,hp,ofV,constT,intT,lm]
  refine WO_nil (W_seq (W_seq (W_region ?_)))
  iterate 2 (refine WO_op rfl rfl rfl ?_; simp only [putT,st,ev,gt,hp,ofV,constT,intT,lm])
  refine WO_nil ?_
  refine W_cond rfl (fun hc => ?_) (fun hc => ?_)
  ·
   replace H := tr hc H
   refine W_seq (W_region ?_)
   refine WO_op rfl rfl rfl ?_; simp only [putT,st,ev,gt,hp,ofV,constT,intT,lm]
   refine WO_nil ?_
   refine W_ret ?_
   obtain rfl := Option.some.inj H
   exact told3 rfl
  ·
   replace H := fl hc H
   refine W_skip ?_
   refine W_seq (W_region ?_)
   refine WO_op (x := .bp 0 4) rfl rfl rfl ?_
   refine WO_op (x := .c (cL enc_Told a1.Log)) rfl rfl rfl ?_
   refine WO_op rfl rfl rfl ?_; simp only [putT,st,ev,gt,hp,ofV,constT,intT,lm]
   obtain ⟨x5, hx5, H⟩ := bnd H
   refine WO_op (x := qi x5) (σ' := ⟨[], [some [.c (cL enc_Item a1.Store.Items), qi a1.Store.Next, .c (cL enc_Scale a1.Scales), qi a1.Time, .c (cL enc_Told a1.Log)]], []⟩) rfl rfl (ev_callG (al := [.c (cL enc_Told a1.Log), qi x4]) (ls := []) (laws_szToldS_ok hx5) rfl rfl rfl rfl rfl (by decide) rfl rfl rfl rfl rfl rfl) ?_; simp only [putT,st,ev,gt,hp,ofV,constT,intT,lm]
   refine WO_op rfl rfl rfl ?_; simp only [putT,st,ev,gt,hp,ofV,constT,intT,lm]
   refine WO_nil (W_seq (W_seq (W_region ?_)))
   iterate 2 (refine WO_op rfl rfl rfl ?_; simp only [putT,st,ev,gt,hp,ofV,constT,intT,lm])
   refine WO_nil ?_
   refine W_cond rfl (fun hc => ?_) (fun hc => ?_)
   ·
    replace H := tr hc H
    refine W_seq (W_region ?_)
    refine WO_op rfl rfl rfl ?_; simp only [putT,st,ev,gt,hp,ofV,constT,intT,lm]
    refine WO_nil ?_
    refine W_ret ?_
    obtain rfl := Option.some.inj H
    exact told3 rfl
   ·
    replace H := fl hc H
    refine W_skip ?_
    refine W_seq (W_region ?_)
    iterate 2 (refine WO_op rfl rfl rfl ?_; simp only [putT,st,ev,gt,hp,ofV,constT,intT,lm])
    refine WO_nil ?_
    refine W_ret ?_
    obtain rfl := Option.some.inj H
    exact told3 rfl
theorem laws_toMetric_ok {a1 : Metric} {r : Metric} (H : laws_toMetric a1 = some r) : R 126 [.ag [(cS a1.Name, none), (cI .i64 a1.Kind, none), (cI .i64 a1.Goal, none)]] = some (.ag [(cS r.Name, none), (cI .i64 r.Kind, none), (cI .i64 r.Goal, none)], []) := by
 unfold laws_toMetric at H
 refine Fz_walk 14 rfl rfl Try.func126 rfl (by kernel_rfl) rfl rfl rfl rfl ?_
 simp only [tellVs, tellV, tells, tell, st0, padT, SX.newRow, SX.newBox, List.length_cons, List.length_nil, Nat.reduceAdd, Nat.reduceSub, List.replicate, List.cons_append, List.nil_append, List.foldl_cons, List.foldl_nil]
 refine W_seq (W_region ?_)
 refine WO_op (x := .bp 0 0) (σ' := ⟨[], [some [qs a1.Name, qi a1.Kind, qi a1.Goal]], []⟩) rfl rfl rfl ?_
 refine WO_op (x := .bp 1 0) (σ' := ⟨[], [some [qs a1.Name, qi a1.Kind, qi a1.Goal], some [qs [], qi 0, qi 0]], []⟩) rfl rfl rfl ?_; simp only [putT,st,ev,gt,hp,ofV,constT,intT,lm]
 refine WO_nil (W_seq (W_region ?_))
 refine WO_op (x := .bp 2 0) (σ' := ⟨[], [some [qs a1.Name, qi a1.Kind, qi a1.Goal], some [qs [], qi 0, qi 0], some [qs [], qi 0, qi 0]], []⟩) rfl rfl rfl ?_; simp only [putT,st,ev,gt,hp,ofV,constT,intT,lm]
 refine WO_nil (W_seq (W_region ?_))
 refine WO_op (x := .bp 0 0) rfl rfl rfl ?_
 refine WO_op (x := qs a1.Name) rfl rfl rfl ?_
 refine WO_op (x := .bp 2 0) rfl rfl rfl ?_
 refine WO_op (x := .no) (σ' := ⟨[], [some [qs a1.Name, qi a1.Kind, qi a1.Goal], some [qs [], qi 0, qi 0], some [qs a1.Name, qi 0, qi 0]], []⟩) rfl rfl rfl ?_; simp only [putT,st,ev,gt,hp,ofV,constT,intT,lm]
 refine WO_nil (W_seq (W_region ?_))
 refine WO_op (x := .bp 0 1) rfl rfl rfl ?_
 refine WO_op (x := qi a1.Kind) rfl rfl rfl ?_
 refine WO_op (x := .bp 2 1) rfl rfl rfl ?_
 refine WO_op (x := .no) (σ' := ⟨[], [some [qs a1.Name, qi a1.Kind, qi a1.Goal], some [qs [], qi 0, qi 0], some [qs a1.Name, qi a1.Kind, qi 0]], []⟩) rfl rfl rfl ?_; simp only [putT,st,ev,gt,hp,ofV,constT,intT,lm]
 refine WO_nil (W_seq (W_region ?_))
 refine WO_op (x := .bp 0 2) rfl rfl rfl ?_
 refine WO_op (x := qi a1.Goal) rfl rfl rfl ?_
 refine WO_op (x := .bp 2 2) rfl rfl rfl ?_
 refine WO_op (x := .no) (σ' := ⟨[], [some [qs a1.Name, qi a1.Kind, qi a1.Goal], some [qs [], qi 0, qi 0], some [qs a1.Name, qi a1.Kind, qi a1.Goal]], []⟩) rfl rfl rfl ?_; simp only [putT,st,ev,gt,hp,ofV,constT,intT,lm]
 refine WO_nil (W_seq (W_region ?_))
 refine WO_op (x := .ag [qs a1.Name, qi a1.Kind, qi a1.Goal]) rfl rfl rfl ?_
 refine WO_op (x := .no) (σ' := ⟨[], [some [qs a1.Name, qi a1.Kind, qi a1.Goal], some [qs a1.Name, qi a1.Kind, qi a1.Goal], some [qs a1.Name, qi a1.Kind, qi a1.Goal]], []⟩) rfl rfl rfl ?_; simp only [putT,st,ev,gt,hp,ofV,constT,intT,lm]
 refine WO_nil ?_
 refine W_ret ?_
 obtain rfl := Option.some.inj H
 exact told3 rfl
theorem laws_toMetricS_ok {a1 : List Metric} {r : List Metric} (H : laws_toMetricS a1 = some r) : R 62 [.c (cL enc_Metric a1) none] = some (.c (cL enc_Metric r) (some 3), []) := by
 unfold laws_toMetricS at H
 refine Fz_walk 23 rfl rfl Try.func62 rfl (by kernel_rfl) rfl rfl rfl rfl ?_
 simp only [tellVs, tellV, tells, tell, st0, padT, SX.newRow, SX.newBox, List.length_cons, List.length_nil, Nat.reduceAdd, Nat.reduceSub, List.replicate, List.cons_append, List.nil_append, List.foldl_cons, List.foldl_nil]
 refine W_seq (W_region ?_)
 refine WO_op rfl rfl rfl ?_; simp only [putT,st,ev,gt,hp,ofV,constT,intT,lm]
 refine WO_nil (W_seq (W_region ?_))
 iterate 2 (refine WO_op rfl rfl rfl ?_; simp only [putT,st,ev,gt,hp,ofV,constT,intT,lm])
 obtain ⟨m2, hm2, H⟩ := bnd H
 refine WO_op (x := .row 0) (σ' := ⟨[], [], [rr 3 enc_Metric m2 true]⟩) rfl rfl (ev_mk (en := enc_Metric) hm2 rfl rfl rfl rfl rfl rfl rfl rfl rfl rfl rfl rfl rfl rfl) ?_; simp only [putT,st,ev,gt,hp,ofV,constT,intT,lm]
 refine WO_op rfl rfl rfl ?_; simp only [putT,st,ev,gt,hp,ofV,constT,intT,lm]
 refine WO_nil (W_seq (W_seq (W_region ?_)))
 refine WO_op rfl rfl rfl ?_; simp only [putT,st,ev,gt,hp,ofV,constT,intT,lm]
 refine WO_nil ?_
 refine W_block ?_
 obtain ⟨t9, ht9, H⟩ := bnd H
 refine loop_rule (ls := []) 0 (fun t9 : List Metric => ⟨[.no, .no, .no, .row 0], [], [rr 3 enc_Metric t9 true]⟩) (fun t => t9 = t) ⟨[.c (cL enc_Metric a1), .no, .no, .row 0, qi 0], [], [rr 3 enc_Metric m2 true]⟩ (by repeat (first | exact mono_told | refine mono_seq ?_ | refine mono_blk ?_ | refine mono_lp ?_)) (le_intro [] [0] (by decide) (by decide) rfl (by simp [leS, leT, leA, gt]) (by simp [leB, leT, leA]) (by simp [leR])) ?_ ?_
 ·
  rintro t1 rfl
  refine W_seq (W_region ?_)
  iterate 2 (refine WO_op rfl rfl rfl ?_; simp only [putT,st,ev,gt,hp,ofV,constT,intT,lm])
  refine WO_nil ?_
  refine W_ret ?_
  obtain rfl := Option.some.inj H
  exact told5 rfl rfl rfl rfl (fitAs_nz rfl) rfl
 ·
  intro V1 hV1 hW1 hX1
  refine (laws_toMetricS.l0.partial_correctness a1 (fun v3 v4 s' => s' = t9 → (V1 ⟨[.c (cL enc_Metric a1), .no, .no, .row 0, qi v3], [], [rr 3 enc_Metric v4 true]⟩)) ?_ _ _ _ ht9 rfl)
  intro l0 IH1 v3 v4 s' H1 e
  subst e
  refine hV1 _ ?_
  refine W_seq (W_seq (W_region ?_))
  iterate 4 (refine WO_op rfl rfl rfl ?_; simp only [putT,st,ev,gt,hp,ofV,constT,intT,lm])
  refine WO_nil ?_
  refine W_cond rfl (fun hc => ?_) (fun hc => ?_)
  ·
   replace H1 := tr hc H1
   refine W_skip ?_
   refine W_seq ?_
   refine W_block ?_
   refine W_region ?_
   iterate 4 (refine WO_op rfl rfl rfl ?_; simp only [putT,st,ev,gt,hp,ofV,constT,intT,lm])
   obtain ⟨x5, hx5, H1⟩ := bnd H1
   refine WO_op rfl rfl (ev_ix (en := enc_Metric) hx5 rfl rfl rfl rfl rfl rfl rfl) ?_; simp only [putT,st,ev,gt,hp,ofV,constT,intT,lm]
   refine WO_op (x := .ag [qs x5.Name, qi x5.Kind, qi x5.Goal]) rfl rfl rfl ?_; simp only [putT,st,ev,gt,hp,ofV,constT,intT,lm]
   obtain ⟨x6, hx6, H1⟩ := bnd H1
   refine WO_op (x := .ag [qs x6.Name, qi x6.Kind, qi x6.Goal]) (σ' := ⟨[], [], [rr 3 enc_Metric v4 true]⟩) rfl rfl (ev_callG (al := [.ag [qs x5.Name, qi x5.Kind, qi x5.Goal]]) (ls := []) (laws_toMetric_ok hx6) rfl rfl rfl rfl rfl (by decide) rfl rfl rfl rfl rfl rfl) ?_; simp only [putT,st,ev,gt,hp,ofV,constT,intT,lm]
   obtain ⟨x7, hx7, H1⟩ := bnd H1
   refine WO_op rfl rfl (ev_ixR (en := enc_Metric) hx7 rfl rfl rfl rfl rfl rfl rfl) ?_; simp only [putT,st,ev,gt,hp,ofV,constT,intT,lm]
   obtain ⟨m8, hm8, H1⟩ := bnd H1
   refine WO_op (x := .no) (σ' := ⟨[], [], [rr 3 enc_Metric m8 true]⟩) rfl rfl (ev_stR (en := enc_Metric) hm8 hx7 rfl rfl rfl rfl rfl rfl rfl rfl) ?_; simp only [putT,st,ev,gt,hp,ofV,constT,intT,lm]
   refine WO_nil (W_region ?_)
   iterate 3 (refine WO_op rfl rfl rfl ?_; simp only [putT,st,ev,gt,hp,ofV,constT,intT,lm])
   refine WO_nil ?_
   exact hW1 _ _ ((IH1 _ _ _ H1 rfl)) (le_intro [] [0] (by decide) (by decide) rfl (by simp [leS, leT, leA, gt]) (by simp [leB, leT, leA]) (by simp [leR]))
  ·
   replace H1 := fl hc H1
   refine W_exit ?_
   obtain rfl := Option.some.inj H1
   exact hX1 v4 _ rfl (le_intro [] [0] (by decide) (by decide) rfl (by simp [leS, leT, leA, gt]) (by simp [leB, leT, leA]) (by simp [leR]))
theorem laws_toPace_ok {a1 : Pace} {r : Pace} (H : laws_toPace a1 = some r) : R 63 [.ag [(cI .i64 a1.Up, none), (cI .i64 a1.Down, none), (cI .i64 a1.UpSpan, none), (cI .i64 a1.DownSpan, none)]] = some (.ag [(cI .i64 r.Up, none), (cI .i64 r.Down, none), (cI .i64 r.UpSpan, none), (cI .i64 r.DownSpan, none)], []) := by
 unfold laws_toPace at H
 refine Fz_walk 17 rfl rfl Try.func63 rfl (by kernel_rfl) rfl rfl rfl rfl ?_
 simp only [tellVs, tellV, tells, tell, st0, padT, SX.newRow, SX.newBox, List.length_cons, List.length_nil, Nat.reduceAdd, Nat.reduceSub, List.replicate, List.cons_append, List.nil_append, List.foldl_cons, List.foldl_nil]
 refine W_seq (W_region ?_)
 refine WO_op (x := .bp 0 0) (σ' := ⟨[], [some [qi a1.Up, qi a1.Down, qi a1.UpSpan, qi a1.DownSpan]], []⟩) rfl rfl rfl ?_
 refine WO_op (x := .bp 1 0) (σ' := ⟨[], [some [qi a1.Up, qi a1.Down, qi a1.UpSpan, qi a1.DownSpan], some [qi 0, qi 0, qi 0, qi 0]], []⟩) rfl rfl rfl ?_; simp only [putT,st,ev,gt,hp,ofV,constT,intT,lm]
 refine WO_nil (W_seq (W_region ?_))
 refine WO_op (x := .bp 2 0) (σ' := ⟨[], [some [qi a1.Up, qi a1.Down, qi a1.UpSpan, qi a1.DownSpan], some [qi 0, qi 0, qi 0, qi 0], some [qi 0, qi 0, qi 0, qi 0]], []⟩) rfl rfl rfl ?_; simp only [putT,st,ev,gt,hp,ofV,constT,intT,lm]
 refine WO_nil (W_seq (W_region ?_))
 refine WO_op (x := .bp 0 0) rfl rfl rfl ?_
 refine WO_op (x := qi a1.Up) rfl rfl rfl ?_
 refine WO_op (x := .bp 2 0) rfl rfl rfl ?_
 refine WO_op (x := .no) (σ' := ⟨[], [some [qi a1.Up, qi a1.Down, qi a1.UpSpan, qi a1.DownSpan], some [qi 0, qi 0, qi 0, qi 0], some [qi a1.Up, qi 0, qi 0, qi 0]], []⟩) rfl rfl rfl ?_; simp only [putT,st,ev,gt,hp,ofV,constT,intT,lm]
 refine WO_nil (W_seq (W_region ?_))
 refine WO_op (x := .bp 0 1) rfl rfl rfl ?_
 refine WO_op (x := qi a1.Down) rfl rfl rfl ?_
 refine WO_op (x := .bp 2 1) rfl rfl rfl ?_
 refine WO_op (x := .no) (σ' := ⟨[], [some [qi a1.Up, qi a1.Down, qi a1.UpSpan, qi a1.DownSpan], some [qi 0, qi 0, qi 0, qi 0], some [qi a1.Up, qi a1.Down, qi 0, qi 0]], []⟩) rfl rfl rfl ?_; simp only [putT,st,ev,gt,hp,ofV,constT,intT,lm]
 refine WO_nil (W_seq (W_region ?_))
 refine WO_op (x := .bp 0 2) rfl rfl rfl ?_
 refine WO_op (x := qi a1.UpSpan) rfl rfl rfl ?_
 refine WO_op (x := .bp 2 2) rfl rfl rfl ?_
 refine WO_op (x := .no) (σ' := ⟨[], [some [qi a1.Up, qi a1.Down, qi a1.UpSpan, qi a1.DownSpan], some [qi 0, qi 0, qi 0, qi 0], some [qi a1.Up, qi a1.Down, qi a1.UpSpan, qi 0]], []⟩) rfl rfl rfl ?_; simp only [putT,st,ev,gt,hp,ofV,constT,intT,lm]
 refine WO_nil (W_seq (W_region ?_))
 refine WO_op (x := .bp 0 3) rfl rfl rfl ?_
 refine WO_op (x := qi a1.DownSpan) rfl rfl rfl ?_
 refine WO_op (x := .bp 2 3) rfl rfl rfl ?_
 refine WO_op (x := .no) (σ' := ⟨[], [some [qi a1.Up, qi a1.Down, qi a1.UpSpan, qi a1.DownSpan], some [qi 0, qi 0, qi 0, qi 0], some [qi a1.Up, qi a1.Down, qi a1.UpSpan, qi a1.DownSpan]], []⟩) rfl rfl rfl ?_; simp only [putT,st,ev,gt,hp,ofV,constT,intT,lm]
 refine WO_nil (W_seq (W_region ?_))
 refine WO_op (x := .ag [qi a1.Up, qi a1.Down, qi a1.UpSpan, qi a1.DownSpan]) rfl rfl rfl ?_
 refine WO_op (x := .no) (σ' := ⟨[], [some [qi a1.Up, qi a1.Down, qi a1.UpSpan, qi a1.DownSpan], some [qi a1.Up, qi a1.Down, qi a1.UpSpan, qi a1.DownSpan], some [qi a1.Up, qi a1.Down, qi a1.UpSpan, qi a1.DownSpan]], []⟩) rfl rfl rfl ?_; simp only [putT,st,ev,gt,hp,ofV,constT,intT,lm]
 refine WO_nil ?_
 refine W_ret ?_
 obtain rfl := Option.some.inj H
 exact told3 rfl
theorem laws_toNote_ok {a1 : Note} {r : Note} (H : laws_toNote a1 = some r) : R 127 [.ag [(cS a1.Key, none), (cS a1.Text, none)]] = some (.ag [(cS r.Key, none), (cS r.Text, none)], []) := by
 unfold laws_toNote at H
 refine Fz_walk 11 rfl rfl Try.func127 rfl (by kernel_rfl) rfl rfl rfl rfl ?_
 simp only [tellVs, tellV, tells, tell, st0, padT, SX.newRow, SX.newBox, List.length_cons, List.length_nil, Nat.reduceAdd, Nat.reduceSub, List.replicate, List.cons_append, List.nil_append, List.foldl_cons, List.foldl_nil]
 refine W_seq (W_region ?_)
 refine WO_op (x := .bp 0 0) (σ' := ⟨[], [some [qs a1.Key, qs a1.Text]], []⟩) rfl rfl rfl ?_
 refine WO_op (x := .bp 1 0) (σ' := ⟨[], [some [qs a1.Key, qs a1.Text], some [qs [], qs []]], []⟩) rfl rfl rfl ?_; simp only [putT,st,ev,gt,hp,ofV,constT,intT,lm]
 refine WO_nil (W_seq (W_region ?_))
 refine WO_op (x := .bp 2 0) (σ' := ⟨[], [some [qs a1.Key, qs a1.Text], some [qs [], qs []], some [qs [], qs []]], []⟩) rfl rfl rfl ?_; simp only [putT,st,ev,gt,hp,ofV,constT,intT,lm]
 refine WO_nil (W_seq (W_region ?_))
 refine WO_op (x := .bp 0 0) rfl rfl rfl ?_
 refine WO_op (x := qs a1.Key) rfl rfl rfl ?_
 refine WO_op (x := .bp 2 0) rfl rfl rfl ?_
 refine WO_op (x := .no) (σ' := ⟨[], [some [qs a1.Key, qs a1.Text], some [qs [], qs []], some [qs a1.Key, qs []]], []⟩) rfl rfl rfl ?_; simp only [putT,st,ev,gt,hp,ofV,constT,intT,lm]
 refine WO_nil (W_seq (W_region ?_))
 refine WO_op (x := .bp 0 1) rfl rfl rfl ?_
 refine WO_op (x := qs a1.Text) rfl rfl rfl ?_
 refine WO_op (x := .bp 2 1) rfl rfl rfl ?_
 refine WO_op (x := .no) (σ' := ⟨[], [some [qs a1.Key, qs a1.Text], some [qs [], qs []], some [qs a1.Key, qs a1.Text]], []⟩) rfl rfl rfl ?_; simp only [putT,st,ev,gt,hp,ofV,constT,intT,lm]
 refine WO_nil (W_seq (W_region ?_))
 refine WO_op (x := .ag [qs a1.Key, qs a1.Text]) rfl rfl rfl ?_
 refine WO_op (x := .no) (σ' := ⟨[], [some [qs a1.Key, qs a1.Text], some [qs a1.Key, qs a1.Text], some [qs a1.Key, qs a1.Text]], []⟩) rfl rfl rfl ?_; simp only [putT,st,ev,gt,hp,ofV,constT,intT,lm]
 refine WO_nil ?_
 refine W_ret ?_
 obtain rfl := Option.some.inj H
 exact told3 rfl
theorem laws_toNoteS_ok {a1 : List Note} {r : List Note} (H : laws_toNoteS a1 = some r) : R 64 [.c (cL enc_Note a1) none] = some (.c (cL enc_Note r) (some 2), []) := by
 unfold laws_toNoteS at H
 refine Fz_walk 23 rfl rfl Try.func64 rfl (by kernel_rfl) rfl rfl rfl rfl ?_
 simp only [tellVs, tellV, tells, tell, st0, padT, SX.newRow, SX.newBox, List.length_cons, List.length_nil, Nat.reduceAdd, Nat.reduceSub, List.replicate, List.cons_append, List.nil_append, List.foldl_cons, List.foldl_nil]
 refine W_seq (W_region ?_)
 refine WO_op rfl rfl rfl ?_; simp only [putT,st,ev,gt,hp,ofV,constT,intT,lm]
 refine WO_nil (W_seq (W_region ?_))
 iterate 2 (refine WO_op rfl rfl rfl ?_; simp only [putT,st,ev,gt,hp,ofV,constT,intT,lm])
 obtain ⟨m2, hm2, H⟩ := bnd H
 refine WO_op (x := .row 0) (σ' := ⟨[], [], [rr 2 enc_Note m2 true]⟩) rfl rfl (ev_mk (en := enc_Note) hm2 rfl rfl rfl rfl rfl rfl rfl rfl rfl rfl rfl rfl rfl rfl) ?_; simp only [putT,st,ev,gt,hp,ofV,constT,intT,lm]
 refine WO_op rfl rfl rfl ?_; simp only [putT,st,ev,gt,hp,ofV,constT,intT,lm]
 refine WO_nil (W_seq (W_seq (W_region ?_)))
 refine WO_op rfl rfl rfl ?_; simp only [putT,st,ev,gt,hp,ofV,constT,intT,lm]
 refine WO_nil ?_
 refine W_block ?_
 obtain ⟨t9, ht9, H⟩ := bnd H
 refine loop_rule (ls := []) 0 (fun t9 : List Note => ⟨[.no, .no, .no, .row 0], [], [rr 2 enc_Note t9 true]⟩) (fun t => t9 = t) ⟨[.c (cL enc_Note a1), .no, .no, .row 0, qi 0], [], [rr 2 enc_Note m2 true]⟩ (by repeat (first | exact mono_told | refine mono_seq ?_ | refine mono_blk ?_ | refine mono_lp ?_)) (le_intro [] [0] (by decide) (by decide) rfl (by simp [leS, leT, leA, gt]) (by simp [leB, leT, leA]) (by simp [leR])) ?_ ?_
 ·
  rintro t1 rfl
  refine W_seq (W_region ?_)
  iterate 2 (refine WO_op rfl rfl rfl ?_; simp only [putT,st,ev,gt,hp,ofV,constT,intT,lm])
  refine WO_nil ?_
  refine W_ret ?_
  obtain rfl := Option.some.inj H
  exact told5 rfl rfl rfl rfl (fitAs_nz rfl) rfl
 ·
  intro V1 hV1 hW1 hX1
  refine (laws_toNoteS.l0.partial_correctness a1 (fun v3 v4 s' => s' = t9 → (V1 ⟨[.c (cL enc_Note a1), .no, .no, .row 0, qi v3], [], [rr 2 enc_Note v4 true]⟩)) ?_ _ _ _ ht9 rfl)
  intro l0 IH1 v3 v4 s' H1 e
  subst e
  refine hV1 _ ?_
  refine W_seq (W_seq (W_region ?_))
  iterate 4 (refine WO_op rfl rfl rfl ?_; simp only [putT,st,ev,gt,hp,ofV,constT,intT,lm])
  refine WO_nil ?_
  refine W_cond rfl (fun hc => ?_) (fun hc => ?_)
  ·
   replace H1 := tr hc H1
   refine W_skip ?_
   refine W_seq ?_
   refine W_block ?_
   refine W_region ?_
   iterate 4 (refine WO_op rfl rfl rfl ?_; simp only [putT,st,ev,gt,hp,ofV,constT,intT,lm])
   obtain ⟨x5, hx5, H1⟩ := bnd H1
   refine WO_op rfl rfl (ev_ix (en := enc_Note) hx5 rfl rfl rfl rfl rfl rfl rfl) ?_; simp only [putT,st,ev,gt,hp,ofV,constT,intT,lm]
   refine WO_op (x := .ag [qs x5.Key, qs x5.Text]) rfl rfl rfl ?_; simp only [putT,st,ev,gt,hp,ofV,constT,intT,lm]
   obtain ⟨x6, hx6, H1⟩ := bnd H1
   refine WO_op (x := .ag [qs x6.Key, qs x6.Text]) (σ' := ⟨[], [], [rr 2 enc_Note v4 true]⟩) rfl rfl (ev_callG (al := [.ag [qs x5.Key, qs x5.Text]]) (ls := []) (laws_toNote_ok hx6) rfl rfl rfl rfl rfl (by decide) rfl rfl rfl rfl rfl rfl) ?_; simp only [putT,st,ev,gt,hp,ofV,constT,intT,lm]
   obtain ⟨x7, hx7, H1⟩ := bnd H1
   refine WO_op rfl rfl (ev_ixR (en := enc_Note) hx7 rfl rfl rfl rfl rfl rfl rfl) ?_; simp only [putT,st,ev,gt,hp,ofV,constT,intT,lm]
   obtain ⟨m8, hm8, H1⟩ := bnd H1
   refine WO_op (x := .no) (σ' := ⟨[], [], [rr 2 enc_Note m8 true]⟩) rfl rfl (ev_stR (en := enc_Note) hm8 hx7 rfl rfl rfl rfl rfl rfl rfl rfl) ?_; simp only [putT,st,ev,gt,hp,ofV,constT,intT,lm]
   refine WO_nil (W_region ?_)
   iterate 3 (refine WO_op rfl rfl rfl ?_; simp only [putT,st,ev,gt,hp,ofV,constT,intT,lm])
   refine WO_nil ?_
   exact hW1 _ _ ((IH1 _ _ _ H1 rfl)) (le_intro [] [0] (by decide) (by decide) rfl (by simp [leS, leT, leA, gt]) (by simp [leB, leT, leA]) (by simp [leR]))
  ·
   replace H1 := fl hc H1
   refine W_exit ?_
   obtain rfl := Option.some.inj H1
   exact hX1 v4 _ rfl (le_intro [] [0] (by decide) (by decide) rfl (by simp [leS, leT, leA, gt]) (by simp [leB, leT, leA]) (by simp [leR]))
theorem laws_toOrder_ok {a1 : Order} {r : Order} (H : laws_toOrder a1 = some r) : R 15 [.ag [(cS a1.Name, none), (cS a1.Target, none), (cI .i64 a1.Low, none), (cI .i64 a1.High, none), (cL enc_Metric a1.Metrics, none), (cI .i64 a1.Pace.Up, none), (cI .i64 a1.Pace.Down, none), (cI .i64 a1.Pace.UpSpan, none), (cI .i64 a1.Pace.DownSpan, none), (cL enc_Note a1.Notes, none)]] = some (.ag [(cS r.Name, none), (cS r.Target, none), (cI .i64 r.Low, none), (cI .i64 r.High, none), (cL enc_Metric r.Metrics, some 3), (cI .i64 r.Pace.Up, none), (cI .i64 r.Pace.Down, none), (cI .i64 r.Pace.UpSpan, none), (cI .i64 r.Pace.DownSpan, none), (cL enc_Note r.Notes, some 2)], []) := by
 unfold laws_toOrder at H
 refine Fz_walk 29 rfl rfl Try.func15 rfl (by kernel_rfl) rfl rfl rfl rfl ?_
 simp only [tellVs, tellV, tells, tell, st0, padT, SX.newRow, SX.newBox, List.length_cons, List.length_nil, Nat.reduceAdd, Nat.reduceSub, List.replicate, List.cons_append, List.nil_append, List.foldl_cons, List.foldl_nil]
 refine W_seq (W_region ?_)
 refine WO_op (x := .bp 0 0) (σ' := ⟨[], [some [qs a1.Name, qs a1.Target, qi a1.Low, qi a1.High, .c (cL enc_Metric a1.Metrics), qi a1.Pace.Up, qi a1.Pace.Down, qi a1.Pace.UpSpan, qi a1.Pace.DownSpan, .c (cL enc_Note a1.Notes)]], []⟩) rfl rfl rfl ?_
 refine WO_op (x := .bp 1 0) (σ' := ⟨[], [some [qs a1.Name, qs a1.Target, qi a1.Low, qi a1.High, .c (cL enc_Metric a1.Metrics), qi a1.Pace.Up, qi a1.Pace.Down, qi a1.Pace.UpSpan, qi a1.Pace.DownSpan, .c (cL enc_Note a1.Notes)], some [qs [], qs [], qi 0, qi 0, .nil, qi 0, qi 0, qi 0, qi 0, .nil]], []⟩) rfl rfl rfl ?_; simp only [putT,st,ev,gt,hp,ofV,constT,intT,lm]
 refine WO_nil (W_seq (W_region ?_))
 refine WO_op (x := .bp 2 0) (σ' := ⟨[], [some [qs a1.Name, qs a1.Target, qi a1.Low, qi a1.High, .c (cL enc_Metric a1.Metrics), qi a1.Pace.Up, qi a1.Pace.Down, qi a1.Pace.UpSpan, qi a1.Pace.DownSpan, .c (cL enc_Note a1.Notes)], some [qs [], qs [], qi 0, qi 0, .nil, qi 0, qi 0, qi 0, qi 0, .nil], some [qs [], qs [], qi 0, qi 0, .nil, qi 0, qi 0, qi 0, qi 0, .nil]], []⟩) rfl rfl rfl ?_; simp only [putT,st,ev,gt,hp,ofV,constT,intT,lm]
 refine WO_nil (W_seq (W_region ?_))
 refine WO_op (x := .bp 0 0) rfl rfl rfl ?_
 refine WO_op (x := qs a1.Name) rfl rfl rfl ?_
 refine WO_op (x := .bp 2 0) rfl rfl rfl ?_
 refine WO_op (x := .no) (σ' := ⟨[], [some [qs a1.Name, qs a1.Target, qi a1.Low, qi a1.High, .c (cL enc_Metric a1.Metrics), qi a1.Pace.Up, qi a1.Pace.Down, qi a1.Pace.UpSpan, qi a1.Pace.DownSpan, .c (cL enc_Note a1.Notes)], some [qs [], qs [], qi 0, qi 0, .nil, qi 0, qi 0, qi 0, qi 0, .nil], some [qs a1.Name, qs [], qi 0, qi 0, .nil, qi 0, qi 0, qi 0, qi 0, .nil]], []⟩) rfl rfl rfl ?_; simp only [putT,st,ev,gt,hp,ofV,constT,intT,lm]
 refine WO_nil (W_seq (W_region ?_))
 refine WO_op (x := .bp 0 1) rfl rfl rfl ?_
 refine WO_op (x := qs a1.Target) rfl rfl rfl ?_
 refine WO_op (x := .bp 2 1) rfl rfl rfl ?_
 refine WO_op (x := .no) (σ' := ⟨[], [some [qs a1.Name, qs a1.Target, qi a1.Low, qi a1.High, .c (cL enc_Metric a1.Metrics), qi a1.Pace.Up, qi a1.Pace.Down, qi a1.Pace.UpSpan, qi a1.Pace.DownSpan, .c (cL enc_Note a1.Notes)], some [qs [], qs [], qi 0, qi 0, .nil, qi 0, qi 0, qi 0, qi 0, .nil], some [qs a1.Name, qs a1.Target, qi 0, qi 0, .nil, qi 0, qi 0, qi 0, qi 0, .nil]], []⟩) rfl rfl rfl ?_; simp only [putT,st,ev,gt,hp,ofV,constT,intT,lm]
 refine WO_nil (W_seq (W_region ?_))
 refine WO_op (x := .bp 0 2) rfl rfl rfl ?_
 refine WO_op (x := qi a1.Low) rfl rfl rfl ?_
 refine WO_op (x := .bp 2 2) rfl rfl rfl ?_
 refine WO_op (x := .no) (σ' := ⟨[], [some [qs a1.Name, qs a1.Target, qi a1.Low, qi a1.High, .c (cL enc_Metric a1.Metrics), qi a1.Pace.Up, qi a1.Pace.Down, qi a1.Pace.UpSpan, qi a1.Pace.DownSpan, .c (cL enc_Note a1.Notes)], some [qs [], qs [], qi 0, qi 0, .nil, qi 0, qi 0, qi 0, qi 0, .nil], some [qs a1.Name, qs a1.Target, qi a1.Low, qi 0, .nil, qi 0, qi 0, qi 0, qi 0, .nil]], []⟩) rfl rfl rfl ?_; simp only [putT,st,ev,gt,hp,ofV,constT,intT,lm]
 refine WO_nil (W_seq (W_region ?_))
 refine WO_op (x := .bp 0 3) rfl rfl rfl ?_
 refine WO_op (x := qi a1.High) rfl rfl rfl ?_
 refine WO_op (x := .bp 2 3) rfl rfl rfl ?_
 refine WO_op (x := .no) (σ' := ⟨[], [some [qs a1.Name, qs a1.Target, qi a1.Low, qi a1.High, .c (cL enc_Metric a1.Metrics), qi a1.Pace.Up, qi a1.Pace.Down, qi a1.Pace.UpSpan, qi a1.Pace.DownSpan, .c (cL enc_Note a1.Notes)], some [qs [], qs [], qi 0, qi 0, .nil, qi 0, qi 0, qi 0, qi 0, .nil], some [qs a1.Name, qs a1.Target, qi a1.Low, qi a1.High, .nil, qi 0, qi 0, qi 0, qi 0, .nil]], []⟩) rfl rfl rfl ?_; simp only [putT,st,ev,gt,hp,ofV,constT,intT,lm]
 refine WO_nil (W_seq (W_region ?_))
 refine WO_op (x := .bp 0 4) rfl rfl rfl ?_
 refine WO_op (x := .c (cL enc_Metric a1.Metrics)) rfl rfl rfl ?_; simp only [putT,st,ev,gt,hp,ofV,constT,intT,lm]
 obtain ⟨x2, hx2, H⟩ := bnd H
 refine WO_op (x := .row 0) (σ' := ⟨[], [some [qs a1.Name, qs a1.Target, qi a1.Low, qi a1.High, .c (cL enc_Metric a1.Metrics), qi a1.Pace.Up, qi a1.Pace.Down, qi a1.Pace.UpSpan, qi a1.Pace.DownSpan, .c (cL enc_Note a1.Notes)], some [qs [], qs [], qi 0, qi 0, .nil, qi 0, qi 0, qi 0, qi 0, .nil], some [qs a1.Name, qs a1.Target, qi a1.Low, qi a1.High, .nil, qi 0, qi 0, qi 0, qi 0, .nil]], [rr 3 enc_Metric x2 true]⟩) rfl rfl (ev_callG (al := [.c (cL enc_Metric a1.Metrics)]) (ls := []) (laws_toMetricS_ok hx2) rfl rfl rfl rfl rfl (by decide) rfl rfl (by simp only [flatA, flatV, flatC, List.all_cons, List.all_nil, Option.all_some, Bool.and_self, Bool.or_true, fl_Metric]) rfl rfl rfl) ?_; simp only [putT,st,ev,gt,hp,ofV,constT,intT,lm]
 refine WO_op (x := .bp 2 4) rfl rfl rfl ?_
 refine WO_op (x := .no) (σ' := ⟨[], [some [qs a1.Name, qs a1.Target, qi a1.Low, qi a1.High, .c (cL enc_Metric a1.Metrics), qi a1.Pace.Up, qi a1.Pace.Down, qi a1.Pace.UpSpan, qi a1.Pace.DownSpan, .c (cL enc_Note a1.Notes)], some [qs [], qs [], qi 0, qi 0, .nil, qi 0, qi 0, qi 0, qi 0, .nil], some [qs a1.Name, qs a1.Target, qi a1.Low, qi a1.High, .row 0, qi 0, qi 0, qi 0, qi 0, .nil]], [rr 3 enc_Metric x2 true]⟩) rfl rfl rfl ?_; simp only [putT,st,ev,gt,hp,ofV,constT,intT,lm]
 refine WO_nil (W_seq (W_region ?_))
 refine WO_op (x := .bp 0 5) rfl rfl rfl ?_
 refine WO_op (x := .ag [qi a1.Pace.Up, qi a1.Pace.Down, qi a1.Pace.UpSpan, qi a1.Pace.DownSpan]) rfl rfl rfl ?_; simp only [putT,st,ev,gt,hp,ofV,constT,intT,lm]
 obtain ⟨x3, hx3, H⟩ := bnd H
 refine WO_op (x := .ag [qi x3.Up, qi x3.Down, qi x3.UpSpan, qi x3.DownSpan]) (σ' := ⟨[], [some [qs a1.Name, qs a1.Target, qi a1.Low, qi a1.High, .c (cL enc_Metric a1.Metrics), qi a1.Pace.Up, qi a1.Pace.Down, qi a1.Pace.UpSpan, qi a1.Pace.DownSpan, .c (cL enc_Note a1.Notes)], some [qs [], qs [], qi 0, qi 0, .nil, qi 0, qi 0, qi 0, qi 0, .nil], some [qs a1.Name, qs a1.Target, qi a1.Low, qi a1.High, .row 0, qi 0, qi 0, qi 0, qi 0, .nil]], [rr 3 enc_Metric x2 true]⟩) rfl rfl (ev_callG (al := [.ag [qi a1.Pace.Up, qi a1.Pace.Down, qi a1.Pace.UpSpan, qi a1.Pace.DownSpan]]) (ls := []) (laws_toPace_ok hx3) rfl rfl rfl rfl rfl (by decide) rfl rfl rfl rfl rfl rfl) ?_; simp only [putT,st,ev,gt,hp,ofV,constT,intT,lm]
 refine WO_op (x := .bp 2 5) rfl rfl rfl ?_
 refine WO_op (x := .no) (σ' := ⟨[], [some [qs a1.Name, qs a1.Target, qi a1.Low, qi a1.High, .c (cL enc_Metric a1.Metrics), qi a1.Pace.Up, qi a1.Pace.Down, qi a1.Pace.UpSpan, qi a1.Pace.DownSpan, .c (cL enc_Note a1.Notes)], some [qs [], qs [], qi 0, qi 0, .nil, qi 0, qi 0, qi 0, qi 0, .nil], some [qs a1.Name, qs a1.Target, qi a1.Low, qi a1.High, .row 0, qi x3.Up, qi x3.Down, qi x3.UpSpan, qi x3.DownSpan, .nil]], [rr 3 enc_Metric x2 true]⟩) rfl rfl rfl ?_; simp only [putT,st,ev,gt,hp,ofV,constT,intT,lm]
 refine WO_nil (W_seq (W_region ?_))
 refine WO_op (x := .bp 0 9) rfl rfl rfl ?_
 refine WO_op (x := .c (cL enc_Note a1.Notes)) rfl rfl rfl ?_; simp only [putT,st,ev,gt,hp,ofV,constT,intT,lm]
 obtain ⟨x4, hx4, H⟩ := bnd H
 refine WO_op (x := .row 1) (σ' := ⟨[], [some [qs a1.Name, qs a1.Target, qi a1.Low, qi a1.High, .c (cL enc_Metric a1.Metrics), qi a1.Pace.Up, qi a1.Pace.Down, qi a1.Pace.UpSpan, qi a1.Pace.DownSpan, .c (cL enc_Note a1.Notes)], some [qs [], qs [], qi 0, qi 0, .nil, qi 0, qi 0, qi 0, qi 0, .nil], some [qs a1.Name, qs a1.Target, qi a1.Low, qi a1.High, .row 0, qi x3.Up, qi x3.Down, qi x3.UpSpan, qi x3.DownSpan, .nil]], [rr 3 enc_Metric x2 true, rr 2 enc_Note x4 true]⟩) rfl rfl (ev_callG (al := [.c (cL enc_Note a1.Notes)]) (ls := []) (laws_toNoteS_ok hx4) rfl rfl rfl rfl rfl (by decide) rfl rfl (by simp only [flatA, flatV, flatC, List.all_cons, List.all_nil, Option.all_some, Bool.and_self, Bool.or_true, fl_Note]) rfl rfl rfl) ?_; simp only [putT,st,ev,gt,hp,ofV,constT,intT,lm]
 refine WO_op (x := .bp 2 9) rfl rfl rfl ?_
 refine WO_op (x := .no) (σ' := ⟨[], [some [qs a1.Name, qs a1.Target, qi a1.Low, qi a1.High, .c (cL enc_Metric a1.Metrics), qi a1.Pace.Up, qi a1.Pace.Down, qi a1.Pace.UpSpan, qi a1.Pace.DownSpan, .c (cL enc_Note a1.Notes)], some [qs [], qs [], qi 0, qi 0, .nil, qi 0, qi 0, qi 0, qi 0, .nil], some [qs a1.Name, qs a1.Target, qi a1.Low, qi a1.High, .row 0, qi x3.Up, qi x3.Down, qi x3.UpSpan, qi x3.DownSpan, .row 1]], [rr 3 enc_Metric x2 true, rr 2 enc_Note x4 true]⟩) rfl rfl rfl ?_; simp only [putT,st,ev,gt,hp,ofV,constT,intT,lm]
 refine WO_nil (W_seq (W_region ?_))
 refine WO_op (x := .ag [qs a1.Name, qs a1.Target, qi a1.Low, qi a1.High, .row 0, qi x3.Up, qi x3.Down, qi x3.UpSpan, qi x3.DownSpan, .row 1]) rfl rfl rfl ?_
 refine WO_op (x := .no) (σ' := ⟨[], [some [qs a1.Name, qs a1.Target, qi a1.Low, qi a1.High, .c (cL enc_Metric a1.Metrics), qi a1.Pace.Up, qi a1.Pace.Down, qi a1.Pace.UpSpan, qi a1.Pace.DownSpan, .c (cL enc_Note a1.Notes)], some [qs a1.Name, qs a1.Target, qi a1.Low, qi a1.High, .row 0, qi x3.Up, qi x3.Down, qi x3.UpSpan, qi x3.DownSpan, .row 1], some [qs a1.Name, qs a1.Target, qi a1.Low, qi a1.High, .row 0, qi x3.Up, qi x3.Down, qi x3.UpSpan, qi x3.DownSpan, .row 1]], [rr 3 enc_Metric x2 true, rr 2 enc_Note x4 true]⟩) rfl rfl rfl ?_; simp only [putT,st,ev,gt,hp,ofV,constT,intT,lm]
 refine WO_nil ?_
 refine W_ret ?_
 obtain rfl := Option.some.inj H
 exact told5 rfl rfl rfl rfl (fitAs_nz rfl) rfl
theorem laws_toItem_ok {a1 : Item} {r : Item} (H : laws_toItem a1 = some r) : R 148 [.ag [(cS a1.Order.Name, none), (cS a1.Order.Target, none), (cI .i64 a1.Order.Low, none), (cI .i64 a1.Order.High, none), (cL enc_Metric a1.Order.Metrics, none), (cI .i64 a1.Order.Pace.Up, none), (cI .i64 a1.Order.Pace.Down, none), (cI .i64 a1.Order.Pace.UpSpan, none), (cI .i64 a1.Order.Pace.DownSpan, none), (cL enc_Note a1.Order.Notes, none), (cI .i64 a1.Ver, none)]] = some (.ag [(cS r.Order.Name, none), (cS r.Order.Target, none), (cI .i64 r.Order.Low, none), (cI .i64 r.Order.High, none), (cL enc_Metric r.Order.Metrics, some 3), (cI .i64 r.Order.Pace.Up, none), (cI .i64 r.Order.Pace.Down, none), (cI .i64 r.Order.Pace.UpSpan, none), (cI .i64 r.Order.Pace.DownSpan, none), (cL enc_Note r.Order.Notes, some 2), (cI .i64 r.Ver, none)], []) := by
 unfold laws_toItem at H
 refine Fz_walk 12 rfl rfl Try.func148 rfl (by kernel_rfl) rfl rfl rfl rfl ?_
 simp only [tellVs, tellV, tells, tell, st0, padT, SX.newRow, SX.newBox, List.length_cons, List.length_nil, Nat.reduceAdd, Nat.reduceSub, List.replicate, List.cons_append, List.nil_append, List.foldl_cons, List.foldl_nil]
 refine W_seq (W_region ?_)
 refine WO_op (x := .bp 0 0) (σ' := ⟨[], [some [qs a1.Order.Name, qs a1.Order.Target, qi a1.Order.Low, qi a1.Order.High, .c (cL enc_Metric a1.Order.Metrics), qi a1.Order.Pace.Up, qi a1.Order.Pace.Down, qi a1.Order.Pace.UpSpan, qi a1.Order.Pace.DownSpan, .c (cL enc_Note a1.Order.Notes), qi a1.Ver]], []⟩) rfl rfl rfl ?_
 refine WO_op (x := .bp 1 0) (σ' := ⟨[], [some [qs a1.Order.Name, qs a1.Order.Target, qi a1.Order.Low, qi a1.Order.High, .c (cL enc_Metric a1.Order.Metrics), qi a1.Order.Pace.Up, qi a1.Order.Pace.Down, qi a1.Order.Pace.UpSpan, qi a1.Order.Pace.DownSpan, .c (cL enc_Note a1.Order.Notes), qi a1.Ver], some [qs [], qs [], qi 0, qi 0, .nil, qi 0, qi 0, qi 0, qi 0, .nil, qi 0]], []⟩) rfl rfl rfl ?_; simp only [putT,st,ev,gt,hp,ofV,constT,intT,lm]
 refine WO_nil (W_seq (W_region ?_))
 refine WO_op (x := .bp 2 0) (σ' := ⟨[], [some [qs a1.Order.Name, qs a1.Order.Target, qi a1.Order.Low, qi a1.Order.High, .c (cL enc_Metric a1.Order.Metrics), qi a1.Order.Pace.Up, qi a1.Order.Pace.Down, qi a1.Order.Pace.UpSpan, qi a1.Order.Pace.DownSpan, .c (cL enc_Note a1.Order.Notes), qi a1.Ver], some [qs [], qs [], qi 0, qi 0, .nil, qi 0, qi 0, qi 0, qi 0, .nil, qi 0], some [qs [], qs [], qi 0, qi 0, .nil, qi 0, qi 0, qi 0, qi 0, .nil, qi 0]], []⟩) rfl rfl rfl ?_; simp only [putT,st,ev,gt,hp,ofV,constT,intT,lm]
 refine WO_nil (W_seq (W_region ?_))
 refine WO_op (x := .bp 0 0) rfl rfl rfl ?_
 refine WO_op (x := .ag [qs a1.Order.Name, qs a1.Order.Target, qi a1.Order.Low, qi a1.Order.High, .c (cL enc_Metric a1.Order.Metrics), qi a1.Order.Pace.Up, qi a1.Order.Pace.Down, qi a1.Order.Pace.UpSpan, qi a1.Order.Pace.DownSpan, .c (cL enc_Note a1.Order.Notes)]) rfl rfl rfl ?_; simp only [putT,st,ev,gt,hp,ofV,constT,intT,lm]
 obtain ⟨x2, hx2, H⟩ := bnd H
 refine WO_op (x := .ag [qs x2.Name, qs x2.Target, qi x2.Low, qi x2.High, .row 0, qi x2.Pace.Up, qi x2.Pace.Down, qi x2.Pace.UpSpan, qi x2.Pace.DownSpan, .row 1]) (σ' := ⟨[], [some [qs a1.Order.Name, qs a1.Order.Target, qi a1.Order.Low, qi a1.Order.High, .c (cL enc_Metric a1.Order.Metrics), qi a1.Order.Pace.Up, qi a1.Order.Pace.Down, qi a1.Order.Pace.UpSpan, qi a1.Order.Pace.DownSpan, .c (cL enc_Note a1.Order.Notes), qi a1.Ver], some [qs [], qs [], qi 0, qi 0, .nil, qi 0, qi 0, qi 0, qi 0, .nil, qi 0], some [qs [], qs [], qi 0, qi 0, .nil, qi 0, qi 0, qi 0, qi 0, .nil, qi 0]], [rr 3 enc_Metric x2.Metrics true, rr 2 enc_Note x2.Notes true]⟩) rfl rfl (ev_callG (al := [.ag [qs a1.Order.Name, qs a1.Order.Target, qi a1.Order.Low, qi a1.Order.High, .c (cL enc_Metric a1.Order.Metrics), qi a1.Order.Pace.Up, qi a1.Order.Pace.Down, qi a1.Order.Pace.UpSpan, qi a1.Order.Pace.DownSpan, .c (cL enc_Note a1.Order.Notes)]]) (ls := []) (laws_toOrder_ok hx2) rfl rfl rfl rfl rfl (by decide) rfl rfl (by simp only [flatA, flatV, flatC, List.all_cons, List.all_nil, Option.all_some, Bool.and_self, Bool.or_true, fl_Metric, fl_Note]) rfl rfl rfl) ?_; simp only [putT,st,ev,gt,hp,ofV,constT,intT,lm]
 refine WO_op (x := .bp 2 0) rfl rfl rfl ?_
 refine WO_op (x := .no) (σ' := ⟨[], [some [qs a1.Order.Name, qs a1.Order.Target, qi a1.Order.Low, qi a1.Order.High, .c (cL enc_Metric a1.Order.Metrics), qi a1.Order.Pace.Up, qi a1.Order.Pace.Down, qi a1.Order.Pace.UpSpan, qi a1.Order.Pace.DownSpan, .c (cL enc_Note a1.Order.Notes), qi a1.Ver], some [qs [], qs [], qi 0, qi 0, .nil, qi 0, qi 0, qi 0, qi 0, .nil, qi 0], some [qs x2.Name, qs x2.Target, qi x2.Low, qi x2.High, .row 0, qi x2.Pace.Up, qi x2.Pace.Down, qi x2.Pace.UpSpan, qi x2.Pace.DownSpan, .row 1, qi 0]], [rr 3 enc_Metric x2.Metrics true, rr 2 enc_Note x2.Notes true]⟩) rfl rfl rfl ?_; simp only [putT,st,ev,gt,hp,ofV,constT,intT,lm]
 refine WO_nil (W_seq (W_region ?_))
 refine WO_op (x := .bp 0 10) rfl rfl rfl ?_
 refine WO_op (x := qi a1.Ver) rfl rfl rfl ?_
 refine WO_op (x := .bp 2 10) rfl rfl rfl ?_
 refine WO_op (x := .no) (σ' := ⟨[], [some [qs a1.Order.Name, qs a1.Order.Target, qi a1.Order.Low, qi a1.Order.High, .c (cL enc_Metric a1.Order.Metrics), qi a1.Order.Pace.Up, qi a1.Order.Pace.Down, qi a1.Order.Pace.UpSpan, qi a1.Order.Pace.DownSpan, .c (cL enc_Note a1.Order.Notes), qi a1.Ver], some [qs [], qs [], qi 0, qi 0, .nil, qi 0, qi 0, qi 0, qi 0, .nil, qi 0], some [qs x2.Name, qs x2.Target, qi x2.Low, qi x2.High, .row 0, qi x2.Pace.Up, qi x2.Pace.Down, qi x2.Pace.UpSpan, qi x2.Pace.DownSpan, .row 1, qi a1.Ver]], [rr 3 enc_Metric x2.Metrics true, rr 2 enc_Note x2.Notes true]⟩) rfl rfl rfl ?_; simp only [putT,st,ev,gt,hp,ofV,constT,intT,lm]
 refine WO_nil (W_seq (W_region ?_))
 refine WO_op (x := .ag [qs x2.Name, qs x2.Target, qi x2.Low, qi x2.High, .row 0, qi x2.Pace.Up, qi x2.Pace.Down, qi x2.Pace.UpSpan, qi x2.Pace.DownSpan, .row 1, qi a1.Ver]) rfl rfl rfl ?_
 refine WO_op (x := .no) (σ' := ⟨[], [some [qs a1.Order.Name, qs a1.Order.Target, qi a1.Order.Low, qi a1.Order.High, .c (cL enc_Metric a1.Order.Metrics), qi a1.Order.Pace.Up, qi a1.Order.Pace.Down, qi a1.Order.Pace.UpSpan, qi a1.Order.Pace.DownSpan, .c (cL enc_Note a1.Order.Notes), qi a1.Ver], some [qs x2.Name, qs x2.Target, qi x2.Low, qi x2.High, .row 0, qi x2.Pace.Up, qi x2.Pace.Down, qi x2.Pace.UpSpan, qi x2.Pace.DownSpan, .row 1, qi a1.Ver], some [qs x2.Name, qs x2.Target, qi x2.Low, qi x2.High, .row 0, qi x2.Pace.Up, qi x2.Pace.Down, qi x2.Pace.UpSpan, qi x2.Pace.DownSpan, .row 1, qi a1.Ver]], [rr 3 enc_Metric x2.Metrics true, rr 2 enc_Note x2.Notes true]⟩) rfl rfl rfl ?_; simp only [putT,st,ev,gt,hp,ofV,constT,intT,lm]
 refine WO_nil ?_
 refine W_ret ?_
 obtain rfl := Option.some.inj H
 exact told5 rfl rfl rfl rfl (fitAs_nz rfl) rfl
theorem laws_toItemS_ok {a1 : List Item} {r : List Item} (H : laws_toItemS a1 = some r) : R 105 [.c (cL enc_Item a1) none] = some (.c (cL enc_Item r) (some 11), []) := by
 unfold laws_toItemS at H
 refine Fz_walk 23 rfl rfl Try.func105 rfl (by kernel_rfl) rfl rfl rfl rfl ?_
 simp only [tellVs, tellV, tells, tell, st0, padT, SX.newRow, SX.newBox, List.length_cons, List.length_nil, Nat.reduceAdd, Nat.reduceSub, List.replicate, List.cons_append, List.nil_append, List.foldl_cons, List.foldl_nil]
 refine W_seq (W_region ?_)
 refine WO_op rfl rfl rfl ?_; simp only [putT,st,ev,gt,hp,ofV,constT,intT,lm]
 refine WO_nil (W_seq (W_region ?_))
 iterate 2 (refine WO_op rfl rfl rfl ?_; simp only [putT,st,ev,gt,hp,ofV,constT,intT,lm])
 obtain ⟨m2, hm2, H⟩ := bnd H
 refine WO_op (x := .row 0) (σ' := ⟨[], [], [rr 11 enc_Item m2 true]⟩) rfl rfl (ev_mk (en := enc_Item) hm2 rfl rfl rfl rfl rfl rfl rfl rfl rfl rfl rfl rfl rfl rfl) ?_; simp only [putT,st,ev,gt,hp,ofV,constT,intT,lm]
 refine WO_op rfl rfl rfl ?_; simp only [putT,st,ev,gt,hp,ofV,constT,intT,lm]
 refine WO_nil (W_seq (W_seq (W_region ?_)))
 refine WO_op rfl rfl rfl ?_; simp only [putT,st,ev,gt,hp,ofV,constT,intT,lm]
 refine WO_nil ?_
 refine W_block ?_
 obtain ⟨t9, ht9, H⟩ := bnd H
 refine loop_rule (ls := []) 0 (fun t9 : List Item => ⟨[.no, .no, .no, .row 0], [], [rr 11 enc_Item t9 true]⟩) (fun t => t9 = t) ⟨[.c (cL enc_Item a1), .no, .no, .row 0, qi 0], [], [rr 11 enc_Item m2 true]⟩ (by repeat (first | exact mono_told | refine mono_seq ?_ | refine mono_blk ?_ | refine mono_lp ?_)) (le_intro [] [0] (by decide) (by decide) rfl (by simp [leS, leT, leA, gt]) (by simp [leB, leT, leA]) (by simp [leR])) ?_ ?_
 ·
  rintro t1 rfl
  refine W_seq (W_region ?_)
  iterate 2 (refine WO_op rfl rfl rfl ?_; simp only [putT,st,ev,gt,hp,ofV,constT,intT,lm])
  refine WO_nil ?_
  refine W_ret ?_
  obtain rfl := Option.some.inj H
  exact told5 rfl rfl rfl rfl (fitAs_nz rfl) rfl
 ·
  intro V1 hV1 hW1 hX1
  refine (laws_toItemS.l0.partial_correctness a1 (fun v3 v4 s' => s' = t9 → (V1 ⟨[.c (cL enc_Item a1), .no, .no, .row 0, qi v3], [], [rr 11 enc_Item v4 true]⟩)) ?_ _ _ _ ht9 rfl)
  intro l0 IH1 v3 v4 s' H1 e
  subst e
  refine hV1 _ ?_
  refine W_seq (W_seq (W_region ?_))
  iterate 4 (refine WO_op rfl rfl rfl ?_; simp only [putT,st,ev,gt,hp,ofV,constT,intT,lm])
  refine WO_nil ?_
  refine W_cond rfl (fun hc => ?_) (fun hc => ?_)
  ·
   replace H1 := tr hc H1
   refine W_skip ?_
   refine W_seq ?_
   refine W_block ?_
   refine W_region ?_
   iterate 4 (refine WO_op rfl rfl rfl ?_; simp only [putT,st,ev,gt,hp,ofV,constT,intT,lm])
   obtain ⟨x5, hx5, H1⟩ := bnd H1
   refine WO_op rfl rfl (ev_ix (en := enc_Item) hx5 rfl rfl rfl rfl rfl rfl rfl) ?_; simp only [putT,st,ev,gt,hp,ofV,constT,intT,lm]
   refine WO_op (x := .ag [qs x5.Order.Name, qs x5.Order.Target, qi x5.Order.Low, qi x5.Order.High, .c (cL enc_Metric x5.Order.Metrics), qi x5.Order.Pace.Up, qi x5.Order.Pace.Down, qi x5.Order.Pace.UpSpan, qi x5.Order.Pace.DownSpan, .c (cL enc_Note x5.Order.Notes), qi x5.Ver]) rfl rfl rfl ?_; simp only [putT,st,ev,gt,hp,ofV,constT,intT,lm]
   obtain ⟨x6, hx6, H1⟩ := bnd H1
   refine WO_op (x := .ag [qs x6.Order.Name, qs x6.Order.Target, qi x6.Order.Low, qi x6.Order.High, .row 1, qi x6.Order.Pace.Up, qi x6.Order.Pace.Down, qi x6.Order.Pace.UpSpan, qi x6.Order.Pace.DownSpan, .row 2, qi x6.Ver]) (σ' := ⟨[], [], [rr 11 enc_Item v4 true, rr 3 enc_Metric x6.Order.Metrics true, rr 2 enc_Note x6.Order.Notes true]⟩) rfl rfl (ev_callG (al := [.ag [qs x5.Order.Name, qs x5.Order.Target, qi x5.Order.Low, qi x5.Order.High, .c (cL enc_Metric x5.Order.Metrics), qi x5.Order.Pace.Up, qi x5.Order.Pace.Down, qi x5.Order.Pace.UpSpan, qi x5.Order.Pace.DownSpan, .c (cL enc_Note x5.Order.Notes), qi x5.Ver]]) (ls := []) (laws_toItem_ok hx6) rfl rfl rfl rfl rfl (by decide) rfl rfl (by simp only [flatA, flatV, flatC, List.all_cons, List.all_nil, Option.all_some, Bool.and_self, Bool.or_true, fl_Metric, fl_Note]) rfl rfl rfl) ?_; simp only [putT,st,ev,gt,hp,ofV,constT,intT,lm]
   obtain ⟨x7, hx7, H1⟩ := bnd H1
   refine WO_op rfl rfl (ev_ixR (en := enc_Item) hx7 rfl rfl rfl rfl rfl rfl rfl) ?_; simp only [putT,st,ev,gt,hp,ofV,constT,intT,lm]
   obtain ⟨m8, hm8, H1⟩ := bnd H1
   refine WO_op (x := .no) (σ' := ⟨[], [], [rr 11 enc_Item m8 true, rr 3 enc_Metric x6.Order.Metrics false, rr 2 enc_Note x6.Order.Notes false]⟩) rfl rfl (ev_stR (en := enc_Item) hm8 hx7 rfl rfl rfl rfl rfl rfl rfl rfl) ?_; simp only [putT,st,ev,gt,hp,ofV,constT,intT,lm]
   refine WO_nil (W_region ?_)
   iterate 3 (refine WO_op rfl rfl rfl ?_; simp only [putT,st,ev,gt,hp,ofV,constT,intT,lm])
   refine WO_nil ?_
   exact hW1 _ _ ((IH1 _ _ _ H1 rfl)) (le_intro [] [0] (by decide) (by decide) rfl (by simp [leS, leT, leA, gt]) (by simp [leB, leT, leA]) (by simp [leR]))
  ·
   replace H1 := fl hc H1
   refine W_exit ?_
   obtain rfl := Option.some.inj H1
   exact hX1 v4 _ rfl (le_intro [] [0] (by decide) (by decide) rfl (by simp [leS, leT, leA, gt]) (by simp [leB, leT, leA]) (by simp [leR]))
theorem laws_toStore_ok {a1 : Store} {r : Store} (H : laws_toStore a1 = some r) : R 46 [.ag [(cL enc_Item a1.Items, none), (cI .i64 a1.Next, none)]] = some (.ag [(cL enc_Item r.Items, some 11), (cI .i64 r.Next, none)], []) := by
 unfold laws_toStore at H
 refine Fz_walk 12 rfl rfl Try.func46 rfl (by kernel_rfl) rfl rfl rfl rfl ?_
 simp only [tellVs, tellV, tells, tell, st0, padT, SX.newRow, SX.newBox, List.length_cons, List.length_nil, Nat.reduceAdd, Nat.reduceSub, List.replicate, List.cons_append, List.nil_append, List.foldl_cons, List.foldl_nil]
 refine W_seq (W_region ?_)
 refine WO_op (x := .bp 0 0) (σ' := ⟨[], [some [.c (cL enc_Item a1.Items), qi a1.Next]], []⟩) rfl rfl rfl ?_
 refine WO_op (x := .bp 1 0) (σ' := ⟨[], [some [.c (cL enc_Item a1.Items), qi a1.Next], some [.nil, qi 0]], []⟩) rfl rfl rfl ?_; simp only [putT,st,ev,gt,hp,ofV,constT,intT,lm]
 refine WO_nil (W_seq (W_region ?_))
 refine WO_op (x := .bp 2 0) (σ' := ⟨[], [some [.c (cL enc_Item a1.Items), qi a1.Next], some [.nil, qi 0], some [.nil, qi 0]], []⟩) rfl rfl rfl ?_; simp only [putT,st,ev,gt,hp,ofV,constT,intT,lm]
 refine WO_nil (W_seq (W_region ?_))
 refine WO_op (x := .bp 0 0) rfl rfl rfl ?_
 refine WO_op (x := .c (cL enc_Item a1.Items)) rfl rfl rfl ?_; simp only [putT,st,ev,gt,hp,ofV,constT,intT,lm]
 obtain ⟨x2, hx2, H⟩ := bnd H
 refine WO_op (x := .row 0) (σ' := ⟨[], [some [.c (cL enc_Item a1.Items), qi a1.Next], some [.nil, qi 0], some [.nil, qi 0]], [rr 11 enc_Item x2 true]⟩) rfl rfl (ev_callG (al := [.c (cL enc_Item a1.Items)]) (ls := []) (laws_toItemS_ok hx2) rfl rfl rfl rfl rfl (by decide) rfl rfl rfl rfl rfl rfl) ?_; simp only [putT,st,ev,gt,hp,ofV,constT,intT,lm]
 refine WO_op (x := .bp 2 0) rfl rfl rfl ?_
 refine WO_op (x := .no) (σ' := ⟨[], [some [.c (cL enc_Item a1.Items), qi a1.Next], some [.nil, qi 0], some [.row 0, qi 0]], [rr 11 enc_Item x2 true]⟩) rfl rfl rfl ?_; simp only [putT,st,ev,gt,hp,ofV,constT,intT,lm]
 refine WO_nil (W_seq (W_region ?_))
 refine WO_op (x := .bp 0 1) rfl rfl rfl ?_
 refine WO_op (x := qi a1.Next) rfl rfl rfl ?_
 refine WO_op (x := .bp 2 1) rfl rfl rfl ?_
 refine WO_op (x := .no) (σ' := ⟨[], [some [.c (cL enc_Item a1.Items), qi a1.Next], some [.nil, qi 0], some [.row 0, qi a1.Next]], [rr 11 enc_Item x2 true]⟩) rfl rfl rfl ?_; simp only [putT,st,ev,gt,hp,ofV,constT,intT,lm]
 refine WO_nil (W_seq (W_region ?_))
 refine WO_op (x := .ag [.row 0, qi a1.Next]) rfl rfl rfl ?_
 refine WO_op (x := .no) (σ' := ⟨[], [some [.c (cL enc_Item a1.Items), qi a1.Next], some [.row 0, qi a1.Next], some [.row 0, qi a1.Next]], [rr 11 enc_Item x2 true]⟩) rfl rfl rfl ?_; simp only [putT,st,ev,gt,hp,ofV,constT,intT,lm]
 refine WO_nil ?_
 refine W_ret ?_
 obtain rfl := Option.some.inj H
 exact told5 rfl rfl rfl rfl (fitAs_nz rfl) rfl
theorem laws_toRec_ok {a1 : Rec} {r : Rec} (H : laws_toRec a1 = some r) : R 179 [.ag [(cI .i64 a1.Time, none), (cI .i64 a1.N, none)]] = some (.ag [(cI .i64 r.Time, none), (cI .i64 r.N, none)], []) := by
 unfold laws_toRec at H
 refine Fz_walk 11 rfl rfl Try.func179 rfl (by kernel_rfl) rfl rfl rfl rfl ?_
 simp only [tellVs, tellV, tells, tell, st0, padT, SX.newRow, SX.newBox, List.length_cons, List.length_nil, Nat.reduceAdd, Nat.reduceSub, List.replicate, List.cons_append, List.nil_append, List.foldl_cons, List.foldl_nil]
 refine W_seq (W_region ?_)
 refine WO_op (x := .bp 0 0) (σ' := ⟨[], [some [qi a1.Time, qi a1.N]], []⟩) rfl rfl rfl ?_
 refine WO_op (x := .bp 1 0) (σ' := ⟨[], [some [qi a1.Time, qi a1.N], some [qi 0, qi 0]], []⟩) rfl rfl rfl ?_; simp only [putT,st,ev,gt,hp,ofV,constT,intT,lm]
 refine WO_nil (W_seq (W_region ?_))
 refine WO_op (x := .bp 2 0) (σ' := ⟨[], [some [qi a1.Time, qi a1.N], some [qi 0, qi 0], some [qi 0, qi 0]], []⟩) rfl rfl rfl ?_; simp only [putT,st,ev,gt,hp,ofV,constT,intT,lm]
 refine WO_nil (W_seq (W_region ?_))
 refine WO_op (x := .bp 0 0) rfl rfl rfl ?_
 refine WO_op (x := qi a1.Time) rfl rfl rfl ?_
 refine WO_op (x := .bp 2 0) rfl rfl rfl ?_
 refine WO_op (x := .no) (σ' := ⟨[], [some [qi a1.Time, qi a1.N], some [qi 0, qi 0], some [qi a1.Time, qi 0]], []⟩) rfl rfl rfl ?_; simp only [putT,st,ev,gt,hp,ofV,constT,intT,lm]
 refine WO_nil (W_seq (W_region ?_))
 refine WO_op (x := .bp 0 1) rfl rfl rfl ?_
 refine WO_op (x := qi a1.N) rfl rfl rfl ?_
 refine WO_op (x := .bp 2 1) rfl rfl rfl ?_
 refine WO_op (x := .no) (σ' := ⟨[], [some [qi a1.Time, qi a1.N], some [qi 0, qi 0], some [qi a1.Time, qi a1.N]], []⟩) rfl rfl rfl ?_; simp only [putT,st,ev,gt,hp,ofV,constT,intT,lm]
 refine WO_nil (W_seq (W_region ?_))
 refine WO_op (x := .ag [qi a1.Time, qi a1.N]) rfl rfl rfl ?_
 refine WO_op (x := .no) (σ' := ⟨[], [some [qi a1.Time, qi a1.N], some [qi a1.Time, qi a1.N], some [qi a1.Time, qi a1.N]], []⟩) rfl rfl rfl ?_; simp only [putT,st,ev,gt,hp,ofV,constT,intT,lm]
 refine WO_nil ?_
 refine W_ret ?_
 obtain rfl := Option.some.inj H
 exact told3 rfl
theorem laws_toRecS_ok {a1 : List Rec} {r : List Rec} (H : laws_toRecS a1 = some r) : R 171 [.c (cL enc_Rec a1) none] = some (.c (cL enc_Rec r) (some 2), []) := by
 unfold laws_toRecS at H
 refine Fz_walk 23 rfl rfl Try.func171 rfl (by kernel_rfl) rfl rfl rfl rfl ?_
 simp only [tellVs, tellV, tells, tell, st0, padT, SX.newRow, SX.newBox, List.length_cons, List.length_nil, Nat.reduceAdd, Nat.reduceSub, List.replicate, List.cons_append, List.nil_append, List.foldl_cons, List.foldl_nil]
 refine W_seq (W_region ?_)
 refine WO_op rfl rfl rfl ?_; simp only [putT,st,ev,gt,hp,ofV,constT,intT,lm]
 refine WO_nil (W_seq (W_region ?_))
 iterate 2 (refine WO_op rfl rfl rfl ?_; simp only [putT,st,ev,gt,hp,ofV,constT,intT,lm])
 obtain ⟨m2, hm2, H⟩ := bnd H
 refine WO_op (x := .row 0) (σ' := ⟨[], [], [rr 2 enc_Rec m2 true]⟩) rfl rfl (ev_mk (en := enc_Rec) hm2 rfl rfl rfl rfl rfl rfl rfl rfl rfl rfl rfl rfl rfl rfl) ?_; simp only [putT,st,ev,gt,hp,ofV,constT,intT,lm]
 refine WO_op rfl rfl rfl ?_; simp only [putT,st,ev,gt,hp,ofV,constT,intT,lm]
 refine WO_nil (W_seq (W_seq (W_region ?_)))
 refine WO_op rfl rfl rfl ?_; simp only [putT,st,ev,gt,hp,ofV,constT,intT,lm]
 refine WO_nil ?_
 refine W_block ?_
 obtain ⟨t9, ht9, H⟩ := bnd H
 refine loop_rule (ls := []) 0 (fun t9 : List Rec => ⟨[.no, .no, .no, .row 0], [], [rr 2 enc_Rec t9 true]⟩) (fun t => t9 = t) ⟨[.c (cL enc_Rec a1), .no, .no, .row 0, qi 0], [], [rr 2 enc_Rec m2 true]⟩ (by repeat (first | exact mono_told | refine mono_seq ?_ | refine mono_blk ?_ | refine mono_lp ?_)) (le_intro [] [0] (by decide) (by decide) rfl (by simp [leS, leT, leA, gt]) (by simp [leB, leT, leA]) (by simp [leR])) ?_ ?_
 ·
  rintro t1 rfl
  refine W_seq (W_region ?_)
  iterate 2 (refine WO_op rfl rfl rfl ?_; simp only [putT,st,ev,gt,hp,ofV,constT,intT,lm])
  refine WO_nil ?_
  refine W_ret ?_
  obtain rfl := Option.some.inj H
  exact told5 rfl rfl rfl rfl (fitAs_nz rfl) rfl
 ·
  intro V1 hV1 hW1 hX1
  refine (laws_toRecS.l0.partial_correctness a1 (fun v3 v4 s' => s' = t9 → (V1 ⟨[.c (cL enc_Rec a1), .no, .no, .row 0, qi v3], [], [rr 2 enc_Rec v4 true]⟩)) ?_ _ _ _ ht9 rfl)
  intro l0 IH1 v3 v4 s' H1 e
  subst e
  refine hV1 _ ?_
  refine W_seq (W_seq (W_region ?_))
  iterate 4 (refine WO_op rfl rfl rfl ?_; simp only [putT,st,ev,gt,hp,ofV,constT,intT,lm])
  refine WO_nil ?_
  refine W_cond rfl (fun hc => ?_) (fun hc => ?_)
  ·
   replace H1 := tr hc H1
   refine W_skip ?_
   refine W_seq ?_
   refine W_block ?_
   refine W_region ?_
   iterate 4 (refine WO_op rfl rfl rfl ?_; simp only [putT,st,ev,gt,hp,ofV,constT,intT,lm])
   obtain ⟨x5, hx5, H1⟩ := bnd H1
   refine WO_op rfl rfl (ev_ix (en := enc_Rec) hx5 rfl rfl rfl rfl rfl rfl rfl) ?_; simp only [putT,st,ev,gt,hp,ofV,constT,intT,lm]
   refine WO_op (x := .ag [qi x5.Time, qi x5.N]) rfl rfl rfl ?_; simp only [putT,st,ev,gt,hp,ofV,constT,intT,lm]
   obtain ⟨x6, hx6, H1⟩ := bnd H1
   refine WO_op (x := .ag [qi x6.Time, qi x6.N]) (σ' := ⟨[], [], [rr 2 enc_Rec v4 true]⟩) rfl rfl (ev_callG (al := [.ag [qi x5.Time, qi x5.N]]) (ls := []) (laws_toRec_ok hx6) rfl rfl rfl rfl rfl (by decide) rfl rfl rfl rfl rfl rfl) ?_; simp only [putT,st,ev,gt,hp,ofV,constT,intT,lm]
   obtain ⟨x7, hx7, H1⟩ := bnd H1
   refine WO_op rfl rfl (ev_ixR (en := enc_Rec) hx7 rfl rfl rfl rfl rfl rfl rfl) ?_; simp only [putT,st,ev,gt,hp,ofV,constT,intT,lm]
   obtain ⟨m8, hm8, H1⟩ := bnd H1
   refine WO_op (x := .no) (σ' := ⟨[], [], [rr 2 enc_Rec m8 true]⟩) rfl rfl (ev_stR (en := enc_Rec) hm8 hx7 rfl rfl rfl rfl rfl rfl rfl rfl) ?_; simp only [putT,st,ev,gt,hp,ofV,constT,intT,lm]
   refine WO_nil (W_region ?_)
   iterate 3 (refine WO_op rfl rfl rfl ?_; simp only [putT,st,ev,gt,hp,ofV,constT,intT,lm])
   refine WO_nil ?_
   exact hW1 _ _ ((IH1 _ _ _ H1 rfl)) (le_intro [] [0] (by decide) (by decide) rfl (by simp [leS, leT, leA, gt]) (by simp [leB, leT, leA]) (by simp [leR]))
  ·
   replace H1 := fl hc H1
   refine W_exit ?_
   obtain rfl := Option.some.inj H1
   exact hX1 v4 _ rfl (le_intro [] [0] (by decide) (by decide) rfl (by simp [leS, leT, leA, gt]) (by simp [leB, leT, leA]) (by simp [leR]))
theorem laws_toScale_ok {a1 : Scale} {r : Scale} (H : laws_toScale a1 = some r) : R 153 [.ag [(cS a1.Name, none), (cI .i64 a1.Now, none), (cL enc_Rec a1.Recs, none)]] = some (.ag [(cS r.Name, none), (cI .i64 r.Now, none), (cL enc_Rec r.Recs, some 2)], []) := by
 unfold laws_toScale at H
 refine Fz_walk 15 rfl rfl Try.func153 rfl (by kernel_rfl) rfl rfl rfl rfl ?_
 simp only [tellVs, tellV, tells, tell, st0, padT, SX.newRow, SX.newBox, List.length_cons, List.length_nil, Nat.reduceAdd, Nat.reduceSub, List.replicate, List.cons_append, List.nil_append, List.foldl_cons, List.foldl_nil]
 refine W_seq (W_region ?_)
 refine WO_op (x := .bp 0 0) (σ' := ⟨[], [some [qs a1.Name, qi a1.Now, .c (cL enc_Rec a1.Recs)]], []⟩) rfl rfl rfl ?_
 refine WO_op (x := .bp 1 0) (σ' := ⟨[], [some [qs a1.Name, qi a1.Now, .c (cL enc_Rec a1.Recs)], some [qs [], qi 0, .nil]], []⟩) rfl rfl rfl ?_; simp only [putT,st,ev,gt,hp,ofV,constT,intT,lm]
 refine WO_nil (W_seq (W_region ?_))
 refine WO_op (x := .bp 2 0) (σ' := ⟨[], [some [qs a1.Name, qi a1.Now, .c (cL enc_Rec a1.Recs)], some [qs [], qi 0, .nil], some [qs [], qi 0, .nil]], []⟩) rfl rfl rfl ?_; simp only [putT,st,ev,gt,hp,ofV,constT,intT,lm]
 refine WO_nil (W_seq (W_region ?_))
 refine WO_op (x := .bp 0 0) rfl rfl rfl ?_
 refine WO_op (x := qs a1.Name) rfl rfl rfl ?_
 refine WO_op (x := .bp 2 0) rfl rfl rfl ?_
 refine WO_op (x := .no) (σ' := ⟨[], [some [qs a1.Name, qi a1.Now, .c (cL enc_Rec a1.Recs)], some [qs [], qi 0, .nil], some [qs a1.Name, qi 0, .nil]], []⟩) rfl rfl rfl ?_; simp only [putT,st,ev,gt,hp,ofV,constT,intT,lm]
 refine WO_nil (W_seq (W_region ?_))
 refine WO_op (x := .bp 0 1) rfl rfl rfl ?_
 refine WO_op (x := qi a1.Now) rfl rfl rfl ?_
 refine WO_op (x := .bp 2 1) rfl rfl rfl ?_
 refine WO_op (x := .no) (σ' := ⟨[], [some [qs a1.Name, qi a1.Now, .c (cL enc_Rec a1.Recs)], some [qs [], qi 0, .nil], some [qs a1.Name, qi a1.Now, .nil]], []⟩) rfl rfl rfl ?_; simp only [putT,st,ev,gt,hp,ofV,constT,intT,lm]
 refine WO_nil (W_seq (W_region ?_))
 refine WO_op (x := .bp 0 2) rfl rfl rfl ?_
 refine WO_op (x := .c (cL enc_Rec a1.Recs)) rfl rfl rfl ?_; simp only [putT,st,ev,gt,hp,ofV,constT,intT,lm]
 obtain ⟨x2, hx2, H⟩ := bnd H
 refine WO_op (x := .row 0) (σ' := ⟨[], [some [qs a1.Name, qi a1.Now, .c (cL enc_Rec a1.Recs)], some [qs [], qi 0, .nil], some [qs a1.Name, qi a1.Now, .nil]], [rr 2 enc_Rec x2 true]⟩) rfl rfl (ev_callG (al := [.c (cL enc_Rec a1.Recs)]) (ls := []) (laws_toRecS_ok hx2) rfl rfl rfl rfl rfl (by decide) rfl rfl (by simp only [flatA, flatV, flatC, List.all_cons, List.all_nil, Option.all_some, Bool.and_self, Bool.or_true, fl_Rec]) rfl rfl rfl) ?_; simp only [putT,st,ev,gt,hp,ofV,constT,intT,lm]
 refine WO_op (x := .bp 2 2) rfl rfl rfl ?_
 refine WO_op (x := .no) (σ' := ⟨[], [some [qs a1.Name, qi a1.Now, .c (cL enc_Rec a1.Recs)], some [qs [], qi 0, .nil], some [qs a1.Name, qi a1.Now, .row 0]], [rr 2 enc_Rec x2 true]⟩) rfl rfl rfl ?_; simp only [putT,st,ev,gt,hp,ofV,constT,intT,lm]
 refine WO_nil (W_seq (W_region ?_))
 refine WO_op (x := .ag [qs a1.Name, qi a1.Now, .row 0]) rfl rfl rfl ?_
 refine WO_op (x := .no) (σ' := ⟨[], [some [qs a1.Name, qi a1.Now, .c (cL enc_Rec a1.Recs)], some [qs a1.Name, qi a1.Now, .row 0], some [qs a1.Name, qi a1.Now, .row 0]], [rr 2 enc_Rec x2 true]⟩) rfl rfl rfl ?_; simp only [putT,st,ev,gt,hp,ofV,constT,intT,lm]
 refine WO_nil ?_
 refine W_ret ?_
 obtain rfl := Option.some.inj H
 exact told5 rfl rfl rfl rfl (fitAs_nz rfl) rfl
theorem laws_toScaleS_ok {a1 : List Scale} {r : List Scale} (H : laws_toScaleS a1 = some r) : R 112 [.c (cL enc_Scale a1) none] = some (.c (cL enc_Scale r) (some 3), []) := by
 unfold laws_toScaleS at H
 refine Fz_walk 23 rfl rfl Try.func112 rfl (by kernel_rfl) rfl rfl rfl rfl ?_
 simp only [tellVs, tellV, tells, tell, st0, padT, SX.newRow, SX.newBox, List.length_cons, List.length_nil, Nat.reduceAdd, Nat.reduceSub, List.replicate, List.cons_append, List.nil_append, List.foldl_cons, List.foldl_nil]
 refine W_seq (W_region ?_)
 refine WO_op rfl rfl rfl ?_; simp only [putT,st,ev,gt,hp,ofV,constT,intT,lm]
 refine WO_nil (W_seq (W_region ?_))
 iterate 2 (refine WO_op rfl rfl rfl ?_; simp only [putT,st,ev,gt,hp,ofV,constT,intT,lm])
 obtain ⟨m2, hm2, H⟩ := bnd H
 refine WO_op (x := .row 0) (σ' := ⟨[], [], [rr 3 enc_Scale m2 true]⟩) rfl rfl (ev_mk (en := enc_Scale) hm2 rfl rfl rfl rfl rfl rfl rfl rfl rfl rfl rfl rfl rfl rfl) ?_; simp only [putT,st,ev,gt,hp,ofV,constT,intT,lm]
 refine WO_op rfl rfl rfl ?_; simp only [putT,st,ev,gt,hp,ofV,constT,intT,lm]
 refine WO_nil (W_seq (W_seq (W_region ?_)))
 refine WO_op rfl rfl rfl ?_; simp only [putT,st,ev,gt,hp,ofV,constT,intT,lm]
 refine WO_nil ?_
 refine W_block ?_
 obtain ⟨t9, ht9, H⟩ := bnd H
 refine loop_rule (ls := []) 0 (fun t9 : List Scale => ⟨[.no, .no, .no, .row 0], [], [rr 3 enc_Scale t9 true]⟩) (fun t => t9 = t) ⟨[.c (cL enc_Scale a1), .no, .no, .row 0, qi 0], [], [rr 3 enc_Scale m2 true]⟩ (by repeat (first | exact mono_told | refine mono_seq ?_ | refine mono_blk ?_ | refine mono_lp ?_)) (le_intro [] [0] (by decide) (by decide) rfl (by simp [leS, leT, leA, gt]) (by simp [leB, leT, leA]) (by simp [leR])) ?_ ?_
 ·
  rintro t1 rfl
  refine W_seq (W_region ?_)
  iterate 2 (refine WO_op rfl rfl rfl ?_; simp only [putT,st,ev,gt,hp,ofV,constT,intT,lm])
  refine WO_nil ?_
  refine W_ret ?_
  obtain rfl := Option.some.inj H
  exact told5 rfl rfl rfl rfl (fitAs_nz rfl) rfl
 ·
  intro V1 hV1 hW1 hX1
  refine (laws_toScaleS.l0.partial_correctness a1 (fun v3 v4 s' => s' = t9 → (V1 ⟨[.c (cL enc_Scale a1), .no, .no, .row 0, qi v3], [], [rr 3 enc_Scale v4 true]⟩)) ?_ _ _ _ ht9 rfl)
  intro l0 IH1 v3 v4 s' H1 e
  subst e
  refine hV1 _ ?_
  refine W_seq (W_seq (W_region ?_))
  iterate 4 (refine WO_op rfl rfl rfl ?_; simp only [putT,st,ev,gt,hp,ofV,constT,intT,lm])
  refine WO_nil ?_
  refine W_cond rfl (fun hc => ?_) (fun hc => ?_)
  ·
   replace H1 := tr hc H1
   refine W_skip ?_
   refine W_seq ?_
   refine W_block ?_
   refine W_region ?_
   iterate 4 (refine WO_op rfl rfl rfl ?_; simp only [putT,st,ev,gt,hp,ofV,constT,intT,lm])
   obtain ⟨x5, hx5, H1⟩ := bnd H1
   refine WO_op rfl rfl (ev_ix (en := enc_Scale) hx5 rfl rfl rfl rfl rfl rfl rfl) ?_; simp only [putT,st,ev,gt,hp,ofV,constT,intT,lm]
   refine WO_op (x := .ag [qs x5.Name, qi x5.Now, .c (cL enc_Rec x5.Recs)]) rfl rfl rfl ?_; simp only [putT,st,ev,gt,hp,ofV,constT,intT,lm]
   obtain ⟨x6, hx6, H1⟩ := bnd H1
   refine WO_op (x := .ag [qs x6.Name, qi x6.Now, .row 1]) (σ' := ⟨[], [], [rr 3 enc_Scale v4 true, rr 2 enc_Rec x6.Recs true]⟩) rfl rfl (ev_callG (al := [.ag [qs x5.Name, qi x5.Now, .c (cL enc_Rec x5.Recs)]]) (ls := []) (laws_toScale_ok hx6) rfl rfl rfl rfl rfl (by decide) rfl rfl (by simp only [flatA, flatV, flatC, List.all_cons, List.all_nil, Option.all_some, Bool.and_self, Bool.or_true, fl_Rec]) rfl rfl rfl) ?_; simp only [putT,st,ev,gt,hp,ofV,constT,intT,lm]
   obtain ⟨x7, hx7, H1⟩ := bnd H1
   refine WO_op rfl rfl (ev_ixR (en := enc_Scale) hx7 rfl rfl rfl rfl rfl rfl rfl) ?_; simp only [putT,st,ev,gt,hp,ofV,constT,intT,lm]
   obtain ⟨m8, hm8, H1⟩ := bnd H1
   refine WO_op (x := .no) (σ' := ⟨[], [], [rr 3 enc_Scale m8 true, rr 2 enc_Rec x6.Recs false]⟩) rfl rfl (ev_stR (en := enc_Scale) hm8 hx7 rfl rfl rfl rfl rfl rfl rfl rfl) ?_; simp only [putT,st,ev,gt,hp,ofV,constT,intT,lm]
   refine WO_nil (W_region ?_)
   iterate 3 (refine WO_op rfl rfl rfl ?_; simp only [putT,st,ev,gt,hp,ofV,constT,intT,lm])
   refine WO_nil ?_
   exact hW1 _ _ ((IH1 _ _ _ H1 rfl)) (le_intro [] [0] (by decide) (by decide) rfl (by simp [leS, leT, leA, gt]) (by simp [leB, leT, leA]) (by simp [leR]))
  ·
   replace H1 := fl hc H1
   refine W_exit ?_
   obtain rfl := Option.some.inj H1
   exact hX1 v4 _ rfl (le_intro [] [0] (by decide) (by decide) rfl (by simp [leS, leT, leA, gt]) (by simp [leB, leT, leA]) (by simp [leR]))
theorem laws_toTold_ok {a1 : Told} {r : Told} (H : laws_toTold a1 = some r) : R 154 [.ag [(cI .i64 a1.Time, none), (cS a1.Name, none), (cI .i64 a1.N, none)]] = some (.ag [(cI .i64 r.Time, none), (cS r.Name, none), (cI .i64 r.N, none)], []) := by
 unfold laws_toTold at H
 refine Fz_walk 14 rfl rfl Try.func154 rfl (by kernel_rfl) rfl rfl rfl rfl ?_
 simp only [tellVs, tellV, tells, tell, st0, padT, SX.newRow, SX.newBox, List.length_cons, List.length_nil, Nat.reduceAdd, Nat.reduceSub, List.replicate, List.cons_append, List.nil_append, List.foldl_cons, List.foldl_nil]
 refine W_seq (W_region ?_)
 refine WO_op (x := .bp 0 0) (σ' := ⟨[], [some [qi a1.Time, qs a1.Name, qi a1.N]], []⟩) rfl rfl rfl ?_
 refine WO_op (x := .bp 1 0) (σ' := ⟨[], [some [qi a1.Time, qs a1.Name, qi a1.N], some [qi 0, qs [], qi 0]], []⟩) rfl rfl rfl ?_; simp only [putT,st,ev,gt,hp,ofV,constT,intT,lm]
 refine WO_nil (W_seq (W_region ?_))
 refine WO_op (x := .bp 2 0) (σ' := ⟨[], [some [qi a1.Time, qs a1.Name, qi a1.N], some [qi 0, qs [], qi 0], some [qi 0, qs [], qi 0]], []⟩) rfl rfl rfl ?_; simp only [putT,st,ev,gt,hp,ofV,constT,intT,lm]
 refine WO_nil (W_seq (W_region ?_))
 refine WO_op (x := .bp 0 0) rfl rfl rfl ?_
 refine WO_op (x := qi a1.Time) rfl rfl rfl ?_
 refine WO_op (x := .bp 2 0) rfl rfl rfl ?_
 refine WO_op (x := .no) (σ' := ⟨[], [some [qi a1.Time, qs a1.Name, qi a1.N], some [qi 0, qs [], qi 0], some [qi a1.Time, qs [], qi 0]], []⟩) rfl rfl rfl ?_; simp only [putT,st,ev,gt,hp,ofV,constT,intT,lm]
 refine WO_nil (W_seq (W_region ?_))
 refine WO_op (x := .bp 0 1) rfl rfl rfl ?_
 refine WO_op (x := qs a1.Name) rfl rfl rfl ?_
 refine WO_op (x := .bp 2 1) rfl rfl rfl ?_
 refine WO_op (x := .no) (σ' := ⟨[], [some [qi a1.Time, qs a1.Name, qi a1.N], some [qi 0, qs [], qi 0], some [qi a1.Time, qs a1.Name, qi 0]], []⟩) rfl rfl rfl ?_; simp only [putT,st,ev,gt,hp,ofV,constT,intT,lm]
 refine WO_nil (W_seq (W_region ?_))
 refine WO_op (x := .bp 0 2) rfl rfl rfl ?_
 refine WO_op (x := qi a1.N) rfl rfl rfl ?_
 refine WO_op (x := .bp 2 2) rfl rfl rfl ?_
 refine WO_op (x := .no) (σ' := ⟨[], [some [qi a1.Time, qs a1.Name, qi a1.N], some [qi 0, qs [], qi 0], some [qi a1.Time, qs a1.Name, qi a1.N]], []⟩) rfl rfl rfl ?_; simp only [putT,st,ev,gt,hp,ofV,constT,intT,lm]
 refine WO_nil (W_seq (W_region ?_))
 refine WO_op (x := .ag [qi a1.Time, qs a1.Name, qi a1.N]) rfl rfl rfl ?_
 refine WO_op (x := .no) (σ' := ⟨[], [some [qi a1.Time, qs a1.Name, qi a1.N], some [qi a1.Time, qs a1.Name, qi a1.N], some [qi a1.Time, qs a1.Name, qi a1.N]], []⟩) rfl rfl rfl ?_; simp only [putT,st,ev,gt,hp,ofV,constT,intT,lm]
 refine WO_nil ?_
 refine W_ret ?_
 obtain rfl := Option.some.inj H
 exact told3 rfl
theorem laws_toToldS_ok {a1 : List Told} {r : List Told} (H : laws_toToldS a1 = some r) : R 113 [.c (cL enc_Told a1) none] = some (.c (cL enc_Told r) (some 3), []) := by
 unfold laws_toToldS at H
 refine Fz_walk 23 rfl rfl Try.func113 rfl (by kernel_rfl) rfl rfl rfl rfl ?_
 simp only [tellVs, tellV, tells, tell, st0, padT, SX.newRow, SX.newBox, List.length_cons, List.length_nil, Nat.reduceAdd, Nat.reduceSub, List.replicate, List.cons_append, List.nil_append, List.foldl_cons, List.foldl_nil]
 refine W_seq (W_region ?_)
 refine WO_op rfl rfl rfl ?_; simp only [putT,st,ev,gt,hp,ofV,constT,intT,lm]
 refine WO_nil (W_seq (W_region ?_))
 iterate 2 (refine WO_op rfl rfl rfl ?_; simp only [putT,st,ev,gt,hp,ofV,constT,intT,lm])
 obtain ⟨m2, hm2, H⟩ := bnd H
 refine WO_op (x := .row 0) (σ' := ⟨[], [], [rr 3 enc_Told m2 true]⟩) rfl rfl (ev_mk (en := enc_Told) hm2 rfl rfl rfl rfl rfl rfl rfl rfl rfl rfl rfl rfl rfl rfl) ?_; simp only [putT,st,ev,gt,hp,ofV,constT,intT,lm]
 refine WO_op rfl rfl rfl ?_; simp only [putT,st,ev,gt,hp,ofV,constT,intT,lm]
 refine WO_nil (W_seq (W_seq (W_region ?_)))
 refine WO_op rfl rfl rfl ?_; simp only [putT,st,ev,gt,hp,ofV,constT,intT,lm]
 refine WO_nil ?_
 refine W_block ?_
 obtain ⟨t9, ht9, H⟩ := bnd H
 refine loop_rule (ls := []) 0 (fun t9 : List Told => ⟨[.no, .no, .no, .row 0], [], [rr 3 enc_Told t9 true]⟩) (fun t => t9 = t) ⟨[.c (cL enc_Told a1), .no, .no, .row 0, qi 0], [], [rr 3 enc_Told m2 true]⟩ (by repeat (first | exact mono_told | refine mono_seq ?_ | refine mono_blk ?_ | refine mono_lp ?_)) (le_intro [] [0] (by decide) (by decide) rfl (by simp [leS, leT, leA, gt]) (by simp [leB, leT, leA]) (by simp [leR])) ?_ ?_
 ·
  rintro t1 rfl
  refine W_seq (W_region ?_)
  iterate 2 (refine WO_op rfl rfl rfl ?_; simp only [putT,st,ev,gt,hp,ofV,constT,intT,lm])
  refine WO_nil ?_
  refine W_ret ?_
  obtain rfl := Option.some.inj H
  exact told5 rfl rfl rfl rfl (fitAs_nz rfl) rfl
 ·
  intro V1 hV1 hW1 hX1
  refine (laws_toToldS.l0.partial_correctness a1 (fun v3 v4 s' => s' = t9 → (V1 ⟨[.c (cL enc_Told a1), .no, .no, .row 0, qi v3], [], [rr 3 enc_Told v4 true]⟩)) ?_ _ _ _ ht9 rfl)
  intro l0 IH1 v3 v4 s' H1 e
  subst e
  refine hV1 _ ?_
  refine W_seq (W_seq (W_region ?_))
  iterate 4 (refine WO_op rfl rfl rfl ?_; simp only [putT,st,ev,gt,hp,ofV,constT,intT,lm])
  refine WO_nil ?_
  refine W_cond rfl (fun hc => ?_) (fun hc => ?_)
  ·
   replace H1 := tr hc H1
   refine W_skip ?_
   refine W_seq ?_
   refine W_block ?_
   refine W_region ?_
   iterate 4 (refine WO_op rfl rfl rfl ?_; simp only [putT,st,ev,gt,hp,ofV,constT,intT,lm])
   obtain ⟨x5, hx5, H1⟩ := bnd H1
   refine WO_op rfl rfl (ev_ix (en := enc_Told) hx5 rfl rfl rfl rfl rfl rfl rfl) ?_; simp only [putT,st,ev,gt,hp,ofV,constT,intT,lm]
   refine WO_op (x := .ag [qi x5.Time, qs x5.Name, qi x5.N]) rfl rfl rfl ?_; simp only [putT,st,ev,gt,hp,ofV,constT,intT,lm]
   obtain ⟨x6, hx6, H1⟩ := bnd H1
   refine WO_op (x := .ag [qi x6.Time, qs x6.Name, qi x6.N]) (σ' := ⟨[], [], [rr 3 enc_Told v4 true]⟩) rfl rfl (ev_callG (al := [.ag [qi x5.Time, qs x5.Name, qi x5.N]]) (ls := []) (laws_toTold_ok hx6) rfl rfl rfl rfl rfl (by decide) rfl rfl rfl rfl rfl rfl) ?_; simp only [putT,st,ev,gt,hp,ofV,constT,intT,lm]
   obtain ⟨x7, hx7, H1⟩ := bnd H1
   refine WO_op rfl rfl (ev_ixR (en := enc_Told) hx7 rfl rfl rfl rfl rfl rfl rfl) ?_; simp only [putT,st,ev,gt,hp,ofV,constT,intT,lm]
   obtain ⟨m8, hm8, H1⟩ := bnd H1
   refine WO_op (x := .no) (σ' := ⟨[], [], [rr 3 enc_Told m8 true]⟩) rfl rfl (ev_stR (en := enc_Told) hm8 hx7 rfl rfl rfl rfl rfl rfl rfl rfl) ?_; simp only [putT,st,ev,gt,hp,ofV,constT,intT,lm]
   refine WO_nil (W_region ?_)
   iterate 3 (refine WO_op rfl rfl rfl ?_; simp only [putT,st,ev,gt,hp,ofV,constT,intT,lm])
   refine WO_nil ?_
   exact hW1 _ _ ((IH1 _ _ _ H1 rfl)) (le_intro [] [0] (by decide) (by decide) rfl (by simp [leS, leT, leA, gt]) (by simp [leB, leT, leA]) (by simp [leR]))
  ·
   replace H1 := fl hc H1
   refine W_exit ?_
   obtain rfl := Option.some.inj H1
   exact hX1 v4 _ rfl (le_intro [] [0] (by decide) (by decide) rfl (by simp [leS, leT, leA, gt]) (by simp [leB, leT, leA]) (by simp [leR]))
theorem laws_toWorld_ok {a1 : World} {r : World} (H : laws_toWorld a1 = some r) : R 51 [.ag [(cL enc_Item a1.Store.Items, none), (cI .i64 a1.Store.Next, none), (cL enc_Scale a1.Scales, none), (cI .i64 a1.Time, none), (cL enc_Told a1.Log, none)]] = some (.ag [(cL enc_Item r.Store.Items, some 11), (cI .i64 r.Store.Next, none), (cL enc_Scale r.Scales, some 3), (cI .i64 r.Time, none), (cL enc_Told r.Log, some 3)], []) := by
 unfold laws_toWorld at H
 refine Fz_walk 20 rfl rfl Try.func51 rfl (by kernel_rfl) rfl rfl rfl rfl ?_
 simp only [tellVs, tellV, tells, tell, st0, padT, SX.newRow, SX.newBox, List.length_cons, List.length_nil, Nat.reduceAdd, Nat.reduceSub, List.replicate, List.cons_append, List.nil_append, List.foldl_cons, List.foldl_nil]
 refine W_seq (W_region ?_)
 refine WO_op (x := .bp 0 0) (σ' := ⟨[], [some [.c (cL enc_Item a1.Store.Items), qi a1.Store.Next, .c (cL enc_Scale a1.Scales), qi a1.Time, .c (cL enc_Told a1.Log)]], []⟩) rfl rfl rfl ?_
 refine WO_op (x := .bp 1 0) (σ' := ⟨[], [some [.c (cL enc_Item a1.Store.Items), qi a1.Store.Next, .c (cL enc_Scale a1.Scales), qi a1.Time, .c (cL enc_Told a1.Log)], some [.nil, qi 0, .nil, qi 0, .nil]], []⟩) rfl rfl rfl ?_; simp only [putT,st,ev,gt,hp,ofV,constT,intT,lm]
 refine WO_nil (W_seq (W_region ?_))
 refine WO_op (x := .bp 2 0) (σ' := ⟨[], [some [.c (cL enc_Item a1.Store.Items), qi a1.Store.Next, .c (cL enc_Scale a1.Scales), qi a1.Time, .c (cL enc_Told a1.Log)], some [.nil, qi 0, .nil, qi 0, .nil], some [.nil, qi 0, .nil, qi 0, .nil]], []⟩) rfl rfl rfl ?_; simp only [putT,st,ev,gt,hp,ofV,constT,intT,lm]
 refine WO_nil (W_seq (W_region ?_))
 refine WO_op (x := .bp 0 0) rfl rfl rfl ?_
 refine WO_op (x := .ag [.c (cL enc_Item a1.Store.Items), qi a1.Store.Next]) rfl rfl rfl ?_; simp only [putT,st,ev,gt,hp,ofV,constT,intT,lm]
 obtain ⟨x2, hx2, H⟩ := bnd H
 refine WO_op (x := .ag [.row 0, qi x2.Next]) (σ' := ⟨[], [some [.c (cL enc_Item a1.Store.Items), qi a1.Store.Next, .c (cL enc_Scale a1.Scales), qi a1.Time, .c (cL enc_Told a1.Log)], some [.nil, qi 0, .nil, qi 0, .nil], some [.nil, qi 0, .nil, qi 0, .nil]], [rr 11 enc_Item x2.Items true]⟩) rfl rfl (ev_callG (al := [.ag [.c (cL enc_Item a1.Store.Items), qi a1.Store.Next]]) (ls := []) (laws_toStore_ok hx2) rfl rfl rfl rfl rfl (by decide) rfl rfl rfl rfl rfl rfl) ?_; simp only [putT,st,ev,gt,hp,ofV,constT,intT,lm]
 refine WO_op (x := .bp 2 0) rfl rfl rfl ?_
 refine WO_op (x := .no) (σ' := ⟨[], [some [.c (cL enc_Item a1.Store.Items), qi a1.Store.Next, .c (cL enc_Scale a1.Scales), qi a1.Time, .c (cL enc_Told a1.Log)], some [.nil, qi 0, .nil, qi 0, .nil], some [.row 0, qi x2.Next, .nil, qi 0, .nil]], [rr 11 enc_Item x2.Items true]⟩) rfl rfl rfl ?_; simp only [putT,st,ev,gt,hp,ofV,constT,intT,lm]
 refine WO_nil (W_seq (W_region ?_))
 refine WO_op (x := .bp 0 2) rfl rfl rfl ?_
 refine WO_op (x := .c (cL enc_Scale a1.Scales)) rfl rfl rfl ?_; simp only [putT,st,ev,gt,hp,ofV,constT,intT,lm]
 obtain ⟨x3, hx3, H⟩ := bnd H
 refine WO_op (x := .row 1) (σ' := ⟨[], [some [.c (cL enc_Item a1.Store.Items), qi a1.Store.Next, .c (cL enc_Scale a1.Scales), qi a1.Time, .c (cL enc_Told a1.Log)], some [.nil, qi 0, .nil, qi 0, .nil], some [.row 0, qi x2.Next, .nil, qi 0, .nil]], [rr 11 enc_Item x2.Items true, rr 3 enc_Scale x3 true]⟩) rfl rfl (ev_callG (al := [.c (cL enc_Scale a1.Scales)]) (ls := []) (laws_toScaleS_ok hx3) rfl rfl rfl rfl rfl (by decide) rfl rfl rfl rfl rfl rfl) ?_; simp only [putT,st,ev,gt,hp,ofV,constT,intT,lm]
 refine WO_op (x := .bp 2 2) rfl rfl rfl ?_
 refine WO_op (x := .no) (σ' := ⟨[], [some [.c (cL enc_Item a1.Store.Items), qi a1.Store.Next, .c (cL enc_Scale a1.Scales), qi a1.Time, .c (cL enc_Told a1.Log)], some [.nil, qi 0, .nil, qi 0, .nil], some [.row 0, qi x2.Next, .row 1, qi 0, .nil]], [rr 11 enc_Item x2.Items true, rr 3 enc_Scale x3 true]⟩) rfl rfl rfl ?_; simp only [putT,st,ev,gt,hp,ofV,constT,intT,lm]
 refine WO_nil (W_seq (W_region ?_))
 refine WO_op (x := .bp 0 3) rfl rfl rfl ?_
 refine WO_op (x := qi a1.Time) rfl rfl rfl ?_
 refine WO_op (x := .bp 2 3) rfl rfl rfl ?_
 refine WO_op (x := .no) (σ' := ⟨[], [some [.c (cL enc_Item a1.Store.Items), qi a1.Store.Next, .c (cL enc_Scale a1.Scales), qi a1.Time, .c (cL enc_Told a1.Log)], some [.nil, qi 0, .nil, qi 0, .nil], some [.row 0, qi x2.Next, .row 1, qi a1.Time, .nil]], [rr 11 enc_Item x2.Items true, rr 3 enc_Scale x3 true]⟩) rfl rfl rfl ?_; simp only [putT,st,ev,gt,hp,ofV,constT,intT,lm]
 refine WO_nil (W_seq (W_region ?_))
 refine WO_op (x := .bp 0 4) rfl rfl rfl ?_
 refine WO_op (x := .c (cL enc_Told a1.Log)) rfl rfl rfl ?_; simp only [putT,st,ev,gt,hp,ofV,constT,intT,lm]
 obtain ⟨x4, hx4, H⟩ := bnd H
 refine WO_op (x := .row 2) (σ' := ⟨[], [some [.c (cL enc_Item a1.Store.Items), qi a1.Store.Next, .c (cL enc_Scale a1.Scales), qi a1.Time, .c (cL enc_Told a1.Log)], some [.nil, qi 0, .nil, qi 0, .nil], some [.row 0, qi x2.Next, .row 1, qi a1.Time, .nil]], [rr 11 enc_Item x2.Items true, rr 3 enc_Scale x3 true, rr 3 enc_Told x4 true]⟩) rfl rfl (ev_callG (al := [.c (cL enc_Told a1.Log)]) (ls := []) (laws_toToldS_ok hx4) rfl rfl rfl rfl rfl (by decide) rfl rfl (by simp only [flatA, flatV, flatC, List.all_cons, List.all_nil, Option.all_some, Bool.and_self, Bool.or_true, fl_Told]) rfl rfl rfl) ?_; simp only [putT,st,ev,gt,hp,ofV,constT,intT,lm]
 refine WO_op (x := .bp 2 4) rfl rfl rfl ?_
 refine WO_op (x := .no) (σ' := ⟨[], [some [.c (cL enc_Item a1.Store.Items), qi a1.Store.Next, .c (cL enc_Scale a1.Scales), qi a1.Time, .c (cL enc_Told a1.Log)], some [.nil, qi 0, .nil, qi 0, .nil], some [.row 0, qi x2.Next, .row 1, qi a1.Time, .row 2]], [rr 11 enc_Item x2.Items true, rr 3 enc_Scale x3 true, rr 3 enc_Told x4 true]⟩) rfl rfl rfl ?_; simp only [putT,st,ev,gt,hp,ofV,constT,intT,lm]
 refine WO_nil (W_seq (W_region ?_))
 refine WO_op (x := .ag [.row 0, qi x2.Next, .row 1, qi a1.Time, .row 2]) rfl rfl rfl ?_
 refine WO_op (x := .no) (σ' := ⟨[], [some [.c (cL enc_Item a1.Store.Items), qi a1.Store.Next, .c (cL enc_Scale a1.Scales), qi a1.Time, .c (cL enc_Told a1.Log)], some [.row 0, qi x2.Next, .row 1, qi a1.Time, .row 2], some [.row 0, qi x2.Next, .row 1, qi a1.Time, .row 2]], [rr 11 enc_Item x2.Items true, rr 3 enc_Scale x3 true, rr 3 enc_Told x4 true]⟩) rfl rfl rfl ?_; simp only [putT,st,ev,gt,hp,ofV,constT,intT,lm]
 refine WO_nil ?_
 refine W_ret ?_
 obtain rfl := Option.some.inj H
 exact told5 rfl rfl rfl rfl (fitAs_nz rfl) rfl
theorem spec_l1In_ok {a1 : Int} {a2 : Int} {a3 : Int} {r : Bool} (H : spec_l1In a1 a2 a3 = some r) : R 81 [.c (cI .i64 a1) none, .c (cI .i64 a2) none, .c (cI .i64 a3) none] = some (.c (cB r) none, []) := by
 unfold spec_l1In at H
 refine Fz_walk 15 rfl rfl Try.func81 rfl (by kernel_rfl) rfl rfl rfl rfl ?_
 simp only [tellVs, tellV, tells, tell, st0, padT, SX.newRow, SX.newBox, List.length_cons, List.length_nil, Nat.reduceAdd, Nat.reduceSub, List.replicate, List.cons_append, List.nil_append, List.foldl_cons, List.foldl_nil]
 refine W_seq (W_region ?_)
 refine WO_op rfl rfl rfl ?_; simp only [putT,st,ev,gt,hp,ofV,constT,intT,lm]
 refine WO_nil (W_seq (W_region ?_))
 iterate 4 (refine WO_op rfl rfl rfl ?_; simp only [putT,st,ev,gt,hp,ofV,constT,intT,lm])
 refine WO_if rfl rfl rfl (fun hc => ?_) (fun hc => ?_)
 ·
  replace H := tr hc H
  simp only [putT,st,ev,gt,hp,ofV,constT,intT,lm]
  iterate 3 (refine WO_want rfl rfl rfl ?_; simp only [putT,st,ev,gt,hp,ofV,constT,intT,lm])
  refine WO_op (x := qb (decide (a1 ≤ a3))) rfl rfl rfl ?_
  refine WO_op rfl rfl rfl ?_; simp only [putT,st,ev,gt,hp,ofV,constT,intT,lm]
  refine WO_nil ?_
  refine W_ret ?_
  obtain rfl := Option.some.inj H
  exact told3 rfl
 ·
  replace H := fl hc H
  simp only [putT,st,ev,gt,hp,ofV,constT,intT,lm]
  iterate 3 refine WO_skip rfl rfl ?_
  refine WO_op (x := qb false) rfl rfl rfl ?_
  refine WO_op rfl rfl rfl ?_; simp only [putT,st,ev,gt,hp,ofV,constT,intT,lm]
  refine WO_nil ?_
  refine W_ret ?_
  obtain rfl := Option.some.inj H
  exact told3 rfl
theorem spec_NameOk_ok {a1 : Str} {r : Bool} (H : spec_NameOk a1 = some r) : R 84 [.c (cS a1) none] = some (.c (cB r) none, []) := by
 unfold spec_NameOk at H
 refine Fz_walk 40 rfl rfl Try.func84 rfl (by kernel_rfl) rfl rfl rfl rfl ?_
 simp only [tellVs, tellV, tells, tell, st0, padT, SX.newRow, SX.newBox, List.length_cons, List.length_nil, Nat.reduceAdd, Nat.reduceSub, List.replicate, List.cons_append, List.nil_append, List.foldl_cons, List.foldl_nil]
 refine W_seq (W_region ?_)
 refine WO_op rfl rfl rfl ?_; simp only [putT,st,ev,gt,hp,ofV,constT,intT,lm]
 refine WO_nil (W_seq (W_seq (W_region ?_)))
 refine WO_op rfl rfl rfl ?_; simp only [putT,st,ev,gt,hp,ofV,constT,intT,lm]
 refine WO_nil ?_
 refine W_block ?_
 obtain ⟨s6, hs6, H⟩ := bnd H
 refine loop_rule (ls := []) 0 (fun t4 : Unit => ⟨[qs a1], [], []⟩) (fun t => s6 = .inr t) ⟨[qs a1, .no, .no, qi 0], [], []⟩ (by repeat (first | exact mono_told | refine mono_seq ?_ | refine mono_blk ?_ | refine mono_lp ?_)) (le_intro [] [] (by decide) (by decide) rfl (by simp [leS, leT, leA, gt]) (by simp [leB, leT, leA]) (by simp [leR])) ?_ ?_
 ·
  rintro t4 rfl
  refine W_seq (W_region ?_)
  refine WO_op rfl rfl rfl ?_
  refine WO_op (x := qi (a1.length : Int)) rfl rfl rfl ?_; simp only [putT,st,ev,gt,hp,ofV,constT,intT,lm]
  obtain ⟨x5, hx5, H⟩ := bnd H
  refine WO_op (x := qb x5) (σ' := ⟨[], [], []⟩) rfl rfl (ev_callG (al := [qi (a1.length : Int), qi 1, qi 20]) (ls := []) (spec_l1In_ok hx5) rfl rfl rfl rfl rfl (by decide) rfl rfl rfl rfl rfl rfl) ?_; simp only [putT,st,ev,gt,hp,ofV,constT,intT,lm]
  refine WO_op rfl rfl rfl ?_; simp only [putT,st,ev,gt,hp,ofV,constT,intT,lm]
  refine WO_nil ?_
  refine W_ret ?_
  obtain rfl := Option.some.inj H
  exact told3 rfl
 ·
  intro V1 hV1 hW1 hX1
  refine (spec_NameOk.l0.partial_correctness a1 (fun v2 s' => s' = s6 → (V1 ⟨[qs a1, .no, .no, qi v2], [], []⟩)) ?_ _ _ hs6 rfl)
  intro l0 IH1 v2 s' H1 e
  subst e
  refine hV1 _ ?_
  refine W_seq (W_seq (W_region ?_))
  iterate 2 (refine WO_op rfl rfl rfl ?_; simp only [putT,st,ev,gt,hp,ofV,constT,intT,lm])
  refine WO_op (x := qi (a1.length : Int)) rfl rfl rfl ?_
  refine WO_op rfl rfl rfl ?_; simp only [putT,st,ev,gt,hp,ofV,constT,intT,lm]
  refine WO_nil ?_
  refine W_cond rfl (fun hc => ?_) (fun hc => ?_)
  ·
   replace H1 := tr hc H1
   refine W_skip ?_
   refine W_seq ?_
   refine W_block ?_
   refine W_seq (W_region ?_)
   iterate 2 (refine WO_op rfl rfl rfl ?_; simp only [putT,st,ev,gt,hp,ofV,constT,intT,lm])
   obtain ⟨c3, hc3, H1⟩ := bnd H1
   refine WO_op rfl rfl (ev_sx hc3 rfl rfl rfl rfl) ?_; simp only [putT,st,ev,gt,hp,ofV,constT,intT,lm]
   refine WO_op rfl rfl rfl ?_; simp only [putT,st,ev,gt,hp,ofV,constT,intT,lm]
   refine WO_nil (W_seq (W_region ?_))
   iterate 3 (refine WO_op rfl rfl rfl ?_; simp only [putT,st,ev,gt,hp,ofV,constT,intT,lm])
   refine WO_if rfl rfl rfl (fun hc => ?_) (fun hc => ?_)
   ·
    replace H1 := tr hc H1
    simp only [putT,st,ev,gt,hp,ofV,constT,intT,lm]
    iterate 2 (refine WO_want rfl rfl rfl ?_; simp only [putT,st,ev,gt,hp,ofV,constT,intT,lm])
    refine WO_op (x := qb (decide ((byte c3) ≤ 122))) rfl rfl rfl ?_
    refine WO_op rfl rfl rfl ?_; simp only [putT,st,ev,gt,hp,ofV,constT,intT,lm]
    refine WO_if rfl rfl rfl (fun hc => ?_) (fun hc => ?_)
    ·
     replace H1 := tr hc H1
     simp only [putT,st,ev,gt,hp,ofV,constT,intT,lm]
     iterate 14 refine WO_skip rfl rfl ?_
     refine WO_op (x := qb true) rfl rfl rfl ?_
     refine WO_op rfl rfl rfl ?_; simp only [putT,st,ev,gt,hp,ofV,constT,intT,lm]
     refine WO_nil ?_
     refine W_cond rfl (fun hc => ?_) (fun hc => ?_)
     ·
      replace H1 := tr hc H1
      refine W_seq (W_region ?_)
      refine WO_op rfl rfl rfl ?_; simp only [putT,st,ev,gt,hp,ofV,constT,intT,lm]
      refine WO_nil ?_
      refine W_ret ?_
      obtain rfl := Option.some.inj H1
      obtain rfl := Option.some.inj H
      exact told3 rfl
     ·
      replace H1 := fl hc H1
      refine W_skip ?_
      refine W_region ?_
      iterate 3 (refine WO_op rfl rfl rfl ?_; simp only [putT,st,ev,gt,hp,ofV,constT,intT,lm])
      refine WO_nil ?_
      exact hW1 _ _ ((IH1 _ _ H1 rfl)) (le_intro [] [] (by decide) (by decide) rfl (by simp [leS, leT, leA, gt]) (by simp [leB, leT, leA]) (by simp [leR]))
    ·
     replace H1 := fl hc H1
     simp only [putT,st,ev,gt,hp,ofV,constT,intT,lm]
     iterate 3 (refine WO_want rfl rfl rfl ?_; simp only [putT,st,ev,gt,hp,ofV,constT,intT,lm])
     refine WO_if rfl rfl rfl (fun hc => ?_) (fun hc => ?_)
     ·
      replace H1 := tr hc H1
      simp only [putT,st,ev,gt,hp,ofV,constT,intT,lm]
      iterate 3 (refine WO_want rfl rfl rfl ?_; simp only [putT,st,ev,gt,hp,ofV,constT,intT,lm])
      refine WO_if rfl rfl rfl (fun hc => ?_) (fun hc => ?_)
      ·
       replace H1 := tr hc H1
       simp only [putT,st,ev,gt,hp,ofV,constT,intT,lm]
       iterate 2 (refine WO_want rfl rfl rfl ?_; simp only [putT,st,ev,gt,hp,ofV,constT,intT,lm])
       refine WO_want (x := qb (decide ((byte c3) ≤ 57))) rfl rfl rfl ?_
       refine WO_want rfl rfl rfl ?_; simp only [putT,st,ev,gt,hp,ofV,constT,intT,lm]
       refine WO_if rfl rfl rfl (fun hc => ?_) (fun hc => ?_)
       ·
        replace H1 := tr hc H1
        simp only [putT,st,ev,gt,hp,ofV,constT,intT,lm]
        iterate 2 refine WO_skip rfl rfl ?_
        simp only [putT,st,ev,gt,hp,ofV,constT,intT,lm]
        iterate 2 (refine WO_want (x := qb true) rfl rfl rfl ?_; simp only [putT,st,ev,gt,hp,ofV,constT,intT,lm])
        refine WO_op (x := qb true) rfl rfl rfl ?_
        refine WO_op rfl rfl rfl ?_; simp only [putT,st,ev,gt,hp,ofV,constT,intT,lm]
        refine WO_nil ?_
        refine W_cond rfl (fun hc => ?_) (fun hc => ?_)
        ·
         replace H1 := tr hc H1
         refine W_seq (W_region ?_)
         refine WO_op rfl rfl rfl ?_; simp only [putT,st,ev,gt,hp,ofV,constT,intT,lm]
         refine WO_nil ?_
         refine W_ret ?_
         obtain rfl := Option.some.inj H1
         obtain rfl := Option.some.inj H
         exact told3 rfl
        ·
         replace H1 := fl hc H1
         refine W_skip ?_
         refine W_region ?_
         iterate 3 (refine WO_op rfl rfl rfl ?_; simp only [putT,st,ev,gt,hp,ofV,constT,intT,lm])
         refine WO_nil ?_
         exact hW1 _ _ ((IH1 _ _ H1 rfl)) (le_intro [] [] (by decide) (by decide) rfl (by simp [leS, leT, leA, gt]) (by simp [leB, leT, leA]) (by simp [leR]))
       ·
        replace H1 := fl hc H1
        simp only [putT,st,ev,gt,hp,ofV,constT,intT,lm]
        iterate 2 (refine WO_want rfl rfl rfl ?_; simp only [putT,st,ev,gt,hp,ofV,constT,intT,lm])
        iterate 2 (refine WO_want (x := qb ((byte c3) == 45)) rfl rfl rfl ?_; simp only [putT,st,ev,gt,hp,ofV,constT,intT,lm])
        refine WO_op (x := qb ((byte c3) == 45)) rfl rfl rfl ?_
        refine WO_op rfl rfl rfl ?_; simp only [putT,st,ev,gt,hp,ofV,constT,intT,lm]
        refine WO_nil ?_
        refine W_cond rfl (fun hc => ?_) (fun hc => ?_)
        ·
         replace H1 := tr hc H1
         refine W_seq (W_region ?_)
         refine WO_op rfl rfl rfl ?_; simp only [putT,st,ev,gt,hp,ofV,constT,intT,lm]
         refine WO_nil ?_
         refine W_ret ?_
         obtain rfl := Option.some.inj H1
         obtain rfl := Option.some.inj H
         exact told3 rfl
        ·
         replace H1 := fl hc H1
         refine W_skip ?_
         refine W_region ?_
         iterate 3 (refine WO_op rfl rfl rfl ?_; simp only [putT,st,ev,gt,hp,ofV,constT,intT,lm])
         refine WO_nil ?_
         exact hW1 _ _ ((IH1 _ _ H1 rfl)) (le_intro [] [] (by decide) (by decide) rfl (by simp [leS, leT, leA, gt]) (by simp [leB, leT, leA]) (by simp [leR]))
      ·
       replace H1 := fl hc H1
       simp only [putT,st,ev,gt,hp,ofV,constT,intT,lm]
       iterate 2 refine WO_skip rfl rfl ?_
       refine WO_want (x := qb false) rfl rfl rfl ?_; simp only [putT,st,ev,gt,hp,ofV,constT,intT,lm]
       iterate 3 (refine WO_want rfl rfl rfl ?_; simp only [putT,st,ev,gt,hp,ofV,constT,intT,lm])
       iterate 2 (refine WO_want (x := qb ((byte c3) == 45)) rfl rfl rfl ?_; simp only [putT,st,ev,gt,hp,ofV,constT,intT,lm])
       refine WO_op (x := qb ((byte c3) == 45)) rfl rfl rfl ?_
       refine WO_op rfl rfl rfl ?_; simp only [putT,st,ev,gt,hp,ofV,constT,intT,lm]
       refine WO_nil ?_
       refine W_cond rfl (fun hc => ?_) (fun hc => ?_)
       ·
        replace H1 := tr hc H1
        refine W_seq (W_region ?_)
        refine WO_op rfl rfl rfl ?_; simp only [putT,st,ev,gt,hp,ofV,constT,intT,lm]
        refine WO_nil ?_
        refine W_ret ?_
        obtain rfl := Option.some.inj H1
        obtain rfl := Option.some.inj H
        exact told3 rfl
       ·
        replace H1 := fl hc H1
        refine W_skip ?_
        refine W_region ?_
        iterate 3 (refine WO_op rfl rfl rfl ?_; simp only [putT,st,ev,gt,hp,ofV,constT,intT,lm])
        refine WO_nil ?_
        exact hW1 _ _ ((IH1 _ _ H1 rfl)) (le_intro [] [] (by decide) (by decide) rfl (by simp [leS, leT, leA, gt]) (by simp [leB, leT, leA]) (by simp [leR]))
     ·
      replace H1 := fl hc H1
      simp only [putT,st,ev,gt,hp,ofV,constT,intT,lm]
      iterate 10 refine WO_skip rfl rfl ?_
      refine WO_want (x := qb false) rfl rfl rfl ?_
      refine WO_op (x := qb false) rfl rfl rfl ?_
      refine WO_op rfl rfl rfl ?_; simp only [putT,st,ev,gt,hp,ofV,constT,intT,lm]
      refine WO_nil ?_
      refine W_cond rfl (fun hc => ?_) (fun hc => ?_)
      ·
       replace H1 := tr hc H1
       refine W_seq (W_region ?_)
       refine WO_op rfl rfl rfl ?_; simp only [putT,st,ev,gt,hp,ofV,constT,intT,lm]
       refine WO_nil ?_
       refine W_ret ?_
       obtain rfl := Option.some.inj H1
       obtain rfl := Option.some.inj H
       exact told3 rfl
      ·
       replace H1 := fl hc H1
       refine W_skip ?_
       refine W_region ?_
       iterate 3 (refine WO_op rfl rfl rfl ?_; simp only [putT,st,ev,gt,hp,ofV,constT,intT,lm])
       refine WO_nil ?_
       exact hW1 _ _ ((IH1 _ _ H1 rfl)) (le_intro [] [] (by decide) (by decide) rfl (by simp [leS, leT, leA, gt]) (by simp [leB, leT, leA]) (by simp [leR]))
   ·
    replace H1 := fl hc H1
    simp only [putT,st,ev,gt,hp,ofV,constT,intT,lm]
    iterate 2 refine WO_skip rfl rfl ?_
    refine WO_op (x := qb false) rfl rfl rfl ?_
    refine WO_op rfl rfl rfl ?_; simp only [putT,st,ev,gt,hp,ofV,constT,intT,lm]
    iterate 3 (refine WO_want rfl rfl rfl ?_; simp only [putT,st,ev,gt,hp,ofV,constT,intT,lm])
    refine WO_if rfl rfl rfl (fun hc => ?_) (fun hc => ?_)
    ·
     replace H1 := tr hc H1
     simp only [putT,st,ev,gt,hp,ofV,constT,intT,lm]
     iterate 3 (refine WO_want rfl rfl rfl ?_; simp only [putT,st,ev,gt,hp,ofV,constT,intT,lm])
     refine WO_if rfl rfl rfl (fun hc => ?_) (fun hc => ?_)
     ·
      replace H1 := tr hc H1
      simp only [putT,st,ev,gt,hp,ofV,constT,intT,lm]
      iterate 2 (refine WO_want rfl rfl rfl ?_; simp only [putT,st,ev,gt,hp,ofV,constT,intT,lm])
      refine WO_want (x := qb (decide ((byte c3) ≤ 57))) rfl rfl rfl ?_
      refine WO_want rfl rfl rfl ?_; simp only [putT,st,ev,gt,hp,ofV,constT,intT,lm]
      refine WO_if rfl rfl rfl (fun hc => ?_) (fun hc => ?_)
      ·
       replace H1 := tr hc H1
       simp only [putT,st,ev,gt,hp,ofV,constT,intT,lm]
       iterate 2 refine WO_skip rfl rfl ?_
       simp only [putT,st,ev,gt,hp,ofV,constT,intT,lm]
       iterate 2 (refine WO_want (x := qb true) rfl rfl rfl ?_; simp only [putT,st,ev,gt,hp,ofV,constT,intT,lm])
       refine WO_op (x := qb true) rfl rfl rfl ?_
       refine WO_op rfl rfl rfl ?_; simp only [putT,st,ev,gt,hp,ofV,constT,intT,lm]
       refine WO_nil ?_
       refine W_cond rfl (fun hc => ?_) (fun hc => ?_)
       ·
        replace H1 := tr hc H1
        refine W_seq (W_region ?_)
        refine WO_op rfl rfl rfl ?_; simp only [putT,st,ev,gt,hp,ofV,constT,intT,lm]
        refine WO_nil ?_
        refine W_ret ?_
        obtain rfl := Option.some.inj H1
        obtain rfl := Option.some.inj H
        exact told3 rfl
       ·
        replace H1 := fl hc H1
        refine W_skip ?_
        refine W_region ?_
        iterate 3 (refine WO_op rfl rfl rfl ?_; simp only [putT,st,ev,gt,hp,ofV,constT,intT,lm])
        refine WO_nil ?_
        exact hW1 _ _ ((IH1 _ _ H1 rfl)) (le_intro [] [] (by decide) (by decide) rfl (by simp [leS, leT, leA, gt]) (by simp [leB, leT, leA]) (by simp [leR]))
      ·
       replace H1 := fl hc H1
       simp only [putT,st,ev,gt,hp,ofV,constT,intT,lm]
       iterate 2 (refine WO_want rfl rfl rfl ?_; simp only [putT,st,ev,gt,hp,ofV,constT,intT,lm])
       iterate 2 (refine WO_want (x := qb ((byte c3) == 45)) rfl rfl rfl ?_; simp only [putT,st,ev,gt,hp,ofV,constT,intT,lm])
       refine WO_op (x := qb ((byte c3) == 45)) rfl rfl rfl ?_
       refine WO_op rfl rfl rfl ?_; simp only [putT,st,ev,gt,hp,ofV,constT,intT,lm]
       refine WO_nil ?_
       refine W_cond rfl (fun hc => ?_) (fun hc => ?_)
       ·
        replace H1 := tr hc H1
        refine W_seq (W_region ?_)
        refine WO_op rfl rfl rfl ?_; simp only [putT,st,ev,gt,hp,ofV,constT,intT,lm]
        refine WO_nil ?_
        refine W_ret ?_
        obtain rfl := Option.some.inj H1
        obtain rfl := Option.some.inj H
        exact told3 rfl
       ·
        replace H1 := fl hc H1
        refine W_skip ?_
        refine W_region ?_
        iterate 3 (refine WO_op rfl rfl rfl ?_; simp only [putT,st,ev,gt,hp,ofV,constT,intT,lm])
        refine WO_nil ?_
        exact hW1 _ _ ((IH1 _ _ H1 rfl)) (le_intro [] [] (by decide) (by decide) rfl (by simp [leS, leT, leA, gt]) (by simp [leB, leT, leA]) (by simp [leR]))
     ·
      replace H1 := fl hc H1
      simp only [putT,st,ev,gt,hp,ofV,constT,intT,lm]
      iterate 2 refine WO_skip rfl rfl ?_
      refine WO_want (x := qb false) rfl rfl rfl ?_; simp only [putT,st,ev,gt,hp,ofV,constT,intT,lm]
      iterate 3 (refine WO_want rfl rfl rfl ?_; simp only [putT,st,ev,gt,hp,ofV,constT,intT,lm])
      iterate 2 (refine WO_want (x := qb ((byte c3) == 45)) rfl rfl rfl ?_; simp only [putT,st,ev,gt,hp,ofV,constT,intT,lm])
      refine WO_op (x := qb ((byte c3) == 45)) rfl rfl rfl ?_
      refine WO_op rfl rfl rfl ?_; simp only [putT,st,ev,gt,hp,ofV,constT,intT,lm]
      refine WO_nil ?_
      refine W_cond rfl (fun hc => ?_) (fun hc => ?_)
      ·
       replace H1 := tr hc H1
       refine W_seq (W_region ?_)
       refine WO_op rfl rfl rfl ?_; simp only [putT,st,ev,gt,hp,ofV,constT,intT,lm]
       refine WO_nil ?_
       refine W_ret ?_
       obtain rfl := Option.some.inj H1
       obtain rfl := Option.some.inj H
       exact told3 rfl
      ·
       replace H1 := fl hc H1
       refine W_skip ?_
       refine W_region ?_
       iterate 3 (refine WO_op rfl rfl rfl ?_; simp only [putT,st,ev,gt,hp,ofV,constT,intT,lm])
       refine WO_nil ?_
       exact hW1 _ _ ((IH1 _ _ H1 rfl)) (le_intro [] [] (by decide) (by decide) rfl (by simp [leS, leT, leA, gt]) (by simp [leB, leT, leA]) (by simp [leR]))
    ·
     replace H1 := fl hc H1
     simp only [putT,st,ev,gt,hp,ofV,constT,intT,lm]
     iterate 10 refine WO_skip rfl rfl ?_
     refine WO_want (x := qb false) rfl rfl rfl ?_
     refine WO_op (x := qb false) rfl rfl rfl ?_
     refine WO_op rfl rfl rfl ?_; simp only [putT,st,ev,gt,hp,ofV,constT,intT,lm]
     refine WO_nil ?_
     refine W_cond rfl (fun hc => ?_) (fun hc => ?_)
     ·
      replace H1 := tr hc H1
      refine W_seq (W_region ?_)
      refine WO_op rfl rfl rfl ?_; simp only [putT,st,ev,gt,hp,ofV,constT,intT,lm]
      refine WO_nil ?_
      refine W_ret ?_
      obtain rfl := Option.some.inj H1
      obtain rfl := Option.some.inj H
      exact told3 rfl
     ·
      replace H1 := fl hc H1
      refine W_skip ?_
      refine W_region ?_
      iterate 3 (refine WO_op rfl rfl rfl ?_; simp only [putT,st,ev,gt,hp,ofV,constT,intT,lm])
      refine WO_nil ?_
      exact hW1 _ _ ((IH1 _ _ H1 rfl)) (le_intro [] [] (by decide) (by decide) rfl (by simp [leS, leT, leA, gt]) (by simp [leB, leT, leA]) (by simp [leR]))
  ·
   replace H1 := fl hc H1
   refine W_exit ?_
   obtain rfl := Option.some.inj H1
   exact hX1 () _ rfl (le_intro [] [] (by decide) (by decide) rfl (by simp [leS, leT, leA, gt]) (by simp [leB, leT, leA]) (by simp [leR]))
theorem spec_MetricOk_ok {a1 : Metric} {r : Bool} (H : spec_MetricOk a1 = some r) : R 80 [.ag [(cS a1.Name, none), (cI .i64 a1.Kind, none), (cI .i64 a1.Goal, none)]] = some (.c (cB r) none, []) := by
 unfold spec_MetricOk at H
 refine Fz_walk 16 rfl rfl Try.func80 rfl (by kernel_rfl) rfl rfl rfl rfl ?_
 simp only [tellVs, tellV, tells, tell, st0, padT, SX.newRow, SX.newBox, List.length_cons, List.length_nil, Nat.reduceAdd, Nat.reduceSub, List.replicate, List.cons_append, List.nil_append, List.foldl_cons, List.foldl_nil]
 refine W_seq (W_region ?_)
 refine WO_op (x := .bp 0 0) (σ' := ⟨[], [some [qs a1.Name, qi a1.Kind, qi a1.Goal]], []⟩) rfl rfl rfl ?_
 refine WO_op rfl rfl rfl ?_; simp only [putT,st,ev,gt,hp,ofV,constT,intT,lm]
 refine WO_nil (W_seq (W_region ?_))
 refine WO_op (x := .bp 0 0) rfl rfl rfl ?_
 refine WO_op (x := qs a1.Name) rfl rfl rfl ?_; simp only [putT,st,ev,gt,hp,ofV,constT,intT,lm]
 obtain ⟨x2, hx2, H⟩ := bnd H
 refine WO_op (x := qb x2) (σ' := ⟨[], [some [qs a1.Name, qi a1.Kind, qi a1.Goal]], []⟩) rfl rfl (ev_callG (al := [qs a1.Name]) (ls := []) (spec_NameOk_ok hx2) rfl rfl rfl rfl rfl (by decide) rfl rfl rfl rfl rfl rfl) ?_; simp only [putT,st,ev,gt,hp,ofV,constT,intT,lm]
 refine WO_op rfl rfl rfl ?_; simp only [putT,st,ev,gt,hp,ofV,constT,intT,lm]
 refine WO_if rfl rfl rfl (fun hc => ?_) (fun hc => ?_)
 ·
  replace H := tr hc H
  refine WO_want (x := .bp 0 1) rfl rfl rfl ?_
  refine WO_want (x := qi a1.Kind) rfl rfl rfl ?_; simp only [putT,st,ev,gt,hp,ofV,constT,intT,lm]
  obtain ⟨x3, hx3, H⟩ := bnd H
  refine WO_want (x := qb x3) (σ' := ⟨[], [some [qs a1.Name, qi a1.Kind, qi a1.Goal]], []⟩) rfl rfl (ev_callG (al := [qi a1.Kind, qi 1, qi 3]) (ls := []) (spec_l1In_ok hx3) rfl rfl rfl rfl rfl (by decide) rfl rfl rfl rfl rfl rfl) ?_; simp only [putT,st,ev,gt,hp,ofV,constT,intT,lm]
  refine WO_op (x := qb x3) rfl rfl rfl ?_
  refine WO_op rfl rfl rfl ?_; simp only [putT,st,ev,gt,hp,ofV,constT,intT,lm]
  refine WO_if rfl rfl rfl (fun hc => ?_) (fun hc => ?_)
  ·
   replace H := tr hc H
   refine WO_want (x := .bp 0 2) rfl rfl rfl ?_
   refine WO_want (x := qi a1.Goal) rfl rfl rfl ?_; simp only [putT,st,ev,gt,hp,ofV,constT,intT,lm]
   obtain ⟨x4, hx4, H⟩ := bnd H
   refine WO_want (x := qb x4) (σ' := ⟨[], [some [qs a1.Name, qi a1.Kind, qi a1.Goal]], []⟩) rfl rfl (ev_callG (al := [qi a1.Goal, qi 1, qi 1000000]) (ls := []) (spec_l1In_ok hx4) rfl rfl rfl rfl rfl (by decide) rfl rfl rfl rfl rfl rfl) ?_; simp only [putT,st,ev,gt,hp,ofV,constT,intT,lm]
   refine WO_op (x := qb x4) rfl rfl rfl ?_
   refine WO_op rfl rfl rfl ?_; simp only [putT,st,ev,gt,hp,ofV,constT,intT,lm]
   refine WO_nil ?_
   refine W_ret ?_
   obtain rfl := Option.some.inj H
   exact told3 rfl
  ·
   replace H := fl hc H
   simp only [putT,st,ev,gt,hp,ofV,constT,intT,lm]
   iterate 3 refine WO_skip rfl rfl ?_
   refine WO_op (x := qb false) rfl rfl rfl ?_
   refine WO_op rfl rfl rfl ?_; simp only [putT,st,ev,gt,hp,ofV,constT,intT,lm]
   refine WO_nil ?_
   refine W_ret ?_
   obtain rfl := Option.some.inj H
   exact told3 rfl
 ·
  replace H := fl hc H
  simp only [putT,st,ev,gt,hp,ofV,constT,intT,lm]
  iterate 3 refine WO_skip rfl rfl ?_
  refine WO_op (x := qb false) rfl rfl rfl ?_
  refine WO_op rfl rfl rfl ?_; simp only [putT,st,ev,gt,hp,ofV,constT,intT,lm]
  iterate 3 refine WO_skip rfl rfl ?_
  refine WO_op (x := qb false) rfl rfl rfl ?_
  refine WO_op rfl rfl rfl ?_; simp only [putT,st,ev,gt,hp,ofV,constT,intT,lm]
  refine WO_nil ?_
  refine W_ret ?_
  obtain rfl := Option.some.inj H
  exact told3 rfl
theorem spec_l6Metrics_ok {a1 : List Metric} {r : Bool} (H : spec_l6Metrics a1 = some r) : R 88 [.c (cL enc_Metric a1) none] = some (.c (cB r) none, []) := by
 unfold spec_l6Metrics at H
 refine Fz_walk 37 rfl rfl Try.func88 rfl (by kernel_rfl) rfl rfl rfl rfl ?_
 simp only [tellVs, tellV, tells, tell, st0, padT, SX.newRow, SX.newBox, List.length_cons, List.length_nil, Nat.reduceAdd, Nat.reduceSub, List.replicate, List.cons_append, List.nil_append, List.foldl_cons, List.foldl_nil]
 refine W_seq (W_region ?_)
 refine WO_op rfl rfl rfl ?_; simp only [putT,st,ev,gt,hp,ofV,constT,intT,lm]
 refine WO_nil (W_seq (W_seq (W_region ?_)))
 refine WO_op rfl rfl rfl ?_; simp only [putT,st,ev,gt,hp,ofV,constT,intT,lm]
 refine WO_nil ?_
 refine W_block ?_
 obtain ⟨s8, hs8, H⟩ := bnd H
 refine loop_rule (ls := []) 0 (fun t7 : Unit => ⟨[.c (cL enc_Metric a1)], [], []⟩) (fun t => s8 = .inr t) ⟨[.c (cL enc_Metric a1), .no, .no, qi 0], [], []⟩ (by repeat (first | exact mono_told | refine mono_seq ?_ | refine mono_blk ?_ | refine mono_lp ?_)) (le_intro [] [] (by decide) (by decide) rfl (by simp [leS, leT, leA, gt]) (by simp [leB, leT, leA]) (by simp [leR])) ?_ ?_
 ·
  rintro t7 rfl
  refine W_seq (W_region ?_)
  iterate 4 (refine WO_op rfl rfl rfl ?_; simp only [putT,st,ev,gt,hp,ofV,constT,intT,lm])
  refine WO_nil ?_
  refine W_ret ?_
  obtain rfl := Option.some.inj H
  exact told3 rfl
 ·
  intro V1 hV1 hW1 hX1
  refine (spec_l6Metrics.l0.partial_correctness a1 (fun v2 s' => s' = s8 → (V1 ⟨[.c (cL enc_Metric a1), .no, .no, qi v2], [], []⟩)) ?_ _ _ hs8 rfl)
  intro l0 IH1 v2 s' H1 e
  subst e
  refine hV1 _ ?_
  refine W_seq (W_seq (W_region ?_))
  iterate 4 (refine WO_op rfl rfl rfl ?_; simp only [putT,st,ev,gt,hp,ofV,constT,intT,lm])
  refine WO_nil ?_
  refine W_cond rfl (fun hc => ?_) (fun hc => ?_)
  ·
   replace H1 := tr hc H1
   refine W_skip ?_
   refine W_seq ?_
   refine W_block ?_
   refine W_seq ?_
   refine W_draw (by kernel_rfl) (by kernel_rfl) ?_
   iterate 2 (refine WO_op rfl rfl rfl ?_; simp only [putT,st,ev,gt,hp,ofV,constT,intT,lm])
   obtain ⟨x3, hx3, H1⟩ := bnd H1
   refine WO_op rfl rfl (ev_ix (en := enc_Metric) hx3 rfl rfl rfl rfl rfl rfl rfl) ?_; simp only [putT,st,ev,gt,hp,ofV,constT,intT,lm]
   refine WO_op (x := .ag [qs x3.Name, qi x3.Kind, qi x3.Goal]) rfl rfl rfl ?_; simp only [putT,st,ev,gt,hp,ofV,constT,intT,lm]
   obtain ⟨x4, hx4, H1⟩ := bnd H1
   refine WO_op (x := qb x4) (σ' := ⟨[], [], []⟩) rfl rfl (ev_callG (al := [.ag [qs x3.Name, qi x3.Kind, qi x3.Goal]]) (ls := []) (spec_MetricOk_ok hx4) rfl rfl rfl rfl rfl (by decide) rfl rfl rfl rfl rfl rfl) ?_; simp only [putT,st,ev,gt,hp,ofV,constT,intT,lm]
   iterate 2 (refine WO_op rfl rfl rfl ?_; simp only [putT,st,ev,gt,hp,ofV,constT,intT,lm])
   refine WO_if rfl rfl rfl (fun hc => ?_) (fun hc => ?_)
   ·
    replace H1 := tr hc H1
    simp only [putT,st,ev,gt,hp,ofV,constT,intT,lm]
    iterate 16 refine WO_skip rfl rfl ?_
    refine WO_op (x := qb true) rfl rfl rfl ?_; simp only [putT,st,ev,gt,hp,ofV,constT,intT,lm]
    refine WO_nil ?_
    refine W_cond (t := true) rfl (fun _ => ?_) (fun h => by cases h)
    refine W_seq (W_region ?_)
    refine WO_op rfl rfl rfl ?_; simp only [putT,st,ev,gt,hp,ofV,constT,intT,lm]
    refine WO_nil ?_
    refine W_ret ?_
    obtain rfl := Option.some.inj H1
    obtain rfl := Option.some.inj H
    exact told3 rfl
   ·
    replace H1 := fl hc H1
    simp only [putT,st,ev,gt,hp,ofV,constT,intT,lm]
    iterate 3 (refine WO_want rfl rfl rfl ?_; simp only [putT,st,ev,gt,hp,ofV,constT,intT,lm])
    refine WO_if rfl rfl rfl (fun hc => ?_) (fun hc => ?_)
    ·
     replace H1 := tr hc H1
     simp only [putT,st,ev,gt,hp,ofV,constT,intT,lm]
     iterate 3 (refine WO_want rfl rfl rfl ?_; simp only [putT,st,ev,gt,hp,ofV,constT,intT,lm])
     obtain ⟨x5, hx5, H1⟩ := bnd H1
     refine WO_want rfl rfl (ev_ix (en := enc_Metric) hx5 rfl rfl rfl rfl rfl rfl rfl) ?_; simp only [putT,st,ev,gt,hp,ofV,constT,intT,lm]
     refine WO_want (x := .cp (enc_Metric x5) 0) rfl rfl rfl ?_
     refine WO_want (x := qs x5.Name) rfl rfl rfl ?_; simp only [putT,st,ev,gt,hp,ofV,constT,intT,lm]
     iterate 2 (refine WO_want rfl rfl rfl ?_; simp only [putT,st,ev,gt,hp,ofV,constT,intT,lm])
     obtain ⟨x6, hx6, H1⟩ := bnd H1
     refine WO_want rfl rfl (ev_ix (en := enc_Metric) hx6 rfl rfl rfl rfl rfl rfl rfl) ?_; simp only [putT,st,ev,gt,hp,ofV,constT,intT,lm]
     refine WO_want (x := .cp (enc_Metric x6) 0) rfl rfl rfl ?_
     refine WO_want (x := qs x6.Name) rfl rfl rfl ?_; simp only [putT,st,ev,gt,hp,ofV,constT,intT,lm]
     refine WO_want rfl rfl (ev_geq_s rfl rfl rfl) ?_; simp only [putT,st,ev,gt,hp,ofV,constT,intT,lm]
     refine WO_want (x := qb (!(slt x5.Name x6.Name))) rfl rfl rfl ?_
     refine WO_op (x := qb (!(slt x5.Name x6.Name))) rfl rfl rfl ?_; simp only [putT,st,ev,gt,hp,ofV,constT,intT,lm]
     refine WO_nil ?_
     refine W_cond rfl (fun hc => ?_) (fun hc => ?_)
     ·
      replace H1 := tr hc H1
      refine W_seq (W_region ?_)
      refine WO_op rfl rfl rfl ?_; simp only [putT,st,ev,gt,hp,ofV,constT,intT,lm]
      refine WO_nil ?_
      refine W_ret ?_
      obtain rfl := Option.some.inj H1
      obtain rfl := Option.some.inj H
      exact told3 rfl
     ·
      replace H1 := fl hc H1
      refine W_skip ?_
      refine W_region ?_
      iterate 3 (refine WO_op rfl rfl rfl ?_; simp only [putT,st,ev,gt,hp,ofV,constT,intT,lm])
      refine WO_nil ?_
      exact hW1 _ _ ((IH1 _ _ H1 rfl)) (le_intro [] [] (by decide) (by decide) rfl (by simp [leS, leT, leA, gt]) (by simp [leB, leT, leA]) (by simp [leR]))
    ·
     replace H1 := fl hc H1
     simp only [putT,st,ev,gt,hp,ofV,constT,intT,lm]
     iterate 12 refine WO_skip rfl rfl ?_
     refine WO_want (x := qb false) rfl rfl rfl ?_
     refine WO_op (x := qb false) rfl rfl rfl ?_; simp only [putT,st,ev,gt,hp,ofV,constT,intT,lm]
     refine WO_nil ?_
     refine W_cond (t := false) rfl (fun h => by cases h) (fun _ => ?_)
     refine W_skip ?_
     refine W_region ?_
     iterate 3 (refine WO_op rfl rfl rfl ?_; simp only [putT,st,ev,gt,hp,ofV,constT,intT,lm])
     refine WO_nil ?_
     exact hW1 _ _ ((IH1 _ _ H1 rfl)) (le_intro [] [] (by decide) (by decide) rfl (by simp [leS, leT, leA, gt]) (by simp [leB, leT, leA]) (by simp [leR]))
  ·
   replace H1 := fl hc H1
   refine W_exit ?_
   obtain rfl := Option.some.inj H1
   exact hX1 () _ rfl (le_intro [] [] (by decide) (by decide) rfl (by simp [leS, leT, leA, gt]) (by simp [leB, leT, leA]) (by simp [leR]))
theorem spec_PaceOk_ok {a1 : Pace} {r : Bool} (H : spec_PaceOk a1 = some r) : R 89 [.ag [(cI .i64 a1.Up, none), (cI .i64 a1.Down, none), (cI .i64 a1.UpSpan, none), (cI .i64 a1.DownSpan, none)]] = some (.c (cB r) none, []) := by
 unfold spec_PaceOk at H
 refine Fz_walk 21 rfl rfl Try.func89 rfl (by kernel_rfl) rfl rfl rfl rfl ?_
 simp only [tellVs, tellV, tells, tell, st0, padT, SX.newRow, SX.newBox, List.length_cons, List.length_nil, Nat.reduceAdd, Nat.reduceSub, List.replicate, List.cons_append, List.nil_append, List.foldl_cons, List.foldl_nil]
 refine W_seq (W_region ?_)
 refine WO_op (x := .bp 0 0) (σ' := ⟨[], [some [qi a1.Up, qi a1.Down, qi a1.UpSpan, qi a1.DownSpan]], []⟩) rfl rfl rfl ?_
 refine WO_op rfl rfl rfl ?_; simp only [putT,st,ev,gt,hp,ofV,constT,intT,lm]
 refine WO_nil (W_seq (W_region ?_))
 refine WO_op (x := .bp 0 0) rfl rfl rfl ?_
 refine WO_op (x := qi a1.Up) rfl rfl rfl ?_; simp only [putT,st,ev,gt,hp,ofV,constT,intT,lm]
 obtain ⟨x2, hx2, H⟩ := bnd H
 refine WO_op (x := qb x2) (σ' := ⟨[], [some [qi a1.Up, qi a1.Down, qi a1.UpSpan, qi a1.DownSpan]], []⟩) rfl rfl (ev_callG (al := [qi a1.Up, qi 0, qi 1000]) (ls := []) (spec_l1In_ok hx2) rfl rfl rfl rfl rfl (by decide) rfl rfl rfl rfl rfl rfl) ?_; simp only [putT,st,ev,gt,hp,ofV,constT,intT,lm]
 refine WO_op rfl rfl rfl ?_; simp only [putT,st,ev,gt,hp,ofV,constT,intT,lm]
 refine WO_if rfl rfl rfl (fun hc => ?_) (fun hc => ?_)
 ·
  replace H := tr hc H
  refine WO_want (x := .bp 0 1) rfl rfl rfl ?_
  refine WO_want (x := qi a1.Down) rfl rfl rfl ?_; simp only [putT,st,ev,gt,hp,ofV,constT,intT,lm]
  obtain ⟨x3, hx3, H⟩ := bnd H
  refine WO_want (x := qb x3) (σ' := ⟨[], [some [qi a1.Up, qi a1.Down, qi a1.UpSpan, qi a1.DownSpan]], []⟩) rfl rfl (ev_callG (al := [qi a1.Down, qi 0, qi 1000]) (ls := []) (spec_l1In_ok hx3) rfl rfl rfl rfl rfl (by decide) rfl rfl rfl rfl rfl rfl) ?_; simp only [putT,st,ev,gt,hp,ofV,constT,intT,lm]
  refine WO_op (x := qb x3) rfl rfl rfl ?_
  refine WO_op rfl rfl rfl ?_; simp only [putT,st,ev,gt,hp,ofV,constT,intT,lm]
  refine WO_if rfl rfl rfl (fun hc => ?_) (fun hc => ?_)
  ·
   replace H := tr hc H
   refine WO_want (x := .bp 0 2) rfl rfl rfl ?_
   refine WO_want (x := qi a1.UpSpan) rfl rfl rfl ?_; simp only [putT,st,ev,gt,hp,ofV,constT,intT,lm]
   obtain ⟨x4, hx4, H⟩ := bnd H
   refine WO_want (x := qb x4) (σ' := ⟨[], [some [qi a1.Up, qi a1.Down, qi a1.UpSpan, qi a1.DownSpan]], []⟩) rfl rfl (ev_callG (al := [qi a1.UpSpan, qi 0, qi 3600]) (ls := []) (spec_l1In_ok hx4) rfl rfl rfl rfl rfl (by decide) rfl rfl rfl rfl rfl rfl) ?_; simp only [putT,st,ev,gt,hp,ofV,constT,intT,lm]
   refine WO_op (x := qb x4) rfl rfl rfl ?_
   refine WO_op rfl rfl rfl ?_; simp only [putT,st,ev,gt,hp,ofV,constT,intT,lm]
   refine WO_if rfl rfl rfl (fun hc => ?_) (fun hc => ?_)
   ·
    replace H := tr hc H
    refine WO_want (x := .bp 0 3) rfl rfl rfl ?_
    refine WO_want (x := qi a1.DownSpan) rfl rfl rfl ?_; simp only [putT,st,ev,gt,hp,ofV,constT,intT,lm]
    obtain ⟨x5, hx5, H⟩ := bnd H
    refine WO_want (x := qb x5) (σ' := ⟨[], [some [qi a1.Up, qi a1.Down, qi a1.UpSpan, qi a1.DownSpan]], []⟩) rfl rfl (ev_callG (al := [qi a1.DownSpan, qi 0, qi 3600]) (ls := []) (spec_l1In_ok hx5) rfl rfl rfl rfl rfl (by decide) rfl rfl rfl rfl rfl rfl) ?_; simp only [putT,st,ev,gt,hp,ofV,constT,intT,lm]
    refine WO_op (x := qb x5) rfl rfl rfl ?_
    refine WO_op rfl rfl rfl ?_; simp only [putT,st,ev,gt,hp,ofV,constT,intT,lm]
    refine WO_nil ?_
    refine W_ret ?_
    obtain rfl := Option.some.inj H
    exact told3 rfl
   ·
    replace H := fl hc H
    simp only [putT,st,ev,gt,hp,ofV,constT,intT,lm]
    iterate 3 refine WO_skip rfl rfl ?_
    refine WO_op (x := qb false) rfl rfl rfl ?_
    refine WO_op rfl rfl rfl ?_; simp only [putT,st,ev,gt,hp,ofV,constT,intT,lm]
    refine WO_nil ?_
    refine W_ret ?_
    obtain rfl := Option.some.inj H
    exact told3 rfl
  ·
   replace H := fl hc H
   simp only [putT,st,ev,gt,hp,ofV,constT,intT,lm]
   iterate 3 refine WO_skip rfl rfl ?_
   refine WO_op (x := qb false) rfl rfl rfl ?_
   refine WO_op rfl rfl rfl ?_; simp only [putT,st,ev,gt,hp,ofV,constT,intT,lm]
   iterate 3 refine WO_skip rfl rfl ?_
   refine WO_op (x := qb false) rfl rfl rfl ?_
   refine WO_op rfl rfl rfl ?_; simp only [putT,st,ev,gt,hp,ofV,constT,intT,lm]
   refine WO_nil ?_
   refine W_ret ?_
   obtain rfl := Option.some.inj H
   exact told3 rfl
 ·
  replace H := fl hc H
  simp only [putT,st,ev,gt,hp,ofV,constT,intT,lm]
  iterate 3 refine WO_skip rfl rfl ?_
  refine WO_op (x := qb false) rfl rfl rfl ?_
  refine WO_op rfl rfl rfl ?_; simp only [putT,st,ev,gt,hp,ofV,constT,intT,lm]
  iterate 3 refine WO_skip rfl rfl ?_
  refine WO_op (x := qb false) rfl rfl rfl ?_
  refine WO_op rfl rfl rfl ?_; simp only [putT,st,ev,gt,hp,ofV,constT,intT,lm]
  iterate 3 refine WO_skip rfl rfl ?_
  refine WO_op (x := qb false) rfl rfl rfl ?_
  refine WO_op rfl rfl rfl ?_; simp only [putT,st,ev,gt,hp,ofV,constT,intT,lm]
  refine WO_nil ?_
  refine W_ret ?_
  obtain rfl := Option.some.inj H
  exact told3 rfl
theorem spec_l5Letter_ok {a1 : Int} {r : Bool} (H : spec_l5Letter a1 = some r) : R 169 [.c (cI .u8 a1) none] = some (.c (cB r) none, []) := by
 unfold spec_l5Letter at H
 refine Fz_walk 17 rfl rfl Try.func169 rfl (by kernel_rfl) rfl rfl rfl rfl ?_
 simp only [tellVs, tellV, tells, tell, st0, padT, SX.newRow, SX.newBox, List.length_cons, List.length_nil, Nat.reduceAdd, Nat.reduceSub, List.replicate, List.cons_append, List.nil_append, List.foldl_cons, List.foldl_nil]
 refine W_seq (W_region ?_)
 refine WO_op rfl rfl rfl ?_; simp only [putT,st,ev,gt,hp,ofV,constT,intT,lm]
 refine WO_nil (W_seq (W_region ?_))
 iterate 3 (refine WO_op rfl rfl rfl ?_; simp only [putT,st,ev,gt,hp,ofV,constT,intT,lm])
 refine WO_if rfl rfl rfl (fun hc => ?_) (fun hc => ?_)
 ·
  replace H := tr hc H
  simp only [putT,st,ev,gt,hp,ofV,constT,intT,lm]
  iterate 2 (refine WO_want rfl rfl rfl ?_; simp only [putT,st,ev,gt,hp,ofV,constT,intT,lm])
  refine WO_op (x := qb (decide (a1 ≤ 122))) rfl rfl rfl ?_
  refine WO_op rfl rfl rfl ?_; simp only [putT,st,ev,gt,hp,ofV,constT,intT,lm]
  refine WO_if rfl rfl rfl (fun hc => ?_) (fun hc => ?_)
  ·
   replace H := tr hc H
   simp only [putT,st,ev,gt,hp,ofV,constT,intT,lm]
   iterate 6 refine WO_skip rfl rfl ?_
   refine WO_op (x := qb true) rfl rfl rfl ?_
   refine WO_op rfl rfl rfl ?_; simp only [putT,st,ev,gt,hp,ofV,constT,intT,lm]
   refine WO_nil ?_
   refine W_ret ?_
   obtain rfl := Option.some.inj H
   exact told3 rfl
  ·
   replace H := fl hc H
   simp only [putT,st,ev,gt,hp,ofV,constT,intT,lm]
   iterate 3 (refine WO_want rfl rfl rfl ?_; simp only [putT,st,ev,gt,hp,ofV,constT,intT,lm])
   refine WO_if rfl rfl rfl (fun hc => ?_) (fun hc => ?_)
   ·
    replace H := tr hc H
    simp only [putT,st,ev,gt,hp,ofV,constT,intT,lm]
    iterate 2 (refine WO_want rfl rfl rfl ?_; simp only [putT,st,ev,gt,hp,ofV,constT,intT,lm])
    refine WO_want (x := qb (decide (a1 ≤ 90))) rfl rfl rfl ?_
    refine WO_op (x := qb (decide (a1 ≤ 90))) rfl rfl rfl ?_
    refine WO_op rfl rfl rfl ?_; simp only [putT,st,ev,gt,hp,ofV,constT,intT,lm]
    refine WO_nil ?_
    refine W_ret ?_
    obtain rfl := Option.some.inj H
    exact told3 rfl
   ·
    replace H := fl hc H
    simp only [putT,st,ev,gt,hp,ofV,constT,intT,lm]
    iterate 2 refine WO_skip rfl rfl ?_
    refine WO_want (x := qb false) rfl rfl rfl ?_
    refine WO_op (x := qb false) rfl rfl rfl ?_
    refine WO_op rfl rfl rfl ?_; simp only [putT,st,ev,gt,hp,ofV,constT,intT,lm]
    refine WO_nil ?_
    refine W_ret ?_
    obtain rfl := Option.some.inj H
    exact told3 rfl
 ·
  replace H := fl hc H
  simp only [putT,st,ev,gt,hp,ofV,constT,intT,lm]
  iterate 2 refine WO_skip rfl rfl ?_
  refine WO_op (x := qb false) rfl rfl rfl ?_
  refine WO_op rfl rfl rfl ?_; simp only [putT,st,ev,gt,hp,ofV,constT,intT,lm]
  iterate 3 (refine WO_want rfl rfl rfl ?_; simp only [putT,st,ev,gt,hp,ofV,constT,intT,lm])
  refine WO_if rfl rfl rfl (fun hc => ?_) (fun hc => ?_)
  ·
   replace H := tr hc H
   simp only [putT,st,ev,gt,hp,ofV,constT,intT,lm]
   iterate 2 (refine WO_want rfl rfl rfl ?_; simp only [putT,st,ev,gt,hp,ofV,constT,intT,lm])
   refine WO_want (x := qb (decide (a1 ≤ 90))) rfl rfl rfl ?_
   refine WO_op (x := qb (decide (a1 ≤ 90))) rfl rfl rfl ?_
   refine WO_op rfl rfl rfl ?_; simp only [putT,st,ev,gt,hp,ofV,constT,intT,lm]
   refine WO_nil ?_
   refine W_ret ?_
   obtain rfl := Option.some.inj H
   exact told3 rfl
  ·
   replace H := fl hc H
   simp only [putT,st,ev,gt,hp,ofV,constT,intT,lm]
   iterate 2 refine WO_skip rfl rfl ?_
   refine WO_want (x := qb false) rfl rfl rfl ?_
   refine WO_op (x := qb false) rfl rfl rfl ?_
   refine WO_op rfl rfl rfl ?_; simp only [putT,st,ev,gt,hp,ofV,constT,intT,lm]
   refine WO_nil ?_
   refine W_ret ?_
   obtain rfl := Option.some.inj H
   exact told3 rfl
theorem spec_PlainOk_ok {a1 : Str} {r : Bool} (H : spec_PlainOk a1 = some r) : R 140 [.c (cS a1) none] = some (.c (cB r) none, []) := by
 unfold spec_PlainOk at H
 refine Fz_walk 61 rfl rfl Try.func140 rfl (by kernel_rfl) rfl rfl rfl rfl ?_
 simp only [tellVs, tellV, tells, tell, st0, padT, SX.newRow, SX.newBox, List.length_cons, List.length_nil, Nat.reduceAdd, Nat.reduceSub, List.replicate, List.cons_append, List.nil_append, List.foldl_cons, List.foldl_nil]
 refine W_seq (W_region ?_)
 refine WO_op rfl rfl rfl ?_; simp only [putT,st,ev,gt,hp,ofV,constT,intT,lm]
 refine WO_nil (W_seq (W_seq (W_region ?_)))
 refine WO_op rfl rfl rfl ?_; simp only [putT,st,ev,gt,hp,ofV,constT,intT,lm]
 refine WO_nil ?_
 refine W_block ?_
 obtain ⟨s7, hs7, H⟩ := bnd H
 refine loop_rule (ls := []) 0 (fun t5 : Unit => ⟨[qs a1], [], []⟩) (fun t => s7 = .inr t) ⟨[qs a1, .no, .no, qi 0], [], []⟩ (by repeat (first | exact mono_told | refine mono_seq ?_ | refine mono_blk ?_ | refine mono_lp ?_)) (le_intro [] [] (by decide) (by decide) rfl (by simp [leS, leT, leA, gt]) (by simp [leB, leT, leA]) (by simp [leR])) ?_ ?_
 ·
  rintro t5 rfl
  refine W_seq (W_region ?_)
  refine WO_op rfl rfl rfl ?_
  refine WO_op (x := qi (a1.length : Int)) rfl rfl rfl ?_; simp only [putT,st,ev,gt,hp,ofV,constT,intT,lm]
  obtain ⟨x6, hx6, H⟩ := bnd H
  refine WO_op (x := qb x6) (σ' := ⟨[], [], []⟩) rfl rfl (ev_callG (al := [qi (a1.length : Int), qi 1, qi 60]) (ls := []) (spec_l1In_ok hx6) rfl rfl rfl rfl rfl (by decide) rfl rfl rfl rfl rfl rfl) ?_; simp only [putT,st,ev,gt,hp,ofV,constT,intT,lm]
  refine WO_op rfl rfl rfl ?_; simp only [putT,st,ev,gt,hp,ofV,constT,intT,lm]
  refine WO_if rfl rfl rfl (fun hc => ?_) (fun hc => ?_)
  ·
   replace H := tr hc H
   refine WO_want rfl rfl rfl ?_; simp only [putT,st,ev,gt,hp,ofV,constT,intT,lm]
   refine WO_want rfl rfl (ev_neq_s rfl rfl rfl) ?_; simp only [putT,st,ev,gt,hp,ofV,constT,intT,lm]
   refine WO_op (x := qb (!(a1 == [110, 117, 108, 108]))) rfl rfl rfl ?_
   refine WO_op rfl rfl rfl ?_; simp only [putT,st,ev,gt,hp,ofV,constT,intT,lm]
   refine WO_if rfl rfl rfl (fun hc => ?_) (fun hc => ?_)
   ·
    replace H := tr hc H
    refine WO_want rfl rfl rfl ?_; simp only [putT,st,ev,gt,hp,ofV,constT,intT,lm]
    refine WO_want rfl rfl (ev_neq_s rfl rfl rfl) ?_; simp only [putT,st,ev,gt,hp,ofV,constT,intT,lm]
    refine WO_op (x := qb (!(a1 == [116, 114, 117, 101]))) rfl rfl rfl ?_
    refine WO_op rfl rfl rfl ?_; simp only [putT,st,ev,gt,hp,ofV,constT,intT,lm]
    refine WO_if rfl rfl rfl (fun hc => ?_) (fun hc => ?_)
    ·
     replace H := tr hc H
     refine WO_want rfl rfl rfl ?_; simp only [putT,st,ev,gt,hp,ofV,constT,intT,lm]
     refine WO_want rfl rfl (ev_neq_s rfl rfl rfl) ?_; simp only [putT,st,ev,gt,hp,ofV,constT,intT,lm]
     refine WO_op (x := qb (!(a1 == [102, 97, 108, 115, 101]))) rfl rfl rfl ?_
     refine WO_op rfl rfl rfl ?_; simp only [putT,st,ev,gt,hp,ofV,constT,intT,lm]
     refine WO_nil ?_
     refine W_ret ?_
     obtain rfl := Option.some.inj H
     exact told3 rfl
    ·
     replace H := fl hc H
     simp only [putT,st,ev,gt,hp,ofV,constT,intT,lm]
     iterate 2 refine WO_skip rfl rfl ?_
     refine WO_op (x := qb false) rfl rfl rfl ?_
     refine WO_op rfl rfl rfl ?_; simp only [putT,st,ev,gt,hp,ofV,constT,intT,lm]
     refine WO_nil ?_
     refine W_ret ?_
     obtain rfl := Option.some.inj H
     exact told3 rfl
   ·
    replace H := fl hc H
    simp only [putT,st,ev,gt,hp,ofV,constT,intT,lm]
    iterate 2 refine WO_skip rfl rfl ?_
    refine WO_op (x := qb false) rfl rfl rfl ?_
    refine WO_op rfl rfl rfl ?_; simp only [putT,st,ev,gt,hp,ofV,constT,intT,lm]
    iterate 2 refine WO_skip rfl rfl ?_
    refine WO_op (x := qb false) rfl rfl rfl ?_
    refine WO_op rfl rfl rfl ?_; simp only [putT,st,ev,gt,hp,ofV,constT,intT,lm]
    refine WO_nil ?_
    refine W_ret ?_
    obtain rfl := Option.some.inj H
    exact told3 rfl
  ·
   replace H := fl hc H
   simp only [putT,st,ev,gt,hp,ofV,constT,intT,lm]
   iterate 2 refine WO_skip rfl rfl ?_
   refine WO_op (x := qb false) rfl rfl rfl ?_
   refine WO_op rfl rfl rfl ?_; simp only [putT,st,ev,gt,hp,ofV,constT,intT,lm]
   iterate 2 refine WO_skip rfl rfl ?_
   refine WO_op (x := qb false) rfl rfl rfl ?_
   refine WO_op rfl rfl rfl ?_; simp only [putT,st,ev,gt,hp,ofV,constT,intT,lm]
   iterate 2 refine WO_skip rfl rfl ?_
   refine WO_op (x := qb false) rfl rfl rfl ?_
   refine WO_op rfl rfl rfl ?_; simp only [putT,st,ev,gt,hp,ofV,constT,intT,lm]
   refine WO_nil ?_
   refine W_ret ?_
   obtain rfl := Option.some.inj H
   exact told3 rfl
 ·
  intro V1 hV1 hW1 hX1
  refine (spec_PlainOk.l0.partial_correctness a1 (fun v2 s' => s' = s7 → (V1 ⟨[qs a1, .no, .no, qi v2], [], []⟩)) ?_ _ _ hs7 rfl)
  intro l0 IH1 v2 s' H1 e
  subst e
  refine hV1 _ ?_
  refine W_seq (W_seq (W_region ?_))
  iterate 2 (refine WO_op rfl rfl rfl ?_; simp only [putT,st,ev,gt,hp,ofV,constT,intT,lm])
  refine WO_op (x := qi (a1.length : Int)) rfl rfl rfl ?_
  refine WO_op rfl rfl rfl ?_; simp only [putT,st,ev,gt,hp,ofV,constT,intT,lm]
  refine WO_nil ?_
  refine W_cond rfl (fun hc => ?_) (fun hc => ?_)
  ·
   replace H1 := tr hc H1
   refine W_skip ?_
   refine W_seq ?_
   refine W_block ?_
   refine W_seq (W_region ?_)
   iterate 2 (refine WO_op rfl rfl rfl ?_; simp only [putT,st,ev,gt,hp,ofV,constT,intT,lm])
   obtain ⟨c3, hc3, H1⟩ := bnd H1
   refine WO_op rfl rfl (ev_sx hc3 rfl rfl rfl rfl) ?_; simp only [putT,st,ev,gt,hp,ofV,constT,intT,lm]
   refine WO_op rfl rfl rfl ?_; simp only [putT,st,ev,gt,hp,ofV,constT,intT,lm]
   refine WO_nil (W_seq (W_region ?_))
   refine WO_op rfl rfl rfl ?_; simp only [putT,st,ev,gt,hp,ofV,constT,intT,lm]
   obtain ⟨x4, hx4, H1⟩ := bnd H1
   refine WO_op (x := qb x4) (σ' := ⟨[], [], []⟩) rfl rfl (ev_callG (al := [.c (cI .u8 (byte c3))]) (ls := []) (spec_l5Letter_ok hx4) rfl rfl rfl rfl rfl (by decide) rfl rfl rfl rfl rfl rfl) ?_; simp only [putT,st,ev,gt,hp,ofV,constT,intT,lm]
   iterate 2 (refine WO_op rfl rfl rfl ?_; simp only [putT,st,ev,gt,hp,ofV,constT,intT,lm])
   refine WO_if rfl rfl rfl (fun hc => ?_) (fun hc => ?_)
   ·
    replace H1 := tr hc H1
    simp only [putT,st,ev,gt,hp,ofV,constT,intT,lm]
    iterate 3 (refine WO_want rfl rfl rfl ?_; simp only [putT,st,ev,gt,hp,ofV,constT,intT,lm])
    refine WO_if rfl rfl rfl (fun hc => ?_) (fun hc => ?_)
    ·
     replace H1 := tr hc H1
     simp only [putT,st,ev,gt,hp,ofV,constT,intT,lm]
     iterate 23 refine WO_skip rfl rfl ?_
     refine WO_want (x := qb true) rfl rfl rfl ?_
     refine WO_op (x := qb true) rfl rfl rfl ?_; simp only [putT,st,ev,gt,hp,ofV,constT,intT,lm]
     refine WO_nil ?_
     refine W_cond (t := true) rfl (fun _ => ?_) (fun h => by cases h)
     refine W_seq (W_region ?_)
     refine WO_op rfl rfl rfl ?_; simp only [putT,st,ev,gt,hp,ofV,constT,intT,lm]
     refine WO_nil ?_
     refine W_ret ?_
     obtain rfl := Option.some.inj H1
     obtain rfl := Option.some.inj H
     exact told3 rfl
    ·
     replace H1 := fl hc H1
     simp only [putT,st,ev,gt,hp,ofV,constT,intT,lm]
     iterate 3 (refine WO_want rfl rfl rfl ?_; simp only [putT,st,ev,gt,hp,ofV,constT,intT,lm])
     refine WO_if rfl rfl rfl (fun hc => ?_) (fun hc => ?_)
     ·
      replace H1 := tr hc H1
      simp only [putT,st,ev,gt,hp,ofV,constT,intT,lm]
      iterate 2 (refine WO_want rfl rfl rfl ?_; simp only [putT,st,ev,gt,hp,ofV,constT,intT,lm])
      refine WO_want (x := qb (decide ((byte c3) ≤ 57))) rfl rfl rfl ?_
      refine WO_want rfl rfl rfl ?_; simp only [putT,st,ev,gt,hp,ofV,constT,intT,lm]
      refine WO_if rfl rfl rfl (fun hc => ?_) (fun hc => ?_)
      ·
       replace H1 := tr hc H1
       simp only [putT,st,ev,gt,hp,ofV,constT,intT,lm]
       iterate 2 refine WO_skip rfl rfl ?_
       refine WO_want (x := qb true) rfl rfl rfl ?_
       refine WO_want rfl rfl rfl ?_; simp only [putT,st,ev,gt,hp,ofV,constT,intT,lm]
       iterate 2 refine WO_skip rfl rfl ?_
       refine WO_want (x := qb true) rfl rfl rfl ?_
       refine WO_want rfl rfl rfl ?_; simp only [putT,st,ev,gt,hp,ofV,constT,intT,lm]
       iterate 2 refine WO_skip rfl rfl ?_
       refine WO_want (x := qb true) rfl rfl rfl ?_
       refine WO_want rfl rfl rfl ?_; simp only [putT,st,ev,gt,hp,ofV,constT,intT,lm]
       iterate 2 refine WO_skip rfl rfl ?_
       refine WO_want (x := qb true) rfl rfl rfl ?_
       refine WO_want rfl rfl rfl ?_
       refine WO_want (x := qb (!true)) rfl rfl rfl ?_; simp only [putT,st,ev,gt,hp,ofV,constT,intT,lm]
       refine WO_op (x := qb (!true)) rfl rfl rfl ?_; simp only [putT,st,ev,gt,hp,ofV,constT,intT,lm]
       refine WO_nil ?_
       refine W_cond rfl (fun hc => ?_) (fun hc => ?_)
       ·
        replace H1 := tr hc H1
        refine W_seq (W_region ?_)
        refine WO_op rfl rfl rfl ?_; simp only [putT,st,ev,gt,hp,ofV,constT,intT,lm]
        refine WO_nil ?_
        refine W_ret ?_
        obtain rfl := Option.some.inj H1
        obtain rfl := Option.some.inj H
        exact told3 rfl
       ·
        replace H1 := fl hc H1
        refine W_skip ?_
        refine W_region ?_
        iterate 3 (refine WO_op rfl rfl rfl ?_; simp only [putT,st,ev,gt,hp,ofV,constT,intT,lm])
        refine WO_nil ?_
        exact hW1 _ _ ((IH1 _ _ H1 rfl)) (le_intro [] [] (by decide) (by decide) rfl (by simp [leS, leT, leA, gt]) (by simp [leB, leT, leA]) (by simp [leR]))
      ·
       replace H1 := fl hc H1
       simp only [putT,st,ev,gt,hp,ofV,constT,intT,lm]
       iterate 2 (refine WO_want rfl rfl rfl ?_; simp only [putT,st,ev,gt,hp,ofV,constT,intT,lm])
       refine WO_want (x := qb ((byte c3) == 95)) rfl rfl rfl ?_
       refine WO_want rfl rfl rfl ?_; simp only [putT,st,ev,gt,hp,ofV,constT,intT,lm]
       refine WO_if rfl rfl rfl (fun hc => ?_) (fun hc => ?_)
       ·
        replace H1 := tr hc H1
        simp only [putT,st,ev,gt,hp,ofV,constT,intT,lm]
        iterate 2 refine WO_skip rfl rfl ?_
        refine WO_want (x := qb true) rfl rfl rfl ?_
        refine WO_want rfl rfl rfl ?_; simp only [putT,st,ev,gt,hp,ofV,constT,intT,lm]
        iterate 2 refine WO_skip rfl rfl ?_
        refine WO_want (x := qb true) rfl rfl rfl ?_
        refine WO_want rfl rfl rfl ?_; simp only [putT,st,ev,gt,hp,ofV,constT,intT,lm]
        iterate 2 refine WO_skip rfl rfl ?_
        refine WO_want (x := qb true) rfl rfl rfl ?_
        refine WO_want rfl rfl rfl ?_
        refine WO_want (x := qb (!true)) rfl rfl rfl ?_; simp only [putT,st,ev,gt,hp,ofV,constT,intT,lm]
        refine WO_op (x := qb (!true)) rfl rfl rfl ?_; simp only [putT,st,ev,gt,hp,ofV,constT,intT,lm]
        refine WO_nil ?_
        refine W_cond rfl (fun hc => ?_) (fun hc => ?_)
        ·
         replace H1 := tr hc H1
         refine W_seq (W_region ?_)
         refine WO_op rfl rfl rfl ?_; simp only [putT,st,ev,gt,hp,ofV,constT,intT,lm]
         refine WO_nil ?_
         refine W_ret ?_
         obtain rfl := Option.some.inj H1
         obtain rfl := Option.some.inj H
         exact told3 rfl
        ·
         replace H1 := fl hc H1
         refine W_skip ?_
         refine W_region ?_
         iterate 3 (refine WO_op rfl rfl rfl ?_; simp only [putT,st,ev,gt,hp,ofV,constT,intT,lm])
         refine WO_nil ?_
         exact hW1 _ _ ((IH1 _ _ H1 rfl)) (le_intro [] [] (by decide) (by decide) rfl (by simp [leS, leT, leA, gt]) (by simp [leB, leT, leA]) (by simp [leR]))
       ·
        replace H1 := fl hc H1
        simp only [putT,st,ev,gt,hp,ofV,constT,intT,lm]
        iterate 2 (refine WO_want rfl rfl rfl ?_; simp only [putT,st,ev,gt,hp,ofV,constT,intT,lm])
        refine WO_want (x := qb ((byte c3) == 46)) rfl rfl rfl ?_
        refine WO_want rfl rfl rfl ?_; simp only [putT,st,ev,gt,hp,ofV,constT,intT,lm]
        refine WO_if rfl rfl rfl (fun hc => ?_) (fun hc => ?_)
        ·
         replace H1 := tr hc H1
         simp only [putT,st,ev,gt,hp,ofV,constT,intT,lm]
         iterate 2 refine WO_skip rfl rfl ?_
         refine WO_want (x := qb true) rfl rfl rfl ?_
         refine WO_want rfl rfl rfl ?_; simp only [putT,st,ev,gt,hp,ofV,constT,intT,lm]
         iterate 2 refine WO_skip rfl rfl ?_
         refine WO_want (x := qb true) rfl rfl rfl ?_
         refine WO_want rfl rfl rfl ?_
         refine WO_want (x := qb (!true)) rfl rfl rfl ?_; simp only [putT,st,ev,gt,hp,ofV,constT,intT,lm]
         refine WO_op (x := qb (!true)) rfl rfl rfl ?_; simp only [putT,st,ev,gt,hp,ofV,constT,intT,lm]
         refine WO_nil ?_
         refine W_cond rfl (fun hc => ?_) (fun hc => ?_)
         ·
          replace H1 := tr hc H1
          refine W_seq (W_region ?_)
          refine WO_op rfl rfl rfl ?_; simp only [putT,st,ev,gt,hp,ofV,constT,intT,lm]
          refine WO_nil ?_
          refine W_ret ?_
          obtain rfl := Option.some.inj H1
          obtain rfl := Option.some.inj H
          exact told3 rfl
         ·
          replace H1 := fl hc H1
          refine W_skip ?_
          refine W_region ?_
          iterate 3 (refine WO_op rfl rfl rfl ?_; simp only [putT,st,ev,gt,hp,ofV,constT,intT,lm])
          refine WO_nil ?_
          exact hW1 _ _ ((IH1 _ _ H1 rfl)) (le_intro [] [] (by decide) (by decide) rfl (by simp [leS, leT, leA, gt]) (by simp [leB, leT, leA]) (by simp [leR]))
        ·
         replace H1 := fl hc H1
         simp only [putT,st,ev,gt,hp,ofV,constT,intT,lm]
         iterate 2 (refine WO_want rfl rfl rfl ?_; simp only [putT,st,ev,gt,hp,ofV,constT,intT,lm])
         refine WO_want (x := qb ((byte c3) == 47)) rfl rfl rfl ?_
         refine WO_want rfl rfl rfl ?_; simp only [putT,st,ev,gt,hp,ofV,constT,intT,lm]
         refine WO_if rfl rfl rfl (fun hc => ?_) (fun hc => ?_)
         ·
          replace H1 := tr hc H1
          simp only [putT,st,ev,gt,hp,ofV,constT,intT,lm]
          iterate 2 refine WO_skip rfl rfl ?_
          refine WO_want (x := qb true) rfl rfl rfl ?_
          refine WO_want rfl rfl rfl ?_
          refine WO_want (x := qb (!true)) rfl rfl rfl ?_; simp only [putT,st,ev,gt,hp,ofV,constT,intT,lm]
          refine WO_op (x := qb (!true)) rfl rfl rfl ?_; simp only [putT,st,ev,gt,hp,ofV,constT,intT,lm]
          refine WO_nil ?_
          refine W_cond rfl (fun hc => ?_) (fun hc => ?_)
          ·
           replace H1 := tr hc H1
           refine W_seq (W_region ?_)
           refine WO_op rfl rfl rfl ?_; simp only [putT,st,ev,gt,hp,ofV,constT,intT,lm]
           refine WO_nil ?_
           refine W_ret ?_
           obtain rfl := Option.some.inj H1
           obtain rfl := Option.some.inj H
           exact told3 rfl
          ·
           replace H1 := fl hc H1
           refine W_skip ?_
           refine W_region ?_
           iterate 3 (refine WO_op rfl rfl rfl ?_; simp only [putT,st,ev,gt,hp,ofV,constT,intT,lm])
           refine WO_nil ?_
           exact hW1 _ _ ((IH1 _ _ H1 rfl)) (le_intro [] [] (by decide) (by decide) rfl (by simp [leS, leT, leA, gt]) (by simp [leB, leT, leA]) (by simp [leR]))
         ·
          replace H1 := fl hc H1
          simp only [putT,st,ev,gt,hp,ofV,constT,intT,lm]
          iterate 2 (refine WO_want rfl rfl rfl ?_; simp only [putT,st,ev,gt,hp,ofV,constT,intT,lm])
          refine WO_want (x := qb ((byte c3) == 45)) rfl rfl rfl ?_
          refine WO_want rfl rfl rfl ?_
          refine WO_want (x := qb (!((byte c3) == 45))) rfl rfl rfl ?_
          refine WO_op (x := qb (!((byte c3) == 45))) rfl rfl rfl ?_; simp only [putT,st,ev,gt,hp,ofV,constT,intT,lm]
          refine WO_nil ?_
          refine W_cond rfl (fun hc => ?_) (fun hc => ?_)
          ·
           replace H1 := tr hc H1
           refine W_seq (W_region ?_)
           refine WO_op rfl rfl rfl ?_; simp only [putT,st,ev,gt,hp,ofV,constT,intT,lm]
           refine WO_nil ?_
           refine W_ret ?_
           obtain rfl := Option.some.inj H1
           obtain rfl := Option.some.inj H
           exact told3 rfl
          ·
           replace H1 := fl hc H1
           refine W_skip ?_
           refine W_region ?_
           iterate 3 (refine WO_op rfl rfl rfl ?_; simp only [putT,st,ev,gt,hp,ofV,constT,intT,lm])
           refine WO_nil ?_
           exact hW1 _ _ ((IH1 _ _ H1 rfl)) (le_intro [] [] (by decide) (by decide) rfl (by simp [leS, leT, leA, gt]) (by simp [leB, leT, leA]) (by simp [leR]))
     ·
      replace H1 := fl hc H1
      simp only [putT,st,ev,gt,hp,ofV,constT,intT,lm]
      iterate 2 refine WO_skip rfl rfl ?_
      refine WO_want (x := qb false) rfl rfl rfl ?_; simp only [putT,st,ev,gt,hp,ofV,constT,intT,lm]
      iterate 3 (refine WO_want rfl rfl rfl ?_; simp only [putT,st,ev,gt,hp,ofV,constT,intT,lm])
      refine WO_want (x := qb ((byte c3) == 95)) rfl rfl rfl ?_
      refine WO_want rfl rfl rfl ?_; simp only [putT,st,ev,gt,hp,ofV,constT,intT,lm]
      refine WO_if rfl rfl rfl (fun hc => ?_) (fun hc => ?_)
      ·
       replace H1 := tr hc H1
       simp only [putT,st,ev,gt,hp,ofV,constT,intT,lm]
       iterate 2 refine WO_skip rfl rfl ?_
       refine WO_want (x := qb true) rfl rfl rfl ?_
       refine WO_want rfl rfl rfl ?_; simp only [putT,st,ev,gt,hp,ofV,constT,intT,lm]
       iterate 2 refine WO_skip rfl rfl ?_
       refine WO_want (x := qb true) rfl rfl rfl ?_
       refine WO_want rfl rfl rfl ?_; simp only [putT,st,ev,gt,hp,ofV,constT,intT,lm]
       iterate 2 refine WO_skip rfl rfl ?_
       refine WO_want (x := qb true) rfl rfl rfl ?_
       refine WO_want rfl rfl rfl ?_
       refine WO_want (x := qb (!true)) rfl rfl rfl ?_; simp only [putT,st,ev,gt,hp,ofV,constT,intT,lm]
       refine WO_op (x := qb (!true)) rfl rfl rfl ?_; simp only [putT,st,ev,gt,hp,ofV,constT,intT,lm]
       refine WO_nil ?_
       refine W_cond rfl (fun hc => ?_) (fun hc => ?_)
       ·
        replace H1 := tr hc H1
        refine W_seq (W_region ?_)
        refine WO_op rfl rfl rfl ?_; simp only [putT,st,ev,gt,hp,ofV,constT,intT,lm]
        refine WO_nil ?_
        refine W_ret ?_
        obtain rfl := Option.some.inj H1
        obtain rfl := Option.some.inj H
        exact told3 rfl
       ·
        replace H1 := fl hc H1
        refine W_skip ?_
        refine W_region ?_
        iterate 3 (refine WO_op rfl rfl rfl ?_; simp only [putT,st,ev,gt,hp,ofV,constT,intT,lm])
        refine WO_nil ?_
        exact hW1 _ _ ((IH1 _ _ H1 rfl)) (le_intro [] [] (by decide) (by decide) rfl (by simp [leS, leT, leA, gt]) (by simp [leB, leT, leA]) (by simp [leR]))
      ·
       replace H1 := fl hc H1
       simp only [putT,st,ev,gt,hp,ofV,constT,intT,lm]
       iterate 2 (refine WO_want rfl rfl rfl ?_; simp only [putT,st,ev,gt,hp,ofV,constT,intT,lm])
       refine WO_want (x := qb ((byte c3) == 46)) rfl rfl rfl ?_
       refine WO_want rfl rfl rfl ?_; simp only [putT,st,ev,gt,hp,ofV,constT,intT,lm]
       refine WO_if rfl rfl rfl (fun hc => ?_) (fun hc => ?_)
       ·
        replace H1 := tr hc H1
        simp only [putT,st,ev,gt,hp,ofV,constT,intT,lm]
        iterate 2 refine WO_skip rfl rfl ?_
        refine WO_want (x := qb true) rfl rfl rfl ?_
        refine WO_want rfl rfl rfl ?_; simp only [putT,st,ev,gt,hp,ofV,constT,intT,lm]
        iterate 2 refine WO_skip rfl rfl ?_
        refine WO_want (x := qb true) rfl rfl rfl ?_
        refine WO_want rfl rfl rfl ?_
        refine WO_want (x := qb (!true)) rfl rfl rfl ?_; simp only [putT,st,ev,gt,hp,ofV,constT,intT,lm]
        refine WO_op (x := qb (!true)) rfl rfl rfl ?_; simp only [putT,st,ev,gt,hp,ofV,constT,intT,lm]
        refine WO_nil ?_
        refine W_cond rfl (fun hc => ?_) (fun hc => ?_)
        ·
         replace H1 := tr hc H1
         refine W_seq (W_region ?_)
         refine WO_op rfl rfl rfl ?_; simp only [putT,st,ev,gt,hp,ofV,constT,intT,lm]
         refine WO_nil ?_
         refine W_ret ?_
         obtain rfl := Option.some.inj H1
         obtain rfl := Option.some.inj H
         exact told3 rfl
        ·
         replace H1 := fl hc H1
         refine W_skip ?_
         refine W_region ?_
         iterate 3 (refine WO_op rfl rfl rfl ?_; simp only [putT,st,ev,gt,hp,ofV,constT,intT,lm])
         refine WO_nil ?_
         exact hW1 _ _ ((IH1 _ _ H1 rfl)) (le_intro [] [] (by decide) (by decide) rfl (by simp [leS, leT, leA, gt]) (by simp [leB, leT, leA]) (by simp [leR]))
       ·
        replace H1 := fl hc H1
        simp only [putT,st,ev,gt,hp,ofV,constT,intT,lm]
        iterate 2 (refine WO_want rfl rfl rfl ?_; simp only [putT,st,ev,gt,hp,ofV,constT,intT,lm])
        refine WO_want (x := qb ((byte c3) == 47)) rfl rfl rfl ?_
        refine WO_want rfl rfl rfl ?_; simp only [putT,st,ev,gt,hp,ofV,constT,intT,lm]
        refine WO_if rfl rfl rfl (fun hc => ?_) (fun hc => ?_)
        ·
         replace H1 := tr hc H1
         simp only [putT,st,ev,gt,hp,ofV,constT,intT,lm]
         iterate 2 refine WO_skip rfl rfl ?_
         refine WO_want (x := qb true) rfl rfl rfl ?_
         refine WO_want rfl rfl rfl ?_
         refine WO_want (x := qb (!true)) rfl rfl rfl ?_; simp only [putT,st,ev,gt,hp,ofV,constT,intT,lm]
         refine WO_op (x := qb (!true)) rfl rfl rfl ?_; simp only [putT,st,ev,gt,hp,ofV,constT,intT,lm]
         refine WO_nil ?_
         refine W_cond rfl (fun hc => ?_) (fun hc => ?_)
         ·
          replace H1 := tr hc H1
          refine W_seq (W_region ?_)
          refine WO_op rfl rfl rfl ?_; simp only [putT,st,ev,gt,hp,ofV,constT,intT,lm]
          refine WO_nil ?_
          refine W_ret ?_
          obtain rfl := Option.some.inj H1
          obtain rfl := Option.some.inj H
          exact told3 rfl
         ·
          replace H1 := fl hc H1
          refine W_skip ?_
          refine W_region ?_
          iterate 3 (refine WO_op rfl rfl rfl ?_; simp only [putT,st,ev,gt,hp,ofV,constT,intT,lm])
          refine WO_nil ?_
          exact hW1 _ _ ((IH1 _ _ H1 rfl)) (le_intro [] [] (by decide) (by decide) rfl (by simp [leS, leT, leA, gt]) (by simp [leB, leT, leA]) (by simp [leR]))
        ·
         replace H1 := fl hc H1
         simp only [putT,st,ev,gt,hp,ofV,constT,intT,lm]
         iterate 2 (refine WO_want rfl rfl rfl ?_; simp only [putT,st,ev,gt,hp,ofV,constT,intT,lm])
         refine WO_want (x := qb ((byte c3) == 45)) rfl rfl rfl ?_
         refine WO_want rfl rfl rfl ?_
         refine WO_want (x := qb (!((byte c3) == 45))) rfl rfl rfl ?_
         refine WO_op (x := qb (!((byte c3) == 45))) rfl rfl rfl ?_; simp only [putT,st,ev,gt,hp,ofV,constT,intT,lm]
         refine WO_nil ?_
         refine W_cond rfl (fun hc => ?_) (fun hc => ?_)
         ·
          replace H1 := tr hc H1
          refine W_seq (W_region ?_)
          refine WO_op rfl rfl rfl ?_; simp only [putT,st,ev,gt,hp,ofV,constT,intT,lm]
          refine WO_nil ?_
          refine W_ret ?_
          obtain rfl := Option.some.inj H1
          obtain rfl := Option.some.inj H
          exact told3 rfl
         ·
          replace H1 := fl hc H1
          refine W_skip ?_
          refine W_region ?_
          iterate 3 (refine WO_op rfl rfl rfl ?_; simp only [putT,st,ev,gt,hp,ofV,constT,intT,lm])
          refine WO_nil ?_
          exact hW1 _ _ ((IH1 _ _ H1 rfl)) (le_intro [] [] (by decide) (by decide) rfl (by simp [leS, leT, leA, gt]) (by simp [leB, leT, leA]) (by simp [leR]))
   ·
    replace H1 := fl hc H1
    simp only [putT,st,ev,gt,hp,ofV,constT,intT,lm]
    iterate 27 refine WO_skip rfl rfl ?_
    refine WO_op (x := qb false) rfl rfl rfl ?_; simp only [putT,st,ev,gt,hp,ofV,constT,intT,lm]
    refine WO_nil ?_
    refine W_cond (t := false) rfl (fun h => by cases h) (fun _ => ?_)
    refine W_skip ?_
    refine W_region ?_
    iterate 3 (refine WO_op rfl rfl rfl ?_; simp only [putT,st,ev,gt,hp,ofV,constT,intT,lm])
    refine WO_nil ?_
    exact hW1 _ _ ((IH1 _ _ H1 rfl)) (le_intro [] [] (by decide) (by decide) rfl (by simp [leS, leT, leA, gt]) (by simp [leB, leT, leA]) (by simp [leR]))
  ·
   replace H1 := fl hc H1
   refine W_exit ?_
   obtain rfl := Option.some.inj H1
   exact hX1 () _ rfl (le_intro [] [] (by decide) (by decide) rfl (by simp [leS, leT, leA, gt]) (by simp [leB, leT, leA]) (by simp [leR]))
end Go.Pu
