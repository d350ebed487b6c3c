import Derived.Test.YtgcpppnhhponmaaFStepsOk0
import Derived.Test.YtgcpppnhhponmaaFStepsOk2
set_option linter.unusedVariables false
set_option linter.unusedSimpArgs false
set_option synthInstance.maxSize 1000000000
set_option maxRecDepth 20000
set_option maxHeartbeats 20000000
namespace Go.Pu
open Go Go.SX Go.Nt Go.Proofs
theorem spec_l1Max_ok {a1 : Int} {a2 : Int} {r : Int} (H : spec_l1Max a1 a2 = some r) : R 61 [.c (cI .i64 a1) none, .c (cI .i64 a2) none] = some (.c (cI .i64 r) none, []) := by
 unfold spec_l1Max at H
 refine Fz_walk 10 rfl rfl Try.func61 rfl (by kernel_rfl) rfl rfl rfl rfl ?_
 simp only [tellVs, tellV, tells, tell, st0, padT, SX.newRow, SX.newBox, List.length_cons, List.length_nil, Nat.reduceAdd, Nat.reduceSub, List.replicate, List.cons_append, List.nil_append, List.foldl_cons, List.foldl_nil]
 refine W_seq (W_region ?_)
 refine WO_op rfl rfl rfl ?_; simp only [putT,st,ev,gt,hp,ofV,constT,intT,lm]
 refine WO_nil (W_seq (W_seq (W_region ?_)))
 iterate 3 (refine WO_op rfl rfl rfl ?_; simp only [putT,st,ev,gt,hp,ofV,constT,intT,lm])
 refine WO_nil ?_
 refine W_cond rfl (fun hc => ?_) (fun hc => ?_)
 ·
  replace H := tr hc H
  refine W_seq (W_region ?_)
  iterate 2 (refine WO_op rfl rfl rfl ?_; simp only [putT,st,ev,gt,hp,ofV,constT,intT,lm])
  refine WO_nil ?_
  refine W_ret ?_
  obtain rfl := Option.some.inj H
  exact told3 rfl
 ·
  replace H := fl hc H
  refine W_skip ?_
  refine W_seq (W_region ?_)
  iterate 2 (refine WO_op rfl rfl rfl ?_; simp only [putT,st,ev,gt,hp,ofV,constT,intT,lm])
  refine WO_nil ?_
  refine W_ret ?_
  obtain rfl := Option.some.inj H
  exact told3 rfl
theorem spec_ByAll_ok {a1 : Order} {a2 : Int} {a3 : List Sample} {r : Int × Bool} (H : spec_ByAll a1 a2 a3 = some r) : R 14 [.ag [(cS a1.Name, none), (cS a1.Target, none), (cI .i64 a1.Low, none), (cI .i64 a1.High, none), (cL enc_Metric a1.Metrics, none), (cI .i64 a1.Pace.Up, none), (cI .i64 a1.Pace.Down, none), (cI .i64 a1.Pace.UpSpan, none), (cI .i64 a1.Pace.DownSpan, none), (cL enc_Note a1.Notes, none)], .c (cI .i64 a2) none, .c (cL enc_Sample a3) none] = some (.tu [.c (cI .i64 r.1) none, .c (cB r.2) none], []) := by
 unfold spec_ByAll at H
 refine Fz_walk 54 rfl rfl Try.func14 rfl (by kernel_rfl) rfl rfl rfl rfl ?_
 simp only [tellVs, tellV, tells, tell, st0, padT, SX.newRow, SX.newBox, List.length_cons, List.length_nil, Nat.reduceAdd, Nat.reduceSub, List.replicate, List.cons_append, List.nil_append, List.foldl_cons, List.foldl_nil]
 refine W_seq (W_region ?_)
 refine WO_op (x := .bp 0 0) (σ' := ⟨[], [some [qs a1.Name, qs a1.Target, qi a1.Low, qi a1.High, .c (cL enc_Metric a1.Metrics), qi a1.Pace.Up, qi a1.Pace.Down, qi a1.Pace.UpSpan, qi a1.Pace.DownSpan, .c (cL enc_Note a1.Notes)]], []⟩) rfl rfl rfl ?_; simp only [putT,st,ev,gt,hp,ofV,constT,intT,lm]
 iterate 2 (refine WO_op rfl rfl rfl ?_; simp only [putT,st,ev,gt,hp,ofV,constT,intT,lm])
 refine WO_nil (W_seq (W_region ?_))
 refine WO_op rfl rfl rfl ?_; simp only [putT,st,ev,gt,hp,ofV,constT,intT,lm]
 refine WO_nil (W_seq (W_region ?_))
 refine WO_op rfl rfl rfl ?_; simp only [putT,st,ev,gt,hp,ofV,constT,intT,lm]
 refine WO_nil (W_seq (W_seq (W_region ?_)))
 refine WO_op rfl rfl rfl ?_; simp only [putT,st,ev,gt,hp,ofV,constT,intT,lm]
 refine WO_nil ?_
 refine W_block ?_
 obtain ⟨t14, ht14, H⟩ := bnd H
 refine loop_rule (ls := []) 0 (fun t14 : Int × Bool => ⟨[.no, qi a2, .no, .no, .no, .no, .no, .no, qi t14.1, qb t14.2], [], []⟩) (fun t => t14 = t) ⟨[.no, qi a2, .c (cL enc_Sample a3), .bp 0 0, .no, .no, .no, .no, qi 0, qb false, qi 0], [some [qs a1.Name, qs a1.Target, qi a1.Low, qi a1.High, .c (cL enc_Metric a1.Metrics), qi a1.Pace.Up, qi a1.Pace.Down, qi a1.Pace.UpSpan, qi a1.Pace.DownSpan, .c (cL enc_Note a1.Notes)]], []⟩ (by repeat (first | exact mono_told | refine mono_seq ?_ | refine mono_blk ?_ | refine mono_lp ?_)) (le_intro [0] [] (by decide) (by decide) rfl (by simp [leS, leT, leA, gt]) (by simp [leB, leT, leA]) (by simp [leR])) ?_ ?_
 ·
  rintro t1 rfl
  refine W_seq (W_seq (W_region ?_))
  iterate 2 (refine WO_op rfl rfl rfl ?_; simp only [putT,st,ev,gt,hp,ofV,constT,intT,lm])
  refine WO_nil ?_
  refine W_cond rfl (fun hc => ?_) (fun hc => ?_)
  ·
   replace H := tr hc H
   refine W_seq (W_region ?_)
   iterate 3 (refine WO_op rfl rfl rfl ?_; simp only [putT,st,ev,gt,hp,ofV,constT,intT,lm])
   refine WO_nil ?_
   refine W_ret ?_
   obtain rfl := Option.some.inj H
   exact told3 rfl
  ·
   replace H := fl hc H
   refine W_skip ?_
   refine W_seq (W_region ?_)
   iterate 3 (refine WO_op rfl rfl rfl ?_; simp only [putT,st,ev,gt,hp,ofV,constT,intT,lm])
   refine WO_nil ?_
   refine W_ret ?_
   obtain rfl := Option.some.inj H
   exact told3 rfl
 ·
  intro V1 hV1 hW1 hX1
  refine (spec_ByAll.l0.partial_correctness a1 a2 a3 (fun v4 v5 v6 s' => s' = t14 → (V1 ⟨[.no, qi a2, .c (cL enc_Sample a3), .bp 0 0, .no, .no, .no, .no, qi v4, qb v5, qi v6], [some [qs a1.Name, qs a1.Target, qi a1.Low, qi a1.High, .c (cL enc_Metric a1.Metrics), qi a1.Pace.Up, qi a1.Pace.Down, qi a1.Pace.UpSpan, qi a1.Pace.DownSpan, .c (cL enc_Note a1.Notes)]], []⟩)) ?_ _ _ _ _ ht14 rfl)
  intro l0 IH1 v4 v5 v6 s' H1 e
  subst e
  refine hV1 _ ?_
  refine W_seq (W_seq (W_region ?_))
  refine WO_op rfl rfl rfl ?_
  refine WO_op (x := .bp 0 4) rfl rfl rfl ?_
  refine WO_op (x := .c (cL enc_Metric a1.Metrics)) rfl rfl rfl ?_; simp only [putT,st,ev,gt,hp,ofV,constT,intT,lm]
  iterate 3 (refine WO_op rfl rfl rfl ?_; simp only [putT,st,ev,gt,hp,ofV,constT,intT,lm])
  refine WO_if rfl rfl rfl (fun hc => ?_) (fun hc => ?_)
  ·
   replace H1 := tr hc H1
   refine WO_want (x := .ag [qs a1.Name, qs a1.Target, qi a1.Low, qi a1.High, .c (cL enc_Metric a1.Metrics), qi a1.Pace.Up, qi a1.Pace.Down, qi a1.Pace.UpSpan, qi a1.Pace.DownSpan, .c (cL enc_Note a1.Notes)]) rfl rfl rfl ?_; simp only [putT,st,ev,gt,hp,ofV,constT,intT,lm]
   obtain ⟨x7, hx7, H1⟩ := bnd H1
   refine WO_want (x := qb x7) (σ' := ⟨[], [some [qs a1.Name, qs a1.Target, qi a1.Low, qi a1.High, .c (cL enc_Metric a1.Metrics), qi a1.Pace.Up, qi a1.Pace.Down, qi a1.Pace.UpSpan, qi a1.Pace.DownSpan, .c (cL enc_Note a1.Notes)]], []⟩) rfl rfl (ev_callG (al := [.ag [qs a1.Name, qs a1.Target, qi a1.Low, qi a1.High, .c (cL enc_Metric a1.Metrics), qi a1.Pace.Up, qi a1.Pace.Down, qi a1.Pace.UpSpan, qi a1.Pace.DownSpan, .c (cL enc_Note a1.Notes)]]) (ls := []) (spec_OrderOk_ok hx7) rfl rfl rfl rfl rfl (by decide) rfl rfl rfl rfl rfl rfl) ?_; simp only [putT,st,ev,gt,hp,ofV,constT,intT,lm]
   refine WO_op (x := qb x7) rfl rfl rfl ?_
   refine WO_op rfl rfl rfl ?_; simp only [putT,st,ev,gt,hp,ofV,constT,intT,lm]
   refine WO_if rfl rfl rfl (fun hc => ?_) (fun hc => ?_)
   ·
    replace H1 := tr hc H1
    refine WO_want rfl rfl rfl ?_; simp only [putT,st,ev,gt,hp,ofV,constT,intT,lm]
    obtain ⟨x8, hx8, H1⟩ := bnd H1
    refine WO_want (x := qb x8) (σ' := ⟨[], [some [qs a1.Name, qs a1.Target, qi a1.Low, qi a1.High, .c (cL enc_Metric a1.Metrics), qi a1.Pace.Up, qi a1.Pace.Down, qi a1.Pace.UpSpan, qi a1.Pace.DownSpan, .c (cL enc_Note a1.Notes)]], []⟩) rfl rfl (ev_callG (al := [.c (cL enc_Sample a3)]) (ls := []) (spec_SamplesOk_ok hx8) rfl rfl rfl rfl rfl (by decide) rfl rfl rfl rfl rfl rfl) ?_; simp only [putT,st,ev,gt,hp,ofV,constT,intT,lm]
    refine WO_op (x := qb x8) rfl rfl rfl ?_; simp only [putT,st,ev,gt,hp,ofV,constT,intT,lm]
    refine WO_nil ?_
    refine W_cond rfl (fun hc => ?_) (fun hc => ?_)
    ·
     replace H1 := tr hc H1
     refine W_skip ?_
     refine W_seq ?_
     refine W_block ?_
     refine W_seq (W_region ?_)
     refine WO_op rfl rfl rfl ?_
     refine WO_op (x := .bp 0 4) rfl rfl rfl ?_
     refine WO_op (x := .c (cL enc_Metric a1.Metrics)) rfl rfl rfl ?_
     refine WO_op rfl rfl rfl ?_; simp only [putT,st,ev,gt,hp,ofV,constT,intT,lm]
     obtain ⟨x9, hx9, H1⟩ := bnd H1
     refine WO_op rfl rfl (ev_ix (en := enc_Metric) hx9 rfl rfl rfl rfl rfl rfl rfl) ?_; simp only [putT,st,ev,gt,hp,ofV,constT,intT,lm]
     refine WO_op (x := .cp (enc_Metric x9) 0) rfl rfl rfl ?_
     refine WO_op (x := qs x9.Name) rfl rfl rfl ?_; simp only [putT,st,ev,gt,hp,ofV,constT,intT,lm]
     obtain ⟨x10, hx10, H1⟩ := bnd H1
     refine WO_op (x := .tu [qi x10.1, qb x10.2]) (σ' := ⟨[], [some [qs a1.Name, qs a1.Target, qi a1.Low, qi a1.High, .c (cL enc_Metric a1.Metrics), qi a1.Pace.Up, qi a1.Pace.Down, qi a1.Pace.UpSpan, qi a1.Pace.DownSpan, .c (cL enc_Note a1.Notes)]], []⟩) rfl rfl (ev_callG (al := [.c (cL enc_Sample a3), qs x9.Name]) (ls := []) (spec_SampleOf_ok hx10) rfl rfl rfl rfl rfl (by decide) rfl rfl rfl rfl rfl rfl) ?_; simp only [putT,st,ev,gt,hp,ofV,constT,intT,lm]
     refine WO_op rfl rfl rfl ?_
     refine WO_op (x := qi x10.1) rfl rfl rfl ?_
     refine WO_op (x := qb x10.2) rfl rfl rfl ?_; simp only [putT,st,ev,gt,hp,ofV,constT,intT,lm]
     iterate 2 (refine WO_op rfl rfl rfl ?_; simp only [putT,st,ev,gt,hp,ofV,constT,intT,lm])
     refine WO_nil (W_seq (W_region ?_))
     refine WO_op rfl rfl rfl ?_; simp only [putT,st,ev,gt,hp,ofV,constT,intT,lm]
     refine WO_nil ?_
     refine W_cond rfl (fun hc => ?_) (fun hc => ?_)
     ·
      replace H1 := tr hc H1
      refine W_seq (W_region ?_)
      refine WO_op rfl rfl rfl ?_
      refine WO_op (x := .bp 0 4) rfl rfl rfl ?_
      refine WO_op (x := .c (cL enc_Metric a1.Metrics)) rfl rfl rfl ?_
      refine WO_op rfl rfl rfl ?_; simp only [putT,st,ev,gt,hp,ofV,constT,intT,lm]
      obtain ⟨x11, hx11, H1⟩ := bnd H1
      refine WO_op rfl rfl (ev_ix (en := enc_Metric) hx11 rfl rfl rfl rfl rfl rfl rfl) ?_; simp only [putT,st,ev,gt,hp,ofV,constT,intT,lm]
      refine WO_op (x := .ag [qs x11.Name, qi x11.Kind, qi x11.Goal]) rfl rfl rfl ?_; simp only [putT,st,ev,gt,hp,ofV,constT,intT,lm]
      iterate 2 (refine WO_op rfl rfl rfl ?_; simp only [putT,st,ev,gt,hp,ofV,constT,intT,lm])
      obtain ⟨x12, hx12, H1⟩ := bnd H1
      refine WO_op (x := qi x12) (σ' := ⟨[], [some [qs a1.Name, qs a1.Target, qi a1.Low, qi a1.High, .c (cL enc_Metric a1.Metrics), qi a1.Pace.Up, qi a1.Pace.Down, qi a1.Pace.UpSpan, qi a1.Pace.DownSpan, .c (cL enc_Note a1.Notes)]], []⟩) rfl rfl (ev_callG (al := [.ag [qs x11.Name, qi x11.Kind, qi x11.Goal], qi a2, qi x10.1]) (ls := []) (spec_ByOne_ok hx12) rfl rfl rfl rfl rfl (by decide) rfl rfl rfl rfl rfl rfl) ?_; simp only [putT,st,ev,gt,hp,ofV,constT,intT,lm]
      obtain ⟨x13, hx13, H1⟩ := bnd H1
      refine WO_op (x := qi x13) (σ' := ⟨[], [some [qs a1.Name, qs a1.Target, qi a1.Low, qi a1.High, .c (cL enc_Metric a1.Metrics), qi a1.Pace.Up, qi a1.Pace.Down, qi a1.Pace.UpSpan, qi a1.Pace.DownSpan, .c (cL enc_Note a1.Notes)]], []⟩) rfl rfl (ev_callG (al := [qi v4, qi x12]) (ls := []) (spec_l1Max_ok hx13) rfl rfl rfl rfl rfl (by decide) rfl rfl rfl rfl rfl rfl) ?_; simp only [putT,st,ev,gt,hp,ofV,constT,intT,lm]
      refine WO_op rfl rfl rfl ?_; simp only [putT,st,ev,gt,hp,ofV,constT,intT,lm]
      refine WO_nil (W_region ?_)
      refine WO_op rfl rfl rfl ?_; simp only [putT,st,ev,gt,hp,ofV,constT,intT,lm]
      refine WO_nil (W_region ?_)
      iterate 3 (refine WO_op rfl rfl rfl ?_; simp only [putT,st,ev,gt,hp,ofV,constT,intT,lm])
      refine WO_nil ?_
      exact hW1 _ _ ((IH1 _ _ _ _ H1 rfl)) (le_intro [0] [] (by decide) (by decide) rfl (by simp [leS, leT, leA, gt]) (by simp [leB, leT, leA]) (by simp [leR]))
     ·
      replace H1 := fl hc H1
      refine W_skip ?_
      refine W_region ?_
      iterate 3 (refine WO_op rfl rfl rfl ?_; simp only [putT,st,ev,gt,hp,ofV,constT,intT,lm])
      refine WO_nil ?_
      exact hW1 _ _ ((IH1 _ _ _ _ H1 rfl)) (le_intro [0] [] (by decide) (by decide) rfl (by simp [leS, leT, leA, gt]) (by simp [leB, leT, leA]) (by simp [leR]))
    ·
     replace H1 := fl hc H1
     refine W_exit ?_
     obtain rfl := Option.some.inj H1
     exact hX1 (v4, v5) _ rfl (le_intro [] [] (by decide) (by decide) rfl (by simp [leS, leT, leA, gt]) (by simp [leB, leT, leA]) (by simp [leR]))
   ·
    replace H1 := fl hc H1
    simp only [putT,st,ev,gt,hp,ofV,constT,intT,lm]
    iterate 2 refine WO_skip rfl rfl ?_
    refine WO_op (x := qb false) rfl rfl rfl ?_; simp only [putT,st,ev,gt,hp,ofV,constT,intT,lm]
    refine WO_nil ?_
    refine W_cond (t := false) rfl (fun h => by cases h) (fun _ => ?_)
    refine W_exit ?_
    obtain rfl := Option.some.inj H1
    exact hX1 (v4, v5) _ rfl (le_intro [] [] (by decide) (by decide) rfl (by simp [leS, leT, leA, gt]) (by simp [leB, leT, leA]) (by simp [leR]))
  ·
   replace H1 := fl hc H1
   simp only [putT,st,ev,gt,hp,ofV,constT,intT,lm]
   iterate 2 refine WO_skip rfl rfl ?_
   refine WO_op (x := qb false) rfl rfl rfl ?_
   refine WO_op rfl rfl rfl ?_; simp only [putT,st,ev,gt,hp,ofV,constT,intT,lm]
   iterate 2 refine WO_skip rfl rfl ?_
   refine WO_op (x := qb false) rfl rfl rfl ?_; simp only [putT,st,ev,gt,hp,ofV,constT,intT,lm]
   refine WO_nil ?_
   refine W_cond (t := false) rfl (fun h => by cases h) (fun _ => ?_)
   refine W_exit ?_
   obtain rfl := Option.some.inj H1
   exact hX1 (v4, v5) _ rfl (le_intro [] [] (by decide) (by decide) rfl (by simp [leS, leT, leA, gt]) (by simp [leB, leT, leA]) (by simp [leR]))
theorem spec_l1Min_ok {a1 : Int} {a2 : Int} {r : Int} (H : spec_l1Min a1 a2 = some r) : R 103 [.c (cI .i64 a1) none, .c (cI .i64 a2) none] = some (.c (cI .i64 r) none, []) := by
 unfold spec_l1Min at H
 refine Fz_walk 10 rfl rfl Try.func103 rfl (by kernel_rfl) rfl rfl rfl rfl ?_
 simp only [tellVs, tellV, tells, tell, st0, padT, SX.newRow, SX.newBox, List.length_cons, List.length_nil, Nat.reduceAdd, Nat.reduceSub, List.replicate, List.cons_append, List.nil_append, List.foldl_cons, List.foldl_nil]
 refine W_seq (W_region ?_)
 refine WO_op rfl rfl rfl ?_; simp only [putT,st,ev,gt,hp,ofV,constT,intT,lm]
 refine WO_nil (W_seq (W_seq (W_region ?_)))
 iterate 3 (refine WO_op rfl rfl rfl ?_; simp only [putT,st,ev,gt,hp,ofV,constT,intT,lm])
 refine WO_nil ?_
 refine W_cond rfl (fun hc => ?_) (fun hc => ?_)
 ·
  replace H := tr hc H
  refine W_seq (W_region ?_)
  iterate 2 (refine WO_op rfl rfl rfl ?_; simp only [putT,st,ev,gt,hp,ofV,constT,intT,lm])
  refine WO_nil ?_
  refine W_ret ?_
  obtain rfl := Option.some.inj H
  exact told3 rfl
 ·
  replace H := fl hc H
  refine W_skip ?_
  refine W_seq (W_region ?_)
  iterate 2 (refine WO_op rfl rfl rfl ?_; simp only [putT,st,ev,gt,hp,ofV,constT,intT,lm])
  refine WO_nil ?_
  refine W_ret ?_
  obtain rfl := Option.some.inj H
  exact told3 rfl
theorem spec_Clamp_ok {a1 : Int} {a2 : Int} {a3 : Int} {r : Int} (H : spec_Clamp a1 a2 a3 = some r) : R 97 [.c (cI .i64 a1) none, .c (cI .i64 a2) none, .c (cI .i64 a3) none] = some (.c (cI .i64 r) none, []) := by
 unfold spec_Clamp at H
 refine Fz_walk 14 rfl rfl Try.func97 rfl (by kernel_rfl) rfl rfl rfl rfl ?_
 simp only [tellVs, tellV, tells, tell, st0, padT, SX.newRow, SX.newBox, List.length_cons, List.length_nil, Nat.reduceAdd, Nat.reduceSub, List.replicate, List.cons_append, List.nil_append, List.foldl_cons, List.foldl_nil]
 refine W_seq (W_region ?_)
 refine WO_op rfl rfl rfl ?_; simp only [putT,st,ev,gt,hp,ofV,constT,intT,lm]
 refine WO_nil (W_seq (W_seq (W_region ?_)))
 iterate 3 (refine WO_op rfl rfl rfl ?_; simp only [putT,st,ev,gt,hp,ofV,constT,intT,lm])
 refine WO_nil ?_
 refine W_cond rfl (fun hc => ?_) (fun hc => ?_)
 ·
  replace H := tr hc H
  refine W_seq (W_region ?_)
  iterate 2 (refine WO_op rfl rfl rfl ?_; simp only [putT,st,ev,gt,hp,ofV,constT,intT,lm])
  refine WO_nil ?_
  refine W_ret ?_
  obtain rfl := Option.some.inj H
  exact told3 rfl
 ·
  replace H := fl hc H
  refine W_skip ?_
  refine W_seq (W_region ?_)
  iterate 2 (refine WO_op rfl rfl rfl ?_; simp only [putT,st,ev,gt,hp,ofV,constT,intT,lm])
  obtain ⟨x4, hx4, H⟩ := bnd H
  refine WO_op (x := qi x4) (σ' := ⟨[], [], []⟩) rfl rfl (ev_callG (al := [qi a1, qi a3]) (ls := []) (spec_l1Min_ok hx4) rfl rfl rfl rfl rfl (by decide) rfl rfl rfl rfl rfl rfl) ?_; simp only [putT,st,ev,gt,hp,ofV,constT,intT,lm]
  refine WO_op rfl rfl rfl ?_; simp only [putT,st,ev,gt,hp,ofV,constT,intT,lm]
  refine WO_nil ?_
  refine W_ret ?_
  obtain rfl := Option.some.inj H
  exact told3 rfl
theorem spec_Lately_ok {a1 : List Rec} {a2 : Int} {a3 : Int} {r : List Int} (H : spec_Lately a1 a2 a3 = some r) : R 146 [.c (cL enc_Rec a1) none, .c (cI .i64 a2) none, .c (cI .i64 a3) none] = some (.c (cL eI r) (some 1), []) := by
 unfold spec_Lately at H
 refine Fz_walk 52 rfl rfl Try.func146 rfl (by kernel_rfl) rfl rfl rfl rfl ?_
 simp only [tellVs, tellV, tells, tell, st0, padT, SX.newRow, SX.newBox, List.length_cons, List.length_nil, Nat.reduceAdd, Nat.reduceSub, List.replicate, List.cons_append, List.nil_append, List.foldl_cons, List.foldl_nil]
 refine W_seq (W_region ?_)
 refine WO_op rfl rfl rfl ?_; simp only [putT,st,ev,gt,hp,ofV,constT,intT,lm]
 refine WO_nil (W_seq (W_region ?_))
 refine WO_op (x := .row 0) (σ' := ⟨[], [], [rr 1 eI ([] : List Int) true]⟩) rfl rfl (ev_bs ([] : List Int) eI rfl rfl rfl rfl) ?_; simp only [putT,st,ev,gt,hp,ofV,constT,intT,lm]
 refine WO_op rfl rfl rfl ?_; simp only [putT,st,ev,gt,hp,ofV,constT,intT,lm]
 refine WO_nil (W_seq (W_seq (W_region ?_)))
 refine WO_op rfl rfl rfl ?_; simp only [putT,st,ev,gt,hp,ofV,constT,intT,lm]
 refine WO_nil ?_
 refine W_block ?_
 obtain ⟨t11, ht11, H⟩ := bnd H
 refine loop_rule (ls := []) 0 (fun t11 : List Int => ⟨[.no, .no, .no, .no, .no, .no, .no, .row 0], [], [rr 1 eI t11 true]⟩) (fun t => t11 = t) ⟨[.c (cL enc_Rec a1), qi a2, qi a3, .no, .no, .no, .no, .row 0, qi 0], [], [rr 1 eI ([] : List Int) true]⟩ (by repeat (first | exact mono_told | refine mono_seq ?_ | refine mono_blk ?_ | refine mono_lp ?_)) (le_intro [] [0] (by decide) (by decide) rfl (by simp [leS, leT, leA, gt]) (by simp [leB, leT, leA]) (by simp [leR])) ?_ ?_
 ·
  rintro t1 rfl
  refine W_seq (W_region ?_)
  iterate 2 (refine WO_op rfl rfl rfl ?_; simp only [putT,st,ev,gt,hp,ofV,constT,intT,lm])
  refine WO_nil ?_
  refine W_ret ?_
  obtain rfl := Option.some.inj H
  exact told5 rfl rfl rfl rfl (fitAs_nz rfl) rfl
 ·
  intro V1 hV1 hW1 hX1
  refine (spec_Lately.l0.partial_correctness a1 a2 a3 (fun v4 v5 s' => s' = t11 → (V1 ⟨[.c (cL enc_Rec a1), qi a2, qi a3, .no, .no, .no, .no, .row 0, qi v4], [], [rr 1 eI v5 true]⟩)) ?_ _ _ _ ht11 rfl)
  intro l0 IH1 v4 v5 s' H1 e
  subst e
  refine hV1 _ ?_
  refine W_seq (W_seq (W_region ?_))
  iterate 4 (refine WO_op rfl rfl rfl ?_; simp only [putT,st,ev,gt,hp,ofV,constT,intT,lm])
  refine WO_nil ?_
  refine W_cond rfl (fun hc => ?_) (fun hc => ?_)
  ·
   replace H1 := tr hc H1
   refine W_skip ?_
   refine W_seq ?_
   refine W_block ?_
   refine W_seq (W_region ?_)
   iterate 2 (refine WO_op rfl rfl rfl ?_; simp only [putT,st,ev,gt,hp,ofV,constT,intT,lm])
   obtain ⟨x6, hx6, H1⟩ := bnd H1
   refine WO_op rfl rfl (ev_ix (en := enc_Rec) hx6 rfl rfl rfl rfl rfl rfl rfl) ?_; simp only [putT,st,ev,gt,hp,ofV,constT,intT,lm]
   refine WO_op (x := .cp (enc_Rec x6) 0) rfl rfl rfl ?_
   refine WO_op (x := qi x6.Time) rfl rfl rfl ?_
   refine WO_op rfl rfl rfl ?_; simp only [putT,st,ev,gt,hp,ofV,constT,intT,lm]
   refine WO_nil (W_seq (W_region ?_))
   iterate 4 (refine WO_op rfl rfl rfl ?_; simp only [putT,st,ev,gt,hp,ofV,constT,intT,lm])
   refine WO_if rfl rfl rfl (fun hc => ?_) (fun hc => ?_)
   ·
    replace H1 := tr hc H1
    simp only [putT,st,ev,gt,hp,ofV,constT,intT,lm]
    iterate 4 (refine WO_want rfl rfl rfl ?_; simp only [putT,st,ev,gt,hp,ofV,constT,intT,lm])
    refine WO_if rfl rfl rfl (fun hc => ?_) (fun hc => ?_)
    ·
     replace H1 := tr hc H1
     simp only [putT,st,ev,gt,hp,ofV,constT,intT,lm]
     iterate 11 refine WO_skip rfl rfl ?_
     refine WO_want (x := qb true) rfl rfl rfl ?_
     refine WO_op (x := qb true) rfl rfl rfl ?_; simp only [putT,st,ev,gt,hp,ofV,constT,intT,lm]
     refine WO_nil ?_
     refine W_cond (t := true) rfl (fun _ => ?_) (fun h => by cases h)
     refine W_region ?_
     iterate 3 (refine WO_op rfl rfl rfl ?_; simp only [putT,st,ev,gt,hp,ofV,constT,intT,lm])
     obtain ⟨x7, hx7, H1⟩ := bnd H1
     refine WO_op rfl rfl (ev_ix (en := enc_Rec) hx7 rfl rfl rfl rfl rfl rfl rfl) ?_; simp only [putT,st,ev,gt,hp,ofV,constT,intT,lm]
     refine WO_op (x := .cp (enc_Rec x7) 1) rfl rfl rfl ?_
     refine WO_op (x := qi x7.N) rfl rfl rfl ?_; simp only [putT,st,ev,gt,hp,ofV,constT,intT,lm]
     refine WO_op (x := .row 1) (σ' := ⟨[], [], [rr 1 eI v5 true, rr 1 eI ([x7.N] : List Int) true]⟩) rfl rfl (ev_bs ([x7.N] : List Int) eI rfl rfl rfl rfl) ?_; simp only [putT,st,ev,gt,hp,ofV,constT,intT,lm]
     obtain ⟨m8, hm8, H1⟩ := bnd H1
     refine WO_op (x := .row 2) (σ' := ⟨[], [], [none, rr 1 eI ([x7.N] : List Int) true, rr 1 eI m8 true]⟩) rfl rfl (ev_app (en := eI) hm8 rfl rfl rfl rfl (Or.inl rfl) rfl rfl rfl rfl rfl rfl rfl rfl rfl rfl rfl (fun _ => rfl) rfl (Or.inr rfl) rfl) ?_; simp only [putT,st,ev,gt,hp,ofV,constT,intT,lm]
     refine WO_op rfl rfl rfl ?_; simp only [putT,st,ev,gt,hp,ofV,constT,intT,lm]
     refine WO_nil (W_region ?_)
     iterate 3 (refine WO_op rfl rfl rfl ?_; simp only [putT,st,ev,gt,hp,ofV,constT,intT,lm])
     refine WO_nil ?_
     exact hW1 _ _ ((IH1 _ _ _ H1 rfl)) (le_intro [] [2] (by decide) (by decide) rfl (by simp [leS, leT, leA, gt]) (by simp [leB, leT, leA]) (by simp [leR]))
    ·
     replace H1 := fl hc H1
     simp only [putT,st,ev,gt,hp,ofV,constT,intT,lm]
     iterate 5 (refine WO_want rfl rfl rfl ?_; simp only [putT,st,ev,gt,hp,ofV,constT,intT,lm])
     refine WO_if rfl rfl rfl (fun hc => ?_) (fun hc => ?_)
     ·
      replace H1 := tr hc H1
      simp only [putT,st,ev,gt,hp,ofV,constT,intT,lm]
      iterate 5 (refine WO_want rfl rfl rfl ?_; simp only [putT,st,ev,gt,hp,ofV,constT,intT,lm])
      iterate 2 (refine WO_want (x := qb (decide ((IntKind.i64.wrap (a2 - x6.Time)) ≤ a3))) rfl rfl rfl ?_; simp only [putT,st,ev,gt,hp,ofV,constT,intT,lm])
      refine WO_op (x := qb (decide ((IntKind.i64.wrap (a2 - x6.Time)) ≤ a3))) rfl rfl rfl ?_; simp only [putT,st,ev,gt,hp,ofV,constT,intT,lm]
      refine WO_nil ?_
      refine W_cond rfl (fun hc => ?_) (fun hc => ?_)
      ·
       replace H1 := tr hc H1
       refine W_region ?_
       iterate 3 (refine WO_op rfl rfl rfl ?_; simp only [putT,st,ev,gt,hp,ofV,constT,intT,lm])
       obtain ⟨x9, hx9, H1⟩ := bnd H1
       refine WO_op rfl rfl (ev_ix (en := enc_Rec) hx9 rfl rfl rfl rfl rfl rfl rfl) ?_; simp only [putT,st,ev,gt,hp,ofV,constT,intT,lm]
       refine WO_op (x := .cp (enc_Rec x9) 1) rfl rfl rfl ?_
       refine WO_op (x := qi x9.N) rfl rfl rfl ?_; simp only [putT,st,ev,gt,hp,ofV,constT,intT,lm]
       refine WO_op (x := .row 1) (σ' := ⟨[], [], [rr 1 eI v5 true, rr 1 eI ([x9.N] : List Int) true]⟩) rfl rfl (ev_bs ([x9.N] : List Int) eI rfl rfl rfl rfl) ?_; simp only [putT,st,ev,gt,hp,ofV,constT,intT,lm]
       obtain ⟨m10, hm10, H1⟩ := bnd H1
       refine WO_op (x := .row 2) (σ' := ⟨[], [], [none, rr 1 eI ([x9.N] : List Int) true, rr 1 eI m10 true]⟩) rfl rfl (ev_app (en := eI) hm10 rfl rfl rfl rfl (Or.inl rfl) rfl rfl rfl rfl rfl rfl rfl rfl rfl rfl rfl (fun _ => rfl) rfl (Or.inr rfl) rfl) ?_; simp only [putT,st,ev,gt,hp,ofV,constT,intT,lm]
       refine WO_op rfl rfl rfl ?_; simp only [putT,st,ev,gt,hp,ofV,constT,intT,lm]
       refine WO_nil (W_region ?_)
       iterate 3 (refine WO_op rfl rfl rfl ?_; simp only [putT,st,ev,gt,hp,ofV,constT,intT,lm])
       refine WO_nil ?_
       exact hW1 _ _ ((IH1 _ _ _ H1 rfl)) (le_intro [] [2] (by decide) (by decide) rfl (by simp [leS, leT, leA, gt]) (by simp [leB, leT, leA]) (by simp [leR]))
      ·
       replace H1 := fl hc H1
       refine W_skip ?_
       refine W_region ?_
       iterate 3 (refine WO_op rfl rfl rfl ?_; simp only [putT,st,ev,gt,hp,ofV,constT,intT,lm])
       refine WO_nil ?_
       exact hW1 _ _ ((IH1 _ _ _ H1 rfl)) (le_intro [] [0] (by decide) (by decide) rfl (by simp [leS, leT, leA, gt]) (by simp [leB, leT, leA]) (by simp [leR]))
     ·
      replace H1 := fl hc H1
      simp only [putT,st,ev,gt,hp,ofV,constT,intT,lm]
      iterate 5 refine WO_skip rfl rfl ?_
      simp only [putT,st,ev,gt,hp,ofV,constT,intT,lm]
      iterate 2 (refine WO_want (x := qb false) rfl rfl rfl ?_; simp only [putT,st,ev,gt,hp,ofV,constT,intT,lm])
      refine WO_op (x := qb false) rfl rfl rfl ?_; simp only [putT,st,ev,gt,hp,ofV,constT,intT,lm]
      refine WO_nil ?_
      refine W_cond (t := false) rfl (fun h => by cases h) (fun _ => ?_)
      refine W_skip ?_
      refine W_region ?_
      iterate 3 (refine WO_op rfl rfl rfl ?_; simp only [putT,st,ev,gt,hp,ofV,constT,intT,lm])
      refine WO_nil ?_
      exact hW1 _ _ ((IH1 _ _ _ H1 rfl)) (le_intro [] [0] (by decide) (by decide) rfl (by simp [leS, leT, leA, gt]) (by simp [leB, leT, leA]) (by simp [leR]))
   ·
    replace H1 := fl hc H1
    simp only [putT,st,ev,gt,hp,ofV,constT,intT,lm]
    iterate 16 refine WO_skip rfl rfl ?_
    refine WO_op (x := qb false) rfl rfl rfl ?_; simp only [putT,st,ev,gt,hp,ofV,constT,intT,lm]
    refine WO_nil ?_
    refine W_cond (t := false) rfl (fun h => by cases h) (fun _ => ?_)
    refine W_skip ?_
    refine W_region ?_
    iterate 3 (refine WO_op rfl rfl rfl ?_; simp only [putT,st,ev,gt,hp,ofV,constT,intT,lm])
    refine WO_nil ?_
    exact hW1 _ _ ((IH1 _ _ _ H1 rfl)) (le_intro [] [0] (by decide) (by decide) rfl (by simp [leS, leT, leA, gt]) (by simp [leB, leT, leA]) (by simp [leR]))
  ·
   replace H1 := fl hc H1
   refine W_exit ?_
   obtain rfl := Option.some.inj H1
   exact hX1 v5 _ rfl (le_intro [] [0] (by decide) (by decide) rfl (by simp [leS, leT, leA, gt]) (by simp [leB, leT, leA]) (by simp [leR]))
theorem spec_Steady_ok {a1 : Pace} {a2 : List Rec} {a3 : Int} {a4 : Int} {a5 : Int} {r : Int} (H : spec_Steady a1 a2 a3 a4 a5 = some r) : R 100 [.ag [(cI .i64 a1.Up, none), (cI .i64 a1.Down, none), (cI .i64 a1.UpSpan, none), (cI .i64 a1.DownSpan, none)], .c (cL enc_Rec a2) none, .c (cI .i64 a3) none, .c (cI .i64 a4) none, .c (cI .i64 a5) none] = some (.c (cI .i64 r) none, []) := by
 unfold spec_Steady at H
 refine Fz_walk 64 rfl rfl Try.func100 rfl (by kernel_rfl) rfl rfl rfl rfl ?_
 simp only [tellVs, tellV, tells, tell, st0, padT, SX.newRow, SX.newBox, List.length_cons, List.length_nil, Nat.reduceAdd, Nat.reduceSub, List.replicate, List.cons_append, List.nil_append, List.foldl_cons, List.foldl_nil]
 refine W_seq (W_region ?_)
 refine WO_op (x := .bp 0 0) (σ' := ⟨[], [some [qi a1.Up, qi a1.Down, qi a1.UpSpan, qi a1.DownSpan]], []⟩) rfl rfl rfl ?_
 refine WO_op rfl rfl rfl ?_; simp only [putT,st,ev,gt,hp,ofV,constT,intT,lm]
 refine WO_nil (W_seq (W_region ?_))
 iterate 2 (refine WO_op rfl rfl rfl ?_; simp only [putT,st,ev,gt,hp,ofV,constT,intT,lm])
 refine WO_nil (W_seq (W_seq (W_region ?_)))
 iterate 3 (refine WO_op rfl rfl rfl ?_; simp only [putT,st,ev,gt,hp,ofV,constT,intT,lm])
 refine WO_nil ?_
 refine W_cond rfl (fun hc => ?_) (fun hc => ?_)
 ·
  replace H := tr hc H
  refine W_seq (W_region ?_)
  iterate 2 (refine WO_op rfl rfl rfl ?_; simp only [putT,st,ev,gt,hp,ofV,constT,intT,lm])
  refine WO_op (x := .bp 0 3) rfl rfl rfl ?_
  refine WO_op (x := qi a1.DownSpan) rfl rfl rfl ?_; simp only [putT,st,ev,gt,hp,ofV,constT,intT,lm]
  obtain ⟨x6, hx6, H⟩ := bnd H
  refine WO_op (x := .row 0) (σ' := ⟨[], [some [qi a1.Up, qi a1.Down, qi a1.UpSpan, qi a1.DownSpan]], [rr 1 eI x6 true]⟩) rfl rfl (ev_callG (al := [.c (cL enc_Rec a2), qi a3, qi a1.DownSpan]) (ls := []) (spec_Lately_ok hx6) rfl rfl rfl rfl rfl (by decide) rfl rfl (by simp only [flatA, flatV, flatC, List.all_cons, List.all_nil, Option.all_some, Bool.and_self, Bool.or_true, fl_eI]) rfl rfl rfl) ?_; simp only [putT,st,ev,gt,hp,ofV,constT,intT,lm]
  refine WO_op rfl rfl rfl ?_; simp only [putT,st,ev,gt,hp,ofV,constT,intT,lm]
  refine WO_nil (W_seq (W_seq (W_region ?_)))
  refine WO_op rfl rfl rfl ?_; simp only [putT,st,ev,gt,hp,ofV,constT,intT,lm]
  refine WO_nil ?_
  refine W_block ?_
  obtain ⟨t11, ht11, H⟩ := bnd H
  refine loop_rule (ls := []) 0 (fun t11 : Int => ⟨[.no, .no, .no, qi a4, .no, .no, .no, .no, .no, .no, .no, qi t11], [], []⟩) (fun t => t11 = t) ⟨[.no, .no, .no, qi a4, .no, .no, .no, .no, .no, .no, .no, qi a5, .row 0, qi 0], [], [rr 1 eI x6 true]⟩ (by repeat (first | exact mono_told | refine mono_seq ?_ | refine mono_blk ?_ | refine mono_lp ?_)) (le_intro [] [0] (by decide) (by decide) rfl (by simp [leS, leT, leA, gt]) (by simp [leB, leT, leA]) (by simp [leR])) ?_ ?_
  ·
   rintro t1 rfl
   refine W_seq (W_region ?_)
   iterate 2 (refine WO_op rfl rfl rfl ?_; simp only [putT,st,ev,gt,hp,ofV,constT,intT,lm])
   obtain ⟨x12, hx12, H⟩ := bnd H
   refine WO_op (x := qi x12) (σ' := ⟨[], [], []⟩) rfl rfl (ev_callG (al := [qi t11, qi a4]) (ls := []) (spec_l1Min_ok hx12) rfl rfl rfl rfl rfl (by decide) rfl rfl rfl rfl rfl rfl) ?_; simp only [putT,st,ev,gt,hp,ofV,constT,intT,lm]
   refine WO_op rfl rfl rfl ?_; simp only [putT,st,ev,gt,hp,ofV,constT,intT,lm]
   refine WO_nil ?_
   refine W_ret ?_
   obtain rfl := Option.some.inj H
   exact told3 rfl
  ·
   intro V1 hV1 hW1 hX1
   refine (spec_Steady.l0.partial_correctness x6 (fun v7 v8 s' => s' = t11 → (V1 ⟨[.no, .no, .no, qi a4, .no, .no, .no, .no, .no, .no, .no, qi v7, .row 0, qi v8], [], [rr 1 eI x6 true]⟩)) ?_ _ _ _ ht11 rfl)
   intro l0 IH1 v7 v8 s' H1 e
   subst e
   refine hV1 _ ?_
   refine W_seq (W_seq (W_region ?_))
   iterate 4 (refine WO_op rfl rfl rfl ?_; simp only [putT,st,ev,gt,hp,ofV,constT,intT,lm])
   refine WO_nil ?_
   refine W_cond rfl (fun hc => ?_) (fun hc => ?_)
   ·
    replace H1 := tr hc H1
    refine W_skip ?_
    refine W_seq ?_
    refine W_block ?_
    refine W_region ?_
    iterate 3 (refine WO_op rfl rfl rfl ?_; simp only [putT,st,ev,gt,hp,ofV,constT,intT,lm])
    obtain ⟨x9, hx9, H1⟩ := bnd H1
    refine WO_op rfl rfl (ev_ixR (en := eI) hx9 rfl rfl rfl rfl rfl rfl rfl) ?_; simp only [putT,st,ev,gt,hp,ofV,constT,intT,lm]
    refine WO_op (x := qi x9) rfl rfl (ev_ldR (en := eI) hx9 rfl rfl rfl rfl) ?_; simp only [putT,st,ev,gt,hp,ofV,constT,intT,lm]
    obtain ⟨x10, hx10, H1⟩ := bnd H1
    refine WO_op (x := qi x10) (σ' := ⟨[], [], [rr 1 eI x6 true]⟩) rfl rfl (ev_callG (al := [qi v7, qi x9]) (ls := []) (spec_l1Max_ok hx10) rfl rfl rfl rfl rfl (by decide) rfl rfl rfl rfl rfl rfl) ?_; simp only [putT,st,ev,gt,hp,ofV,constT,intT,lm]
    refine WO_op rfl rfl rfl ?_; simp only [putT,st,ev,gt,hp,ofV,constT,intT,lm]
    refine WO_nil (W_region ?_)
    iterate 3 (refine WO_op rfl rfl rfl ?_; simp only [putT,st,ev,gt,hp,ofV,constT,intT,lm])
    refine WO_nil ?_
    exact hW1 _ _ ((IH1 _ _ _ H1 rfl)) (le_intro [] [0] (by decide) (by decide) rfl (by simp [leS, leT, leA, gt]) (by simp [leB, leT, leA]) (by simp [leR]))
   ·
    replace H1 := fl hc H1
    refine W_exit ?_
    obtain rfl := Option.some.inj H1
    exact hX1 v7 _ rfl (le_intro [] [] (by decide) (by decide) rfl (by simp [leS, leT, leA, gt]) (by simp [leB, leT, leA]) (by simp [leR]))
 ·
  replace H := fl hc H
  refine W_skip ?_
  refine W_seq (W_seq (W_region ?_))
  iterate 3 (refine WO_op rfl rfl rfl ?_; simp only [putT,st,ev,gt,hp,ofV,constT,intT,lm])
  refine WO_nil ?_
  refine W_cond rfl (fun hc => ?_) (fun hc => ?_)
  ·
   replace H := tr hc H
   refine W_seq (W_region ?_)
   iterate 2 (refine WO_op rfl rfl rfl ?_; simp only [putT,st,ev,gt,hp,ofV,constT,intT,lm])
   refine WO_op (x := .bp 0 2) rfl rfl rfl ?_
   refine WO_op (x := qi a1.UpSpan) rfl rfl rfl ?_; simp only [putT,st,ev,gt,hp,ofV,constT,intT,lm]
   obtain ⟨x14, hx14, H⟩ := bnd H
   refine WO_op (x := .row 0) (σ' := ⟨[], [some [qi a1.Up, qi a1.Down, qi a1.UpSpan, qi a1.DownSpan]], [rr 1 eI x14 true]⟩) rfl rfl (ev_callG (al := [.c (cL enc_Rec a2), qi a3, qi a1.UpSpan]) (ls := []) (spec_Lately_ok hx14) rfl rfl rfl rfl rfl (by decide) rfl rfl (by simp only [flatA, flatV, flatC, List.all_cons, List.all_nil, Option.all_some, Bool.and_self, Bool.or_true, fl_eI]) rfl rfl rfl) ?_; simp only [putT,st,ev,gt,hp,ofV,constT,intT,lm]
   refine WO_op rfl rfl rfl ?_; simp only [putT,st,ev,gt,hp,ofV,constT,intT,lm]
   refine WO_nil (W_seq (W_seq (W_region ?_)))
   refine WO_op rfl rfl rfl ?_; simp only [putT,st,ev,gt,hp,ofV,constT,intT,lm]
   refine WO_nil ?_
   refine W_block ?_
   obtain ⟨t19, ht19, H⟩ := bnd H
   refine loop_rule (ls := []) 2 (fun t19 : Int => ⟨[.no, .no, .no, qi a4, .no, .no, .no, .no, .no, .no, .no, qi t19], [], []⟩) (fun t => t19 = t) ⟨[.no, .no, .no, qi a4, .no, .no, .no, .no, .no, .no, .no, qi a5, .no, .no, .row 0, qi 0], [], [rr 1 eI x14 true]⟩ (by repeat (first | exact mono_told | refine mono_seq ?_ | refine mono_blk ?_ | refine mono_lp ?_)) (le_intro [] [0] (by decide) (by decide) rfl (by simp [leS, leT, leA, gt]) (by simp [leB, leT, leA]) (by simp [leR])) ?_ ?_
   ·
    rintro t1 rfl
    refine W_seq (W_region ?_)
    iterate 2 (refine WO_op rfl rfl rfl ?_; simp only [putT,st,ev,gt,hp,ofV,constT,intT,lm])
    obtain ⟨x20, hx20, H⟩ := bnd H
    refine WO_op (x := qi x20) (σ' := ⟨[], [], []⟩) rfl rfl (ev_callG (al := [qi t19, qi a4]) (ls := []) (spec_l1Max_ok hx20) rfl rfl rfl rfl rfl (by decide) rfl rfl rfl rfl rfl rfl) ?_; simp only [putT,st,ev,gt,hp,ofV,constT,intT,lm]
    refine WO_op rfl rfl rfl ?_; simp only [putT,st,ev,gt,hp,ofV,constT,intT,lm]
    refine WO_nil ?_
    refine W_ret ?_
    obtain rfl := Option.some.inj H
    exact told3 rfl
   ·
    intro V1 hV1 hW1 hX1
    refine (spec_Steady.l1.partial_correctness x14 (fun v15 v16 s' => s' = t19 → (V1 ⟨[.no, .no, .no, qi a4, .no, .no, .no, .no, .no, .no, .no, qi v15, .no, .no, .row 0, qi v16], [], [rr 1 eI x14 true]⟩)) ?_ _ _ _ ht19 rfl)
    intro l0 IH1 v15 v16 s' H1 e
    subst e
    refine hV1 _ ?_
    refine W_seq (W_seq (W_region ?_))
    iterate 4 (refine WO_op rfl rfl rfl ?_; simp only [putT,st,ev,gt,hp,ofV,constT,intT,lm])
    refine WO_nil ?_
    refine W_cond rfl (fun hc => ?_) (fun hc => ?_)
    ·
     replace H1 := tr hc H1
     refine W_skip ?_
     refine W_seq ?_
     refine W_block ?_
     refine W_region ?_
     iterate 3 (refine WO_op rfl rfl rfl ?_; simp only [putT,st,ev,gt,hp,ofV,constT,intT,lm])
     obtain ⟨x17, hx17, H1⟩ := bnd H1
     refine WO_op rfl rfl (ev_ixR (en := eI) hx17 rfl rfl rfl rfl rfl rfl rfl) ?_; simp only [putT,st,ev,gt,hp,ofV,constT,intT,lm]
     refine WO_op (x := qi x17) rfl rfl (ev_ldR (en := eI) hx17 rfl rfl rfl rfl) ?_; simp only [putT,st,ev,gt,hp,ofV,constT,intT,lm]
     obtain ⟨x18, hx18, H1⟩ := bnd H1
     refine WO_op (x := qi x18) (σ' := ⟨[], [], [rr 1 eI x14 true]⟩) rfl rfl (ev_callG (al := [qi v15, qi x17]) (ls := []) (spec_l1Min_ok hx18) rfl rfl rfl rfl rfl (by decide) rfl rfl rfl rfl rfl rfl) ?_; simp only [putT,st,ev,gt,hp,ofV,constT,intT,lm]
     refine WO_op rfl rfl rfl ?_; simp only [putT,st,ev,gt,hp,ofV,constT,intT,lm]
     refine WO_nil (W_region ?_)
     iterate 3 (refine WO_op rfl rfl rfl ?_; simp only [putT,st,ev,gt,hp,ofV,constT,intT,lm])
     refine WO_nil ?_
     exact hW1 _ _ ((IH1 _ _ _ H1 rfl)) (le_intro [] [0] (by decide) (by decide) rfl (by simp [leS, leT, leA, gt]) (by simp [leB, leT, leA]) (by simp [leR]))
    ·
     replace H1 := fl hc H1
     refine W_exit ?_
     obtain rfl := Option.some.inj H1
     exact hX1 v15 _ rfl (le_intro [] [] (by decide) (by decide) rfl (by simp [leS, leT, leA, gt]) (by simp [leB, leT, leA]) (by simp [leR]))
  ·
   replace H := fl hc H
   refine W_skip ?_
   refine W_seq (W_region ?_)
   iterate 2 (refine WO_op rfl rfl rfl ?_; simp only [putT,st,ev,gt,hp,ofV,constT,intT,lm])
   refine WO_nil ?_
   refine W_ret ?_
   obtain rfl := Option.some.inj H
   exact told3 rfl
theorem spec_Slow_ok {a1 : Pace} {a2 : Int} {a3 : Int} {r : Int} (H : spec_Slow a1 a2 a3 = some r) : R 99 [.ag [(cI .i64 a1.Up, none), (cI .i64 a1.Down, none), (cI .i64 a1.UpSpan, none), (cI .i64 a1.DownSpan, none)], .c (cI .i64 a2) none, .c (cI .i64 a3) none] = some (.c (cI .i64 r) none, []) := by
 unfold spec_Slow at H
 refine Fz_walk 60 rfl rfl Try.func99 rfl (by kernel_rfl) rfl rfl rfl rfl ?_
 simp only [tellVs, tellV, tells, tell, st0, padT, SX.newRow, SX.newBox, List.length_cons, List.length_nil, Nat.reduceAdd, Nat.reduceSub, List.replicate, List.cons_append, List.nil_append, List.foldl_cons, List.foldl_nil]
 refine W_seq (W_region ?_)
 refine WO_op (x := .bp 0 0) (σ' := ⟨[], [some [qi a1.Up, qi a1.Down, qi a1.UpSpan, qi a1.DownSpan]], []⟩) rfl rfl rfl ?_
 refine WO_op rfl rfl rfl ?_; simp only [putT,st,ev,gt,hp,ofV,constT,intT,lm]
 refine WO_nil (W_seq (W_seq (W_region ?_)))
 refine WO_op (x := .bp 0 0) rfl rfl rfl ?_
 refine WO_op (x := qi a1.Up) rfl rfl rfl ?_; simp only [putT,st,ev,gt,hp,ofV,constT,intT,lm]
 iterate 2 (refine WO_op rfl rfl rfl ?_; simp only [putT,st,ev,gt,hp,ofV,constT,intT,lm])
 refine WO_if rfl rfl rfl (fun hc => ?_) (fun hc => ?_)
 ·
  replace H := tr hc H
  simp only [putT,st,ev,gt,hp,ofV,constT,intT,lm]
  iterate 3 (refine WO_want rfl rfl rfl ?_; simp only [putT,st,ev,gt,hp,ofV,constT,intT,lm])
  refine WO_op (x := qb (decide (a3 > a2))) rfl rfl rfl ?_
  refine WO_op rfl rfl rfl ?_; simp only [putT,st,ev,gt,hp,ofV,constT,intT,lm]
  refine WO_if rfl rfl rfl (fun hc => ?_) (fun hc => ?_)
  ·
   replace H := tr hc H
   simp only [putT,st,ev,gt,hp,ofV,constT,intT,lm]
   iterate 3 (refine WO_want rfl rfl rfl ?_; simp only [putT,st,ev,gt,hp,ofV,constT,intT,lm])
   refine WO_want (x := .bp 0 0) rfl rfl rfl ?_
   refine WO_want (x := qi a1.Up) rfl rfl rfl ?_; simp only [putT,st,ev,gt,hp,ofV,constT,intT,lm]
   iterate 2 (refine WO_want rfl rfl rfl ?_; simp only [putT,st,ev,gt,hp,ofV,constT,intT,lm])
   refine WO_if rfl rfl rfl (fun hc => ?_) (fun hc => ?_)
   ·
    replace H := tr hc H
    simp only [putT,st,ev,gt,hp,ofV,constT,intT,lm]
    iterate 4 refine WO_skip rfl rfl ?_
    refine WO_want (x := qb true) rfl rfl rfl ?_
    refine WO_op (x := qb true) rfl rfl rfl ?_; simp only [putT,st,ev,gt,hp,ofV,constT,intT,lm]
    refine WO_nil ?_
    refine W_cond (t := true) rfl (fun _ => ?_) (fun h => by cases h)
    refine W_seq (W_region ?_)
    refine WO_op rfl rfl rfl ?_
    refine WO_op (x := .bp 0 0) rfl rfl rfl ?_
    refine WO_op (x := qi a1.Up) rfl rfl rfl ?_; simp only [putT,st,ev,gt,hp,ofV,constT,intT,lm]
    iterate 2 (refine WO_op rfl rfl rfl ?_; simp only [putT,st,ev,gt,hp,ofV,constT,intT,lm])
    refine WO_nil ?_
    refine W_ret ?_
    obtain rfl := Option.some.inj H
    exact told3 rfl
   ·
    replace H := fl hc H
    simp only [putT,st,ev,gt,hp,ofV,constT,intT,lm]
    iterate 4 (refine WO_want rfl rfl rfl ?_; simp only [putT,st,ev,gt,hp,ofV,constT,intT,lm])
    refine WO_want (x := qb (decide ((IntKind.i64.wrap (a3 - a2)) < 0))) rfl rfl rfl ?_
    refine WO_op (x := qb (decide ((IntKind.i64.wrap (a3 - a2)) < 0))) rfl rfl rfl ?_; simp only [putT,st,ev,gt,hp,ofV,constT,intT,lm]
    refine WO_nil ?_
    refine W_cond rfl (fun hc => ?_) (fun hc => ?_)
    ·
     replace H := tr hc H
     refine W_seq (W_region ?_)
     refine WO_op rfl rfl rfl ?_
     refine WO_op (x := .bp 0 0) rfl rfl rfl ?_
     refine WO_op (x := qi a1.Up) rfl rfl rfl ?_; simp only [putT,st,ev,gt,hp,ofV,constT,intT,lm]
     iterate 2 (refine WO_op rfl rfl rfl ?_; simp only [putT,st,ev,gt,hp,ofV,constT,intT,lm])
     refine WO_nil ?_
     refine W_ret ?_
     obtain rfl := Option.some.inj H
     exact told3 rfl
    ·
     replace H := fl hc H
     refine W_skip ?_
     refine W_seq (W_seq (W_region ?_))
     refine WO_op (x := .bp 0 1) rfl rfl rfl ?_
     refine WO_op (x := qi a1.Down) rfl rfl rfl ?_; simp only [putT,st,ev,gt,hp,ofV,constT,intT,lm]
     iterate 2 (refine WO_op rfl rfl rfl ?_; simp only [putT,st,ev,gt,hp,ofV,constT,intT,lm])
     refine WO_if rfl rfl rfl (fun hc => ?_) (fun hc => ?_)
     ·
      replace H := tr hc H
      simp only [putT,st,ev,gt,hp,ofV,constT,intT,lm]
      iterate 3 (refine WO_want rfl rfl rfl ?_; simp only [putT,st,ev,gt,hp,ofV,constT,intT,lm])
      refine WO_op (x := qb (decide (a3 < a2))) rfl rfl rfl ?_
      refine WO_op rfl rfl rfl ?_; simp only [putT,st,ev,gt,hp,ofV,constT,intT,lm]
      refine WO_if rfl rfl rfl (fun hc => ?_) (fun hc => ?_)
      ·
       replace H := tr hc H
       simp only [putT,st,ev,gt,hp,ofV,constT,intT,lm]
       iterate 3 (refine WO_want rfl rfl rfl ?_; simp only [putT,st,ev,gt,hp,ofV,constT,intT,lm])
       refine WO_want (x := .bp 0 1) rfl rfl rfl ?_
       refine WO_want (x := qi a1.Down) rfl rfl rfl ?_; simp only [putT,st,ev,gt,hp,ofV,constT,intT,lm]
       iterate 2 (refine WO_want rfl rfl rfl ?_; simp only [putT,st,ev,gt,hp,ofV,constT,intT,lm])
       refine WO_if rfl rfl rfl (fun hc => ?_) (fun hc => ?_)
       ·
        replace H := tr hc H
        simp only [putT,st,ev,gt,hp,ofV,constT,intT,lm]
        iterate 4 refine WO_skip rfl rfl ?_
        refine WO_want (x := qb true) rfl rfl rfl ?_
        refine WO_op (x := qb true) rfl rfl rfl ?_; simp only [putT,st,ev,gt,hp,ofV,constT,intT,lm]
        refine WO_nil ?_
        refine W_cond (t := true) rfl (fun _ => ?_) (fun h => by cases h)
        refine W_seq (W_region ?_)
        refine WO_op rfl rfl rfl ?_
        refine WO_op (x := .bp 0 1) rfl rfl rfl ?_
        refine WO_op (x := qi a1.Down) rfl rfl rfl ?_; simp only [putT,st,ev,gt,hp,ofV,constT,intT,lm]
        iterate 2 (refine WO_op rfl rfl rfl ?_; simp only [putT,st,ev,gt,hp,ofV,constT,intT,lm])
        refine WO_nil ?_
        refine W_ret ?_
        obtain rfl := Option.some.inj H
        exact told3 rfl
       ·
        replace H := fl hc H
        simp only [putT,st,ev,gt,hp,ofV,constT,intT,lm]
        iterate 4 (refine WO_want rfl rfl rfl ?_; simp only [putT,st,ev,gt,hp,ofV,constT,intT,lm])
        refine WO_want (x := qb (decide ((IntKind.i64.wrap (a2 - a3)) < 0))) rfl rfl rfl ?_
        refine WO_op (x := qb (decide ((IntKind.i64.wrap (a2 - a3)) < 0))) rfl rfl rfl ?_; simp only [putT,st,ev,gt,hp,ofV,constT,intT,lm]
        refine WO_nil ?_
        refine W_cond rfl (fun hc => ?_) (fun hc => ?_)
        ·
         replace H := tr hc H
         refine W_seq (W_region ?_)
         refine WO_op rfl rfl rfl ?_
         refine WO_op (x := .bp 0 1) rfl rfl rfl ?_
         refine WO_op (x := qi a1.Down) rfl rfl rfl ?_; simp only [putT,st,ev,gt,hp,ofV,constT,intT,lm]
         iterate 2 (refine WO_op rfl rfl rfl ?_; simp only [putT,st,ev,gt,hp,ofV,constT,intT,lm])
         refine WO_nil ?_
         refine W_ret ?_
         obtain rfl := Option.some.inj H
         exact told3 rfl
        ·
         replace H := fl hc H
         refine W_skip ?_
         refine W_seq (W_region ?_)
         iterate 2 (refine WO_op rfl rfl rfl ?_; simp only [putT,st,ev,gt,hp,ofV,constT,intT,lm])
         refine WO_nil ?_
         refine W_ret ?_
         obtain rfl := Option.some.inj H
         exact told3 rfl
      ·
       replace H := fl hc H
       simp only [putT,st,ev,gt,hp,ofV,constT,intT,lm]
       iterate 12 refine WO_skip rfl rfl ?_
       refine WO_op (x := qb false) rfl rfl rfl ?_; simp only [putT,st,ev,gt,hp,ofV,constT,intT,lm]
       refine WO_nil ?_
       refine W_cond (t := false) rfl (fun h => by cases h) (fun _ => ?_)
       refine W_skip ?_
       refine W_seq (W_region ?_)
       iterate 2 (refine WO_op rfl rfl rfl ?_; simp only [putT,st,ev,gt,hp,ofV,constT,intT,lm])
       refine WO_nil ?_
       refine W_ret ?_
       obtain rfl := Option.some.inj H
       exact told3 rfl
     ·
      replace H := fl hc H
      simp only [putT,st,ev,gt,hp,ofV,constT,intT,lm]
      iterate 3 refine WO_skip rfl rfl ?_
      refine WO_op (x := qb false) rfl rfl rfl ?_
      refine WO_op rfl rfl rfl ?_; simp only [putT,st,ev,gt,hp,ofV,constT,intT,lm]
      iterate 12 refine WO_skip rfl rfl ?_
      refine WO_op (x := qb false) rfl rfl rfl ?_; simp only [putT,st,ev,gt,hp,ofV,constT,intT,lm]
      refine WO_nil ?_
      refine W_cond (t := false) rfl (fun h => by cases h) (fun _ => ?_)
      refine W_skip ?_
      refine W_seq (W_region ?_)
      iterate 2 (refine WO_op rfl rfl rfl ?_; simp only [putT,st,ev,gt,hp,ofV,constT,intT,lm])
      refine WO_nil ?_
      refine W_ret ?_
      obtain rfl := Option.some.inj H
      exact told3 rfl
  ·
   replace H := fl hc H
   simp only [putT,st,ev,gt,hp,ofV,constT,intT,lm]
   iterate 12 refine WO_skip rfl rfl ?_
   refine WO_op (x := qb false) rfl rfl rfl ?_; simp only [putT,st,ev,gt,hp,ofV,constT,intT,lm]
   refine WO_nil ?_
   refine W_cond (t := false) rfl (fun h => by cases h) (fun _ => ?_)
   refine W_skip ?_
   refine W_seq (W_seq (W_region ?_))
   refine WO_op (x := .bp 0 1) rfl rfl rfl ?_
   refine WO_op (x := qi a1.Down) rfl rfl rfl ?_; simp only [putT,st,ev,gt,hp,ofV,constT,intT,lm]
   iterate 2 (refine WO_op rfl rfl rfl ?_; simp only [putT,st,ev,gt,hp,ofV,constT,intT,lm])
   refine WO_if rfl rfl rfl (fun hc => ?_) (fun hc => ?_)
   ·
    replace H := tr hc H
    simp only [putT,st,ev,gt,hp,ofV,constT,intT,lm]
    iterate 3 (refine WO_want rfl rfl rfl ?_; simp only [putT,st,ev,gt,hp,ofV,constT,intT,lm])
    refine WO_op (x := qb (decide (a3 < a2))) rfl rfl rfl ?_
    refine WO_op rfl rfl rfl ?_; simp only [putT,st,ev,gt,hp,ofV,constT,intT,lm]
    refine WO_if rfl rfl rfl (fun hc => ?_) (fun hc => ?_)
    ·
     replace H := tr hc H
     simp only [putT,st,ev,gt,hp,ofV,constT,intT,lm]
     iterate 3 (refine WO_want rfl rfl rfl ?_; simp only [putT,st,ev,gt,hp,ofV,constT,intT,lm])
     refine WO_want (x := .bp 0 1) rfl rfl rfl ?_
     refine WO_want (x := qi a1.Down) rfl rfl rfl ?_; simp only [putT,st,ev,gt,hp,ofV,constT,intT,lm]
     iterate 2 (refine WO_want rfl rfl rfl ?_; simp only [putT,st,ev,gt,hp,ofV,constT,intT,lm])
     refine WO_if rfl rfl rfl (fun hc => ?_) (fun hc => ?_)
     ·
      replace H := tr hc H
      simp only [putT,st,ev,gt,hp,ofV,constT,intT,lm]
      iterate 4 refine WO_skip rfl rfl ?_
      refine WO_want (x := qb true) rfl rfl rfl ?_
      refine WO_op (x := qb true) rfl rfl rfl ?_; simp only [putT,st,ev,gt,hp,ofV,constT,intT,lm]
      refine WO_nil ?_
      refine W_cond (t := true) rfl (fun _ => ?_) (fun h => by cases h)
      refine W_seq (W_region ?_)
      refine WO_op rfl rfl rfl ?_
      refine WO_op (x := .bp 0 1) rfl rfl rfl ?_
      refine WO_op (x := qi a1.Down) rfl rfl rfl ?_; simp only [putT,st,ev,gt,hp,ofV,constT,intT,lm]
      iterate 2 (refine WO_op rfl rfl rfl ?_; simp only [putT,st,ev,gt,hp,ofV,constT,intT,lm])
      refine WO_nil ?_
      refine W_ret ?_
      obtain rfl := Option.some.inj H
      exact told3 rfl
     ·
      replace H := fl hc H
      simp only [putT,st,ev,gt,hp,ofV,constT,intT,lm]
      iterate 4 (refine WO_want rfl rfl rfl ?_; simp only [putT,st,ev,gt,hp,ofV,constT,intT,lm])
      refine WO_want (x := qb (decide ((IntKind.i64.wrap (a2 - a3)) < 0))) rfl rfl rfl ?_
      refine WO_op (x := qb (decide ((IntKind.i64.wrap (a2 - a3)) < 0))) rfl rfl rfl ?_; simp only [putT,st,ev,gt,hp,ofV,constT,intT,lm]
      refine WO_nil ?_
      refine W_cond rfl (fun hc => ?_) (fun hc => ?_)
      ·
       replace H := tr hc H
       refine W_seq (W_region ?_)
       refine WO_op rfl rfl rfl ?_
       refine WO_op (x := .bp 0 1) rfl rfl rfl ?_
       refine WO_op (x := qi a1.Down) rfl rfl rfl ?_; simp only [putT,st,ev,gt,hp,ofV,constT,intT,lm]
       iterate 2 (refine WO_op rfl rfl rfl ?_; simp only [putT,st,ev,gt,hp,ofV,constT,intT,lm])
       refine WO_nil ?_
       refine W_ret ?_
       obtain rfl := Option.some.inj H
       exact told3 rfl
      ·
       replace H := fl hc H
       refine W_skip ?_
       refine W_seq (W_region ?_)
       iterate 2 (refine WO_op rfl rfl rfl ?_; simp only [putT,st,ev,gt,hp,ofV,constT,intT,lm])
       refine WO_nil ?_
       refine W_ret ?_
       obtain rfl := Option.some.inj H
       exact told3 rfl
    ·
     replace H := fl hc H
     simp only [putT,st,ev,gt,hp,ofV,constT,intT,lm]
     iterate 12 refine WO_skip rfl rfl ?_
     refine WO_op (x := qb false) rfl rfl rfl ?_; simp only [putT,st,ev,gt,hp,ofV,constT,intT,lm]
     refine WO_nil ?_
     refine W_cond (t := false) rfl (fun h => by cases h) (fun _ => ?_)
     refine W_skip ?_
     refine W_seq (W_region ?_)
     iterate 2 (refine WO_op rfl rfl rfl ?_; simp only [putT,st,ev,gt,hp,ofV,constT,intT,lm])
     refine WO_nil ?_
     refine W_ret ?_
     obtain rfl := Option.some.inj H
     exact told3 rfl
   ·
    replace H := fl hc H
    simp only [putT,st,ev,gt,hp,ofV,constT,intT,lm]
    iterate 3 refine WO_skip rfl rfl ?_
    refine WO_op (x := qb false) rfl rfl rfl ?_
    refine WO_op rfl rfl rfl ?_; simp only [putT,st,ev,gt,hp,ofV,constT,intT,lm]
    iterate 12 refine WO_skip rfl rfl ?_
    refine WO_op (x := qb false) rfl rfl rfl ?_; simp only [putT,st,ev,gt,hp,ofV,constT,intT,lm]
    refine WO_nil ?_
    refine W_cond (t := false) rfl (fun h => by cases h) (fun _ => ?_)
    refine W_skip ?_
    refine W_seq (W_region ?_)
    iterate 2 (refine WO_op rfl rfl rfl ?_; simp only [putT,st,ev,gt,hp,ofV,constT,intT,lm])
    refine WO_nil ?_
    refine W_ret ?_
    obtain rfl := Option.some.inj H
    exact told3 rfl
 ·
  replace H := fl hc H
  simp only [putT,st,ev,gt,hp,ofV,constT,intT,lm]
  iterate 3 refine WO_skip rfl rfl ?_
  refine WO_op (x := qb false) rfl rfl rfl ?_
  refine WO_op rfl rfl rfl ?_; simp only [putT,st,ev,gt,hp,ofV,constT,intT,lm]
  iterate 12 refine WO_skip rfl rfl ?_
  refine WO_op (x := qb false) rfl rfl rfl ?_; simp only [putT,st,ev,gt,hp,ofV,constT,intT,lm]
  refine WO_nil ?_
  refine W_cond (t := false) rfl (fun h => by cases h) (fun _ => ?_)
  refine W_skip ?_
  refine W_seq (W_seq (W_region ?_))
  refine WO_op (x := .bp 0 1) rfl rfl rfl ?_
  refine WO_op (x := qi a1.Down) rfl rfl rfl ?_; simp only [putT,st,ev,gt,hp,ofV,constT,intT,lm]
  iterate 2 (refine WO_op rfl rfl rfl ?_; simp only [putT,st,ev,gt,hp,ofV,constT,intT,lm])
  refine WO_if rfl rfl rfl (fun hc => ?_) (fun hc => ?_)
  ·
   replace H := tr hc H
   simp only [putT,st,ev,gt,hp,ofV,constT,intT,lm]
   iterate 3 (refine WO_want rfl rfl rfl ?_; simp only [putT,st,ev,gt,hp,ofV,constT,intT,lm])
   refine WO_op (x := qb (decide (a3 < a2))) rfl rfl rfl ?_
   refine WO_op rfl rfl rfl ?_; simp only [putT,st,ev,gt,hp,ofV,constT,intT,lm]
   refine WO_if rfl rfl rfl (fun hc => ?_) (fun hc => ?_)
   ·
    replace H := tr hc H
    simp only [putT,st,ev,gt,hp,ofV,constT,intT,lm]
    iterate 3 (refine WO_want rfl rfl rfl ?_; simp only [putT,st,ev,gt,hp,ofV,constT,intT,lm])
    refine WO_want (x := .bp 0 1) rfl rfl rfl ?_
    refine WO_want (x := qi a1.Down) rfl rfl rfl ?_; simp only [putT,st,ev,gt,hp,ofV,constT,intT,lm]
    iterate 2 (refine WO_want rfl rfl rfl ?_; simp only [putT,st,ev,gt,hp,ofV,constT,intT,lm])
    refine WO_if rfl rfl rfl (fun hc => ?_) (fun hc => ?_)
    ·
     replace H := tr hc H
     simp only [putT,st,ev,gt,hp,ofV,constT,intT,lm]
     iterate 4 refine WO_skip rfl rfl ?_
     refine WO_want (x := qb true) rfl rfl rfl ?_
     refine WO_op (x := qb true) rfl rfl rfl ?_; simp only [putT,st,ev,gt,hp,ofV,constT,intT,lm]
     refine WO_nil ?_
     refine W_cond (t := true) rfl (fun _ => ?_) (fun h => by cases h)
     refine W_seq (W_region ?_)
     refine WO_op rfl rfl rfl ?_
     refine WO_op (x := .bp 0 1) rfl rfl rfl ?_
     refine WO_op (x := qi a1.Down) rfl rfl rfl ?_; simp only [putT,st,ev,gt,hp,ofV,constT,intT,lm]
     iterate 2 (refine WO_op rfl rfl rfl ?_; simp only [putT,st,ev,gt,hp,ofV,constT,intT,lm])
     refine WO_nil ?_
     refine W_ret ?_
     obtain rfl := Option.some.inj H
     exact told3 rfl
    ·
     replace H := fl hc H
     simp only [putT,st,ev,gt,hp,ofV,constT,intT,lm]
     iterate 4 (refine WO_want rfl rfl rfl ?_; simp only [putT,st,ev,gt,hp,ofV,constT,intT,lm])
     refine WO_want (x := qb (decide ((IntKind.i64.wrap (a2 - a3)) < 0))) rfl rfl rfl ?_
     refine WO_op (x := qb (decide ((IntKind.i64.wrap (a2 - a3)) < 0))) rfl rfl rfl ?_; simp only [putT,st,ev,gt,hp,ofV,constT,intT,lm]
     refine WO_nil ?_
     refine W_cond rfl (fun hc => ?_) (fun hc => ?_)
     ·
      replace H := tr hc H
      refine W_seq (W_region ?_)
      refine WO_op rfl rfl rfl ?_
      refine WO_op (x := .bp 0 1) rfl rfl rfl ?_
      refine WO_op (x := qi a1.Down) rfl rfl rfl ?_; simp only [putT,st,ev,gt,hp,ofV,constT,intT,lm]
      iterate 2 (refine WO_op rfl rfl rfl ?_; simp only [putT,st,ev,gt,hp,ofV,constT,intT,lm])
      refine WO_nil ?_
      refine W_ret ?_
      obtain rfl := Option.some.inj H
      exact told3 rfl
     ·
      replace H := fl hc H
      refine W_skip ?_
      refine W_seq (W_region ?_)
      iterate 2 (refine WO_op rfl rfl rfl ?_; simp only [putT,st,ev,gt,hp,ofV,constT,intT,lm])
      refine WO_nil ?_
      refine W_ret ?_
      obtain rfl := Option.some.inj H
      exact told3 rfl
   ·
    replace H := fl hc H
    simp only [putT,st,ev,gt,hp,ofV,constT,intT,lm]
    iterate 12 refine WO_skip rfl rfl ?_
    refine WO_op (x := qb false) rfl rfl rfl ?_; simp only [putT,st,ev,gt,hp,ofV,constT,intT,lm]
    refine WO_nil ?_
    refine W_cond (t := false) rfl (fun h => by cases h) (fun _ => ?_)
    refine W_skip ?_
    refine W_seq (W_region ?_)
    iterate 2 (refine WO_op rfl rfl rfl ?_; simp only [putT,st,ev,gt,hp,ofV,constT,intT,lm])
    refine WO_nil ?_
    refine W_ret ?_
    obtain rfl := Option.some.inj H
    exact told3 rfl
  ·
   replace H := fl hc H
   simp only [putT,st,ev,gt,hp,ofV,constT,intT,lm]
   iterate 3 refine WO_skip rfl rfl ?_
   refine WO_op (x := qb false) rfl rfl rfl ?_
   refine WO_op rfl rfl rfl ?_; simp only [putT,st,ev,gt,hp,ofV,constT,intT,lm]
   iterate 12 refine WO_skip rfl rfl ?_
   refine WO_op (x := qb false) rfl rfl rfl ?_; simp only [putT,st,ev,gt,hp,ofV,constT,intT,lm]
   refine WO_nil ?_
   refine W_cond (t := false) rfl (fun h => by cases h) (fun _ => ?_)
   refine W_skip ?_
   refine W_seq (W_region ?_)
   iterate 2 (refine WO_op rfl rfl rfl ?_; simp only [putT,st,ev,gt,hp,ofV,constT,intT,lm])
   refine WO_nil ?_
   refine W_ret ?_
   obtain rfl := Option.some.inj H
   exact told3 rfl
theorem spec_Step_ok {a1 : Order} {a2 : Scale} {a3 : Int} {a4 : List Sample} {r : Scale × Int} (H : spec_Step a1 a2 a3 a4 = some r) : R 36 [.ag [(cS a1.Name, none), (cS a1.Target, none), (cI .i64 a1.Low, none), (cI .i64 a1.High, none), (cL enc_Metric a1.Metrics, none), (cI .i64 a1.Pace.Up, none), (cI .i64 a1.Pace.Down, none), (cI .i64 a1.Pace.UpSpan, none), (cI .i64 a1.Pace.DownSpan, none), (cL enc_Note a1.Notes, none)], .ag [(cS a2.Name, none), (cI .i64 a2.Now, none), (cL enc_Rec a2.Recs, none)], .c (cI .i64 a3) none, .c (cL enc_Sample a4) none] = some (.tu [.ag [(cS r.1.Name, none), (cI .i64 r.1.Now, none), (cL enc_Rec r.1.Recs, some 2)], .c (cI .i64 r.2) none], []) := by
 unfold spec_Step at H
 refine Fz_walk 121 rfl rfl Try.func36 rfl (by kernel_rfl) rfl rfl rfl rfl ?_
 simp only [tellVs, tellV, tells, tell, st0, padT, SX.newRow, SX.newBox, List.length_cons, List.length_nil, Nat.reduceAdd, Nat.reduceSub, List.replicate, List.cons_append, List.nil_append, List.foldl_cons, List.foldl_nil]
 refine W_seq (W_region ?_)
 refine WO_op (x := .bp 0 0) (σ' := ⟨[], [some [qs a1.Name, qs a1.Target, qi a1.Low, qi a1.High, .c (cL enc_Metric a1.Metrics), qi a1.Pace.Up, qi a1.Pace.Down, qi a1.Pace.UpSpan, qi a1.Pace.DownSpan, .c (cL enc_Note a1.Notes)]], []⟩) rfl rfl rfl ?_
 refine WO_op (x := .bp 1 0) (σ' := ⟨[], [some [qs a1.Name, qs a1.Target, qi a1.Low, qi a1.High, .c (cL enc_Metric a1.Metrics), qi a1.Pace.Up, qi a1.Pace.Down, qi a1.Pace.UpSpan, qi a1.Pace.DownSpan, .c (cL enc_Note a1.Notes)], some [qs a2.Name, qi a2.Now, .c (cL enc_Rec a2.Recs)]], []⟩) rfl rfl rfl ?_
 refine WO_op (x := .bp 2 0) (σ' := ⟨[], [some [qs a1.Name, qs a1.Target, qi a1.Low, qi a1.High, .c (cL enc_Metric a1.Metrics), qi a1.Pace.Up, qi a1.Pace.Down, qi a1.Pace.UpSpan, qi a1.Pace.DownSpan, .c (cL enc_Note a1.Notes)], some [qs a2.Name, qi a2.Now, .c (cL enc_Rec a2.Recs)], some [qs [], qi 0, .nil]], []⟩) rfl rfl rfl ?_
 refine WO_op rfl rfl rfl ?_; simp only [putT,st,ev,gt,hp,ofV,constT,intT,lm]
 refine WO_nil (W_seq (W_region ?_))
 refine WO_op (x := .ag [qs a2.Name, qi a2.Now, .c (cL enc_Rec a2.Recs)]) rfl rfl rfl ?_; simp only [putT,st,ev,gt,hp,ofV,constT,intT,lm]
 obtain ⟨x5, hx5, H⟩ := bnd H
 refine WO_op (x := .ag [qs x5.Name, qi x5.Now, .row 0]) (σ' := ⟨[], [some [qs a1.Name, qs a1.Target, qi a1.Low, qi a1.High, .c (cL enc_Metric a1.Metrics), qi a1.Pace.Up, qi a1.Pace.Down, qi a1.Pace.UpSpan, qi a1.Pace.DownSpan, .c (cL enc_Note a1.Notes)], some [qs a2.Name, qi a2.Now, .c (cL enc_Rec a2.Recs)], some [qs [], qi 0, .nil]], [rr 2 enc_Rec x5.Recs true]⟩) rfl rfl (ev_callG (al := [.ag [qs a2.Name, qi a2.Now, .c (cL enc_Rec a2.Recs)]]) (ls := []) (spec_l17Copy_ok hx5) rfl rfl rfl rfl rfl (by decide) rfl rfl (by simp only [flatA, flatV, flatC, List.all_cons, List.all_nil, Option.all_some, Bool.and_self, Bool.or_true, fl_Rec]) rfl rfl rfl) ?_; simp only [putT,st,ev,gt,hp,ofV,constT,intT,lm]
 refine WO_op (x := .bp 3 0) (σ' := ⟨[], [some [qs a1.Name, qs a1.Target, qi a1.Low, qi a1.High, .c (cL enc_Metric a1.Metrics), qi a1.Pace.Up, qi a1.Pace.Down, qi a1.Pace.UpSpan, qi a1.Pace.DownSpan, .c (cL enc_Note a1.Notes)], some [qs a2.Name, qi a2.Now, .c (cL enc_Rec a2.Recs)], some [qs [], qi 0, .nil], some [qs [], qi 0, .nil]], [rr 2 enc_Rec x5.Recs true]⟩) rfl rfl rfl ?_
 refine WO_op (x := .no) (σ' := ⟨[], [some [qs a1.Name, qs a1.Target, qi a1.Low, qi a1.High, .c (cL enc_Metric a1.Metrics), qi a1.Pace.Up, qi a1.Pace.Down, qi a1.Pace.UpSpan, qi a1.Pace.DownSpan, .c (cL enc_Note a1.Notes)], some [qs a2.Name, qi a2.Now, .c (cL enc_Rec a2.Recs)], some [qs [], qi 0, .nil], some [qs x5.Name, qi x5.Now, .row 0]], [rr 2 enc_Rec x5.Recs true]⟩) rfl rfl rfl ?_; simp only [putT,st,ev,gt,hp,ofV,constT,intT,lm]
 refine WO_nil (W_seq (W_region ?_))
 refine WO_op (x := .bp 1 2) rfl rfl rfl ?_
 refine WO_op (x := .c (cL enc_Rec a2.Recs)) rfl rfl rfl ?_; simp only [putT,st,ev,gt,hp,ofV,constT,intT,lm]
 iterate 2 (refine WO_op rfl rfl rfl ?_; simp only [putT,st,ev,gt,hp,ofV,constT,intT,lm])
 refine WO_nil (W_seq (W_seq (W_region ?_)))
 refine WO_op (x := .ag [qs a1.Name, qs a1.Target, qi a1.Low, qi a1.High, .c (cL enc_Metric a1.Metrics), qi a1.Pace.Up, qi a1.Pace.Down, qi a1.Pace.UpSpan, qi a1.Pace.DownSpan, .c (cL enc_Note a1.Notes)]) rfl rfl rfl ?_; simp only [putT,st,ev,gt,hp,ofV,constT,intT,lm]
 obtain ⟨x6, hx6, H⟩ := bnd H
 refine WO_op (x := qb x6) (σ' := ⟨[], [some [qs a1.Name, qs a1.Target, qi a1.Low, qi a1.High, .c (cL enc_Metric a1.Metrics), qi a1.Pace.Up, qi a1.Pace.Down, qi a1.Pace.UpSpan, qi a1.Pace.DownSpan, .c (cL enc_Note a1.Notes)], some [qs a2.Name, qi a2.Now, .c (cL enc_Rec a2.Recs)], some [qs [], qi 0, .nil], some [qs x5.Name, qi x5.Now, .row 0]], [rr 2 enc_Rec x5.Recs true]⟩) rfl rfl (ev_callG (al := [.ag [qs a1.Name, qs a1.Target, qi a1.Low, qi a1.High, .c (cL enc_Metric a1.Metrics), qi a1.Pace.Up, qi a1.Pace.Down, qi a1.Pace.UpSpan, qi a1.Pace.DownSpan, .c (cL enc_Note a1.Notes)]]) (ls := []) (spec_OrderOk_ok hx6) rfl rfl rfl rfl rfl (by decide) rfl rfl rfl rfl rfl rfl) ?_; simp only [putT,st,ev,gt,hp,ofV,constT,intT,lm]
 iterate 2 (refine WO_op rfl rfl rfl ?_; simp only [putT,st,ev,gt,hp,ofV,constT,intT,lm])
 refine WO_if rfl rfl rfl (fun hc => ?_) (fun hc => ?_)
 ·
  replace H := tr hc H
  simp only [putT,st,ev,gt,hp,ofV,constT,intT,lm]
  iterate 3 refine WO_skip rfl rfl ?_
  refine WO_op (x := qb true) rfl rfl rfl ?_
  refine WO_op rfl rfl rfl ?_; simp only [putT,st,ev,gt,hp,ofV,constT,intT,lm]
  iterate 5 refine WO_skip rfl rfl ?_
  refine WO_op (x := qb true) rfl rfl rfl ?_
  refine WO_op rfl rfl rfl ?_; simp only [putT,st,ev,gt,hp,ofV,constT,intT,lm]
  iterate 3 refine WO_skip rfl rfl ?_
  refine WO_op (x := qb true) rfl rfl rfl ?_
  refine WO_op rfl rfl rfl ?_; simp only [putT,st,ev,gt,hp,ofV,constT,intT,lm]
  iterate 3 refine WO_skip rfl rfl ?_
  refine WO_op (x := qb true) rfl rfl rfl ?_
  refine WO_op rfl rfl rfl ?_; simp only [putT,st,ev,gt,hp,ofV,constT,intT,lm]
  iterate 13 refine WO_skip rfl rfl ?_
  refine WO_op (x := qb true) rfl rfl rfl ?_; simp only [putT,st,ev,gt,hp,ofV,constT,intT,lm]
  refine WO_nil ?_
  refine W_cond (t := true) rfl (fun _ => ?_) (fun h => by cases h)
  refine W_seq ?_
  refine W_drawL (by kernel_rfl) (by decide +kernel) ?_
  refine WL_op (x := .ag [qs x5.Name, qi x5.Now, .row 0]) rfl rfl rfl rfl ?_
  refine WL_op (x := .bp 1 1) rfl rfl rfl rfl ?_
  refine WL_op (x := qi a2.Now) rfl rfl rfl rfl ?_
  refine WL_op (x := .no) (σ' := ⟨[], [some [qs a1.Name, qs a1.Target, qi a1.Low, qi a1.High, .c (cL enc_Metric a1.Metrics), qi a1.Pace.Up, qi a1.Pace.Down, qi a1.Pace.UpSpan, qi a1.Pace.DownSpan, .c (cL enc_Note a1.Notes)], some [qs a2.Name, qi a2.Now, .c (cL enc_Rec a2.Recs)], some [qs x5.Name, qi x5.Now, .row 0], some [qs x5.Name, qi x5.Now, .row 0]], [rr 2 enc_Rec x5.Recs true]⟩) rfl rfl rfl rfl ?_; simp only [putT,st,ev,gt,hp,ofV,constT,intT,lm]
  refine WL_op rfl rfl rfl rfl ?_; simp only [putT,st,ev,gt,hp,ofV,constT,intT,lm]
  refine WL_nil (by kernel_rfl) ?_
  refine W_ret ?_
  obtain rfl := Option.some.inj H
  exact told5 rfl rfl rfl rfl (fitAs_nz rfl) rfl
 ·
  replace H := fl hc H
  refine WO_want (x := .ag [qs a2.Name, qi a2.Now, .c (cL enc_Rec a2.Recs)]) rfl rfl rfl ?_; simp only [putT,st,ev,gt,hp,ofV,constT,intT,lm]
  obtain ⟨x7, hx7, H⟩ := bnd H
  refine WO_want (x := qb x7) (σ' := ⟨[], [some [qs a1.Name, qs a1.Target, qi a1.Low, qi a1.High, .c (cL enc_Metric a1.Metrics), qi a1.Pace.Up, qi a1.Pace.Down, qi a1.Pace.UpSpan, qi a1.Pace.DownSpan, .c (cL enc_Note a1.Notes)], some [qs a2.Name, qi a2.Now, .c (cL enc_Rec a2.Recs)], some [qs [], qi 0, .nil], some [qs x5.Name, qi x5.Now, .row 0]], [rr 2 enc_Rec x5.Recs true]⟩) rfl rfl (ev_callG (al := [.ag [qs a2.Name, qi a2.Now, .c (cL enc_Rec a2.Recs)]]) (ls := []) (spec_ScaleOk_ok hx7) rfl rfl rfl rfl rfl (by decide) rfl rfl rfl rfl rfl rfl) ?_; simp only [putT,st,ev,gt,hp,ofV,constT,intT,lm]
  refine WO_want rfl rfl rfl ?_
  refine WO_op (x := qb (!x7)) rfl rfl rfl ?_
  refine WO_op rfl rfl rfl ?_; simp only [putT,st,ev,gt,hp,ofV,constT,intT,lm]
  refine WO_if rfl rfl rfl (fun hc => ?_) (fun hc => ?_)
  ·
   replace H := tr hc H
   simp only [putT,st,ev,gt,hp,ofV,constT,intT,lm]
   iterate 5 refine WO_skip rfl rfl ?_
   refine WO_op (x := qb true) rfl rfl rfl ?_
   refine WO_op rfl rfl rfl ?_; simp only [putT,st,ev,gt,hp,ofV,constT,intT,lm]
   iterate 3 refine WO_skip rfl rfl ?_
   refine WO_op (x := qb true) rfl rfl rfl ?_
   refine WO_op rfl rfl rfl ?_; simp only [putT,st,ev,gt,hp,ofV,constT,intT,lm]
   iterate 3 refine WO_skip rfl rfl ?_
   refine WO_op (x := qb true) rfl rfl rfl ?_
   refine WO_op rfl rfl rfl ?_; simp only [putT,st,ev,gt,hp,ofV,constT,intT,lm]
   iterate 13 refine WO_skip rfl rfl ?_
   refine WO_op (x := qb true) rfl rfl rfl ?_; simp only [putT,st,ev,gt,hp,ofV,constT,intT,lm]
   refine WO_nil ?_
   refine W_cond (t := true) rfl (fun _ => ?_) (fun h => by cases h)
   refine W_seq ?_
   refine W_drawL (by kernel_rfl) (by decide +kernel) ?_
   refine WL_op (x := .ag [qs x5.Name, qi x5.Now, .row 0]) rfl rfl rfl rfl ?_
   refine WL_op (x := .bp 1 1) rfl rfl rfl rfl ?_
   refine WL_op (x := qi a2.Now) rfl rfl rfl rfl ?_
   refine WL_op (x := .no) (σ' := ⟨[], [some [qs a1.Name, qs a1.Target, qi a1.Low, qi a1.High, .c (cL enc_Metric a1.Metrics), qi a1.Pace.Up, qi a1.Pace.Down, qi a1.Pace.UpSpan, qi a1.Pace.DownSpan, .c (cL enc_Note a1.Notes)], some [qs a2.Name, qi a2.Now, .c (cL enc_Rec a2.Recs)], some [qs x5.Name, qi x5.Now, .row 0], some [qs x5.Name, qi x5.Now, .row 0]], [rr 2 enc_Rec x5.Recs true]⟩) rfl rfl rfl rfl ?_; simp only [putT,st,ev,gt,hp,ofV,constT,intT,lm]
   refine WL_op rfl rfl rfl rfl ?_; simp only [putT,st,ev,gt,hp,ofV,constT,intT,lm]
   refine WL_nil (by kernel_rfl) ?_
   refine W_ret ?_
   obtain rfl := Option.some.inj H
   exact told5 rfl rfl rfl rfl (fitAs_nz rfl) rfl
  ·
   replace H := fl hc H
   refine WO_want (x := .bp 1 0) rfl rfl rfl ?_
   refine WO_want (x := qs a2.Name) rfl rfl rfl ?_
   refine WO_want (x := .bp 0 0) rfl rfl rfl ?_; simp only [putT,st,ev,gt,hp,ofV,constT,intT,lm]
   refine WO_want (x := qs a1.Name) rfl rfl rfl ?_; simp only [putT,st,ev,gt,hp,ofV,constT,intT,lm]
   refine WO_want rfl rfl (ev_neq_s rfl rfl rfl) ?_; simp only [putT,st,ev,gt,hp,ofV,constT,intT,lm]
   refine WO_op (x := qb (!(a2.Name == a1.Name))) rfl rfl rfl ?_
   refine WO_op rfl rfl rfl ?_; simp only [putT,st,ev,gt,hp,ofV,constT,intT,lm]
   refine WO_if rfl rfl rfl (fun hc => ?_) (fun hc => ?_)
   ·
    replace H := tr hc H
    simp only [putT,st,ev,gt,hp,ofV,constT,intT,lm]
    iterate 3 refine WO_skip rfl rfl ?_
    refine WO_op (x := qb true) rfl rfl rfl ?_
    refine WO_op rfl rfl rfl ?_; simp only [putT,st,ev,gt,hp,ofV,constT,intT,lm]
    iterate 3 refine WO_skip rfl rfl ?_
    refine WO_op (x := qb true) rfl rfl rfl ?_
    refine WO_op rfl rfl rfl ?_; simp only [putT,st,ev,gt,hp,ofV,constT,intT,lm]
    iterate 13 refine WO_skip rfl rfl ?_
    refine WO_op (x := qb true) rfl rfl rfl ?_; simp only [putT,st,ev,gt,hp,ofV,constT,intT,lm]
    refine WO_nil ?_
    refine W_cond (t := true) rfl (fun _ => ?_) (fun h => by cases h)
    refine W_seq ?_
    refine W_drawL (by kernel_rfl) (by decide +kernel) ?_
    refine WL_op (x := .ag [qs x5.Name, qi x5.Now, .row 0]) rfl rfl rfl rfl ?_
    refine WL_op (x := .bp 1 1) rfl rfl rfl rfl ?_
    refine WL_op (x := qi a2.Now) rfl rfl rfl rfl ?_
    refine WL_op (x := .no) (σ' := ⟨[], [some [qs a1.Name, qs a1.Target, qi a1.Low, qi a1.High, .c (cL enc_Metric a1.Metrics), qi a1.Pace.Up, qi a1.Pace.Down, qi a1.Pace.UpSpan, qi a1.Pace.DownSpan, .c (cL enc_Note a1.Notes)], some [qs a2.Name, qi a2.Now, .c (cL enc_Rec a2.Recs)], some [qs x5.Name, qi x5.Now, .row 0], some [qs x5.Name, qi x5.Now, .row 0]], [rr 2 enc_Rec x5.Recs true]⟩) rfl rfl rfl rfl ?_; simp only [putT,st,ev,gt,hp,ofV,constT,intT,lm]
    refine WL_op rfl rfl rfl rfl ?_; simp only [putT,st,ev,gt,hp,ofV,constT,intT,lm]
    refine WL_nil (by kernel_rfl) ?_
    refine W_ret ?_
    obtain rfl := Option.some.inj H
    exact told5 rfl rfl rfl rfl (fitAs_nz rfl) rfl
   ·
    replace H := fl hc H
    refine WO_want rfl rfl rfl ?_; simp only [putT,st,ev,gt,hp,ofV,constT,intT,lm]
    obtain ⟨x8, hx8, H⟩ := bnd H
    refine WO_want (x := qb x8) (σ' := ⟨[], [some [qs a1.Name, qs a1.Target, qi a1.Low, qi a1.High, .c (cL enc_Metric a1.Metrics), qi a1.Pace.Up, qi a1.Pace.Down, qi a1.Pace.UpSpan, qi a1.Pace.DownSpan, .c (cL enc_Note a1.Notes)], some [qs a2.Name, qi a2.Now, .c (cL enc_Rec a2.Recs)], some [qs [], qi 0, .nil], some [qs x5.Name, qi x5.Now, .row 0]], [rr 2 enc_Rec x5.Recs true]⟩) rfl rfl (ev_callG (al := [.c (cL enc_Sample a4)]) (ls := []) (spec_SamplesOk_ok hx8) rfl rfl rfl rfl rfl (by decide) rfl rfl rfl rfl rfl rfl) ?_; simp only [putT,st,ev,gt,hp,ofV,constT,intT,lm]
    refine WO_want rfl rfl rfl ?_
    refine WO_op (x := qb (!x8)) rfl rfl rfl ?_
    refine WO_op rfl rfl rfl ?_; simp only [putT,st,ev,gt,hp,ofV,constT,intT,lm]
    refine WO_if rfl rfl rfl (fun hc => ?_) (fun hc => ?_)
    ·
     replace H := tr hc H
     simp only [putT,st,ev,gt,hp,ofV,constT,intT,lm]
     iterate 3 refine WO_skip rfl rfl ?_
     refine WO_op (x := qb true) rfl rfl rfl ?_
     refine WO_op rfl rfl rfl ?_; simp only [putT,st,ev,gt,hp,ofV,constT,intT,lm]
     iterate 13 refine WO_skip rfl rfl ?_
     refine WO_op (x := qb true) rfl rfl rfl ?_; simp only [putT,st,ev,gt,hp,ofV,constT,intT,lm]
     refine WO_nil ?_
     refine W_cond (t := true) rfl (fun _ => ?_) (fun h => by cases h)
     refine W_seq ?_
     refine W_drawL (by kernel_rfl) (by decide +kernel) ?_
     refine WL_op (x := .ag [qs x5.Name, qi x5.Now, .row 0]) rfl rfl rfl rfl ?_
     refine WL_op (x := .bp 1 1) rfl rfl rfl rfl ?_
     refine WL_op (x := qi a2.Now) rfl rfl rfl rfl ?_
     refine WL_op (x := .no) (σ' := ⟨[], [some [qs a1.Name, qs a1.Target, qi a1.Low, qi a1.High, .c (cL enc_Metric a1.Metrics), qi a1.Pace.Up, qi a1.Pace.Down, qi a1.Pace.UpSpan, qi a1.Pace.DownSpan, .c (cL enc_Note a1.Notes)], some [qs a2.Name, qi a2.Now, .c (cL enc_Rec a2.Recs)], some [qs x5.Name, qi x5.Now, .row 0], some [qs x5.Name, qi x5.Now, .row 0]], [rr 2 enc_Rec x5.Recs true]⟩) rfl rfl rfl rfl ?_; simp only [putT,st,ev,gt,hp,ofV,constT,intT,lm]
     refine WL_op rfl rfl rfl rfl ?_; simp only [putT,st,ev,gt,hp,ofV,constT,intT,lm]
     refine WL_nil (by kernel_rfl) ?_
     refine W_ret ?_
     obtain rfl := Option.some.inj H
     exact told5 rfl rfl rfl rfl (fitAs_nz rfl) rfl
    ·
     replace H := fl hc H
     refine WO_want rfl rfl rfl ?_; simp only [putT,st,ev,gt,hp,ofV,constT,intT,lm]
     obtain ⟨x9, hx9, H⟩ := bnd H
     refine WO_want (x := qb x9) (σ' := ⟨[], [some [qs a1.Name, qs a1.Target, qi a1.Low, qi a1.High, .c (cL enc_Metric a1.Metrics), qi a1.Pace.Up, qi a1.Pace.Down, qi a1.Pace.UpSpan, qi a1.Pace.DownSpan, .c (cL enc_Note a1.Notes)], some [qs a2.Name, qi a2.Now, .c (cL enc_Rec a2.Recs)], some [qs [], qi 0, .nil], some [qs x5.Name, qi x5.Now, .row 0]], [rr 2 enc_Rec x5.Recs true]⟩) rfl rfl (ev_callG (al := [qi a3, qi 0, qi 1000000]) (ls := []) (spec_l1In_ok hx9) rfl rfl rfl rfl rfl (by decide) rfl rfl rfl rfl rfl rfl) ?_; simp only [putT,st,ev,gt,hp,ofV,constT,intT,lm]
     refine WO_want rfl rfl rfl ?_
     refine WO_op (x := qb (!x9)) rfl rfl rfl ?_
     refine WO_op rfl rfl rfl ?_; simp only [putT,st,ev,gt,hp,ofV,constT,intT,lm]
     refine WO_if rfl rfl rfl (fun hc => ?_) (fun hc => ?_)
     ·
      replace H := tr hc H
      simp only [putT,st,ev,gt,hp,ofV,constT,intT,lm]
      iterate 13 refine WO_skip rfl rfl ?_
      refine WO_op (x := qb true) rfl rfl rfl ?_; simp only [putT,st,ev,gt,hp,ofV,constT,intT,lm]
      refine WO_nil ?_
      refine W_cond (t := true) rfl (fun _ => ?_) (fun h => by cases h)
      refine W_seq ?_
      refine W_drawL (by kernel_rfl) (by decide +kernel) ?_
      refine WL_op (x := .ag [qs x5.Name, qi x5.Now, .row 0]) rfl rfl rfl rfl ?_
      refine WL_op (x := .bp 1 1) rfl rfl rfl rfl ?_
      refine WL_op (x := qi a2.Now) rfl rfl rfl rfl ?_
      refine WL_op (x := .no) (σ' := ⟨[], [some [qs a1.Name, qs a1.Target, qi a1.Low, qi a1.High, .c (cL enc_Metric a1.Metrics), qi a1.Pace.Up, qi a1.Pace.Down, qi a1.Pace.UpSpan, qi a1.Pace.DownSpan, .c (cL enc_Note a1.Notes)], some [qs a2.Name, qi a2.Now, .c (cL enc_Rec a2.Recs)], some [qs x5.Name, qi x5.Now, .row 0], some [qs x5.Name, qi x5.Now, .row 0]], [rr 2 enc_Rec x5.Recs true]⟩) rfl rfl rfl rfl ?_; simp only [putT,st,ev,gt,hp,ofV,constT,intT,lm]
      refine WL_op rfl rfl rfl rfl ?_; simp only [putT,st,ev,gt,hp,ofV,constT,intT,lm]
      refine WL_nil (by kernel_rfl) ?_
      refine W_ret ?_
      obtain rfl := Option.some.inj H
      exact told5 rfl rfl rfl rfl (fitAs_nz rfl) rfl
     ·
      replace H := fl hc H
      simp only [putT,st,ev,gt,hp,ofV,constT,intT,lm]
      iterate 3 (refine WO_want rfl rfl rfl ?_; simp only [putT,st,ev,gt,hp,ofV,constT,intT,lm])
      refine WO_if rfl rfl rfl (fun hc => ?_) (fun hc => ?_)
      ·
       replace H := tr hc H
       refine WO_want (x := .bp 1 2) rfl rfl rfl ?_
       refine WO_want (x := .c (cL enc_Rec a2.Recs)) rfl rfl rfl ?_; simp only [putT,st,ev,gt,hp,ofV,constT,intT,lm]
       iterate 2 (refine WO_want rfl rfl rfl ?_; simp only [putT,st,ev,gt,hp,ofV,constT,intT,lm])
       obtain ⟨x10, hx10, H⟩ := bnd H
       refine WO_want rfl rfl (ev_ix (en := enc_Rec) hx10 rfl rfl rfl rfl rfl rfl rfl) ?_; simp only [putT,st,ev,gt,hp,ofV,constT,intT,lm]
       refine WO_want (x := .cp (enc_Rec x10) 0) rfl rfl rfl ?_
       refine WO_want (x := qi x10.Time) rfl rfl rfl ?_; simp only [putT,st,ev,gt,hp,ofV,constT,intT,lm]
       iterate 2 (refine WO_want rfl rfl rfl ?_; simp only [putT,st,ev,gt,hp,ofV,constT,intT,lm])
       refine WO_want (x := qb (decide (x10.Time > a3))) rfl rfl rfl ?_
       refine WO_op (x := qb (decide (x10.Time > a3))) rfl rfl rfl ?_; simp only [putT,st,ev,gt,hp,ofV,constT,intT,lm]
       refine WO_nil ?_
       refine W_cond rfl (fun hc => ?_) (fun hc => ?_)
       ·
        replace H := tr hc H
        refine W_seq ?_
        refine W_drawL (by kernel_rfl) (by decide +kernel) ?_
        refine WL_op (x := .ag [qs x5.Name, qi x5.Now, .row 0]) rfl rfl rfl rfl ?_
        refine WL_op (x := .bp 1 1) rfl rfl rfl rfl ?_
        refine WL_op (x := qi a2.Now) rfl rfl rfl rfl ?_
        refine WL_op (x := .no) (σ' := ⟨[], [some [qs a1.Name, qs a1.Target, qi a1.Low, qi a1.High, .c (cL enc_Metric a1.Metrics), qi a1.Pace.Up, qi a1.Pace.Down, qi a1.Pace.UpSpan, qi a1.Pace.DownSpan, .c (cL enc_Note a1.Notes)], some [qs a2.Name, qi a2.Now, .c (cL enc_Rec a2.Recs)], some [qs x5.Name, qi x5.Now, .row 0], some [qs x5.Name, qi x5.Now, .row 0]], [rr 2 enc_Rec x5.Recs true]⟩) rfl rfl rfl rfl ?_; simp only [putT,st,ev,gt,hp,ofV,constT,intT,lm]
        refine WL_op rfl rfl rfl rfl ?_; simp only [putT,st,ev,gt,hp,ofV,constT,intT,lm]
        refine WL_nil (by kernel_rfl) ?_
        refine W_ret ?_
        obtain rfl := Option.some.inj H
        exact told5 rfl rfl rfl rfl (fitAs_nz rfl) rfl
       ·
        replace H := fl hc H
        refine W_skip ?_
        refine W_seq (W_region ?_)
        refine WO_op (x := .ag [qs a1.Name, qs a1.Target, qi a1.Low, qi a1.High, .c (cL enc_Metric a1.Metrics), qi a1.Pace.Up, qi a1.Pace.Down, qi a1.Pace.UpSpan, qi a1.Pace.DownSpan, .c (cL enc_Note a1.Notes)]) rfl rfl rfl ?_
        refine WO_op (x := .bp 1 1) rfl rfl rfl ?_
        refine WO_op (x := qi a2.Now) rfl rfl rfl ?_
        refine WO_op rfl rfl rfl ?_; simp only [putT,st,ev,gt,hp,ofV,constT,intT,lm]
        obtain ⟨x11, hx11, H⟩ := bnd H
        refine WO_op (x := .tu [qi x11.1, qb x11.2]) (σ' := ⟨[], [some [qs a1.Name, qs a1.Target, qi a1.Low, qi a1.High, .c (cL enc_Metric a1.Metrics), qi a1.Pace.Up, qi a1.Pace.Down, qi a1.Pace.UpSpan, qi a1.Pace.DownSpan, .c (cL enc_Note a1.Notes)], some [qs a2.Name, qi a2.Now, .c (cL enc_Rec a2.Recs)], some [qs [], qi 0, .nil], some [qs x5.Name, qi x5.Now, .row 0]], [rr 2 enc_Rec x5.Recs true]⟩) rfl rfl (ev_callG (al := [.ag [qs a1.Name, qs a1.Target, qi a1.Low, qi a1.High, .c (cL enc_Metric a1.Metrics), qi a1.Pace.Up, qi a1.Pace.Down, qi a1.Pace.UpSpan, qi a1.Pace.DownSpan, .c (cL enc_Note a1.Notes)], qi a2.Now, .c (cL enc_Sample a4)]) (ls := []) (spec_ByAll_ok hx11) rfl rfl rfl rfl rfl (by decide) rfl rfl rfl rfl rfl rfl) ?_; simp only [putT,st,ev,gt,hp,ofV,constT,intT,lm]
        refine WO_op rfl rfl rfl ?_
        refine WO_op (x := qi x11.1) rfl rfl rfl ?_
        refine WO_op (x := qb x11.2) rfl rfl rfl ?_; simp only [putT,st,ev,gt,hp,ofV,constT,intT,lm]
        iterate 2 (refine WO_op rfl rfl rfl ?_; simp only [putT,st,ev,gt,hp,ofV,constT,intT,lm])
        refine WO_nil (W_seq (W_seq (W_region ?_)))
        iterate 2 (refine WO_op rfl rfl rfl ?_; simp only [putT,st,ev,gt,hp,ofV,constT,intT,lm])
        refine WO_nil ?_
        refine W_cond rfl (fun hc => ?_) (fun hc => ?_)
        ·
         replace H := tr hc H
         refine W_seq (W_region ?_)
         refine WO_op (x := .bp 1 1) rfl rfl rfl ?_
         refine WO_op (x := qi a2.Now) rfl rfl rfl ?_
         refine WO_op (x := .bp 0 2) rfl rfl rfl ?_
         refine WO_op (x := qi a1.Low) rfl rfl rfl ?_; simp only [putT,st,ev,gt,hp,ofV,constT,intT,lm]
         refine WO_op (x := .bp 0 3) rfl rfl rfl ?_
         refine WO_op (x := qi a1.High) rfl rfl rfl ?_; simp only [putT,st,ev,gt,hp,ofV,constT,intT,lm]
         obtain ⟨x12, hx12, H⟩ := bnd H
         refine WO_op (x := qi x12) (σ' := ⟨[], [some [qs a1.Name, qs a1.Target, qi a1.Low, qi a1.High, .c (cL enc_Metric a1.Metrics), qi a1.Pace.Up, qi a1.Pace.Down, qi a1.Pace.UpSpan, qi a1.Pace.DownSpan, .c (cL enc_Note a1.Notes)], some [qs a2.Name, qi a2.Now, .c (cL enc_Rec a2.Recs)], some [qs [], qi 0, .nil], some [qs x5.Name, qi x5.Now, .row 0]], [rr 2 enc_Rec x5.Recs true]⟩) rfl rfl (ev_callG (al := [qi a2.Now, qi a1.Low, qi a1.High]) (ls := []) (spec_Clamp_ok hx12) rfl rfl rfl rfl rfl (by decide) rfl rfl rfl rfl rfl rfl) ?_; simp only [putT,st,ev,gt,hp,ofV,constT,intT,lm]
         refine WO_op (x := .bp 3 1) rfl rfl rfl ?_
         refine WO_op (x := .no) (σ' := ⟨[], [some [qs a1.Name, qs a1.Target, qi a1.Low, qi a1.High, .c (cL enc_Metric a1.Metrics), qi a1.Pace.Up, qi a1.Pace.Down, qi a1.Pace.UpSpan, qi a1.Pace.DownSpan, .c (cL enc_Note a1.Notes)], some [qs a2.Name, qi a2.Now, .c (cL enc_Rec a2.Recs)], some [qs [], qi 0, .nil], some [qs x5.Name, qi x12, .row 0]], [rr 2 enc_Rec x5.Recs true]⟩) rfl rfl rfl ?_; simp only [putT,st,ev,gt,hp,ofV,constT,intT,lm]
         refine WO_nil (W_seq ?_)
         refine W_drawL (by kernel_rfl) (by decide +kernel) ?_
         refine WL_op (x := .ag [qs x5.Name, qi x12, .row 0]) rfl rfl rfl rfl ?_
         refine WL_op (x := .bp 3 1) rfl rfl rfl rfl ?_
         refine WL_op (x := qi x12) rfl rfl rfl rfl ?_
         refine WL_op (x := .no) (σ' := ⟨[], [some [qs a1.Name, qs a1.Target, qi a1.Low, qi a1.High, .c (cL enc_Metric a1.Metrics), qi a1.Pace.Up, qi a1.Pace.Down, qi a1.Pace.UpSpan, qi a1.Pace.DownSpan, .c (cL enc_Note a1.Notes)], some [qs a2.Name, qi a2.Now, .c (cL enc_Rec a2.Recs)], some [qs x5.Name, qi x12, .row 0], some [qs x5.Name, qi x12, .row 0]], [rr 2 enc_Rec x5.Recs true]⟩) rfl rfl rfl rfl ?_; simp only [putT,st,ev,gt,hp,ofV,constT,intT,lm]
         refine WL_op rfl rfl rfl rfl ?_; simp only [putT,st,ev,gt,hp,ofV,constT,intT,lm]
         refine WL_nil (by kernel_rfl) ?_
         refine W_ret ?_
         obtain rfl := Option.some.inj H
         exact told5 rfl rfl rfl rfl (fitAs_nz rfl) rfl
        ·
         replace H := fl hc H
         refine W_skip ?_
         refine W_seq (W_region ?_)
         refine WO_op rfl rfl rfl ?_
         refine WO_op (x := .bp 0 2) rfl rfl rfl ?_
         refine WO_op (x := qi a1.Low) rfl rfl rfl ?_
         refine WO_op (x := .bp 0 3) rfl rfl rfl ?_; simp only [putT,st,ev,gt,hp,ofV,constT,intT,lm]
         refine WO_op (x := qi a1.High) rfl rfl rfl ?_; simp only [putT,st,ev,gt,hp,ofV,constT,intT,lm]
         obtain ⟨x13, hx13, H⟩ := bnd H
         refine WO_op (x := qi x13) (σ' := ⟨[], [some [qs a1.Name, qs a1.Target, qi a1.Low, qi a1.High, .c (cL enc_Metric a1.Metrics), qi a1.Pace.Up, qi a1.Pace.Down, qi a1.Pace.UpSpan, qi a1.Pace.DownSpan, .c (cL enc_Note a1.Notes)], some [qs a2.Name, qi a2.Now, .c (cL enc_Rec a2.Recs)], some [qs [], qi 0, .nil], some [qs x5.Name, qi x5.Now, .row 0]], [rr 2 enc_Rec x5.Recs true]⟩) rfl rfl (ev_callG (al := [qi x11.1, qi a1.Low, qi a1.High]) (ls := []) (spec_Clamp_ok hx13) rfl rfl rfl rfl rfl (by decide) rfl rfl rfl rfl rfl rfl) ?_; simp only [putT,st,ev,gt,hp,ofV,constT,intT,lm]
         refine WO_op rfl rfl rfl ?_; simp only [putT,st,ev,gt,hp,ofV,constT,intT,lm]
         refine WO_nil (W_seq (W_region ?_))
         refine WO_op (x := .bp 1 2) rfl rfl rfl ?_
         refine WO_op (x := .c (cL enc_Rec a2.Recs)) rfl rfl rfl ?_; simp only [putT,st,ev,gt,hp,ofV,constT,intT,lm]
         iterate 2 (refine WO_op rfl rfl rfl ?_; simp only [putT,st,ev,gt,hp,ofV,constT,intT,lm])
         obtain ⟨x14, hx14, H⟩ := bnd H
         refine WO_op (x := .row 1) (σ' := ⟨[], [some [qs a1.Name, qs a1.Target, qi a1.Low, qi a1.High, .c (cL enc_Metric a1.Metrics), qi a1.Pace.Up, qi a1.Pace.Down, qi a1.Pace.UpSpan, qi a1.Pace.DownSpan, .c (cL enc_Note a1.Notes)], some [qs a2.Name, qi a2.Now, .c (cL enc_Rec a2.Recs)], some [qs [], qi 0, .nil], some [qs x5.Name, qi x5.Now, .row 0]], [rr 2 enc_Rec x5.Recs true, rr 2 enc_Rec x14 true]⟩) rfl rfl (ev_callG (al := [.c (cL enc_Rec a2.Recs), qi a3, qi x13]) (ls := []) (spec_RecAdd_ok hx14) rfl rfl rfl rfl rfl (by decide) rfl rfl (by simp only [flatA, flatV, flatC, List.all_cons, List.all_nil, Option.all_some, Bool.and_self, Bool.or_true, fl_Rec]) rfl rfl rfl) ?_; simp only [putT,st,ev,gt,hp,ofV,constT,intT,lm]
         refine WO_op (x := .bp 3 2) rfl rfl rfl ?_
         refine WO_op (x := .no) (σ' := ⟨[], [some [qs a1.Name, qs a1.Target, qi a1.Low, qi a1.High, .c (cL enc_Metric a1.Metrics), qi a1.Pace.Up, qi a1.Pace.Down, qi a1.Pace.UpSpan, qi a1.Pace.DownSpan, .c (cL enc_Note a1.Notes)], some [qs a2.Name, qi a2.Now, .c (cL enc_Rec a2.Recs)], some [qs [], qi 0, .nil], some [qs x5.Name, qi x5.Now, .row 1]], [rr 2 enc_Rec x5.Recs true, rr 2 enc_Rec x14 true]⟩) rfl rfl rfl ?_; simp only [putT,st,ev,gt,hp,ofV,constT,intT,lm]
         refine WO_nil (W_seq ?_)
         refine W_drawL (by kernel_rfl) (by decide +kernel) ?_
         refine WL_op (x := .bp 0 5) rfl rfl rfl rfl ?_
         refine WL_op (x := .ag [qi a1.Pace.Up, qi a1.Pace.Down, qi a1.Pace.UpSpan, qi a1.Pace.DownSpan]) rfl rfl rfl rfl ?_
         refine WL_op (x := .bp 1 1) rfl rfl rfl rfl ?_
         refine WL_op (x := qi a2.Now) rfl rfl rfl rfl ?_; simp only [putT,st,ev,gt,hp,ofV,constT,intT,lm]
         refine WL_op (x := .bp 0 5) rfl rfl rfl rfl ?_
         refine WL_op (x := .ag [qi a1.Pace.Up, qi a1.Pace.Down, qi a1.Pace.UpSpan, qi a1.Pace.DownSpan]) rfl rfl rfl rfl ?_
         refine WL_op (x := .bp 1 2) rfl rfl rfl rfl ?_
         refine WL_op (x := .c (cL enc_Rec a2.Recs)) rfl rfl rfl rfl ?_; simp only [putT,st,ev,gt,hp,ofV,constT,intT,lm]
         refine WL_op rfl rfl rfl rfl ?_
         refine WL_op (x := .bp 1 1) rfl rfl rfl rfl ?_
         refine WL_op (x := qi a2.Now) rfl rfl rfl rfl ?_
         refine WL_op rfl rfl rfl rfl ?_; simp only [putT,st,ev,gt,hp,ofV,constT,intT,lm]
         obtain ⟨x15, hx15, H⟩ := bnd H
         refine WL_op (x := qi x15) (σ' := ⟨[], [some [qs a1.Name, qs a1.Target, qi a1.Low, qi a1.High, .c (cL enc_Metric a1.Metrics), qi a1.Pace.Up, qi a1.Pace.Down, qi a1.Pace.UpSpan, qi a1.Pace.DownSpan, .c (cL enc_Note a1.Notes)], some [qs a2.Name, qi a2.Now, .c (cL enc_Rec a2.Recs)], some [qs [], qi 0, .nil], some [qs x5.Name, qi x5.Now, .row 1]], [rr 2 enc_Rec x5.Recs true, rr 2 enc_Rec x14 true]⟩) rfl rfl rfl (ev_callG (al := [.ag [qi a1.Pace.Up, qi a1.Pace.Down, qi a1.Pace.UpSpan, qi a1.Pace.DownSpan], .c (cL enc_Rec a2.Recs), qi a3, qi a2.Now, qi x13]) (ls := []) (spec_Steady_ok hx15) rfl rfl rfl rfl rfl (by decide) rfl rfl rfl rfl rfl rfl) ?_; simp only [putT,st,ev,gt,hp,ofV,constT,intT,lm]
         obtain ⟨x16, hx16, H⟩ := bnd H
         refine WL_op (x := qi x16) (σ' := ⟨[], [some [qs a1.Name, qs a1.Target, qi a1.Low, qi a1.High, .c (cL enc_Metric a1.Metrics), qi a1.Pace.Up, qi a1.Pace.Down, qi a1.Pace.UpSpan, qi a1.Pace.DownSpan, .c (cL enc_Note a1.Notes)], some [qs a2.Name, qi a2.Now, .c (cL enc_Rec a2.Recs)], some [qs [], qi 0, .nil], some [qs x5.Name, qi x5.Now, .row 1]], [rr 2 enc_Rec x5.Recs true, rr 2 enc_Rec x14 true]⟩) rfl rfl rfl (ev_callG (al := [.ag [qi a1.Pace.Up, qi a1.Pace.Down, qi a1.Pace.UpSpan, qi a1.Pace.DownSpan], qi a2.Now, qi x15]) (ls := []) (spec_Slow_ok hx16) rfl rfl rfl rfl rfl (by decide) rfl rfl rfl rfl rfl rfl) ?_; simp only [putT,st,ev,gt,hp,ofV,constT,intT,lm]
         refine WL_op rfl rfl rfl rfl ?_; simp only [putT,st,ev,gt,hp,ofV,constT,intT,lm]
         refine WL_nil (by kernel_rfl) ?_
         refine W_seq (W_region ?_)
         refine WO_op rfl rfl rfl ?_
         refine WO_op (x := .bp 0 2) rfl rfl rfl ?_
         refine WO_op (x := qi a1.Low) rfl rfl rfl ?_
         refine WO_op (x := .bp 0 3) rfl rfl rfl ?_; simp only [putT,st,ev,gt,hp,ofV,constT,intT,lm]
         refine WO_op (x := qi a1.High) rfl rfl rfl ?_; simp only [putT,st,ev,gt,hp,ofV,constT,intT,lm]
         obtain ⟨x17, hx17, H⟩ := bnd H
         refine WO_op (x := qi x17) (σ' := ⟨[], [some [qs a1.Name, qs a1.Target, qi a1.Low, qi a1.High, .c (cL enc_Metric a1.Metrics), qi a1.Pace.Up, qi a1.Pace.Down, qi a1.Pace.UpSpan, qi a1.Pace.DownSpan, .c (cL enc_Note a1.Notes)], some [qs a2.Name, qi a2.Now, .c (cL enc_Rec a2.Recs)], some [qs [], qi 0, .nil], some [qs x5.Name, qi x5.Now, .row 1]], [rr 2 enc_Rec x5.Recs true, rr 2 enc_Rec x14 true]⟩) rfl rfl (ev_callG (al := [qi x16, qi a1.Low, qi a1.High]) (ls := []) (spec_Clamp_ok hx17) rfl rfl rfl rfl rfl (by decide) rfl rfl rfl rfl rfl rfl) ?_; simp only [putT,st,ev,gt,hp,ofV,constT,intT,lm]
         refine WO_op (x := .bp 3 1) rfl rfl rfl ?_
         refine WO_op (x := .no) (σ' := ⟨[], [some [qs a1.Name, qs a1.Target, qi a1.Low, qi a1.High, .c (cL enc_Metric a1.Metrics), qi a1.Pace.Up, qi a1.Pace.Down, qi a1.Pace.UpSpan, qi a1.Pace.DownSpan, .c (cL enc_Note a1.Notes)], some [qs a2.Name, qi a2.Now, .c (cL enc_Rec a2.Recs)], some [qs [], qi 0, .nil], some [qs x5.Name, qi x17, .row 1]], [rr 2 enc_Rec x5.Recs true, rr 2 enc_Rec x14 true]⟩) rfl rfl rfl ?_; simp only [putT,st,ev,gt,hp,ofV,constT,intT,lm]
         refine WO_nil (W_seq ?_)
         refine W_drawL (by kernel_rfl) (by decide +kernel) ?_
         refine WL_op (x := .ag [qs x5.Name, qi x17, .row 1]) rfl rfl rfl rfl ?_
         refine WL_op (x := .bp 3 1) rfl rfl rfl rfl ?_
         refine WL_op (x := qi x17) rfl rfl rfl rfl ?_
         refine WL_op (x := .no) (σ' := ⟨[], [some [qs a1.Name, qs a1.Target, qi a1.Low, qi a1.High, .c (cL enc_Metric a1.Metrics), qi a1.Pace.Up, qi a1.Pace.Down, qi a1.Pace.UpSpan, qi a1.Pace.DownSpan, .c (cL enc_Note a1.Notes)], some [qs a2.Name, qi a2.Now, .c (cL enc_Rec a2.Recs)], some [qs x5.Name, qi x17, .row 1], some [qs x5.Name, qi x17, .row 1]], [rr 2 enc_Rec x5.Recs true, rr 2 enc_Rec x14 true]⟩) rfl rfl rfl rfl ?_; simp only [putT,st,ev,gt,hp,ofV,constT,intT,lm]
         refine WL_op rfl rfl rfl rfl ?_; simp only [putT,st,ev,gt,hp,ofV,constT,intT,lm]
         refine WL_nil (by kernel_rfl) ?_
         refine W_ret ?_
         obtain rfl := Option.some.inj H
         exact told5 rfl rfl rfl rfl (fitAs_nz rfl) rfl
      ·
       replace H := fl hc H
       simp only [putT,st,ev,gt,hp,ofV,constT,intT,lm]
       iterate 9 refine WO_skip rfl rfl ?_
       refine WO_want (x := qb false) rfl rfl rfl ?_
       refine WO_op (x := qb false) rfl rfl rfl ?_; simp only [putT,st,ev,gt,hp,ofV,constT,intT,lm]
       refine WO_nil ?_
       refine W_cond (t := false) rfl (fun h => by cases h) (fun _ => ?_)
       refine W_skip ?_
       refine W_seq (W_region ?_)
       refine WO_op (x := .ag [qs a1.Name, qs a1.Target, qi a1.Low, qi a1.High, .c (cL enc_Metric a1.Metrics), qi a1.Pace.Up, qi a1.Pace.Down, qi a1.Pace.UpSpan, qi a1.Pace.DownSpan, .c (cL enc_Note a1.Notes)]) rfl rfl rfl ?_
       refine WO_op (x := .bp 1 1) rfl rfl rfl ?_
       refine WO_op (x := qi a2.Now) rfl rfl rfl ?_
       refine WO_op rfl rfl rfl ?_; simp only [putT,st,ev,gt,hp,ofV,constT,intT,lm]
       obtain ⟨x18, hx18, H⟩ := bnd H
       refine WO_op (x := .tu [qi x18.1, qb x18.2]) (σ' := ⟨[], [some [qs a1.Name, qs a1.Target, qi a1.Low, qi a1.High, .c (cL enc_Metric a1.Metrics), qi a1.Pace.Up, qi a1.Pace.Down, qi a1.Pace.UpSpan, qi a1.Pace.DownSpan, .c (cL enc_Note a1.Notes)], some [qs a2.Name, qi a2.Now, .c (cL enc_Rec a2.Recs)], some [qs [], qi 0, .nil], some [qs x5.Name, qi x5.Now, .row 0]], [rr 2 enc_Rec x5.Recs true]⟩) rfl rfl (ev_callG (al := [.ag [qs a1.Name, qs a1.Target, qi a1.Low, qi a1.High, .c (cL enc_Metric a1.Metrics), qi a1.Pace.Up, qi a1.Pace.Down, qi a1.Pace.UpSpan, qi a1.Pace.DownSpan, .c (cL enc_Note a1.Notes)], qi a2.Now, .c (cL enc_Sample a4)]) (ls := []) (spec_ByAll_ok hx18) rfl rfl rfl rfl rfl (by decide) rfl rfl rfl rfl rfl rfl) ?_; simp only [putT,st,ev,gt,hp,ofV,constT,intT,lm]
       refine WO_op rfl rfl rfl ?_
       refine WO_op (x := qi x18.1) rfl rfl rfl ?_
       refine WO_op (x := qb x18.2) rfl rfl rfl ?_; simp only [putT,st,ev,gt,hp,ofV,constT,intT,lm]
       iterate 2 (refine WO_op rfl rfl rfl ?_; simp only [putT,st,ev,gt,hp,ofV,constT,intT,lm])
       refine WO_nil (W_seq (W_seq (W_region ?_)))
       iterate 2 (refine WO_op rfl rfl rfl ?_; simp only [putT,st,ev,gt,hp,ofV,constT,intT,lm])
       refine WO_nil ?_
       refine W_cond rfl (fun hc => ?_) (fun hc => ?_)
       ·
        replace H := tr hc H
        refine W_seq (W_region ?_)
        refine WO_op (x := .bp 1 1) rfl rfl rfl ?_
        refine WO_op (x := qi a2.Now) rfl rfl rfl ?_
        refine WO_op (x := .bp 0 2) rfl rfl rfl ?_
        refine WO_op (x := qi a1.Low) rfl rfl rfl ?_; simp only [putT,st,ev,gt,hp,ofV,constT,intT,lm]
        refine WO_op (x := .bp 0 3) rfl rfl rfl ?_
        refine WO_op (x := qi a1.High) rfl rfl rfl ?_; simp only [putT,st,ev,gt,hp,ofV,constT,intT,lm]
        obtain ⟨x19, hx19, H⟩ := bnd H
        refine WO_op (x := qi x19) (σ' := ⟨[], [some [qs a1.Name, qs a1.Target, qi a1.Low, qi a1.High, .c (cL enc_Metric a1.Metrics), qi a1.Pace.Up, qi a1.Pace.Down, qi a1.Pace.UpSpan, qi a1.Pace.DownSpan, .c (cL enc_Note a1.Notes)], some [qs a2.Name, qi a2.Now, .c (cL enc_Rec a2.Recs)], some [qs [], qi 0, .nil], some [qs x5.Name, qi x5.Now, .row 0]], [rr 2 enc_Rec x5.Recs true]⟩) rfl rfl (ev_callG (al := [qi a2.Now, qi a1.Low, qi a1.High]) (ls := []) (spec_Clamp_ok hx19) rfl rfl rfl rfl rfl (by decide) rfl rfl rfl rfl rfl rfl) ?_; simp only [putT,st,ev,gt,hp,ofV,constT,intT,lm]
        refine WO_op (x := .bp 3 1) rfl rfl rfl ?_
        refine WO_op (x := .no) (σ' := ⟨[], [some [qs a1.Name, qs a1.Target, qi a1.Low, qi a1.High, .c (cL enc_Metric a1.Metrics), qi a1.Pace.Up, qi a1.Pace.Down, qi a1.Pace.UpSpan, qi a1.Pace.DownSpan, .c (cL enc_Note a1.Notes)], some [qs a2.Name, qi a2.Now, .c (cL enc_Rec a2.Recs)], some [qs [], qi 0, .nil], some [qs x5.Name, qi x19, .row 0]], [rr 2 enc_Rec x5.Recs true]⟩) rfl rfl rfl ?_; simp only [putT,st,ev,gt,hp,ofV,constT,intT,lm]
        refine WO_nil (W_seq ?_)
        refine W_drawL (by kernel_rfl) (by decide +kernel) ?_
        refine WL_op (x := .ag [qs x5.Name, qi x19, .row 0]) rfl rfl rfl rfl ?_
        refine WL_op (x := .bp 3 1) rfl rfl rfl rfl ?_
        refine WL_op (x := qi x19) rfl rfl rfl rfl ?_
        refine WL_op (x := .no) (σ' := ⟨[], [some [qs a1.Name, qs a1.Target, qi a1.Low, qi a1.High, .c (cL enc_Metric a1.Metrics), qi a1.Pace.Up, qi a1.Pace.Down, qi a1.Pace.UpSpan, qi a1.Pace.DownSpan, .c (cL enc_Note a1.Notes)], some [qs a2.Name, qi a2.Now, .c (cL enc_Rec a2.Recs)], some [qs x5.Name, qi x19, .row 0], some [qs x5.Name, qi x19, .row 0]], [rr 2 enc_Rec x5.Recs true]⟩) rfl rfl rfl rfl ?_; simp only [putT,st,ev,gt,hp,ofV,constT,intT,lm]
        refine WL_op rfl rfl rfl rfl ?_; simp only [putT,st,ev,gt,hp,ofV,constT,intT,lm]
        refine WL_nil (by kernel_rfl) ?_
        refine W_ret ?_
        obtain rfl := Option.some.inj H
        exact told5 rfl rfl rfl rfl (fitAs_nz rfl) rfl
       ·
        replace H := fl hc H
        refine W_skip ?_
        refine W_seq (W_region ?_)
        refine WO_op rfl rfl rfl ?_
        refine WO_op (x := .bp 0 2) rfl rfl rfl ?_
        refine WO_op (x := qi a1.Low) rfl rfl rfl ?_
        refine WO_op (x := .bp 0 3) rfl rfl rfl ?_; simp only [putT,st,ev,gt,hp,ofV,constT,intT,lm]
        refine WO_op (x := qi a1.High) rfl rfl rfl ?_; simp only [putT,st,ev,gt,hp,ofV,constT,intT,lm]
        obtain ⟨x20, hx20, H⟩ := bnd H
        refine WO_op (x := qi x20) (σ' := ⟨[], [some [qs a1.Name, qs a1.Target, qi a1.Low, qi a1.High, .c (cL enc_Metric a1.Metrics), qi a1.Pace.Up, qi a1.Pace.Down, qi a1.Pace.UpSpan, qi a1.Pace.DownSpan, .c (cL enc_Note a1.Notes)], some [qs a2.Name, qi a2.Now, .c (cL enc_Rec a2.Recs)], some [qs [], qi 0, .nil], some [qs x5.Name, qi x5.Now, .row 0]], [rr 2 enc_Rec x5.Recs true]⟩) rfl rfl (ev_callG (al := [qi x18.1, qi a1.Low, qi a1.High]) (ls := []) (spec_Clamp_ok hx20) rfl rfl rfl rfl rfl (by decide) rfl rfl rfl rfl rfl rfl) ?_; simp only [putT,st,ev,gt,hp,ofV,constT,intT,lm]
        refine WO_op rfl rfl rfl ?_; simp only [putT,st,ev,gt,hp,ofV,constT,intT,lm]
        refine WO_nil (W_seq (W_region ?_))
        refine WO_op (x := .bp 1 2) rfl rfl rfl ?_
        refine WO_op (x := .c (cL enc_Rec a2.Recs)) rfl rfl rfl ?_; simp only [putT,st,ev,gt,hp,ofV,constT,intT,lm]
        iterate 2 (refine WO_op rfl rfl rfl ?_; simp only [putT,st,ev,gt,hp,ofV,constT,intT,lm])
        obtain ⟨x21, hx21, H⟩ := bnd H
        refine WO_op (x := .row 1) (σ' := ⟨[], [some [qs a1.Name, qs a1.Target, qi a1.Low, qi a1.High, .c (cL enc_Metric a1.Metrics), qi a1.Pace.Up, qi a1.Pace.Down, qi a1.Pace.UpSpan, qi a1.Pace.DownSpan, .c (cL enc_Note a1.Notes)], some [qs a2.Name, qi a2.Now, .c (cL enc_Rec a2.Recs)], some [qs [], qi 0, .nil], some [qs x5.Name, qi x5.Now, .row 0]], [rr 2 enc_Rec x5.Recs true, rr 2 enc_Rec x21 true]⟩) rfl rfl (ev_callG (al := [.c (cL enc_Rec a2.Recs), qi a3, qi x20]) (ls := []) (spec_RecAdd_ok hx21) rfl rfl rfl rfl rfl (by decide) rfl rfl (by simp only [flatA, flatV, flatC, List.all_cons, List.all_nil, Option.all_some, Bool.and_self, Bool.or_true, fl_Rec]) rfl rfl rfl) ?_; simp only [putT,st,ev,gt,hp,ofV,constT,intT,lm]
        refine WO_op (x := .bp 3 2) rfl rfl rfl ?_
        refine WO_op (x := .no) (σ' := ⟨[], [some [qs a1.Name, qs a1.Target, qi a1.Low, qi a1.High, .c (cL enc_Metric a1.Metrics), qi a1.Pace.Up, qi a1.Pace.Down, qi a1.Pace.UpSpan, qi a1.Pace.DownSpan, .c (cL enc_Note a1.Notes)], some [qs a2.Name, qi a2.Now, .c (cL enc_Rec a2.Recs)], some [qs [], qi 0, .nil], some [qs x5.Name, qi x5.Now, .row 1]], [rr 2 enc_Rec x5.Recs true, rr 2 enc_Rec x21 true]⟩) rfl rfl rfl ?_; simp only [putT,st,ev,gt,hp,ofV,constT,intT,lm]
        refine WO_nil (W_seq ?_)
        refine W_drawL (by kernel_rfl) (by decide +kernel) ?_
        refine WL_op (x := .bp 0 5) rfl rfl rfl rfl ?_
        refine WL_op (x := .ag [qi a1.Pace.Up, qi a1.Pace.Down, qi a1.Pace.UpSpan, qi a1.Pace.DownSpan]) rfl rfl rfl rfl ?_
        refine WL_op (x := .bp 1 1) rfl rfl rfl rfl ?_
        refine WL_op (x := qi a2.Now) rfl rfl rfl rfl ?_; simp only [putT,st,ev,gt,hp,ofV,constT,intT,lm]
        refine WL_op (x := .bp 0 5) rfl rfl rfl rfl ?_
        refine WL_op (x := .ag [qi a1.Pace.Up, qi a1.Pace.Down, qi a1.Pace.UpSpan, qi a1.Pace.DownSpan]) rfl rfl rfl rfl ?_
        refine WL_op (x := .bp 1 2) rfl rfl rfl rfl ?_
        refine WL_op (x := .c (cL enc_Rec a2.Recs)) rfl rfl rfl rfl ?_; simp only [putT,st,ev,gt,hp,ofV,constT,intT,lm]
        refine WL_op rfl rfl rfl rfl ?_
        refine WL_op (x := .bp 1 1) rfl rfl rfl rfl ?_
        refine WL_op (x := qi a2.Now) rfl rfl rfl rfl ?_
        refine WL_op rfl rfl rfl rfl ?_; simp only [putT,st,ev,gt,hp,ofV,constT,intT,lm]
        obtain ⟨x22, hx22, H⟩ := bnd H
        refine WL_op (x := qi x22) (σ' := ⟨[], [some [qs a1.Name, qs a1.Target, qi a1.Low, qi a1.High, .c (cL enc_Metric a1.Metrics), qi a1.Pace.Up, qi a1.Pace.Down, qi a1.Pace.UpSpan, qi a1.Pace.DownSpan, .c (cL enc_Note a1.Notes)], some [qs a2.Name, qi a2.Now, .c (cL enc_Rec a2.Recs)], some [qs [], qi 0, .nil], some [qs x5.Name, qi x5.Now, .row 1]], [rr 2 enc_Rec x5.Recs true, rr 2 enc_Rec x21 true]⟩) rfl rfl rfl (ev_callG (al := [.ag [qi a1.Pace.Up, qi a1.Pace.Down, qi a1.Pace.UpSpan, qi a1.Pace.DownSpan], .c (cL enc_Rec a2.Recs), qi a3, qi a2.Now, qi x20]) (ls := []) (spec_Steady_ok hx22) rfl rfl rfl rfl rfl (by decide) rfl rfl rfl rfl rfl rfl) ?_; simp only [putT,st,ev,gt,hp,ofV,constT,intT,lm]
        obtain ⟨x23, hx23, H⟩ := bnd H
        refine WL_op (x := qi x23) (σ' := ⟨[], [some [qs a1.Name, qs a1.Target, qi a1.Low, qi a1.High, .c (cL enc_Metric a1.Metrics), qi a1.Pace.Up, qi a1.Pace.Down, qi a1.Pace.UpSpan, qi a1.Pace.DownSpan, .c (cL enc_Note a1.Notes)], some [qs a2.Name, qi a2.Now, .c (cL enc_Rec a2.Recs)], some [qs [], qi 0, .nil], some [qs x5.Name, qi x5.Now, .row 1]], [rr 2 enc_Rec x5.Recs true, rr 2 enc_Rec x21 true]⟩) rfl rfl rfl (ev_callG (al := [.ag [qi a1.Pace.Up, qi a1.Pace.Down, qi a1.Pace.UpSpan, qi a1.Pace.DownSpan], qi a2.Now, qi x22]) (ls := []) (spec_Slow_ok hx23) rfl rfl rfl rfl rfl (by decide) rfl rfl rfl rfl rfl rfl) ?_; simp only [putT,st,ev,gt,hp,ofV,constT,intT,lm]
        refine WL_op rfl rfl rfl rfl ?_; simp only [putT,st,ev,gt,hp,ofV,constT,intT,lm]
        refine WL_nil (by kernel_rfl) ?_
        refine W_seq (W_region ?_)
        refine WO_op rfl rfl rfl ?_
        refine WO_op (x := .bp 0 2) rfl rfl rfl ?_
        refine WO_op (x := qi a1.Low) rfl rfl rfl ?_
        refine WO_op (x := .bp 0 3) rfl rfl rfl ?_; simp only [putT,st,ev,gt,hp,ofV,constT,intT,lm]
        refine WO_op (x := qi a1.High) rfl rfl rfl ?_; simp only [putT,st,ev,gt,hp,ofV,constT,intT,lm]
        obtain ⟨x24, hx24, H⟩ := bnd H
        refine WO_op (x := qi x24) (σ' := ⟨[], [some [qs a1.Name, qs a1.Target, qi a1.Low, qi a1.High, .c (cL enc_Metric a1.Metrics), qi a1.Pace.Up, qi a1.Pace.Down, qi a1.Pace.UpSpan, qi a1.Pace.DownSpan, .c (cL enc_Note a1.Notes)], some [qs a2.Name, qi a2.Now, .c (cL enc_Rec a2.Recs)], some [qs [], qi 0, .nil], some [qs x5.Name, qi x5.Now, .row 1]], [rr 2 enc_Rec x5.Recs true, rr 2 enc_Rec x21 true]⟩) rfl rfl (ev_callG (al := [qi x23, qi a1.Low, qi a1.High]) (ls := []) (spec_Clamp_ok hx24) rfl rfl rfl rfl rfl (by decide) rfl rfl rfl rfl rfl rfl) ?_; simp only [putT,st,ev,gt,hp,ofV,constT,intT,lm]
        refine WO_op (x := .bp 3 1) rfl rfl rfl ?_
        refine WO_op (x := .no) (σ' := ⟨[], [some [qs a1.Name, qs a1.Target, qi a1.Low, qi a1.High, .c (cL enc_Metric a1.Metrics), qi a1.Pace.Up, qi a1.Pace.Down, qi a1.Pace.UpSpan, qi a1.Pace.DownSpan, .c (cL enc_Note a1.Notes)], some [qs a2.Name, qi a2.Now, .c (cL enc_Rec a2.Recs)], some [qs [], qi 0, .nil], some [qs x5.Name, qi x24, .row 1]], [rr 2 enc_Rec x5.Recs true, rr 2 enc_Rec x21 true]⟩) rfl rfl rfl ?_; simp only [putT,st,ev,gt,hp,ofV,constT,intT,lm]
        refine WO_nil (W_seq ?_)
        refine W_drawL (by kernel_rfl) (by decide +kernel) ?_
        refine WL_op (x := .ag [qs x5.Name, qi x24, .row 1]) rfl rfl rfl rfl ?_
        refine WL_op (x := .bp 3 1) rfl rfl rfl rfl ?_
        refine WL_op (x := qi x24) rfl rfl rfl rfl ?_
        refine WL_op (x := .no) (σ' := ⟨[], [some [qs a1.Name, qs a1.Target, qi a1.Low, qi a1.High, .c (cL enc_Metric a1.Metrics), qi a1.Pace.Up, qi a1.Pace.Down, qi a1.Pace.UpSpan, qi a1.Pace.DownSpan, .c (cL enc_Note a1.Notes)], some [qs a2.Name, qi a2.Now, .c (cL enc_Rec a2.Recs)], some [qs x5.Name, qi x24, .row 1], some [qs x5.Name, qi x24, .row 1]], [rr 2 enc_Rec x5.Recs true, rr 2 enc_Rec x21 true]⟩) rfl rfl rfl rfl ?_; simp only [putT,st,ev,gt,hp,ofV,constT,intT,lm]
        refine WL_op rfl rfl rfl rfl ?_; simp only [putT,st,ev,gt,hp,ofV,constT,intT,lm]
        refine WL_nil (by kernel_rfl) ?_
        refine W_ret ?_
        obtain rfl := Option.some.inj H
        exact told5 rfl rfl rfl rfl (fitAs_nz rfl) rfl
theorem laws_sameRecs_ok {a1 : List Rec} {a2 : List Rec} {r : Bool} (H : laws_sameRecs a1 a2 = some r) : R 35 [.c (cL enc_Rec a1) none, .c (cL enc_Rec a2) none] = some (.c (cB r) none, []) := by
 unfold laws_sameRecs at H
 refine Fz_walk 26 rfl rfl Try.func35 rfl (by kernel_rfl) rfl rfl rfl rfl ?_
 simp only [tellVs, tellV, tells, tell, st0, padT, SX.newRow, SX.newBox, List.length_cons, List.length_nil, Nat.reduceAdd, Nat.reduceSub, List.replicate, List.cons_append, List.nil_append, List.foldl_cons, List.foldl_nil]
 refine W_seq (W_region ?_)
 refine WO_op rfl rfl rfl ?_; simp only [putT,st,ev,gt,hp,ofV,constT,intT,lm]
 refine WO_nil (W_seq (W_seq (W_region ?_)))
 iterate 5 (refine WO_op rfl rfl rfl ?_; simp only [putT,st,ev,gt,hp,ofV,constT,intT,lm])
 refine WO_nil ?_
 refine W_cond rfl (fun hc => ?_) (fun hc => ?_)
 ·
  replace H := tr hc H
  refine W_seq (W_region ?_)
  refine WO_op rfl rfl rfl ?_; simp only [putT,st,ev,gt,hp,ofV,constT,intT,lm]
  refine WO_nil ?_
  refine W_ret ?_
  obtain rfl := Option.some.inj H
  exact told3 rfl
 ·
  replace H := fl hc H
  refine W_skip ?_
  refine W_seq (W_seq (W_region ?_))
  refine WO_op rfl rfl rfl ?_; simp only [putT,st,ev,gt,hp,ofV,constT,intT,lm]
  refine WO_nil ?_
  refine W_block ?_
  obtain ⟨s7, hs7, H⟩ := bnd H
  refine loop_rule (ls := []) 0 (fun t6 : Unit => ⟨[], [], []⟩) (fun t => s7 = .inr t) ⟨[.c (cL enc_Rec a1), .c (cL enc_Rec a2), .no, .no, .no, qi 0], [], []⟩ (by repeat (first | exact mono_told | refine mono_seq ?_ | refine mono_blk ?_ | refine mono_lp ?_)) (le_intro [] [] (by decide) (by decide) rfl (by simp [leS, leT, leA, gt]) (by simp [leB, leT, leA]) (by simp [leR])) ?_ ?_
  ·
   rintro t6 rfl
   refine W_seq (W_region ?_)
   refine WO_op rfl rfl rfl ?_; simp only [putT,st,ev,gt,hp,ofV,constT,intT,lm]
   refine WO_nil ?_
   refine W_ret ?_
   obtain rfl := Option.some.inj H
   exact told3 rfl
  ·
   intro V1 hV1 hW1 hX1
   refine (laws_sameRecs.l0.partial_correctness a1 a2 (fun v3 s' => s' = s7 → (V1 ⟨[.c (cL enc_Rec a1), .c (cL enc_Rec a2), .no, .no, .no, qi v3], [], []⟩)) ?_ _ _ hs7 rfl)
   intro l0 IH1 v3 s' H1 e
   subst e
   refine hV1 _ ?_
   refine W_seq (W_seq (W_region ?_))
   iterate 4 (refine WO_op rfl rfl rfl ?_; simp only [putT,st,ev,gt,hp,ofV,constT,intT,lm])
   refine WO_nil ?_
   refine W_cond rfl (fun hc => ?_) (fun hc => ?_)
   ·
    replace H1 := tr hc H1
    refine W_skip ?_
    refine W_seq ?_
    refine W_block ?_
    refine W_seq ?_
    refine W_draw (by kernel_rfl) (by kernel_rfl) ?_
    iterate 2 (refine WO_op rfl rfl rfl ?_; simp only [putT,st,ev,gt,hp,ofV,constT,intT,lm])
    obtain ⟨x4, hx4, H1⟩ := bnd H1
    refine WO_op rfl rfl (ev_ix (en := enc_Rec) hx4 rfl rfl rfl rfl rfl rfl rfl) ?_; simp only [putT,st,ev,gt,hp,ofV,constT,intT,lm]
    refine WO_op (x := .ag [qi x4.Time, qi x4.N]) rfl rfl rfl ?_; simp only [putT,st,ev,gt,hp,ofV,constT,intT,lm]
    iterate 2 (refine WO_op rfl rfl rfl ?_; simp only [putT,st,ev,gt,hp,ofV,constT,intT,lm])
    obtain ⟨x5, hx5, H1⟩ := bnd H1
    refine WO_op rfl rfl (ev_ix (en := enc_Rec) hx5 rfl rfl rfl rfl rfl rfl rfl) ?_; simp only [putT,st,ev,gt,hp,ofV,constT,intT,lm]
    refine WO_op (x := .ag [qi x5.Time, qi x5.N]) rfl rfl rfl ?_; simp only [putT,st,ev,gt,hp,ofV,constT,intT,lm]
    refine WO_op (x := qb (!((x4.Time == x5.Time) && ((x4.N == x5.N) && true)))) rfl rfl (ev_eqT (r := ((x4.Time == x5.Time) && ((x4.N == x5.N) && true))) rfl rfl rfl rfl (by kernel_rfl) (by kernel_rfl) rfl) ?_; simp only [putT,st,ev,gt,hp,ofV,constT,intT,lm]
    refine WO_nil ?_
    refine W_cond rfl (fun hc => ?_) (fun hc => ?_)
    ·
     replace H1 := tr hc H1
     refine W_seq (W_region ?_)
     refine WO_op rfl rfl rfl ?_; simp only [putT,st,ev,gt,hp,ofV,constT,intT,lm]
     refine WO_nil ?_
     refine W_ret ?_
     obtain rfl := Option.some.inj H1
     obtain rfl := Option.some.inj H
     exact told3 rfl
    ·
     replace H1 := fl hc H1
     refine W_skip ?_
     refine W_region ?_
     iterate 3 (refine WO_op rfl rfl rfl ?_; simp only [putT,st,ev,gt,hp,ofV,constT,intT,lm])
     refine WO_nil ?_
     exact hW1 _ _ ((IH1 _ _ H1 rfl)) (le_intro [] [] (by decide) (by decide) rfl (by simp [leS, leT, leA, gt]) (by simp [leB, leT, leA]) (by simp [leR]))
   ·
    replace H1 := fl hc H1
    refine W_exit ?_
    obtain rfl := Option.some.inj H1
    exact hX1 () _ rfl (le_intro [] [] (by decide) (by decide) rfl (by simp [leS, leT, leA, gt]) (by simp [leB, leT, leA]) (by simp [leR]))
end Go.Pu
