import Derived.Test.YtajbkchcdiialaaGreatSettleOk0
set_option linter.unusedVariables false
set_option linter.unusedSimpArgs false
set_option synthInstance.maxSize 1000000000
set_option maxRecDepth 20000
set_option maxHeartbeats 20000000
namespace Go.Pu
open Go Go.SX Go.Nt Go.Proofs
theorem spec_SamplesOk_ok {a1 : List Sample} {r : Bool} (H : spec_SamplesOk a1 = some r) : R 29 [.c (cL enc_Sample a1) none] = some (.c (cB r) none, []) := by
 unfold spec_SamplesOk at H
 refine Fz_walk 47 rfl rfl Tryz.func29 rfl (by kernel_rfl) rfl rfl rfl rfl ?_
 simp only [tellVs, tellV, tells, tell, st0, padT, SX.newRow, SX.newBox, List.length_cons, List.length_nil, Nat.reduceAdd, Nat.reduceSub, List.replicate, List.cons_append, List.nil_append, List.foldl_cons, List.foldl_nil]
 refine W_seq (W_region ?_)
 refine WO_op rfl rfl rfl ?_; simp only [putT,st,ev,gt,hp,ofV,constT,intT,lm]
 refine WO_nil (W_seq (W_seq (W_region ?_)))
 refine WO_op rfl rfl rfl ?_; simp only [putT,st,ev,gt,hp,ofV,constT,intT,lm]
 refine WO_nil ?_
 refine W_block ?_
 obtain ⟨s10, hs10, H⟩ := bnd H
 refine loop_rule (ls := []) 0 (fun t9 : Unit => ⟨[.c (cL enc_Sample a1)], [], []⟩) (fun t => s10 = .inr t) ⟨[.c (cL enc_Sample a1), .no, .no, qi 0], [], []⟩ (by repeat (first | exact mono_told | refine mono_seq ?_ | refine mono_blk ?_ | refine mono_lp ?_)) (le_intro [] [] (by decide) (by decide) rfl (by simp [leS, leT, leA, gt]) (by simp [leB, leT, leA]) (by simp [leR])) ?_ ?_
 ·
  rintro t9 rfl
  refine W_seq (W_region ?_)
  iterate 4 (refine WO_op rfl rfl rfl ?_; simp only [putT,st,ev,gt,hp,ofV,constT,intT,lm])
  refine WO_nil ?_
  refine W_ret ?_
  obtain rfl := Option.some.inj H
  exact told3 rfl
 ·
  intro V1 hV1 hW1 hX1
  refine (spec_SamplesOk.l0.partial_correctness a1 (fun v2 s' => s' = s10 → (V1 ⟨[.c (cL enc_Sample a1), .no, .no, qi v2], [], []⟩)) ?_ _ _ hs10 rfl)
  intro l0 IH1 v2 s' H1 e
  subst e
  refine hV1 _ ?_
  refine W_seq (W_seq (W_region ?_))
  iterate 4 (refine WO_op rfl rfl rfl ?_; simp only [putT,st,ev,gt,hp,ofV,constT,intT,lm])
  refine WO_nil ?_
  refine W_cond rfl (fun hc => ?_) (fun hc => ?_)
  ·
   replace H1 := tr hc H1
   refine W_skip ?_
   refine W_seq ?_
   refine W_block ?_
   refine W_seq ?_
   refine W_draw (by kernel_rfl) (by kernel_rfl) ?_
   iterate 2 (refine WO_op rfl rfl rfl ?_; simp only [putT,st,ev,gt,hp,ofV,constT,intT,lm])
   obtain ⟨x3, hx3, H1⟩ := bnd H1
   refine WO_op rfl rfl (ev_ix (en := enc_Sample) hx3 rfl rfl rfl rfl rfl rfl rfl) ?_; simp only [putT,st,ev,gt,hp,ofV,constT,intT,lm]
   refine WO_op (x := .cp (enc_Sample x3) 0) rfl rfl rfl ?_
   refine WO_op (x := qs x3.Name) rfl rfl rfl ?_; simp only [putT,st,ev,gt,hp,ofV,constT,intT,lm]
   obtain ⟨x4, hx4, H1⟩ := bnd H1
   refine WO_op (x := qb x4) (σ' := ⟨[], [], []⟩) rfl rfl (ev_callG (al := [qs x3.Name]) (ls := []) (spec_NameOk_ok hx4) rfl rfl rfl rfl rfl (by decide) rfl rfl rfl rfl rfl rfl) ?_; simp only [putT,st,ev,gt,hp,ofV,constT,intT,lm]
   iterate 2 (refine WO_op rfl rfl rfl ?_; simp only [putT,st,ev,gt,hp,ofV,constT,intT,lm])
   refine WO_if rfl rfl rfl (fun hc => ?_) (fun hc => ?_)
   ·
    replace H1 := tr hc H1
    simp only [putT,st,ev,gt,hp,ofV,constT,intT,lm]
    iterate 7 refine WO_skip rfl rfl ?_
    refine WO_op (x := qb true) rfl rfl rfl ?_
    refine WO_op rfl rfl rfl ?_; simp only [putT,st,ev,gt,hp,ofV,constT,intT,lm]
    iterate 16 refine WO_skip rfl rfl ?_
    refine WO_op (x := qb true) rfl rfl rfl ?_; simp only [putT,st,ev,gt,hp,ofV,constT,intT,lm]
    refine WO_nil ?_
    refine W_cond (t := true) rfl (fun _ => ?_) (fun h => by cases h)
    refine W_seq (W_region ?_)
    refine WO_op rfl rfl rfl ?_; simp only [putT,st,ev,gt,hp,ofV,constT,intT,lm]
    refine WO_nil ?_
    refine W_ret ?_
    obtain rfl := Option.some.inj H1
    obtain rfl := Option.some.inj H
    exact told3 rfl
   ·
    replace H1 := fl hc H1
    simp only [putT,st,ev,gt,hp,ofV,constT,intT,lm]
    iterate 2 (refine WO_want rfl rfl rfl ?_; simp only [putT,st,ev,gt,hp,ofV,constT,intT,lm])
    obtain ⟨x5, hx5, H1⟩ := bnd H1
    refine WO_want rfl rfl (ev_ix (en := enc_Sample) hx5 rfl rfl rfl rfl rfl rfl rfl) ?_; simp only [putT,st,ev,gt,hp,ofV,constT,intT,lm]
    refine WO_want (x := .cp (enc_Sample x5) 1) rfl rfl rfl ?_
    refine WO_want (x := qi x5.Value) rfl rfl rfl ?_; simp only [putT,st,ev,gt,hp,ofV,constT,intT,lm]
    obtain ⟨x6, hx6, H1⟩ := bnd H1
    refine WO_want (x := qb x6) (σ' := ⟨[], [], []⟩) rfl rfl (ev_callG (al := [qi x5.Value, qi 0, qi 1000000]) (ls := []) (spec_l1In_ok hx6) rfl rfl rfl rfl rfl (by decide) rfl rfl rfl rfl rfl rfl) ?_; simp only [putT,st,ev,gt,hp,ofV,constT,intT,lm]
    refine WO_want rfl rfl rfl ?_
    refine WO_op (x := qb (!x6)) rfl rfl rfl ?_
    refine WO_op rfl rfl rfl ?_; simp only [putT,st,ev,gt,hp,ofV,constT,intT,lm]
    refine WO_if rfl rfl rfl (fun hc => ?_) (fun hc => ?_)
    ·
     replace H1 := tr hc H1
     simp only [putT,st,ev,gt,hp,ofV,constT,intT,lm]
     iterate 16 refine WO_skip rfl rfl ?_
     refine WO_op (x := qb true) rfl rfl rfl ?_; simp only [putT,st,ev,gt,hp,ofV,constT,intT,lm]
     refine WO_nil ?_
     refine W_cond (t := true) rfl (fun _ => ?_) (fun h => by cases h)
     refine W_seq (W_region ?_)
     refine WO_op rfl rfl rfl ?_; simp only [putT,st,ev,gt,hp,ofV,constT,intT,lm]
     refine WO_nil ?_
     refine W_ret ?_
     obtain rfl := Option.some.inj H1
     obtain rfl := Option.some.inj H
     exact told3 rfl
    ·
     replace H1 := fl hc H1
     simp only [putT,st,ev,gt,hp,ofV,constT,intT,lm]
     iterate 3 (refine WO_want rfl rfl rfl ?_; simp only [putT,st,ev,gt,hp,ofV,constT,intT,lm])
     refine WO_if rfl rfl rfl (fun hc => ?_) (fun hc => ?_)
     ·
      replace H1 := tr hc H1
      simp only [putT,st,ev,gt,hp,ofV,constT,intT,lm]
      iterate 3 (refine WO_want rfl rfl rfl ?_; simp only [putT,st,ev,gt,hp,ofV,constT,intT,lm])
      obtain ⟨x7, hx7, H1⟩ := bnd H1
      refine WO_want rfl rfl (ev_ix (en := enc_Sample) hx7 rfl rfl rfl rfl rfl rfl rfl) ?_; simp only [putT,st,ev,gt,hp,ofV,constT,intT,lm]
      refine WO_want (x := .cp (enc_Sample x7) 0) rfl rfl rfl ?_
      refine WO_want (x := qs x7.Name) rfl rfl rfl ?_; simp only [putT,st,ev,gt,hp,ofV,constT,intT,lm]
      iterate 2 (refine WO_want rfl rfl rfl ?_; simp only [putT,st,ev,gt,hp,ofV,constT,intT,lm])
      obtain ⟨x8, hx8, H1⟩ := bnd H1
      refine WO_want rfl rfl (ev_ix (en := enc_Sample) hx8 rfl rfl rfl rfl rfl rfl rfl) ?_; simp only [putT,st,ev,gt,hp,ofV,constT,intT,lm]
      refine WO_want (x := .cp (enc_Sample x8) 0) rfl rfl rfl ?_
      refine WO_want (x := qs x8.Name) rfl rfl rfl ?_; simp only [putT,st,ev,gt,hp,ofV,constT,intT,lm]
      refine WO_want rfl rfl (ev_geq_s rfl rfl rfl) ?_; simp only [putT,st,ev,gt,hp,ofV,constT,intT,lm]
      refine WO_want (x := qb (!(slt x7.Name x8.Name))) rfl rfl rfl ?_
      refine WO_op (x := qb (!(slt x7.Name x8.Name))) rfl rfl rfl ?_; simp only [putT,st,ev,gt,hp,ofV,constT,intT,lm]
      refine WO_nil ?_
      refine W_cond rfl (fun hc => ?_) (fun hc => ?_)
      ·
       replace H1 := tr hc H1
       refine W_seq (W_region ?_)
       refine WO_op rfl rfl rfl ?_; simp only [putT,st,ev,gt,hp,ofV,constT,intT,lm]
       refine WO_nil ?_
       refine W_ret ?_
       obtain rfl := Option.some.inj H1
       obtain rfl := Option.some.inj H
       exact told3 rfl
      ·
       replace H1 := fl hc H1
       refine W_skip ?_
       refine W_region ?_
       iterate 3 (refine WO_op rfl rfl rfl ?_; simp only [putT,st,ev,gt,hp,ofV,constT,intT,lm])
       refine WO_nil ?_
       exact hW1 _ _ ((IH1 _ _ H1 rfl)) (le_intro [] [] (by decide) (by decide) rfl (by simp [leS, leT, leA, gt]) (by simp [leB, leT, leA]) (by simp [leR]))
     ·
      replace H1 := fl hc H1
      simp only [putT,st,ev,gt,hp,ofV,constT,intT,lm]
      iterate 12 refine WO_skip rfl rfl ?_
      refine WO_want (x := qb false) rfl rfl rfl ?_
      refine WO_op (x := qb false) rfl rfl rfl ?_; simp only [putT,st,ev,gt,hp,ofV,constT,intT,lm]
      refine WO_nil ?_
      refine W_cond (t := false) rfl (fun h => by cases h) (fun _ => ?_)
      refine W_skip ?_
      refine W_region ?_
      iterate 3 (refine WO_op rfl rfl rfl ?_; simp only [putT,st,ev,gt,hp,ofV,constT,intT,lm])
      refine WO_nil ?_
      exact hW1 _ _ ((IH1 _ _ H1 rfl)) (le_intro [] [] (by decide) (by decide) rfl (by simp [leS, leT, leA, gt]) (by simp [leB, leT, leA]) (by simp [leR]))
  ·
   replace H1 := fl hc H1
   refine W_exit ?_
   obtain rfl := Option.some.inj H1
   exact hX1 () _ rfl (le_intro [] [] (by decide) (by decide) rfl (by simp [leS, leT, leA, gt]) (by simp [leB, leT, leA]) (by simp [leR]))
theorem spec_SampleOf_ok {a1 : List Sample} {a2 : Str} {r : Int × Bool} (H : spec_SampleOf a1 a2 = some r) : R 70 [.c (cL enc_Sample a1) none, .c (cS a2) none] = some (.tu [.c (cI .i64 r.1) none, .c (cB r.2) none], []) := by
 unfold spec_SampleOf at H
 refine Fz_walk 25 rfl rfl Tryz.func70 rfl (by kernel_rfl) rfl rfl rfl rfl ?_
 simp only [tellVs, tellV, tells, tell, st0, padT, SX.newRow, SX.newBox, List.length_cons, List.length_nil, Nat.reduceAdd, Nat.reduceSub, List.replicate, List.cons_append, List.nil_append, List.foldl_cons, List.foldl_nil]
 refine W_seq (W_region ?_)
 iterate 2 (refine WO_op rfl rfl rfl ?_; simp only [putT,st,ev,gt,hp,ofV,constT,intT,lm])
 refine WO_nil (W_seq (W_seq (W_region ?_)))
 refine WO_op rfl rfl rfl ?_; simp only [putT,st,ev,gt,hp,ofV,constT,intT,lm]
 refine WO_nil ?_
 refine W_block ?_
 obtain ⟨s7, hs7, H⟩ := bnd H
 refine loop_rule (ls := []) 0 (fun t6 : Unit => ⟨[], [], []⟩) (fun t => s7 = .inr t) ⟨[.c (cL enc_Sample a1), qs a2, .no, .no, .no, .no, qi 0], [], []⟩ (by repeat (first | exact mono_told | refine mono_seq ?_ | refine mono_blk ?_ | refine mono_lp ?_)) (le_intro [] [] (by decide) (by decide) rfl (by simp [leS, leT, leA, gt]) (by simp [leB, leT, leA]) (by simp [leR])) ?_ ?_
 ·
  rintro t6 rfl
  refine W_seq (W_region ?_)
  iterate 2 (refine WO_op rfl rfl rfl ?_; simp only [putT,st,ev,gt,hp,ofV,constT,intT,lm])
  refine WO_nil ?_
  refine W_ret ?_
  obtain rfl := Option.some.inj H
  exact told3 rfl
 ·
  intro V1 hV1 hW1 hX1
  refine (spec_SampleOf.l0.partial_correctness a1 a2 (fun v3 s' => s' = s7 → (V1 ⟨[.c (cL enc_Sample a1), qs a2, .no, .no, .no, .no, qi v3], [], []⟩)) ?_ _ _ hs7 rfl)
  intro l0 IH1 v3 s' H1 e
  subst e
  refine hV1 _ ?_
  refine W_seq (W_seq (W_region ?_))
  iterate 4 (refine WO_op rfl rfl rfl ?_; simp only [putT,st,ev,gt,hp,ofV,constT,intT,lm])
  refine WO_nil ?_
  refine W_cond rfl (fun hc => ?_) (fun hc => ?_)
  ·
   replace H1 := tr hc H1
   refine W_skip ?_
   refine W_seq ?_
   refine W_block ?_
   refine W_seq (W_region ?_)
   iterate 2 (refine WO_op rfl rfl rfl ?_; simp only [putT,st,ev,gt,hp,ofV,constT,intT,lm])
   obtain ⟨x4, hx4, H1⟩ := bnd H1
   refine WO_op rfl rfl (ev_ix (en := enc_Sample) hx4 rfl rfl rfl rfl rfl rfl rfl) ?_; simp only [putT,st,ev,gt,hp,ofV,constT,intT,lm]
   refine WO_op (x := .cp (enc_Sample x4) 0) rfl rfl rfl ?_
   refine WO_op (x := qs x4.Name) rfl rfl rfl ?_
   refine WO_op rfl rfl rfl ?_; simp only [putT,st,ev,gt,hp,ofV,constT,intT,lm]
   refine WO_op rfl rfl (ev_eql_s rfl rfl rfl) ?_; simp only [putT,st,ev,gt,hp,ofV,constT,intT,lm]
   refine WO_nil ?_
   refine W_cond rfl (fun hc => ?_) (fun hc => ?_)
   ·
    replace H1 := tr hc H1
    refine W_seq (W_region ?_)
    iterate 2 (refine WO_op rfl rfl rfl ?_; simp only [putT,st,ev,gt,hp,ofV,constT,intT,lm])
    obtain ⟨x5, hx5, H1⟩ := bnd H1
    refine WO_op rfl rfl (ev_ix (en := enc_Sample) hx5 rfl rfl rfl rfl rfl rfl rfl) ?_; simp only [putT,st,ev,gt,hp,ofV,constT,intT,lm]
    refine WO_op (x := .cp (enc_Sample x5) 1) rfl rfl rfl ?_
    refine WO_op (x := qi x5.Value) rfl rfl rfl ?_; simp only [putT,st,ev,gt,hp,ofV,constT,intT,lm]
    iterate 2 (refine WO_op rfl rfl rfl ?_; simp only [putT,st,ev,gt,hp,ofV,constT,intT,lm])
    refine WO_nil ?_
    refine W_ret ?_
    obtain rfl := Option.some.inj H1
    obtain rfl := Option.some.inj H
    exact told3 rfl
   ·
    replace H1 := fl hc H1
    refine W_skip ?_
    refine W_region ?_
    iterate 3 (refine WO_op rfl rfl rfl ?_; simp only [putT,st,ev,gt,hp,ofV,constT,intT,lm])
    refine WO_nil ?_
    exact hW1 _ _ ((IH1 _ _ H1 rfl)) (le_intro [] [] (by decide) (by decide) rfl (by simp [leS, leT, leA, gt]) (by simp [leB, leT, leA]) (by simp [leR]))
  ·
   replace H1 := fl hc H1
   refine W_exit ?_
   obtain rfl := Option.some.inj H1
   exact hX1 () _ rfl (le_intro [] [] (by decide) (by decide) rfl (by simp [leS, leT, leA, gt]) (by simp [leB, leT, leA]) (by simp [leR]))
theorem spec_CeilDiv_ok {a1 : Int} {a2 : Int} {r : Int} (H : spec_CeilDiv a1 a2 = some r) : R 96 [.c (cI .i64 a1) none, .c (cI .i64 a2) none] = some (.c (cI .i64 r) none, []) := by
 unfold spec_CeilDiv at H
 refine Fz_walk 19 rfl rfl Tryz.func96 rfl (by kernel_rfl) rfl rfl rfl rfl ?_
 simp only [tellVs, tellV, tells, tell, st0, padT, SX.newRow, SX.newBox, List.length_cons, List.length_nil, Nat.reduceAdd, Nat.reduceSub, List.replicate, List.cons_append, List.nil_append, List.foldl_cons, List.foldl_nil]
 refine W_seq (W_region ?_)
 refine WO_op rfl rfl rfl ?_; simp only [putT,st,ev,gt,hp,ofV,constT,intT,lm]
 refine WO_nil (W_seq (W_seq (W_region ?_)))
 refine WO_op rfl rfl rfl ?_; simp only [putT,st,ev,gt,hp,ofV,constT,intT,lm]
 obtain ⟨x3, hx3, H⟩ := bnd H
 refine WO_op (x := qb x3) (σ' := ⟨[], [], []⟩) rfl rfl (ev_callG (al := [qi a1, qi 0, qi 1000000000000]) (ls := []) (spec_l1In_ok hx3) rfl rfl rfl rfl rfl (by decide) rfl rfl rfl rfl rfl rfl) ?_; simp only [putT,st,ev,gt,hp,ofV,constT,intT,lm]
 iterate 2 (refine WO_op rfl rfl rfl ?_; simp only [putT,st,ev,gt,hp,ofV,constT,intT,lm])
 refine WO_if rfl rfl rfl (fun hc => ?_) (fun hc => ?_)
 ·
  replace H := tr hc H
  simp only [putT,st,ev,gt,hp,ofV,constT,intT,lm]
  iterate 3 refine WO_skip rfl rfl ?_
  refine WO_op (x := qb true) rfl rfl rfl ?_; simp only [putT,st,ev,gt,hp,ofV,constT,intT,lm]
  refine WO_nil ?_
  refine W_cond (t := true) rfl (fun _ => ?_) (fun h => by cases h)
  refine W_seq (W_region ?_)
  refine WO_op rfl rfl rfl ?_; simp only [putT,st,ev,gt,hp,ofV,constT,intT,lm]
  refine WO_nil ?_
  refine W_ret ?_
  obtain rfl := Option.some.inj H
  exact told3 rfl
 ·
  replace H := fl hc H
  refine WO_want rfl rfl rfl ?_; simp only [putT,st,ev,gt,hp,ofV,constT,intT,lm]
  obtain ⟨x4, hx4, H⟩ := bnd H
  refine WO_want (x := qb x4) (σ' := ⟨[], [], []⟩) rfl rfl (ev_callG (al := [qi a2, qi 1, qi 1000000000000]) (ls := []) (spec_l1In_ok hx4) rfl rfl rfl rfl rfl (by decide) rfl rfl rfl rfl rfl rfl) ?_; simp only [putT,st,ev,gt,hp,ofV,constT,intT,lm]
  refine WO_want rfl rfl rfl ?_
  refine WO_op (x := qb (!x4)) rfl rfl rfl ?_; simp only [putT,st,ev,gt,hp,ofV,constT,intT,lm]
  refine WO_nil ?_
  refine W_cond rfl (fun hc => ?_) (fun hc => ?_)
  ·
   replace H := tr hc H
   refine W_seq (W_region ?_)
   refine WO_op rfl rfl rfl ?_; simp only [putT,st,ev,gt,hp,ofV,constT,intT,lm]
   refine WO_nil ?_
   refine W_ret ?_
   obtain rfl := Option.some.inj H
   exact told3 rfl
  ·
   replace H := fl hc H
   refine W_skip ?_
   refine W_seq (W_region ?_)
   iterate 5 (refine WO_op rfl rfl rfl ?_; simp only [putT,st,ev,gt,hp,ofV,constT,intT,lm])
   obtain ⟨q5, hq5, H⟩ := bnd H
   refine WO_op rfl rfl (ev_quo hq5 rfl rfl rfl) ?_; simp only [putT,st,ev,gt,hp,ofV,constT,intT,lm]
   refine WO_op rfl rfl rfl ?_; simp only [putT,st,ev,gt,hp,ofV,constT,intT,lm]
   refine WO_nil ?_
   refine W_ret ?_
   obtain rfl := Option.some.inj H
   exact told3 rfl
theorem spec_ByOne_ok {a1 : Metric} {a2 : Int} {a3 : Int} {r : Int} (H : spec_ByOne a1 a2 a3 = some r) : R 72 [.ag [(cS a1.Name, none), (cI .i64 a1.Kind, none), (cI .i64 a1.Goal, none)], .c (cI .i64 a2) none, .c (cI .i64 a3) none] = some (.c (cI .i64 r) none, []) := by
 unfold spec_ByOne at H
 refine Fz_walk 43 rfl rfl Tryz.func72 rfl (by kernel_rfl) rfl rfl rfl rfl ?_
 simp only [tellVs, tellV, tells, tell, st0, padT, SX.newRow, SX.newBox, List.length_cons, List.length_nil, Nat.reduceAdd, Nat.reduceSub, List.replicate, List.cons_append, List.nil_append, List.foldl_cons, List.foldl_nil]
 refine W_seq (W_region ?_)
 refine WO_op (x := .bp 0 0) (σ' := ⟨[], [some [qs a1.Name, qi a1.Kind, qi a1.Goal]], []⟩) rfl rfl rfl ?_
 refine WO_op rfl rfl rfl ?_; simp only [putT,st,ev,gt,hp,ofV,constT,intT,lm]
 refine WO_nil (W_seq (W_seq (W_region ?_)))
 refine WO_op (x := .ag [qs a1.Name, qi a1.Kind, qi a1.Goal]) rfl rfl rfl ?_; simp only [putT,st,ev,gt,hp,ofV,constT,intT,lm]
 obtain ⟨x4, hx4, H⟩ := bnd H
 refine WO_op (x := qb x4) (σ' := ⟨[], [some [qs a1.Name, qi a1.Kind, qi a1.Goal]], []⟩) rfl rfl (ev_callG (al := [.ag [qs a1.Name, qi a1.Kind, qi a1.Goal]]) (ls := []) (spec_MetricOk_ok hx4) rfl rfl rfl rfl rfl (by decide) rfl rfl rfl rfl rfl rfl) ?_; simp only [putT,st,ev,gt,hp,ofV,constT,intT,lm]
 iterate 2 (refine WO_op rfl rfl rfl ?_; simp only [putT,st,ev,gt,hp,ofV,constT,intT,lm])
 refine WO_if rfl rfl rfl (fun hc => ?_) (fun hc => ?_)
 ·
  replace H := tr hc H
  simp only [putT,st,ev,gt,hp,ofV,constT,intT,lm]
  iterate 3 refine WO_skip rfl rfl ?_
  refine WO_op (x := qb true) rfl rfl rfl ?_
  refine WO_op rfl rfl rfl ?_; simp only [putT,st,ev,gt,hp,ofV,constT,intT,lm]
  iterate 3 refine WO_skip rfl rfl ?_
  refine WO_op (x := qb true) rfl rfl rfl ?_; simp only [putT,st,ev,gt,hp,ofV,constT,intT,lm]
  refine WO_nil ?_
  refine W_cond (t := true) rfl (fun _ => ?_) (fun h => by cases h)
  refine W_seq (W_region ?_)
  refine WO_op rfl rfl rfl ?_; simp only [putT,st,ev,gt,hp,ofV,constT,intT,lm]
  refine WO_nil ?_
  refine W_ret ?_
  obtain rfl := Option.some.inj H
  exact told3 rfl
 ·
  replace H := fl hc H
  refine WO_want rfl rfl rfl ?_; simp only [putT,st,ev,gt,hp,ofV,constT,intT,lm]
  obtain ⟨x5, hx5, H⟩ := bnd H
  refine WO_want (x := qb x5) (σ' := ⟨[], [some [qs a1.Name, qi a1.Kind, qi a1.Goal]], []⟩) rfl rfl (ev_callG (al := [qi a2, qi 0, qi 1000]) (ls := []) (spec_l1In_ok hx5) rfl rfl rfl rfl rfl (by decide) rfl rfl rfl rfl rfl rfl) ?_; simp only [putT,st,ev,gt,hp,ofV,constT,intT,lm]
  refine WO_want rfl rfl rfl ?_
  refine WO_op (x := qb (!x5)) rfl rfl rfl ?_
  refine WO_op rfl rfl rfl ?_; simp only [putT,st,ev,gt,hp,ofV,constT,intT,lm]
  refine WO_if rfl rfl rfl (fun hc => ?_) (fun hc => ?_)
  ·
   replace H := tr hc H
   simp only [putT,st,ev,gt,hp,ofV,constT,intT,lm]
   iterate 3 refine WO_skip rfl rfl ?_
   refine WO_op (x := qb true) rfl rfl rfl ?_; simp only [putT,st,ev,gt,hp,ofV,constT,intT,lm]
   refine WO_nil ?_
   refine W_cond (t := true) rfl (fun _ => ?_) (fun h => by cases h)
   refine W_seq (W_region ?_)
   refine WO_op rfl rfl rfl ?_; simp only [putT,st,ev,gt,hp,ofV,constT,intT,lm]
   refine WO_nil ?_
   refine W_ret ?_
   obtain rfl := Option.some.inj H
   exact told3 rfl
  ·
   replace H := fl hc H
   refine WO_want rfl rfl rfl ?_; simp only [putT,st,ev,gt,hp,ofV,constT,intT,lm]
   obtain ⟨x6, hx6, H⟩ := bnd H
   refine WO_want (x := qb x6) (σ' := ⟨[], [some [qs a1.Name, qi a1.Kind, qi a1.Goal]], []⟩) rfl rfl (ev_callG (al := [qi a3, qi 0, qi 1000000]) (ls := []) (spec_l1In_ok hx6) rfl rfl rfl rfl rfl (by decide) rfl rfl rfl rfl rfl rfl) ?_; simp only [putT,st,ev,gt,hp,ofV,constT,intT,lm]
   refine WO_want rfl rfl rfl ?_
   refine WO_op (x := qb (!x6)) rfl rfl rfl ?_; simp only [putT,st,ev,gt,hp,ofV,constT,intT,lm]
   refine WO_nil ?_
   refine W_cond rfl (fun hc => ?_) (fun hc => ?_)
   ·
    replace H := tr hc H
    refine W_seq (W_region ?_)
    refine WO_op rfl rfl rfl ?_; simp only [putT,st,ev,gt,hp,ofV,constT,intT,lm]
    refine WO_nil ?_
    refine W_ret ?_
    obtain rfl := Option.some.inj H
    exact told3 rfl
   ·
    replace H := fl hc H
    refine W_skip ?_
    refine W_seq (W_seq (W_region ?_))
    refine WO_op (x := .bp 0 1) rfl rfl rfl ?_
    refine WO_op (x := qi a1.Kind) rfl rfl rfl ?_
    refine WO_op rfl rfl rfl ?_; simp only [putT,st,ev,gt,hp,ofV,constT,intT,lm]
    refine WO_nil ?_
    refine W_cond rfl (fun hc => ?_) (fun hc => ?_)
    ·
     replace H := tr hc H
     refine W_seq (W_region ?_)
     refine WO_op rfl rfl rfl ?_
     refine WO_op (x := .bp 0 2) rfl rfl rfl ?_
     refine WO_op (x := qi a1.Goal) rfl rfl rfl ?_; simp only [putT,st,ev,gt,hp,ofV,constT,intT,lm]
     obtain ⟨x7, hx7, H⟩ := bnd H
     refine WO_op (x := qi x7) (σ' := ⟨[], [some [qs a1.Name, qi a1.Kind, qi a1.Goal]], []⟩) rfl rfl (ev_callG (al := [qi a3, qi a1.Goal]) (ls := []) (spec_CeilDiv_ok hx7) rfl rfl rfl rfl rfl (by decide) rfl rfl rfl rfl rfl rfl) ?_; simp only [putT,st,ev,gt,hp,ofV,constT,intT,lm]
     refine WO_op rfl rfl rfl ?_; simp only [putT,st,ev,gt,hp,ofV,constT,intT,lm]
     refine WO_nil ?_
     refine W_ret ?_
     obtain rfl := Option.some.inj H
     exact told3 rfl
    ·
     replace H := fl hc H
     refine W_skip ?_
     refine W_seq (W_seq (W_region ?_))
     iterate 2 (refine WO_op rfl rfl rfl ?_; simp only [putT,st,ev,gt,hp,ofV,constT,intT,lm])
     refine WO_op (x := .bp 0 2) rfl rfl rfl ?_
     refine WO_op (x := qi a1.Goal) rfl rfl rfl ?_
     refine WO_op rfl rfl rfl ?_
     refine WO_op (x := .bp 0 2) rfl rfl rfl ?_; simp only [putT,st,ev,gt,hp,ofV,constT,intT,lm]
     refine WO_op (x := qi a1.Goal) rfl rfl rfl ?_
     refine WO_op rfl rfl rfl ?_; simp only [putT,st,ev,gt,hp,ofV,constT,intT,lm]
     obtain ⟨x8, hx8, H⟩ := bnd H
     refine WO_op (x := qb x8) (σ' := ⟨[], [some [qs a1.Name, qi a1.Kind, qi a1.Goal]], []⟩) rfl rfl (ev_callG (al := [qi (IntKind.i64.wrap (10 * a3)), qi (IntKind.i64.wrap (9 * a1.Goal)), qi (IntKind.i64.wrap (11 * a1.Goal))]) (ls := []) (spec_l1In_ok hx8) rfl rfl rfl rfl rfl (by decide) rfl rfl rfl rfl rfl rfl) ?_; simp only [putT,st,ev,gt,hp,ofV,constT,intT,lm]
     refine WO_nil ?_
     refine W_cond rfl (fun hc => ?_) (fun hc => ?_)
     ·
      replace H := tr hc H
      refine W_seq (W_region ?_)
      iterate 2 (refine WO_op rfl rfl rfl ?_; simp only [putT,st,ev,gt,hp,ofV,constT,intT,lm])
      refine WO_nil ?_
      refine W_ret ?_
      obtain rfl := Option.some.inj H
      exact told3 rfl
     ·
      replace H := fl hc H
      refine W_skip ?_
      refine W_seq (W_region ?_)
      iterate 3 (refine WO_op rfl rfl rfl ?_; simp only [putT,st,ev,gt,hp,ofV,constT,intT,lm])
      refine WO_op (x := .bp 0 2) rfl rfl rfl ?_
      refine WO_op (x := qi a1.Goal) rfl rfl rfl ?_; simp only [putT,st,ev,gt,hp,ofV,constT,intT,lm]
      obtain ⟨x9, hx9, H⟩ := bnd H
      refine WO_op (x := qi x9) (σ' := ⟨[], [some [qs a1.Name, qi a1.Kind, qi a1.Goal]], []⟩) rfl rfl (ev_callG (al := [qi (IntKind.i64.wrap (a2 * a3)), qi a1.Goal]) (ls := []) (spec_CeilDiv_ok hx9) rfl rfl rfl rfl rfl (by decide) rfl rfl rfl rfl rfl rfl) ?_; simp only [putT,st,ev,gt,hp,ofV,constT,intT,lm]
      refine WO_op rfl rfl rfl ?_; simp only [putT,st,ev,gt,hp,ofV,constT,intT,lm]
      refine WO_nil ?_
      refine W_ret ?_
      obtain rfl := Option.some.inj H
      exact told3 rfl
theorem spec_l1Max_ok {a1 : Int} {a2 : Int} {r : Int} (H : spec_l1Max a1 a2 = some r) : R 71 [.c (cI .i64 a1) none, .c (cI .i64 a2) none] = some (.c (cI .i64 r) none, []) := by
 unfold spec_l1Max at H
 refine Fz_walk 10 rfl rfl Tryz.func71 rfl (by kernel_rfl) rfl rfl rfl rfl ?_
 simp only [tellVs, tellV, tells, tell, st0, padT, SX.newRow, SX.newBox, List.length_cons, List.length_nil, Nat.reduceAdd, Nat.reduceSub, List.replicate, List.cons_append, List.nil_append, List.foldl_cons, List.foldl_nil]
 refine W_seq (W_region ?_)
 refine WO_op rfl rfl rfl ?_; simp only [putT,st,ev,gt,hp,ofV,constT,intT,lm]
 refine WO_nil (W_seq (W_seq (W_region ?_)))
 iterate 3 (refine WO_op rfl rfl rfl ?_; simp only [putT,st,ev,gt,hp,ofV,constT,intT,lm])
 refine WO_nil ?_
 refine W_cond rfl (fun hc => ?_) (fun hc => ?_)
 ·
  replace H := tr hc H
  refine W_seq (W_region ?_)
  iterate 2 (refine WO_op rfl rfl rfl ?_; simp only [putT,st,ev,gt,hp,ofV,constT,intT,lm])
  refine WO_nil ?_
  refine W_ret ?_
  obtain rfl := Option.some.inj H
  exact told3 rfl
 ·
  replace H := fl hc H
  refine W_skip ?_
  refine W_seq (W_region ?_)
  iterate 2 (refine WO_op rfl rfl rfl ?_; simp only [putT,st,ev,gt,hp,ofV,constT,intT,lm])
  refine WO_nil ?_
  refine W_ret ?_
  obtain rfl := Option.some.inj H
  exact told3 rfl
theorem spec_ByAll_ok {a1 : Order} {a2 : Int} {a3 : List Sample} {r : Int × Bool} (H : spec_ByAll a1 a2 a3 = some r) : R 31 [.ag [(cS a1.Name, none), (cS a1.Target, none), (cI .i64 a1.Low, none), (cI .i64 a1.High, none), (cL enc_Metric a1.Metrics, none), (cI .i64 a1.Pace.Up, none), (cI .i64 a1.Pace.Down, none), (cI .i64 a1.Pace.UpSpan, none), (cI .i64 a1.Pace.DownSpan, none), (cL enc_Note a1.Notes, none)], .c (cI .i64 a2) none, .c (cL enc_Sample a3) none] = some (.tu [.c (cI .i64 r.1) none, .c (cB r.2) none], []) := by
 unfold spec_ByAll at H
 refine Fz_walk 54 rfl rfl Tryz.func31 rfl (by kernel_rfl) rfl rfl rfl rfl ?_
 simp only [tellVs, tellV, tells, tell, st0, padT, SX.newRow, SX.newBox, List.length_cons, List.length_nil, Nat.reduceAdd, Nat.reduceSub, List.replicate, List.cons_append, List.nil_append, List.foldl_cons, List.foldl_nil]
 refine W_seq (W_region ?_)
 refine WO_op (x := .bp 0 0) (σ' := ⟨[], [some [qs a1.Name, qs a1.Target, qi a1.Low, qi a1.High, .c (cL enc_Metric a1.Metrics), qi a1.Pace.Up, qi a1.Pace.Down, qi a1.Pace.UpSpan, qi a1.Pace.DownSpan, .c (cL enc_Note a1.Notes)]], []⟩) rfl rfl rfl ?_; simp only [putT,st,ev,gt,hp,ofV,constT,intT,lm]
 iterate 2 (refine WO_op rfl rfl rfl ?_; simp only [putT,st,ev,gt,hp,ofV,constT,intT,lm])
 refine WO_nil (W_seq (W_region ?_))
 refine WO_op rfl rfl rfl ?_; simp only [putT,st,ev,gt,hp,ofV,constT,intT,lm]
 refine WO_nil (W_seq (W_region ?_))
 refine WO_op rfl rfl rfl ?_; simp only [putT,st,ev,gt,hp,ofV,constT,intT,lm]
 refine WO_nil (W_seq (W_seq (W_region ?_)))
 refine WO_op rfl rfl rfl ?_; simp only [putT,st,ev,gt,hp,ofV,constT,intT,lm]
 refine WO_nil ?_
 refine W_block ?_
 obtain ⟨t14, ht14, H⟩ := bnd H
 refine loop_rule (ls := []) 0 (fun t14 : Int × Bool => ⟨[.no, qi a2, .no, .no, .no, .no, .no, .no, qi t14.1, qb t14.2], [], []⟩) (fun t => t14 = t) ⟨[.no, qi a2, .c (cL enc_Sample a3), .bp 0 0, .no, .no, .no, .no, qi 0, qb false, qi 0], [some [qs a1.Name, qs a1.Target, qi a1.Low, qi a1.High, .c (cL enc_Metric a1.Metrics), qi a1.Pace.Up, qi a1.Pace.Down, qi a1.Pace.UpSpan, qi a1.Pace.DownSpan, .c (cL enc_Note a1.Notes)]], []⟩ (by repeat (first | exact mono_told | refine mono_seq ?_ | refine mono_blk ?_ | refine mono_lp ?_)) (le_intro [0] [] (by decide) (by decide) rfl (by simp [leS, leT, leA, gt]) (by simp [leB, leT, leA]) (by simp [leR])) ?_ ?_
 ·
  rintro t1 rfl
  refine W_seq (W_seq (W_region ?_))
  iterate 2 (refine WO_op rfl rfl rfl ?_; simp only [putT,st,ev,gt,hp,ofV,constT,intT,lm])
  refine WO_nil ?_
  refine W_cond rfl (fun hc => ?_) (fun hc => ?_)
  ·
   replace H := tr hc H
   refine W_seq (W_region ?_)
   iterate 3 (refine WO_op rfl rfl rfl ?_; simp only [putT,st,ev,gt,hp,ofV,constT,intT,lm])
   refine WO_nil ?_
   refine W_ret ?_
   obtain rfl := Option.some.inj H
   exact told3 rfl
  ·
   replace H := fl hc H
   refine W_skip ?_
   refine W_seq (W_region ?_)
   iterate 3 (refine WO_op rfl rfl rfl ?_; simp only [putT,st,ev,gt,hp,ofV,constT,intT,lm])
   refine WO_nil ?_
   refine W_ret ?_
   obtain rfl := Option.some.inj H
   exact told3 rfl
 ·
  intro V1 hV1 hW1 hX1
  refine (spec_ByAll.l0.partial_correctness a1 a2 a3 (fun v4 v5 v6 s' => s' = t14 → (V1 ⟨[.no, qi a2, .c (cL enc_Sample a3), .bp 0 0, .no, .no, .no, .no, qi v4, qb v5, qi v6], [some [qs a1.Name, qs a1.Target, qi a1.Low, qi a1.High, .c (cL enc_Metric a1.Metrics), qi a1.Pace.Up, qi a1.Pace.Down, qi a1.Pace.UpSpan, qi a1.Pace.DownSpan, .c (cL enc_Note a1.Notes)]], []⟩)) ?_ _ _ _ _ ht14 rfl)
  intro l0 IH1 v4 v5 v6 s' H1 e
  subst e
  refine hV1 _ ?_
  refine W_seq (W_seq (W_region ?_))
  refine WO_op rfl rfl rfl ?_
  refine WO_op (x := .bp 0 4) rfl rfl rfl ?_
  refine WO_op (x := .c (cL enc_Metric a1.Metrics)) rfl rfl rfl ?_; simp only [putT,st,ev,gt,hp,ofV,constT,intT,lm]
  iterate 3 (refine WO_op rfl rfl rfl ?_; simp only [putT,st,ev,gt,hp,ofV,constT,intT,lm])
  refine WO_if rfl rfl rfl (fun hc => ?_) (fun hc => ?_)
  ·
   replace H1 := tr hc H1
   refine WO_want (x := .ag [qs a1.Name, qs a1.Target, qi a1.Low, qi a1.High, .c (cL enc_Metric a1.Metrics), qi a1.Pace.Up, qi a1.Pace.Down, qi a1.Pace.UpSpan, qi a1.Pace.DownSpan, .c (cL enc_Note a1.Notes)]) rfl rfl rfl ?_; simp only [putT,st,ev,gt,hp,ofV,constT,intT,lm]
   obtain ⟨x7, hx7, H1⟩ := bnd H1
   refine WO_want (x := qb x7) (σ' := ⟨[], [some [qs a1.Name, qs a1.Target, qi a1.Low, qi a1.High, .c (cL enc_Metric a1.Metrics), qi a1.Pace.Up, qi a1.Pace.Down, qi a1.Pace.UpSpan, qi a1.Pace.DownSpan, .c (cL enc_Note a1.Notes)]], []⟩) rfl rfl (ev_callG (al := [.ag [qs a1.Name, qs a1.Target, qi a1.Low, qi a1.High, .c (cL enc_Metric a1.Metrics), qi a1.Pace.Up, qi a1.Pace.Down, qi a1.Pace.UpSpan, qi a1.Pace.DownSpan, .c (cL enc_Note a1.Notes)]]) (ls := []) (spec_OrderOk_ok hx7) rfl rfl rfl rfl rfl (by decide) rfl rfl rfl rfl rfl rfl) ?_; simp only [putT,st,ev,gt,hp,ofV,constT,intT,lm]
   refine WO_op (x := qb x7) rfl rfl rfl ?_
   refine WO_op rfl rfl rfl ?_; simp only [putT,st,ev,gt,hp,ofV,constT,intT,lm]
   refine WO_if rfl rfl rfl (fun hc => ?_) (fun hc => ?_)
   ·
    replace H1 := tr hc H1
    refine WO_want rfl rfl rfl ?_; simp only [putT,st,ev,gt,hp,ofV,constT,intT,lm]
    obtain ⟨x8, hx8, H1⟩ := bnd H1
    refine WO_want (x := qb x8) (σ' := ⟨[], [some [qs a1.Name, qs a1.Target, qi a1.Low, qi a1.High, .c (cL enc_Metric a1.Metrics), qi a1.Pace.Up, qi a1.Pace.Down, qi a1.Pace.UpSpan, qi a1.Pace.DownSpan, .c (cL enc_Note a1.Notes)]], []⟩) rfl rfl (ev_callG (al := [.c (cL enc_Sample a3)]) (ls := []) (spec_SamplesOk_ok hx8) rfl rfl rfl rfl rfl (by decide) rfl rfl rfl rfl rfl rfl) ?_; simp only [putT,st,ev,gt,hp,ofV,constT,intT,lm]
    refine WO_op (x := qb x8) rfl rfl rfl ?_; simp only [putT,st,ev,gt,hp,ofV,constT,intT,lm]
    refine WO_nil ?_
    refine W_cond rfl (fun hc => ?_) (fun hc => ?_)
    ·
     replace H1 := tr hc H1
     refine W_skip ?_
     refine W_seq ?_
     refine W_block ?_
     refine W_seq (W_region ?_)
     refine WO_op rfl rfl rfl ?_
     refine WO_op (x := .bp 0 4) rfl rfl rfl ?_
     refine WO_op (x := .c (cL enc_Metric a1.Metrics)) rfl rfl rfl ?_
     refine WO_op rfl rfl rfl ?_; simp only [putT,st,ev,gt,hp,ofV,constT,intT,lm]
     obtain ⟨x9, hx9, H1⟩ := bnd H1
     refine WO_op rfl rfl (ev_ix (en := enc_Metric) hx9 rfl rfl rfl rfl rfl rfl rfl) ?_; simp only [putT,st,ev,gt,hp,ofV,constT,intT,lm]
     refine WO_op (x := .cp (enc_Metric x9) 0) rfl rfl rfl ?_
     refine WO_op (x := qs x9.Name) rfl rfl rfl ?_; simp only [putT,st,ev,gt,hp,ofV,constT,intT,lm]
     obtain ⟨x10, hx10, H1⟩ := bnd H1
     refine WO_op (x := .tu [qi x10.1, qb x10.2]) (σ' := ⟨[], [some [qs a1.Name, qs a1.Target, qi a1.Low, qi a1.High, .c (cL enc_Metric a1.Metrics), qi a1.Pace.Up, qi a1.Pace.Down, qi a1.Pace.UpSpan, qi a1.Pace.DownSpan, .c (cL enc_Note a1.Notes)]], []⟩) rfl rfl (ev_callG (al := [.c (cL enc_Sample a3), qs x9.Name]) (ls := []) (spec_SampleOf_ok hx10) rfl rfl rfl rfl rfl (by decide) rfl rfl rfl rfl rfl rfl) ?_; simp only [putT,st,ev,gt,hp,ofV,constT,intT,lm]
     refine WO_op rfl rfl rfl ?_
     refine WO_op (x := qi x10.1) rfl rfl rfl ?_
     refine WO_op (x := qb x10.2) rfl rfl rfl ?_; simp only [putT,st,ev,gt,hp,ofV,constT,intT,lm]
     iterate 2 (refine WO_op rfl rfl rfl ?_; simp only [putT,st,ev,gt,hp,ofV,constT,intT,lm])
     refine WO_nil (W_seq (W_region ?_))
     refine WO_op rfl rfl rfl ?_; simp only [putT,st,ev,gt,hp,ofV,constT,intT,lm]
     refine WO_nil ?_
     refine W_cond rfl (fun hc => ?_) (fun hc => ?_)
     ·
      replace H1 := tr hc H1
      refine W_seq (W_region ?_)
      refine WO_op rfl rfl rfl ?_
      refine WO_op (x := .bp 0 4) rfl rfl rfl ?_
      refine WO_op (x := .c (cL enc_Metric a1.Metrics)) rfl rfl rfl ?_
      refine WO_op rfl rfl rfl ?_; simp only [putT,st,ev,gt,hp,ofV,constT,intT,lm]
      obtain ⟨x11, hx11, H1⟩ := bnd H1
      refine WO_op rfl rfl (ev_ix (en := enc_Metric) hx11 rfl rfl rfl rfl rfl rfl rfl) ?_; simp only [putT,st,ev,gt,hp,ofV,constT,intT,lm]
      refine WO_op (x := .ag [qs x11.Name, qi x11.Kind, qi x11.Goal]) rfl rfl rfl ?_; simp only [putT,st,ev,gt,hp,ofV,constT,intT,lm]
      iterate 2 (refine WO_op rfl rfl rfl ?_; simp only [putT,st,ev,gt,hp,ofV,constT,intT,lm])
      obtain ⟨x12, hx12, H1⟩ := bnd H1
      refine WO_op (x := qi x12) (σ' := ⟨[], [some [qs a1.Name, qs a1.Target, qi a1.Low, qi a1.High, .c (cL enc_Metric a1.Metrics), qi a1.Pace.Up, qi a1.Pace.Down, qi a1.Pace.UpSpan, qi a1.Pace.DownSpan, .c (cL enc_Note a1.Notes)]], []⟩) rfl rfl (ev_callG (al := [.ag [qs x11.Name, qi x11.Kind, qi x11.Goal], qi a2, qi x10.1]) (ls := []) (spec_ByOne_ok hx12) rfl rfl rfl rfl rfl (by decide) rfl rfl rfl rfl rfl rfl) ?_; simp only [putT,st,ev,gt,hp,ofV,constT,intT,lm]
      obtain ⟨x13, hx13, H1⟩ := bnd H1
      refine WO_op (x := qi x13) (σ' := ⟨[], [some [qs a1.Name, qs a1.Target, qi a1.Low, qi a1.High, .c (cL enc_Metric a1.Metrics), qi a1.Pace.Up, qi a1.Pace.Down, qi a1.Pace.UpSpan, qi a1.Pace.DownSpan, .c (cL enc_Note a1.Notes)]], []⟩) rfl rfl (ev_callG (al := [qi v4, qi x12]) (ls := []) (spec_l1Max_ok hx13) rfl rfl rfl rfl rfl (by decide) rfl rfl rfl rfl rfl rfl) ?_; simp only [putT,st,ev,gt,hp,ofV,constT,intT,lm]
      refine WO_op rfl rfl rfl ?_; simp only [putT,st,ev,gt,hp,ofV,constT,intT,lm]
      refine WO_nil (W_region ?_)
      refine WO_op rfl rfl rfl ?_; simp only [putT,st,ev,gt,hp,ofV,constT,intT,lm]
      refine WO_nil (W_region ?_)
      iterate 3 (refine WO_op rfl rfl rfl ?_; simp only [putT,st,ev,gt,hp,ofV,constT,intT,lm])
      refine WO_nil ?_
      exact hW1 _ _ ((IH1 _ _ _ _ H1 rfl)) (le_intro [0] [] (by decide) (by decide) rfl (by simp [leS, leT, leA, gt]) (by simp [leB, leT, leA]) (by simp [leR]))
     ·
      replace H1 := fl hc H1
      refine W_skip ?_
      refine W_region ?_
      iterate 3 (refine WO_op rfl rfl rfl ?_; simp only [putT,st,ev,gt,hp,ofV,constT,intT,lm])
      refine WO_nil ?_
      exact hW1 _ _ ((IH1 _ _ _ _ H1 rfl)) (le_intro [0] [] (by decide) (by decide) rfl (by simp [leS, leT, leA, gt]) (by simp [leB, leT, leA]) (by simp [leR]))
    ·
     replace H1 := fl hc H1
     refine W_exit ?_
     obtain rfl := Option.some.inj H1
     exact hX1 (v4, v5) _ rfl (le_intro [] [] (by decide) (by decide) rfl (by simp [leS, leT, leA, gt]) (by simp [leB, leT, leA]) (by simp [leR]))
   ·
    replace H1 := fl hc H1
    simp only [putT,st,ev,gt,hp,ofV,constT,intT,lm]
    iterate 2 refine WO_skip rfl rfl ?_
    refine WO_op (x := qb false) rfl rfl rfl ?_; simp only [putT,st,ev,gt,hp,ofV,constT,intT,lm]
    refine WO_nil ?_
    refine W_cond (t := false) rfl (fun h => by cases h) (fun _ => ?_)
    refine W_exit ?_
    obtain rfl := Option.some.inj H1
    exact hX1 (v4, v5) _ rfl (le_intro [] [] (by decide) (by decide) rfl (by simp [leS, leT, leA, gt]) (by simp [leB, leT, leA]) (by simp [leR]))
  ·
   replace H1 := fl hc H1
   simp only [putT,st,ev,gt,hp,ofV,constT,intT,lm]
   iterate 2 refine WO_skip rfl rfl ?_
   refine WO_op (x := qb false) rfl rfl rfl ?_
   refine WO_op rfl rfl rfl ?_; simp only [putT,st,ev,gt,hp,ofV,constT,intT,lm]
   iterate 2 refine WO_skip rfl rfl ?_
   refine WO_op (x := qb false) rfl rfl rfl ?_; simp only [putT,st,ev,gt,hp,ofV,constT,intT,lm]
   refine WO_nil ?_
   refine W_cond (t := false) rfl (fun h => by cases h) (fun _ => ?_)
   refine W_exit ?_
   obtain rfl := Option.some.inj H1
   exact hX1 (v4, v5) _ rfl (le_intro [] [] (by decide) (by decide) rfl (by simp [leS, leT, leA, gt]) (by simp [leB, leT, leA]) (by simp [leR]))
theorem spec_Clamp_ok {a1 : Int} {a2 : Int} {a3 : Int} {r : Int} (H : spec_Clamp a1 a2 a3 = some r) : R 32 [.c (cI .i64 a1) none, .c (cI .i64 a2) none, .c (cI .i64 a3) none] = some (.c (cI .i64 r) none, []) := by
 unfold spec_Clamp at H
 refine Fz_walk 14 rfl rfl Tryz.func32 rfl (by kernel_rfl) rfl rfl rfl rfl ?_
 simp only [tellVs, tellV, tells, tell, st0, padT, SX.newRow, SX.newBox, List.length_cons, List.length_nil, Nat.reduceAdd, Nat.reduceSub, List.replicate, List.cons_append, List.nil_append, List.foldl_cons, List.foldl_nil]
 refine W_seq (W_region ?_)
 refine WO_op rfl rfl rfl ?_; simp only [putT,st,ev,gt,hp,ofV,constT,intT,lm]
 refine WO_nil (W_seq (W_seq (W_region ?_)))
 iterate 3 (refine WO_op rfl rfl rfl ?_; simp only [putT,st,ev,gt,hp,ofV,constT,intT,lm])
 refine WO_nil ?_
 refine W_cond rfl (fun hc => ?_) (fun hc => ?_)
 ·
  replace H := tr hc H
  refine W_seq (W_region ?_)
  iterate 2 (refine WO_op rfl rfl rfl ?_; simp only [putT,st,ev,gt,hp,ofV,constT,intT,lm])
  refine WO_nil ?_
  refine W_ret ?_
  obtain rfl := Option.some.inj H
  exact told3 rfl
 ·
  replace H := fl hc H
  refine W_skip ?_
  refine W_seq (W_region ?_)
  iterate 2 (refine WO_op rfl rfl rfl ?_; simp only [putT,st,ev,gt,hp,ofV,constT,intT,lm])
  obtain ⟨x4, hx4, H⟩ := bnd H
  refine WO_op (x := qi x4) (σ' := ⟨[], [], []⟩) rfl rfl (ev_callG (al := [qi a1, qi a3]) (ls := []) (spec_l1Min_ok hx4) rfl rfl rfl rfl rfl (by decide) rfl rfl rfl rfl rfl rfl) ?_; simp only [putT,st,ev,gt,hp,ofV,constT,intT,lm]
  refine WO_op rfl rfl rfl ?_; simp only [putT,st,ev,gt,hp,ofV,constT,intT,lm]
  refine WO_nil ?_
  refine W_ret ?_
  obtain rfl := Option.some.inj H
  exact told3 rfl
theorem spec_RecAdd_ok {a1 : List Rec} {a2 : Int} {a3 : Int} {r : List Rec} (H : spec_RecAdd a1 a2 a3 = some r) : R 33 [.c (cL enc_Rec a1) none, .c (cI .i64 a2) none, .c (cI .i64 a3) none] = some (.c (cL enc_Rec r) (some 2), []) := by
 unfold spec_RecAdd at H
 refine Fz_walk 31 rfl rfl Tryz.func33 rfl (by kernel_rfl) rfl rfl rfl rfl ?_
 simp only [tellVs, tellV, tells, tell, st0, padT, SX.newRow, SX.newBox, List.length_cons, List.length_nil, Nat.reduceAdd, Nat.reduceSub, List.replicate, List.cons_append, List.nil_append, List.foldl_cons, List.foldl_nil]
 refine W_seq (W_region ?_)
 refine WO_op rfl rfl rfl ?_; simp only [putT,st,ev,gt,hp,ofV,constT,intT,lm]
 refine WO_nil (W_seq (W_region ?_))
 refine WO_op (x := .row 0) (σ' := ⟨[], [], [rr 2 enc_Rec ([] : List Rec) true]⟩) rfl rfl (ev_bs ([] : List Rec) enc_Rec rfl rfl rfl rfl) ?_; simp only [putT,st,ev,gt,hp,ofV,constT,intT,lm]
 refine WO_op rfl rfl rfl ?_; simp only [putT,st,ev,gt,hp,ofV,constT,intT,lm]
 obtain ⟨m4, hm4, H⟩ := bnd H
 refine WO_op (x := .row 1) (σ' := ⟨[], [], [none, rr 2 enc_Rec m4 true]⟩) rfl rfl (ev_app (en := enc_Rec) hm4 rfl rfl rfl rfl (Or.inl rfl) rfl rfl rfl rfl rfl rfl rfl rfl rfl rfl rfl (fun _ => rfl) rfl (Or.inr rfl) rfl) ?_; simp only [putT,st,ev,gt,hp,ofV,constT,intT,lm]
 refine WO_op rfl rfl rfl ?_; simp only [putT,st,ev,gt,hp,ofV,constT,intT,lm]
 refine WO_nil (W_seq (W_region ?_))
 iterate 3 (refine WO_op rfl rfl rfl ?_; simp only [putT,st,ev,gt,hp,ofV,constT,intT,lm])
 refine WO_op (x := .ag [qi a2, qi a3]) rfl rfl rfl ?_; simp only [putT,st,ev,gt,hp,ofV,constT,intT,lm]
 refine WO_op (x := .row 2) (σ' := ⟨[], [], [none, rr 2 enc_Rec m4 true, rr 2 enc_Rec ([(Rec.mk a2 a3)] : List Rec) true]⟩) rfl rfl (ev_bs ([(Rec.mk a2 a3)] : List Rec) enc_Rec rfl rfl rfl rfl) ?_; simp only [putT,st,ev,gt,hp,ofV,constT,intT,lm]
 obtain ⟨m5, hm5, H⟩ := bnd H
 refine WO_op (x := .row 3) (σ' := ⟨[], [], [none, none, rr 2 enc_Rec ([(Rec.mk a2 a3)] : List Rec) true, rr 2 enc_Rec m5 true]⟩) rfl rfl (ev_app (en := enc_Rec) hm5 rfl rfl rfl rfl (Or.inl rfl) rfl rfl rfl rfl rfl rfl rfl rfl rfl rfl rfl (fun _ => rfl) rfl (Or.inr rfl) rfl) ?_; simp only [putT,st,ev,gt,hp,ofV,constT,intT,lm]
 refine WO_op rfl rfl rfl ?_; simp only [putT,st,ev,gt,hp,ofV,constT,intT,lm]
 refine WO_nil (W_seq (W_seq (W_region ?_)))
 iterate 3 (refine WO_op rfl rfl rfl ?_; simp only [putT,st,ev,gt,hp,ofV,constT,intT,lm])
 refine WO_nil ?_
 refine W_cond rfl (fun hc => ?_) (fun hc => ?_)
 ·
  replace H := tr hc H
  refine W_region ?_
  refine WO_op (x := .row 4) (σ' := ⟨[], [], [none, none, rr 2 enc_Rec ([(Rec.mk a2 a3)] : List Rec) true, rr 2 enc_Rec m5 true, rr 2 enc_Rec ([] : List Rec) true]⟩) rfl rfl (ev_bs ([] : List Rec) enc_Rec rfl rfl rfl rfl) ?_; simp only [putT,st,ev,gt,hp,ofV,constT,intT,lm]
  refine WO_op rfl rfl rfl ?_; simp only [putT,st,ev,gt,hp,ofV,constT,intT,lm]
  obtain ⟨s6, hs6, H⟩ := bnd H
  refine WO_op rfl rfl (ev_slR (en := enc_Rec) hs6 rfl rfl rfl rfl rfl ⟨_, rfl⟩ rfl) ?_; simp only [putT,st,ev,gt,hp,ofV,constT,intT,lm]
  obtain ⟨m7, hm7, H⟩ := bnd H
  refine WO_op (x := .row 5) (σ' := ⟨[], [], [none, none, rr 2 enc_Rec ([(Rec.mk a2 a3)] : List Rec) true, rr 2 enc_Rec m5 true, none, rr 2 enc_Rec m7 true]⟩) rfl rfl (ev_app (en := enc_Rec) hm7 rfl rfl rfl rfl (Or.inl rfl) rfl rfl rfl rfl rfl rfl (el_sl (en := enc_Rec) hs6 rfl rfl rfl) rfl rfl rfl rfl (fun _ => rfl) rfl (Or.inr rfl) rfl) ?_; simp only [putT,st,ev,gt,hp,ofV,constT,intT,lm]
  refine WO_op rfl rfl rfl ?_; simp only [putT,st,ev,gt,hp,ofV,constT,intT,lm]
  refine WO_nil (W_seq (W_seq (W_region ?_)))
  refine WO_op rfl rfl rfl ?_; simp only [putT,st,ev,gt,hp,ofV,constT,intT,lm]
  obtain ⟨x8, hx8, H⟩ := bnd H
  refine WO_op (x := qb x8) (σ' := ⟨[], [], [none, none, rr 2 enc_Rec ([(Rec.mk a2 a3)] : List Rec) true, rr 2 enc_Rec m5 true, none, rr 2 enc_Rec m7 true]⟩) rfl rfl (ev_callG (al := [.row 5]) (ls := []) (spec_RecsOk_ok hx8) rfl rfl rfl rfl rfl (by decide) rfl rfl rfl rfl rfl rfl) ?_; simp only [putT,st,ev,gt,hp,ofV,constT,intT,lm]
  refine WO_op rfl rfl rfl ?_; simp only [putT,st,ev,gt,hp,ofV,constT,intT,lm]
  refine WO_nil ?_
  refine W_cond rfl (fun hc => ?_) (fun hc => ?_)
  ·
   replace H := tr hc H
   refine W_seq (W_region ?_)
   refine WO_op (x := .row 6) (σ' := ⟨[], [], [none, none, rr 2 enc_Rec ([(Rec.mk a2 a3)] : List Rec) true, rr 2 enc_Rec m5 true, none, rr 2 enc_Rec m7 true, rr 2 enc_Rec ([] : List Rec) true]⟩) rfl rfl (ev_bs ([] : List Rec) enc_Rec rfl rfl rfl rfl) ?_; simp only [putT,st,ev,gt,hp,ofV,constT,intT,lm]
   refine WO_op rfl rfl rfl ?_; simp only [putT,st,ev,gt,hp,ofV,constT,intT,lm]
   obtain ⟨m9, hm9, H⟩ := bnd H
   refine WO_op (x := .row 7) (σ' := ⟨[], [], [none, none, rr 2 enc_Rec ([(Rec.mk a2 a3)] : List Rec) true, rr 2 enc_Rec m5 true, none, rr 2 enc_Rec m7 true, none, rr 2 enc_Rec m9 true]⟩) rfl rfl (ev_app (en := enc_Rec) hm9 rfl rfl rfl rfl (Or.inl rfl) rfl rfl rfl rfl rfl rfl rfl rfl rfl rfl rfl (fun _ => rfl) rfl (Or.inr rfl) rfl) ?_; simp only [putT,st,ev,gt,hp,ofV,constT,intT,lm]
   refine WO_op rfl rfl rfl ?_; simp only [putT,st,ev,gt,hp,ofV,constT,intT,lm]
   refine WO_nil ?_
   refine W_ret ?_
   obtain rfl := Option.some.inj H
   exact told5 rfl rfl rfl rfl (fitAs_nz rfl) rfl
  ·
   replace H := fl hc H
   refine W_skip ?_
   refine W_seq (W_region ?_)
   iterate 2 (refine WO_op rfl rfl rfl ?_; simp only [putT,st,ev,gt,hp,ofV,constT,intT,lm])
   refine WO_nil ?_
   refine W_ret ?_
   obtain rfl := Option.some.inj H
   exact told5 rfl rfl rfl rfl (fitAs_nz rfl) rfl
 ·
  replace H := fl hc H
  refine W_skip ?_
  refine W_seq (W_seq (W_region ?_))
  refine WO_op rfl rfl rfl ?_; simp only [putT,st,ev,gt,hp,ofV,constT,intT,lm]
  obtain ⟨x10, hx10, H⟩ := bnd H
  refine WO_op (x := qb x10) (σ' := ⟨[], [], [none, none, rr 2 enc_Rec ([(Rec.mk a2 a3)] : List Rec) true, rr 2 enc_Rec m5 true]⟩) rfl rfl (ev_callG (al := [.row 3]) (ls := []) (spec_RecsOk_ok hx10) rfl rfl rfl rfl rfl (by decide) rfl rfl rfl rfl rfl rfl) ?_; simp only [putT,st,ev,gt,hp,ofV,constT,intT,lm]
  refine WO_op rfl rfl rfl ?_; simp only [putT,st,ev,gt,hp,ofV,constT,intT,lm]
  refine WO_nil ?_
  refine W_cond rfl (fun hc => ?_) (fun hc => ?_)
  ·
   replace H := tr hc H
   refine W_seq (W_region ?_)
   refine WO_op (x := .row 4) (σ' := ⟨[], [], [none, none, rr 2 enc_Rec ([(Rec.mk a2 a3)] : List Rec) true, rr 2 enc_Rec m5 true, rr 2 enc_Rec ([] : List Rec) true]⟩) rfl rfl (ev_bs ([] : List Rec) enc_Rec rfl rfl rfl rfl) ?_; simp only [putT,st,ev,gt,hp,ofV,constT,intT,lm]
   refine WO_op rfl rfl rfl ?_; simp only [putT,st,ev,gt,hp,ofV,constT,intT,lm]
   obtain ⟨m11, hm11, H⟩ := bnd H
   refine WO_op (x := .row 5) (σ' := ⟨[], [], [none, none, rr 2 enc_Rec ([(Rec.mk a2 a3)] : List Rec) true, rr 2 enc_Rec m5 true, none, rr 2 enc_Rec m11 true]⟩) rfl rfl (ev_app (en := enc_Rec) hm11 rfl rfl rfl rfl (Or.inl rfl) rfl rfl rfl rfl rfl rfl rfl rfl rfl rfl rfl (fun _ => rfl) rfl (Or.inr rfl) rfl) ?_; simp only [putT,st,ev,gt,hp,ofV,constT,intT,lm]
   refine WO_op rfl rfl rfl ?_; simp only [putT,st,ev,gt,hp,ofV,constT,intT,lm]
   refine WO_nil ?_
   refine W_ret ?_
   obtain rfl := Option.some.inj H
   exact told5 rfl rfl rfl rfl (fitAs_nz rfl) rfl
  ·
   replace H := fl hc H
   refine W_skip ?_
   refine W_seq (W_region ?_)
   iterate 2 (refine WO_op rfl rfl rfl ?_; simp only [putT,st,ev,gt,hp,ofV,constT,intT,lm])
   refine WO_nil ?_
   refine W_ret ?_
   obtain rfl := Option.some.inj H
   exact told5 rfl rfl rfl rfl (fitAs_nz rfl) rfl
theorem spec_Lately_ok {a1 : List Rec} {a2 : Int} {a3 : Int} {r : List Int} (H : spec_Lately a1 a2 a3 = some r) : R 73 [.c (cL enc_Rec a1) none, .c (cI .i64 a2) none, .c (cI .i64 a3) none] = some (.c (cL eI r) (some 1), []) := by
 unfold spec_Lately at H
 refine Fz_walk 52 rfl rfl Tryz.func73 rfl (by kernel_rfl) rfl rfl rfl rfl ?_
 simp only [tellVs, tellV, tells, tell, st0, padT, SX.newRow, SX.newBox, List.length_cons, List.length_nil, Nat.reduceAdd, Nat.reduceSub, List.replicate, List.cons_append, List.nil_append, List.foldl_cons, List.foldl_nil]
 refine W_seq (W_region ?_)
 refine WO_op rfl rfl rfl ?_; simp only [putT,st,ev,gt,hp,ofV,constT,intT,lm]
 refine WO_nil (W_seq (W_region ?_))
 refine WO_op (x := .row 0) (σ' := ⟨[], [], [rr 1 eI ([] : List Int) true]⟩) rfl rfl (ev_bs ([] : List Int) eI rfl rfl rfl rfl) ?_; simp only [putT,st,ev,gt,hp,ofV,constT,intT,lm]
 refine WO_op rfl rfl rfl ?_; simp only [putT,st,ev,gt,hp,ofV,constT,intT,lm]
 refine WO_nil (W_seq (W_seq (W_region ?_)))
 refine WO_op rfl rfl rfl ?_; simp only [putT,st,ev,gt,hp,ofV,constT,intT,lm]
 refine WO_nil ?_
 refine W_block ?_
 obtain ⟨t11, ht11, H⟩ := bnd H
 refine loop_rule (ls := []) 0 (fun t11 : List Int => ⟨[.no, .no, .no, .no, .no, .no, .no, .row 0], [], [rr 1 eI t11 true]⟩) (fun t => t11 = t) ⟨[.c (cL enc_Rec a1), qi a2, qi a3, .no, .no, .no, .no, .row 0, qi 0], [], [rr 1 eI ([] : List Int) true]⟩ (by repeat (first | exact mono_told | refine mono_seq ?_ | refine mono_blk ?_ | refine mono_lp ?_)) (le_intro [] [0] (by decide) (by decide) rfl (by simp [leS, leT, leA, gt]) (by simp [leB, leT, leA]) (by simp [leR])) ?_ ?_
 ·
  rintro t1 rfl
  refine W_seq (W_region ?_)
  iterate 2 (refine WO_op rfl rfl rfl ?_; simp only [putT,st,ev,gt,hp,ofV,constT,intT,lm])
  refine WO_nil ?_
  refine W_ret ?_
  obtain rfl := Option.some.inj H
  exact told5 rfl rfl rfl rfl (fitAs_nz rfl) rfl
 ·
  intro V1 hV1 hW1 hX1
  refine (spec_Lately.l0.partial_correctness a1 a2 a3 (fun v4 v5 s' => s' = t11 → (V1 ⟨[.c (cL enc_Rec a1), qi a2, qi a3, .no, .no, .no, .no, .row 0, qi v4], [], [rr 1 eI v5 true]⟩)) ?_ _ _ _ ht11 rfl)
  intro l0 IH1 v4 v5 s' H1 e
  subst e
  refine hV1 _ ?_
  refine W_seq (W_seq (W_region ?_))
  iterate 4 (refine WO_op rfl rfl rfl ?_; simp only [putT,st,ev,gt,hp,ofV,constT,intT,lm])
  refine WO_nil ?_
  refine W_cond rfl (fun hc => ?_) (fun hc => ?_)
  ·
   replace H1 := tr hc H1
   refine W_skip ?_
   refine W_seq ?_
   refine W_block ?_
   refine W_seq (W_region ?_)
   iterate 2 (refine WO_op rfl rfl rfl ?_; simp only [putT,st,ev,gt,hp,ofV,constT,intT,lm])
   obtain ⟨x6, hx6, H1⟩ := bnd H1
   refine WO_op rfl rfl (ev_ix (en := enc_Rec) hx6 rfl rfl rfl rfl rfl rfl rfl) ?_; simp only [putT,st,ev,gt,hp,ofV,constT,intT,lm]
   refine WO_op (x := .cp (enc_Rec x6) 0) rfl rfl rfl ?_
   refine WO_op (x := qi x6.Time) rfl rfl rfl ?_
   refine WO_op rfl rfl rfl ?_; simp only [putT,st,ev,gt,hp,ofV,constT,intT,lm]
   refine WO_nil (W_seq (W_region ?_))
   iterate 4 (refine WO_op rfl rfl rfl ?_; simp only [putT,st,ev,gt,hp,ofV,constT,intT,lm])
   refine WO_if rfl rfl rfl (fun hc => ?_) (fun hc => ?_)
   ·
    replace H1 := tr hc H1
    simp only [putT,st,ev,gt,hp,ofV,constT,intT,lm]
    iterate 4 (refine WO_want rfl rfl rfl ?_; simp only [putT,st,ev,gt,hp,ofV,constT,intT,lm])
    refine WO_if rfl rfl rfl (fun hc => ?_) (fun hc => ?_)
    ·
     replace H1 := tr hc H1
     simp only [putT,st,ev,gt,hp,ofV,constT,intT,lm]
     iterate 11 refine WO_skip rfl rfl ?_
     refine WO_want (x := qb true) rfl rfl rfl ?_
     refine WO_op (x := qb true) rfl rfl rfl ?_; simp only [putT,st,ev,gt,hp,ofV,constT,intT,lm]
     refine WO_nil ?_
     refine W_cond (t := true) rfl (fun _ => ?_) (fun h => by cases h)
     refine W_region ?_
     iterate 3 (refine WO_op rfl rfl rfl ?_; simp only [putT,st,ev,gt,hp,ofV,constT,intT,lm])
     obtain ⟨x7, hx7, H1⟩ := bnd H1
     refine WO_op rfl rfl (ev_ix (en := enc_Rec) hx7 rfl rfl rfl rfl rfl rfl rfl) ?_; simp only [putT,st,ev,gt,hp,ofV,constT,intT,lm]
     refine WO_op (x := .cp (enc_Rec x7) 1) rfl rfl rfl ?_
     refine WO_op (x := qi x7.N) rfl rfl rfl ?_; simp only [putT,st,ev,gt,hp,ofV,constT,intT,lm]
     refine WO_op (x := .row 1) (σ' := ⟨[], [], [rr 1 eI v5 true, rr 1 eI ([x7.N] : List Int) true]⟩) rfl rfl (ev_bs ([x7.N] : List Int) eI rfl rfl rfl rfl) ?_; simp only [putT,st,ev,gt,hp,ofV,constT,intT,lm]
     obtain ⟨m8, hm8, H1⟩ := bnd H1
     refine WO_op (x := .row 2) (σ' := ⟨[], [], [none, rr 1 eI ([x7.N] : List Int) true, rr 1 eI m8 true]⟩) rfl rfl (ev_app (en := eI) hm8 rfl rfl rfl rfl (Or.inl rfl) rfl rfl rfl rfl rfl rfl rfl rfl rfl rfl rfl (fun _ => rfl) rfl (Or.inr rfl) rfl) ?_; simp only [putT,st,ev,gt,hp,ofV,constT,intT,lm]
     refine WO_op rfl rfl rfl ?_; simp only [putT,st,ev,gt,hp,ofV,constT,intT,lm]
     refine WO_nil (W_region ?_)
     iterate 3 (refine WO_op rfl rfl rfl ?_; simp only [putT,st,ev,gt,hp,ofV,constT,intT,lm])
     refine WO_nil ?_
     exact hW1 _ _ ((IH1 _ _ _ H1 rfl)) (le_intro [] [2] (by decide) (by decide) rfl (by simp [leS, leT, leA, gt]) (by simp [leB, leT, leA]) (by simp [leR]))
    ·
     replace H1 := fl hc H1
     simp only [putT,st,ev,gt,hp,ofV,constT,intT,lm]
     iterate 5 (refine WO_want rfl rfl rfl ?_; simp only [putT,st,ev,gt,hp,ofV,constT,intT,lm])
     refine WO_if rfl rfl rfl (fun hc => ?_) (fun hc => ?_)
     ·
      replace H1 := tr hc H1
      simp only [putT,st,ev,gt,hp,ofV,constT,intT,lm]
      iterate 5 (refine WO_want rfl rfl rfl ?_; simp only [putT,st,ev,gt,hp,ofV,constT,intT,lm])
      iterate 2 (refine WO_want (x := qb (decide ((IntKind.i64.wrap (a2 - x6.Time)) ≤ a3))) rfl rfl rfl ?_; simp only [putT,st,ev,gt,hp,ofV,constT,intT,lm])
      refine WO_op (x := qb (decide ((IntKind.i64.wrap (a2 - x6.Time)) ≤ a3))) rfl rfl rfl ?_; simp only [putT,st,ev,gt,hp,ofV,constT,intT,lm]
      refine WO_nil ?_
      refine W_cond rfl (fun hc => ?_) (fun hc => ?_)
      ·
       replace H1 := tr hc H1
       refine W_region ?_
       iterate 3 (refine WO_op rfl rfl rfl ?_; simp only [putT,st,ev,gt,hp,ofV,constT,intT,lm])
       obtain ⟨x9, hx9, H1⟩ := bnd H1
       refine WO_op rfl rfl (ev_ix (en := enc_Rec) hx9 rfl rfl rfl rfl rfl rfl rfl) ?_; simp only [putT,st,ev,gt,hp,ofV,constT,intT,lm]
       refine WO_op (x := .cp (enc_Rec x9) 1) rfl rfl rfl ?_
       refine WO_op (x := qi x9.N) rfl rfl rfl ?_; simp only [putT,st,ev,gt,hp,ofV,constT,intT,lm]
       refine WO_op (x := .row 1) (σ' := ⟨[], [], [rr 1 eI v5 true, rr 1 eI ([x9.N] : List Int) true]⟩) rfl rfl (ev_bs ([x9.N] : List Int) eI rfl rfl rfl rfl) ?_; simp only [putT,st,ev,gt,hp,ofV,constT,intT,lm]
       obtain ⟨m10, hm10, H1⟩ := bnd H1
       refine WO_op (x := .row 2) (σ' := ⟨[], [], [none, rr 1 eI ([x9.N] : List Int) true, rr 1 eI m10 true]⟩) rfl rfl (ev_app (en := eI) hm10 rfl rfl rfl rfl (Or.inl rfl) rfl rfl rfl rfl rfl rfl rfl rfl rfl rfl rfl (fun _ => rfl) rfl (Or.inr rfl) rfl) ?_; simp only [putT,st,ev,gt,hp,ofV,constT,intT,lm]
       refine WO_op rfl rfl rfl ?_; simp only [putT,st,ev,gt,hp,ofV,constT,intT,lm]
       refine WO_nil (W_region ?_)
       iterate 3 (refine WO_op rfl rfl rfl ?_; simp only [putT,st,ev,gt,hp,ofV,constT,intT,lm])
       refine WO_nil ?_
       exact hW1 _ _ ((IH1 _ _ _ H1 rfl)) (le_intro [] [2] (by decide) (by decide) rfl (by simp [leS, leT, leA, gt]) (by simp [leB, leT, leA]) (by simp [leR]))
      ·
       replace H1 := fl hc H1
       refine W_skip ?_
       refine W_region ?_
       iterate 3 (refine WO_op rfl rfl rfl ?_; simp only [putT,st,ev,gt,hp,ofV,constT,intT,lm])
       refine WO_nil ?_
       exact hW1 _ _ ((IH1 _ _ _ H1 rfl)) (le_intro [] [0] (by decide) (by decide) rfl (by simp [leS, leT, leA, gt]) (by simp [leB, leT, leA]) (by simp [leR]))
     ·
      replace H1 := fl hc H1
      simp only [putT,st,ev,gt,hp,ofV,constT,intT,lm]
      iterate 5 refine WO_skip rfl rfl ?_
      simp only [putT,st,ev,gt,hp,ofV,constT,intT,lm]
      iterate 2 (refine WO_want (x := qb false) rfl rfl rfl ?_; simp only [putT,st,ev,gt,hp,ofV,constT,intT,lm])
      refine WO_op (x := qb false) rfl rfl rfl ?_; simp only [putT,st,ev,gt,hp,ofV,constT,intT,lm]
      refine WO_nil ?_
      refine W_cond (t := false) rfl (fun h => by cases h) (fun _ => ?_)
      refine W_skip ?_
      refine W_region ?_
      iterate 3 (refine WO_op rfl rfl rfl ?_; simp only [putT,st,ev,gt,hp,ofV,constT,intT,lm])
      refine WO_nil ?_
      exact hW1 _ _ ((IH1 _ _ _ H1 rfl)) (le_intro [] [0] (by decide) (by decide) rfl (by simp [leS, leT, leA, gt]) (by simp [leB, leT, leA]) (by simp [leR]))
   ·
    replace H1 := fl hc H1
    simp only [putT,st,ev,gt,hp,ofV,constT,intT,lm]
    iterate 16 refine WO_skip rfl rfl ?_
    refine WO_op (x := qb false) rfl rfl rfl ?_; simp only [putT,st,ev,gt,hp,ofV,constT,intT,lm]
    refine WO_nil ?_
    refine W_cond (t := false) rfl (fun h => by cases h) (fun _ => ?_)
    refine W_skip ?_
    refine W_region ?_
    iterate 3 (refine WO_op rfl rfl rfl ?_; simp only [putT,st,ev,gt,hp,ofV,constT,intT,lm])
    refine WO_nil ?_
    exact hW1 _ _ ((IH1 _ _ _ H1 rfl)) (le_intro [] [0] (by decide) (by decide) rfl (by simp [leS, leT, leA, gt]) (by simp [leB, leT, leA]) (by simp [leR]))
  ·
   replace H1 := fl hc H1
   refine W_exit ?_
   obtain rfl := Option.some.inj H1
   exact hX1 v5 _ rfl (le_intro [] [0] (by decide) (by decide) rfl (by simp [leS, leT, leA, gt]) (by simp [leB, leT, leA]) (by simp [leR]))
theorem spec_Steady_ok {a1 : Pace} {a2 : List Rec} {a3 : Int} {a4 : Int} {a5 : Int} {r : Int} (H : spec_Steady a1 a2 a3 a4 a5 = some r) : R 35 [.ag [(cI .i64 a1.Up, none), (cI .i64 a1.Down, none), (cI .i64 a1.UpSpan, none), (cI .i64 a1.DownSpan, none)], .c (cL enc_Rec a2) none, .c (cI .i64 a3) none, .c (cI .i64 a4) none, .c (cI .i64 a5) none] = some (.c (cI .i64 r) none, []) := by
 unfold spec_Steady at H
 refine Fz_walk 64 rfl rfl Tryz.func35 rfl (by kernel_rfl) rfl rfl rfl rfl ?_
 simp only [tellVs, tellV, tells, tell, st0, padT, SX.newRow, SX.newBox, List.length_cons, List.length_nil, Nat.reduceAdd, Nat.reduceSub, List.replicate, List.cons_append, List.nil_append, List.foldl_cons, List.foldl_nil]
 refine W_seq (W_region ?_)
 refine WO_op (x := .bp 0 0) (σ' := ⟨[], [some [qi a1.Up, qi a1.Down, qi a1.UpSpan, qi a1.DownSpan]], []⟩) rfl rfl rfl ?_
 refine WO_op rfl rfl rfl ?_; simp only [putT,st,ev,gt,hp,ofV,constT,intT,lm]
 refine WO_nil (W_seq (W_region ?_))
 iterate 2 (refine WO_op rfl rfl rfl ?_; simp only [putT,st,ev,gt,hp,ofV,constT,intT,lm])
 refine WO_nil (W_seq (W_seq (W_region ?_)))
 iterate 3 (refine WO_op rfl rfl rfl ?_; simp only [putT,st,ev,gt,hp,ofV,constT,intT,lm])
 refine WO_nil ?_
 refine W_cond rfl (fun hc => ?_) (fun hc => ?_)
 ·
  replace H := tr hc H
  refine W_seq (W_region ?_)
  iterate 2 (refine WO_op rfl rfl rfl ?_; simp only [putT,st,ev,gt,hp,ofV,constT,intT,lm])
  refine WO_op (x := .bp 0 3) rfl rfl rfl ?_
  refine WO_op (x := qi a1.DownSpan) rfl rfl rfl ?_; simp only [putT,st,ev,gt,hp,ofV,constT,intT,lm]
  obtain ⟨x6, hx6, H⟩ := bnd H
  refine WO_op (x := .row 0) (σ' := ⟨[], [some [qi a1.Up, qi a1.Down, qi a1.UpSpan, qi a1.DownSpan]], [rr 1 eI x6 true]⟩) rfl rfl (ev_callG (al := [.c (cL enc_Rec a2), qi a3, qi a1.DownSpan]) (ls := []) (spec_Lately_ok hx6) rfl rfl rfl rfl rfl (by decide) rfl rfl (by simp only [flatA, flatV, flatC, List.all_cons, List.all_nil, Option.all_some, Bool.and_self, Bool.or_true, fl_eI]) rfl rfl rfl) ?_; simp only [putT,st,ev,gt,hp,ofV,constT,intT,lm]
  refine WO_op rfl rfl rfl ?_; simp only [putT,st,ev,gt,hp,ofV,constT,intT,lm]
  refine WO_nil (W_seq (W_seq (W_region ?_)))
  refine WO_op rfl rfl rfl ?_; simp only [putT,st,ev,gt,hp,ofV,constT,intT,lm]
  refine WO_nil ?_
  refine W_block ?_
  obtain ⟨t11, ht11, H⟩ := bnd H
  refine loop_rule (ls := []) 0 (fun t11 : Int => ⟨[.no, .no, .no, qi a4, .no, .no, .no, .no, .no, .no, .no, qi t11], [], []⟩) (fun t => t11 = t) ⟨[.no, .no, .no, qi a4, .no, .no, .no, .no, .no, .no, .no, qi a5, .row 0, qi 0], [], [rr 1 eI x6 true]⟩ (by repeat (first | exact mono_told | refine mono_seq ?_ | refine mono_blk ?_ | refine mono_lp ?_)) (le_intro [] [0] (by decide) (by decide) rfl (by simp [leS, leT, leA, gt]) (by simp [leB, leT, leA]) (by simp [leR])) ?_ ?_
  ·
   rintro t1 rfl
   refine W_seq (W_region ?_)
   iterate 2 (refine WO_op rfl rfl rfl ?_; simp only [putT,st,ev,gt,hp,ofV,constT,intT,lm])
   obtain ⟨x12, hx12, H⟩ := bnd H
   refine WO_op (x := qi x12) (σ' := ⟨[], [], []⟩) rfl rfl (ev_callG (al := [qi t11, qi a4]) (ls := []) (spec_l1Min_ok hx12) rfl rfl rfl rfl rfl (by decide) rfl rfl rfl rfl rfl rfl) ?_; simp only [putT,st,ev,gt,hp,ofV,constT,intT,lm]
   refine WO_op rfl rfl rfl ?_; simp only [putT,st,ev,gt,hp,ofV,constT,intT,lm]
   refine WO_nil ?_
   refine W_ret ?_
   obtain rfl := Option.some.inj H
   exact told3 rfl
  ·
   intro V1 hV1 hW1 hX1
   refine (spec_Steady.l0.partial_correctness x6 (fun v7 v8 s' => s' = t11 → (V1 ⟨[.no, .no, .no, qi a4, .no, .no, .no, .no, .no, .no, .no, qi v7, .row 0, qi v8], [], [rr 1 eI x6 true]⟩)) ?_ _ _ _ ht11 rfl)
   intro l0 IH1 v7 v8 s' H1 e
   subst e
   refine hV1 _ ?_
   refine W_seq (W_seq (W_region ?_))
   iterate 4 (refine WO_op rfl rfl rfl ?_; simp only [putT,st,ev,gt,hp,ofV,constT,intT,lm])
   refine WO_nil ?_
   refine W_cond rfl (fun hc => ?_) (fun hc => ?_)
   ·
    replace H1 := tr hc H1
    refine W_skip ?_
    refine W_seq ?_
    refine W_block ?_
    refine W_region ?_
    iterate 3 (refine WO_op rfl rfl rfl ?_; simp only [putT,st,ev,gt,hp,ofV,constT,intT,lm])
    obtain ⟨x9, hx9, H1⟩ := bnd H1
    refine WO_op rfl rfl (ev_ixR (en := eI) hx9 rfl rfl rfl rfl rfl rfl rfl) ?_; simp only [putT,st,ev,gt,hp,ofV,constT,intT,lm]
    refine WO_op (x := qi x9) rfl rfl (ev_ldR (en := eI) hx9 rfl rfl rfl rfl) ?_; simp only [putT,st,ev,gt,hp,ofV,constT,intT,lm]
    obtain ⟨x10, hx10, H1⟩ := bnd H1
    refine WO_op (x := qi x10) (σ' := ⟨[], [], [rr 1 eI x6 true]⟩) rfl rfl (ev_callG (al := [qi v7, qi x9]) (ls := []) (spec_l1Max_ok hx10) rfl rfl rfl rfl rfl (by decide) rfl rfl rfl rfl rfl rfl) ?_; simp only [putT,st,ev,gt,hp,ofV,constT,intT,lm]
    refine WO_op rfl rfl rfl ?_; simp only [putT,st,ev,gt,hp,ofV,constT,intT,lm]
    refine WO_nil (W_region ?_)
    iterate 3 (refine WO_op rfl rfl rfl ?_; simp only [putT,st,ev,gt,hp,ofV,constT,intT,lm])
    refine WO_nil ?_
    exact hW1 _ _ ((IH1 _ _ _ H1 rfl)) (le_intro [] [0] (by decide) (by decide) rfl (by simp [leS, leT, leA, gt]) (by simp [leB, leT, leA]) (by simp [leR]))
   ·
    replace H1 := fl hc H1
    refine W_exit ?_
    obtain rfl := Option.some.inj H1
    exact hX1 v7 _ rfl (le_intro [] [] (by decide) (by decide) rfl (by simp [leS, leT, leA, gt]) (by simp [leB, leT, leA]) (by simp [leR]))
 ·
  replace H := fl hc H
  refine W_skip ?_
  refine W_seq (W_seq (W_region ?_))
  iterate 3 (refine WO_op rfl rfl rfl ?_; simp only [putT,st,ev,gt,hp,ofV,constT,intT,lm])
  refine WO_nil ?_
  refine W_cond rfl (fun hc => ?_) (fun hc => ?_)
  ·
   replace H := tr hc H
   refine W_seq (W_region ?_)
   iterate 2 (refine WO_op rfl rfl rfl ?_; simp only [putT,st,ev,gt,hp,ofV,constT,intT,lm])
   refine WO_op (x := .bp 0 2) rfl rfl rfl ?_
   refine WO_op (x := qi a1.UpSpan) rfl rfl rfl ?_; simp only [putT,st,ev,gt,hp,ofV,constT,intT,lm]
   obtain ⟨x14, hx14, H⟩ := bnd H
   refine WO_op (x := .row 0) (σ' := ⟨[], [some [qi a1.Up, qi a1.Down, qi a1.UpSpan, qi a1.DownSpan]], [rr 1 eI x14 true]⟩) rfl rfl (ev_callG (al := [.c (cL enc_Rec a2), qi a3, qi a1.UpSpan]) (ls := []) (spec_Lately_ok hx14) rfl rfl rfl rfl rfl (by decide) rfl rfl (by simp only [flatA, flatV, flatC, List.all_cons, List.all_nil, Option.all_some, Bool.and_self, Bool.or_true, fl_eI]) rfl rfl rfl) ?_; simp only [putT,st,ev,gt,hp,ofV,constT,intT,lm]
   refine WO_op rfl rfl rfl ?_; simp only [putT,st,ev,gt,hp,ofV,constT,intT,lm]
   refine WO_nil (W_seq (W_seq (W_region ?_)))
   refine WO_op rfl rfl rfl ?_; simp only [putT,st,ev,gt,hp,ofV,constT,intT,lm]
   refine WO_nil ?_
   refine W_block ?_
   obtain ⟨t19, ht19, H⟩ := bnd H
   refine loop_rule (ls := []) 2 (fun t19 : Int => ⟨[.no, .no, .no, qi a4, .no, .no, .no, .no, .no, .no, .no, qi t19], [], []⟩) (fun t => t19 = t) ⟨[.no, .no, .no, qi a4, .no, .no, .no, .no, .no, .no, .no, qi a5, .no, .no, .row 0, qi 0], [], [rr 1 eI x14 true]⟩ (by repeat (first | exact mono_told | refine mono_seq ?_ | refine mono_blk ?_ | refine mono_lp ?_)) (le_intro [] [0] (by decide) (by decide) rfl (by simp [leS, leT, leA, gt]) (by simp [leB, leT, leA]) (by simp [leR])) ?_ ?_
   ·
    rintro t1 rfl
    refine W_seq (W_region ?_)
    iterate 2 (refine WO_op rfl rfl rfl ?_; simp only [putT,st,ev,gt,hp,ofV,constT,intT,lm])
    obtain ⟨x20, hx20, H⟩ := bnd H
    refine WO_op (x := qi x20) (σ' := ⟨[], [], []⟩) rfl rfl (ev_callG (al := [qi t19, qi a4]) (ls := []) (spec_l1Max_ok hx20) rfl rfl rfl rfl rfl (by decide) rfl rfl rfl rfl rfl rfl) ?_; simp only [putT,st,ev,gt,hp,ofV,constT,intT,lm]
    refine WO_op rfl rfl rfl ?_; simp only [putT,st,ev,gt,hp,ofV,constT,intT,lm]
    refine WO_nil ?_
    refine W_ret ?_
    obtain rfl := Option.some.inj H
    exact told3 rfl
   ·
    intro V1 hV1 hW1 hX1
    refine (spec_Steady.l1.partial_correctness x14 (fun v15 v16 s' => s' = t19 → (V1 ⟨[.no, .no, .no, qi a4, .no, .no, .no, .no, .no, .no, .no, qi v15, .no, .no, .row 0, qi v16], [], [rr 1 eI x14 true]⟩)) ?_ _ _ _ ht19 rfl)
    intro l0 IH1 v15 v16 s' H1 e
    subst e
    refine hV1 _ ?_
    refine W_seq (W_seq (W_region ?_))
    iterate 4 (refine WO_op rfl rfl rfl ?_; simp only [putT,st,ev,gt,hp,ofV,constT,intT,lm])
    refine WO_nil ?_
    refine W_cond rfl (fun hc => ?_) (fun hc => ?_)
    ·
     replace H1 := tr hc H1
     refine W_skip ?_
     refine W_seq ?_
     refine W_block ?_
     refine W_region ?_
     iterate 3 (refine WO_op rfl rfl rfl ?_; simp only [putT,st,ev,gt,hp,ofV,constT,intT,lm])
     obtain ⟨x17, hx17, H1⟩ := bnd H1
     refine WO_op rfl rfl (ev_ixR (en := eI) hx17 rfl rfl rfl rfl rfl rfl rfl) ?_; simp only [putT,st,ev,gt,hp,ofV,constT,intT,lm]
     refine WO_op (x := qi x17) rfl rfl (ev_ldR (en := eI) hx17 rfl rfl rfl rfl) ?_; simp only [putT,st,ev,gt,hp,ofV,constT,intT,lm]
     obtain ⟨x18, hx18, H1⟩ := bnd H1
     refine WO_op (x := qi x18) (σ' := ⟨[], [], [rr 1 eI x14 true]⟩) rfl rfl (ev_callG (al := [qi v15, qi x17]) (ls := []) (spec_l1Min_ok hx18) rfl rfl rfl rfl rfl (by decide) rfl rfl rfl rfl rfl rfl) ?_; simp only [putT,st,ev,gt,hp,ofV,constT,intT,lm]
     refine WO_op rfl rfl rfl ?_; simp only [putT,st,ev,gt,hp,ofV,constT,intT,lm]
     refine WO_nil (W_region ?_)
     iterate 3 (refine WO_op rfl rfl rfl ?_; simp only [putT,st,ev,gt,hp,ofV,constT,intT,lm])
     refine WO_nil ?_
     exact hW1 _ _ ((IH1 _ _ _ H1 rfl)) (le_intro [] [0] (by decide) (by decide) rfl (by simp [leS, leT, leA, gt]) (by simp [leB, leT, leA]) (by simp [leR]))
    ·
     replace H1 := fl hc H1
     refine W_exit ?_
     obtain rfl := Option.some.inj H1
     exact hX1 v15 _ rfl (le_intro [] [] (by decide) (by decide) rfl (by simp [leS, leT, leA, gt]) (by simp [leB, leT, leA]) (by simp [leR]))
  ·
   replace H := fl hc H
   refine W_skip ?_
   refine W_seq (W_region ?_)
   iterate 2 (refine WO_op rfl rfl rfl ?_; simp only [putT,st,ev,gt,hp,ofV,constT,intT,lm])
   refine WO_nil ?_
   refine W_ret ?_
   obtain rfl := Option.some.inj H
   exact told3 rfl
theorem spec_Slow_ok {a1 : Pace} {a2 : Int} {a3 : Int} {r : Int} (H : spec_Slow a1 a2 a3 = some r) : R 34 [.ag [(cI .i64 a1.Up, none), (cI .i64 a1.Down, none), (cI .i64 a1.UpSpan, none), (cI .i64 a1.DownSpan, none)], .c (cI .i64 a2) none, .c (cI .i64 a3) none] = some (.c (cI .i64 r) none, []) := by
 unfold spec_Slow at H
 refine Fz_walk 60 rfl rfl Tryz.func34 rfl (by kernel_rfl) rfl rfl rfl rfl ?_
 simp only [tellVs, tellV, tells, tell, st0, padT, SX.newRow, SX.newBox, List.length_cons, List.length_nil, Nat.reduceAdd, Nat.reduceSub, List.replicate, List.cons_append, List.nil_append, List.foldl_cons, List.foldl_nil]
 refine W_seq (W_region ?_)
 refine WO_op (x := .bp 0 0) (σ' := ⟨[], [some [qi a1.Up, qi a1.Down, qi a1.UpSpan, qi a1.DownSpan]], []⟩) rfl rfl rfl ?_
 refine WO_op rfl rfl rfl ?_; simp only [putT,st,ev,gt,hp,ofV,constT,intT,lm]
 refine WO_nil (W_seq (W_seq (W_region ?_)))
 refine WO_op (x := .bp 0 0) rfl rfl rfl ?_
 refine WO_op (x := qi a1.Up) rfl rfl rfl ?_; simp only [putT,st,ev,gt,hp,ofV,constT,intT,lm]
 iterate 2 (refine WO_op rfl rfl rfl ?_; simp only [putT,st,ev,gt,hp,ofV,constT,intT,lm])
 refine WO_if rfl rfl rfl (fun hc => ?_) (fun hc => ?_)
 ·
  replace H := tr hc H
  simp only [putT,st,ev,gt,hp,ofV,constT,intT,lm]
  iterate 3 (refine WO_want rfl rfl rfl ?_; simp only [putT,st,ev,gt,hp,ofV,constT,intT,lm])
  refine WO_op (x := qb (decide (a3 > a2))) rfl rfl rfl ?_
  refine WO_op rfl rfl rfl ?_; simp only [putT,st,ev,gt,hp,ofV,constT,intT,lm]
  refine WO_if rfl rfl rfl (fun hc => ?_) (fun hc => ?_)
  ·
   replace H := tr hc H
   simp only [putT,st,ev,gt,hp,ofV,constT,intT,lm]
   iterate 3 (refine WO_want rfl rfl rfl ?_; simp only [putT,st,ev,gt,hp,ofV,constT,intT,lm])
   refine WO_want (x := .bp 0 0) rfl rfl rfl ?_
   refine WO_want (x := qi a1.Up) rfl rfl rfl ?_; simp only [putT,st,ev,gt,hp,ofV,constT,intT,lm]
   iterate 2 (refine WO_want rfl rfl rfl ?_; simp only [putT,st,ev,gt,hp,ofV,constT,intT,lm])
   refine WO_if rfl rfl rfl (fun hc => ?_) (fun hc => ?_)
   ·
    replace H := tr hc H
    simp only [putT,st,ev,gt,hp,ofV,constT,intT,lm]
    iterate 4 refine WO_skip rfl rfl ?_
    refine WO_want (x := qb true) rfl rfl rfl ?_
    refine WO_op (x := qb true) rfl rfl rfl ?_; simp only [putT,st,ev,gt,hp,ofV,constT,intT,lm]
    refine WO_nil ?_
    refine W_cond (t := true) rfl (fun _ => ?_) (fun h => by cases h)
    refine W_seq (W_region ?_)
    refine WO_op rfl rfl rfl ?_
    refine WO_op (x := .bp 0 0) rfl rfl rfl ?_
    refine WO_op (x := qi a1.Up) rfl rfl rfl ?_; simp only [putT,st,ev,gt,hp,ofV,constT,intT,lm]
    iterate 2 (refine WO_op rfl rfl rfl ?_; simp only [putT,st,ev,gt,hp,ofV,constT,intT,lm])
    refine WO_nil ?_
    refine W_ret ?_
    obtain rfl := Option.some.inj H
    exact told3 rfl
   ·
    replace H := fl hc H
    simp only [putT,st,ev,gt,hp,ofV,constT,intT,lm]
    iterate 4 (refine WO_want rfl rfl rfl ?_; simp only [putT,st,ev,gt,hp,ofV,constT,intT,lm])
    refine WO_want (x := qb (decide ((IntKind.i64.wrap (a3 - a2)) < 0))) rfl rfl rfl ?_
    refine WO_op (x := qb (decide ((IntKind.i64.wrap (a3 - a2)) < 0))) rfl rfl rfl ?_; simp only [putT,st,ev,gt,hp,ofV,constT,intT,lm]
    refine WO_nil ?_
    refine W_cond rfl (fun hc => ?_) (fun hc => ?_)
    ·
     replace H := tr hc H
     refine W_seq (W_region ?_)
     refine WO_op rfl rfl rfl ?_
     refine WO_op (x := .bp 0 0) rfl rfl rfl ?_
     refine WO_op (x := qi a1.Up) rfl rfl rfl ?_; simp only [putT,st,ev,gt,hp,ofV,constT,intT,lm]
     iterate 2 (refine WO_op rfl rfl rfl ?_; simp only [putT,st,ev,gt,hp,ofV,constT,intT,lm])
     refine WO_nil ?_
     refine W_ret ?_
     obtain rfl := Option.some.inj H
     exact told3 rfl
    ·
     replace H := fl hc H
     refine W_skip ?_
     refine W_seq (W_seq (W_region ?_))
     refine WO_op (x := .bp 0 1) rfl rfl rfl ?_
     refine WO_op (x := qi a1.Down) rfl rfl rfl ?_; simp only [putT,st,ev,gt,hp,ofV,constT,intT,lm]
     iterate 2 (refine WO_op rfl rfl rfl ?_; simp only [putT,st,ev,gt,hp,ofV,constT,intT,lm])
     refine WO_if rfl rfl rfl (fun hc => ?_) (fun hc => ?_)
     ·
      replace H := tr hc H
      simp only [putT,st,ev,gt,hp,ofV,constT,intT,lm]
      iterate 3 (refine WO_want rfl rfl rfl ?_; simp only [putT,st,ev,gt,hp,ofV,constT,intT,lm])
      refine WO_op (x := qb (decide (a3 < a2))) rfl rfl rfl ?_
      refine WO_op rfl rfl rfl ?_; simp only [putT,st,ev,gt,hp,ofV,constT,intT,lm]
      refine WO_if rfl rfl rfl (fun hc => ?_) (fun hc => ?_)
      ·
       replace H := tr hc H
       simp only [putT,st,ev,gt,hp,ofV,constT,intT,lm]
       iterate 3 (refine WO_want rfl rfl rfl ?_; simp only [putT,st,ev,gt,hp,ofV,constT,intT,lm])
       refine WO_want (x := .bp 0 1) rfl rfl rfl ?_
       refine WO_want (x := qi a1.Down) rfl rfl rfl ?_; simp only [putT,st,ev,gt,hp,ofV,constT,intT,lm]
       iterate 2 (refine WO_want rfl rfl rfl ?_; simp only [putT,st,ev,gt,hp,ofV,constT,intT,lm])
       refine WO_if rfl rfl rfl (fun hc => ?_) (fun hc => ?_)
       ·
        replace H := tr hc H
        simp only [putT,st,ev,gt,hp,ofV,constT,intT,lm]
        iterate 4 refine WO_skip rfl rfl ?_
        refine WO_want (x := qb true) rfl rfl rfl ?_
        refine WO_op (x := qb true) rfl rfl rfl ?_; simp only [putT,st,ev,gt,hp,ofV,constT,intT,lm]
        refine WO_nil ?_
        refine W_cond (t := true) rfl (fun _ => ?_) (fun h => by cases h)
        refine W_seq (W_region ?_)
        refine WO_op rfl rfl rfl ?_
        refine WO_op (x := .bp 0 1) rfl rfl rfl ?_
        refine WO_op (x := qi a1.Down) rfl rfl rfl ?_; simp only [putT,st,ev,gt,hp,ofV,constT,intT,lm]
        iterate 2 (refine WO_op rfl rfl rfl ?_; simp only [putT,st,ev,gt,hp,ofV,constT,intT,lm])
        refine WO_nil ?_
        refine W_ret ?_
        obtain rfl := Option.some.inj H
        exact told3 rfl
       ·
        replace H := fl hc H
        simp only [putT,st,ev,gt,hp,ofV,constT,intT,lm]
        iterate 4 (refine WO_want rfl rfl rfl ?_; simp only [putT,st,ev,gt,hp,ofV,constT,intT,lm])
        refine WO_want (x := qb (decide ((IntKind.i64.wrap (a2 - a3)) < 0))) rfl rfl rfl ?_
        refine WO_op (x := qb (decide ((IntKind.i64.wrap (a2 - a3)) < 0))) rfl rfl rfl ?_; simp only [putT,st,ev,gt,hp,ofV,constT,intT,lm]
        refine WO_nil ?_
        refine W_cond rfl (fun hc => ?_) (fun hc => ?_)
        ·
         replace H := tr hc H
         refine W_seq (W_region ?_)
         refine WO_op rfl rfl rfl ?_
         refine WO_op (x := .bp 0 1) rfl rfl rfl ?_
         refine WO_op (x := qi a1.Down) rfl rfl rfl ?_; simp only [putT,st,ev,gt,hp,ofV,constT,intT,lm]
         iterate 2 (refine WO_op rfl rfl rfl ?_; simp only [putT,st,ev,gt,hp,ofV,constT,intT,lm])
         refine WO_nil ?_
         refine W_ret ?_
         obtain rfl := Option.some.inj H
         exact told3 rfl
        ·
         replace H := fl hc H
         refine W_skip ?_
         refine W_seq (W_region ?_)
         iterate 2 (refine WO_op rfl rfl rfl ?_; simp only [putT,st,ev,gt,hp,ofV,constT,intT,lm])
         refine WO_nil ?_
         refine W_ret ?_
         obtain rfl := Option.some.inj H
         exact told3 rfl
      ·
       replace H := fl hc H
       simp only [putT,st,ev,gt,hp,ofV,constT,intT,lm]
       iterate 12 refine WO_skip rfl rfl ?_
       refine WO_op (x := qb false) rfl rfl rfl ?_; simp only [putT,st,ev,gt,hp,ofV,constT,intT,lm]
       refine WO_nil ?_
       refine W_cond (t := false) rfl (fun h => by cases h) (fun _ => ?_)
       refine W_skip ?_
       refine W_seq (W_region ?_)
       iterate 2 (refine WO_op rfl rfl rfl ?_; simp only [putT,st,ev,gt,hp,ofV,constT,intT,lm])
       refine WO_nil ?_
       refine W_ret ?_
       obtain rfl := Option.some.inj H
       exact told3 rfl
     ·
      replace H := fl hc H
      simp only [putT,st,ev,gt,hp,ofV,constT,intT,lm]
      iterate 3 refine WO_skip rfl rfl ?_
      refine WO_op (x := qb false) rfl rfl rfl ?_
      refine WO_op rfl rfl rfl ?_; simp only [putT,st,ev,gt,hp,ofV,constT,intT,lm]
      iterate 12 refine WO_skip rfl rfl ?_
      refine WO_op (x := qb false) rfl rfl rfl ?_; simp only [putT,st,ev,gt,hp,ofV,constT,intT,lm]
      refine WO_nil ?_
      refine W_cond (t := false) rfl (fun h => by cases h) (fun _ => ?_)
      refine W_skip ?_
      refine W_seq (W_region ?_)
      iterate 2 (refine WO_op rfl rfl rfl ?_; simp only [putT,st,ev,gt,hp,ofV,constT,intT,lm])
      refine WO_nil ?_
      refine W_ret ?_
      obtain rfl := Option.some.inj H
      exact told3 rfl
  ·
   replace H := fl hc H
   simp only [putT,st,ev,gt,hp,ofV,constT,intT,lm]
   iterate 12 refine WO_skip rfl rfl ?_
   refine WO_op (x := qb false) rfl rfl rfl ?_; simp only [putT,st,ev,gt,hp,ofV,constT,intT,lm]
   refine WO_nil ?_
   refine W_cond (t := false) rfl (fun h => by cases h) (fun _ => ?_)
   refine W_skip ?_
   refine W_seq (W_seq (W_region ?_))
   refine WO_op (x := .bp 0 1) rfl rfl rfl ?_
   refine WO_op (x := qi a1.Down) rfl rfl rfl ?_; simp only [putT,st,ev,gt,hp,ofV,constT,intT,lm]
   iterate 2 (refine WO_op rfl rfl rfl ?_; simp only [putT,st,ev,gt,hp,ofV,constT,intT,lm])
   refine WO_if rfl rfl rfl (fun hc => ?_) (fun hc => ?_)
   ·
    replace H := tr hc H
    simp only [putT,st,ev,gt,hp,ofV,constT,intT,lm]
    iterate 3 (refine WO_want rfl rfl rfl ?_; simp only [putT,st,ev,gt,hp,ofV,constT,intT,lm])
    refine WO_op (x := qb (decide (a3 < a2))) rfl rfl rfl ?_
    refine WO_op rfl rfl rfl ?_; simp only [putT,st,ev,gt,hp,ofV,constT,intT,lm]
    refine WO_if rfl rfl rfl (fun hc => ?_) (fun hc => ?_)
    ·
     replace H := tr hc H
     simp only [putT,st,ev,gt,hp,ofV,constT,intT,lm]
     iterate 3 (refine WO_want rfl rfl rfl ?_; simp only [putT,st,ev,gt,hp,ofV,constT,intT,lm])
     refine WO_want (x := .bp 0 1) rfl rfl rfl ?_
     refine WO_want (x := qi a1.Down) rfl rfl rfl ?_; simp only [putT,st,ev,gt,hp,ofV,constT,intT,lm]
     iterate 2 (refine WO_want rfl rfl rfl ?_; simp only [putT,st,ev,gt,hp,ofV,constT,intT,lm])
     refine WO_if rfl rfl rfl (fun hc => ?_) (fun hc => ?_)
     ·
      replace H := tr hc H
      simp only [putT,st,ev,gt,hp,ofV,constT,intT,lm]
      iterate 4 refine WO_skip rfl rfl ?_
      refine WO_want (x := qb true) rfl rfl rfl ?_
      refine WO_op (x := qb true) rfl rfl rfl ?_; simp only [putT,st,ev,gt,hp,ofV,constT,intT,lm]
      refine WO_nil ?_
      refine W_cond (t := true) rfl (fun _ => ?_) (fun h => by cases h)
      refine W_seq (W_region ?_)
      refine WO_op rfl rfl rfl ?_
      refine WO_op (x := .bp 0 1) rfl rfl rfl ?_
      refine WO_op (x := qi a1.Down) rfl rfl rfl ?_; simp only [putT,st,ev,gt,hp,ofV,constT,intT,lm]
      iterate 2 (refine WO_op rfl rfl rfl ?_; simp only [putT,st,ev,gt,hp,ofV,constT,intT,lm])
      refine WO_nil ?_
      refine W_ret ?_
      obtain rfl := Option.some.inj H
      exact told3 rfl
     ·
      replace H := fl hc H
      simp only [putT,st,ev,gt,hp,ofV,constT,intT,lm]
      iterate 4 (refine WO_want rfl rfl rfl ?_; simp only [putT,st,ev,gt,hp,ofV,constT,intT,lm])
      refine WO_want (x := qb (decide ((IntKind.i64.wrap (a2 - a3)) < 0))) rfl rfl rfl ?_
      refine WO_op (x := qb (decide ((IntKind.i64.wrap (a2 - a3)) < 0))) rfl rfl rfl ?_; simp only [putT,st,ev,gt,hp,ofV,constT,intT,lm]
      refine WO_nil ?_
      refine W_cond rfl (fun hc => ?_) (fun hc => ?_)
      ·
       replace H := tr hc H
       refine W_seq (W_region ?_)
       refine WO_op rfl rfl rfl ?_
       refine WO_op (x := .bp 0 1) rfl rfl rfl ?_
       refine WO_op (x := qi a1.Down) rfl rfl rfl ?_; simp only [putT,st,ev,gt,hp,ofV,constT,intT,lm]
       iterate 2 (refine WO_op rfl rfl rfl ?_; simp only [putT,st,ev,gt,hp,ofV,constT,intT,lm])
       refine WO_nil ?_
       refine W_ret ?_
       obtain rfl := Option.some.inj H
       exact told3 rfl
      ·
       replace H := fl hc H
       refine W_skip ?_
       refine W_seq (W_region ?_)
       iterate 2 (refine WO_op rfl rfl rfl ?_; simp only [putT,st,ev,gt,hp,ofV,constT,intT,lm])
       refine WO_nil ?_
       refine W_ret ?_
       obtain rfl := Option.some.inj H
       exact told3 rfl
    ·
     replace H := fl hc H
     simp only [putT,st,ev,gt,hp,ofV,constT,intT,lm]
     iterate 12 refine WO_skip rfl rfl ?_
     refine WO_op (x := qb false) rfl rfl rfl ?_; simp only [putT,st,ev,gt,hp,ofV,constT,intT,lm]
     refine WO_nil ?_
     refine W_cond (t := false) rfl (fun h => by cases h) (fun _ => ?_)
     refine W_skip ?_
     refine W_seq (W_region ?_)
     iterate 2 (refine WO_op rfl rfl rfl ?_; simp only [putT,st,ev,gt,hp,ofV,constT,intT,lm])
     refine WO_nil ?_
     refine W_ret ?_
     obtain rfl := Option.some.inj H
     exact told3 rfl
   ·
    replace H := fl hc H
    simp only [putT,st,ev,gt,hp,ofV,constT,intT,lm]
    iterate 3 refine WO_skip rfl rfl ?_
    refine WO_op (x := qb false) rfl rfl rfl ?_
    refine WO_op rfl rfl rfl ?_; simp only [putT,st,ev,gt,hp,ofV,constT,intT,lm]
    iterate 12 refine WO_skip rfl rfl ?_
    refine WO_op (x := qb false) rfl rfl rfl ?_; simp only [putT,st,ev,gt,hp,ofV,constT,intT,lm]
    refine WO_nil ?_
    refine W_cond (t := false) rfl (fun h => by cases h) (fun _ => ?_)
    refine W_skip ?_
    refine W_seq (W_region ?_)
    iterate 2 (refine WO_op rfl rfl rfl ?_; simp only [putT,st,ev,gt,hp,ofV,constT,intT,lm])
    refine WO_nil ?_
    refine W_ret ?_
    obtain rfl := Option.some.inj H
    exact told3 rfl
 ·
  replace H := fl hc H
  simp only [putT,st,ev,gt,hp,ofV,constT,intT,lm]
  iterate 3 refine WO_skip rfl rfl ?_
  refine WO_op (x := qb false) rfl rfl rfl ?_
  refine WO_op rfl rfl rfl ?_; simp only [putT,st,ev,gt,hp,ofV,constT,intT,lm]
  iterate 12 refine WO_skip rfl rfl ?_
  refine WO_op (x := qb false) rfl rfl rfl ?_; simp only [putT,st,ev,gt,hp,ofV,constT,intT,lm]
  refine WO_nil ?_
  refine W_cond (t := false) rfl (fun h => by cases h) (fun _ => ?_)
  refine W_skip ?_
  refine W_seq (W_seq (W_region ?_))
  refine WO_op (x := .bp 0 1) rfl rfl rfl ?_
  refine WO_op (x := qi a1.Down) rfl rfl rfl ?_; simp only [putT,st,ev,gt,hp,ofV,constT,intT,lm]
  iterate 2 (refine WO_op rfl rfl rfl ?_; simp only [putT,st,ev,gt,hp,ofV,constT,intT,lm])
  refine WO_if rfl rfl rfl (fun hc => ?_) (fun hc => ?_)
  ·
   replace H := tr hc H
   simp only [putT,st,ev,gt,hp,ofV,constT,intT,lm]
   iterate 3 (refine WO_want rfl rfl rfl ?_; simp only [putT,st,ev,gt,hp,ofV,constT,intT,lm])
   refine WO_op (x := qb (decide (a3 < a2))) rfl rfl rfl ?_
   refine WO_op rfl rfl rfl ?_; simp only [putT,st,ev,gt,hp,ofV,constT,intT,lm]
   refine WO_if rfl rfl rfl (fun hc => ?_) (fun hc => ?_)
   ·
    replace H := tr hc H
    simp only [putT,st,ev,gt,hp,ofV,constT,intT,lm]
    iterate 3 (refine WO_want rfl rfl rfl ?_; simp only [putT,st,ev,gt,hp,ofV,constT,intT,lm])
    refine WO_want (x := .bp 0 1) rfl rfl rfl ?_
    refine WO_want (x := qi a1.Down) rfl rfl rfl ?_; simp only [putT,st,ev,gt,hp,ofV,constT,intT,lm]
    iterate 2 (refine WO_want rfl rfl rfl ?_; simp only [putT,st,ev,gt,hp,ofV,constT,intT,lm])
    refine WO_if rfl rfl rfl (fun hc => ?_) (fun hc => ?_)
    ·
     replace H := tr hc H
     simp only [putT,st,ev,gt,hp,ofV,constT,intT,lm]
     iterate 4 refine WO_skip rfl rfl ?_
     refine WO_want (x := qb true) rfl rfl rfl ?_
     refine WO_op (x := qb true) rfl rfl rfl ?_; simp only [putT,st,ev,gt,hp,ofV,constT,intT,lm]
     refine WO_nil ?_
     refine W_cond (t := true) rfl (fun _ => ?_) (fun h => by cases h)
     refine W_seq (W_region ?_)
     refine WO_op rfl rfl rfl ?_
     refine WO_op (x := .bp 0 1) rfl rfl rfl ?_
     refine WO_op (x := qi a1.Down) rfl rfl rfl ?_; simp only [putT,st,ev,gt,hp,ofV,constT,intT,lm]
     iterate 2 (refine WO_op rfl rfl rfl ?_; simp only [putT,st,ev,gt,hp,ofV,constT,intT,lm])
     refine WO_nil ?_
     refine W_ret ?_
     obtain rfl := Option.some.inj H
     exact told3 rfl
    ·
     replace H := fl hc H
     simp only [putT,st,ev,gt,hp,ofV,constT,intT,lm]
     iterate 4 (refine WO_want rfl rfl rfl ?_; simp only [putT,st,ev,gt,hp,ofV,constT,intT,lm])
     refine WO_want (x := qb (decide ((IntKind.i64.wrap (a2 - a3)) < 0))) rfl rfl rfl ?_
     refine WO_op (x := qb (decide ((IntKind.i64.wrap (a2 - a3)) < 0))) rfl rfl rfl ?_; simp only [putT,st,ev,gt,hp,ofV,constT,intT,lm]
     refine WO_nil ?_
     refine W_cond rfl (fun hc => ?_) (fun hc => ?_)
     ·
      replace H := tr hc H
      refine W_seq (W_region ?_)
      refine WO_op rfl rfl rfl ?_
      refine WO_op (x := .bp 0 1) rfl rfl rfl ?_
      refine WO_op (x := qi a1.Down) rfl rfl rfl ?_; simp only [putT,st,ev,gt,hp,ofV,constT,intT,lm]
      iterate 2 (refine WO_op rfl rfl rfl ?_; simp only [putT,st,ev,gt,hp,ofV,constT,intT,lm])
      refine WO_nil ?_
      refine W_ret ?_
      obtain rfl := Option.some.inj H
      exact told3 rfl
     ·
      replace H := fl hc H
      refine W_skip ?_
      refine W_seq (W_region ?_)
      iterate 2 (refine WO_op rfl rfl rfl ?_; simp only [putT,st,ev,gt,hp,ofV,constT,intT,lm])
      refine WO_nil ?_
      refine W_ret ?_
      obtain rfl := Option.some.inj H
      exact told3 rfl
   ·
    replace H := fl hc H
    simp only [putT,st,ev,gt,hp,ofV,constT,intT,lm]
    iterate 12 refine WO_skip rfl rfl ?_
    refine WO_op (x := qb false) rfl rfl rfl ?_; simp only [putT,st,ev,gt,hp,ofV,constT,intT,lm]
    refine WO_nil ?_
    refine W_cond (t := false) rfl (fun h => by cases h) (fun _ => ?_)
    refine W_skip ?_
    refine W_seq (W_region ?_)
    iterate 2 (refine WO_op rfl rfl rfl ?_; simp only [putT,st,ev,gt,hp,ofV,constT,intT,lm])
    refine WO_nil ?_
    refine W_ret ?_
    obtain rfl := Option.some.inj H
    exact told3 rfl
  ·
   replace H := fl hc H
   simp only [putT,st,ev,gt,hp,ofV,constT,intT,lm]
   iterate 3 refine WO_skip rfl rfl ?_
   refine WO_op (x := qb false) rfl rfl rfl ?_
   refine WO_op rfl rfl rfl ?_; simp only [putT,st,ev,gt,hp,ofV,constT,intT,lm]
   iterate 12 refine WO_skip rfl rfl ?_
   refine WO_op (x := qb false) rfl rfl rfl ?_; simp only [putT,st,ev,gt,hp,ofV,constT,intT,lm]
   refine WO_nil ?_
   refine W_cond (t := false) rfl (fun h => by cases h) (fun _ => ?_)
   refine W_skip ?_
   refine W_seq (W_region ?_)
   iterate 2 (refine WO_op rfl rfl rfl ?_; simp only [putT,st,ev,gt,hp,ofV,constT,intT,lm])
   refine WO_nil ?_
   refine W_ret ?_
   obtain rfl := Option.some.inj H
   exact told3 rfl
theorem spec_Step_ok {a1 : Order} {a2 : Scale} {a3 : Int} {a4 : List Sample} {r : Scale × Int} (H : spec_Step a1 a2 a3 a4 = some r) : R 8 [.ag [(cS a1.Name, none), (cS a1.Target, none), (cI .i64 a1.Low, none), (cI .i64 a1.High, none), (cL enc_Metric a1.Metrics, none), (cI .i64 a1.Pace.Up, none), (cI .i64 a1.Pace.Down, none), (cI .i64 a1.Pace.UpSpan, none), (cI .i64 a1.Pace.DownSpan, none), (cL enc_Note a1.Notes, none)], .ag [(cS a2.Name, none), (cI .i64 a2.Now, none), (cL enc_Rec a2.Recs, none)], .c (cI .i64 a3) none, .c (cL enc_Sample a4) none] = some (.tu [.ag [(cS r.1.Name, none), (cI .i64 r.1.Now, none), (cL enc_Rec r.1.Recs, some 2)], .c (cI .i64 r.2) none], []) := by
 unfold spec_Step at H
 refine Fz_walk 121 rfl rfl Tryz.func8 rfl (by kernel_rfl) rfl rfl rfl rfl ?_
 simp only [tellVs, tellV, tells, tell, st0, padT, SX.newRow, SX.newBox, List.length_cons, List.length_nil, Nat.reduceAdd, Nat.reduceSub, List.replicate, List.cons_append, List.nil_append, List.foldl_cons, List.foldl_nil]
 refine W_seq (W_region ?_)
 refine WO_op (x := .bp 0 0) (σ' := ⟨[], [some [qs a1.Name, qs a1.Target, qi a1.Low, qi a1.High, .c (cL enc_Metric a1.Metrics), qi a1.Pace.Up, qi a1.Pace.Down, qi a1.Pace.UpSpan, qi a1.Pace.DownSpan, .c (cL enc_Note a1.Notes)]], []⟩) rfl rfl rfl ?_
 refine WO_op (x := .bp 1 0) (σ' := ⟨[], [some [qs a1.Name, qs a1.Target, qi a1.Low, qi a1.High, .c (cL enc_Metric a1.Metrics), qi a1.Pace.Up, qi a1.Pace.Down, qi a1.Pace.UpSpan, qi a1.Pace.DownSpan, .c (cL enc_Note a1.Notes)], some [qs a2.Name, qi a2.Now, .c (cL enc_Rec a2.Recs)]], []⟩) rfl rfl rfl ?_
 refine WO_op (x := .bp 2 0) (σ' := ⟨[], [some [qs a1.Name, qs a1.Target, qi a1.Low, qi a1.High, .c (cL enc_Metric a1.Metrics), qi a1.Pace.Up, qi a1.Pace.Down, qi a1.Pace.UpSpan, qi a1.Pace.DownSpan, .c (cL enc_Note a1.Notes)], some [qs a2.Name, qi a2.Now, .c (cL enc_Rec a2.Recs)], some [qs [], qi 0, .nil]], []⟩) rfl rfl rfl ?_
 refine WO_op rfl rfl rfl ?_; simp only [putT,st,ev,gt,hp,ofV,constT,intT,lm]
 refine WO_nil (W_seq (W_region ?_))
 refine WO_op (x := .ag [qs a2.Name, qi a2.Now, .c (cL enc_Rec a2.Recs)]) rfl rfl rfl ?_; simp only [putT,st,ev,gt,hp,ofV,constT,intT,lm]
 obtain ⟨x5, hx5, H⟩ := bnd H
 refine WO_op (x := .ag [qs x5.Name, qi x5.Now, .row 0]) (σ' := ⟨[], [some [qs a1.Name, qs a1.Target, qi a1.Low, qi a1.High, .c (cL enc_Metric a1.Metrics), qi a1.Pace.Up, qi a1.Pace.Down, qi a1.Pace.UpSpan, qi a1.Pace.DownSpan, .c (cL enc_Note a1.Notes)], some [qs a2.Name, qi a2.Now, .c (cL enc_Rec a2.Recs)], some [qs [], qi 0, .nil]], [rr 2 enc_Rec x5.Recs true]⟩) rfl rfl (ev_callG (al := [.ag [qs a2.Name, qi a2.Now, .c (cL enc_Rec a2.Recs)]]) (ls := []) (spec_l17Copy_ok hx5) rfl rfl rfl rfl rfl (by decide) rfl rfl (by simp only [flatA, flatV, flatC, List.all_cons, List.all_nil, Option.all_some, Bool.and_self, Bool.or_true, fl_Rec]) rfl rfl rfl) ?_; simp only [putT,st,ev,gt,hp,ofV,constT,intT,lm]
 refine WO_op (x := .bp 3 0) (σ' := ⟨[], [some [qs a1.Name, qs a1.Target, qi a1.Low, qi a1.High, .c (cL enc_Metric a1.Metrics), qi a1.Pace.Up, qi a1.Pace.Down, qi a1.Pace.UpSpan, qi a1.Pace.DownSpan, .c (cL enc_Note a1.Notes)], some [qs a2.Name, qi a2.Now, .c (cL enc_Rec a2.Recs)], some [qs [], qi 0, .nil], some [qs [], qi 0, .nil]], [rr 2 enc_Rec x5.Recs true]⟩) rfl rfl rfl ?_
 refine WO_op (x := .no) (σ' := ⟨[], [some [qs a1.Name, qs a1.Target, qi a1.Low, qi a1.High, .c (cL enc_Metric a1.Metrics), qi a1.Pace.Up, qi a1.Pace.Down, qi a1.Pace.UpSpan, qi a1.Pace.DownSpan, .c (cL enc_Note a1.Notes)], some [qs a2.Name, qi a2.Now, .c (cL enc_Rec a2.Recs)], some [qs [], qi 0, .nil], some [qs x5.Name, qi x5.Now, .row 0]], [rr 2 enc_Rec x5.Recs true]⟩) rfl rfl rfl ?_; simp only [putT,st,ev,gt,hp,ofV,constT,intT,lm]
 refine WO_nil (W_seq (W_region ?_))
 refine WO_op (x := .bp 1 2) rfl rfl rfl ?_
 refine WO_op (x := .c (cL enc_Rec a2.Recs)) rfl rfl rfl ?_; simp only [putT,st,ev,gt,hp,ofV,constT,intT,lm]
 iterate 2 (refine WO_op rfl rfl rfl ?_; simp only [putT,st,ev,gt,hp,ofV,constT,intT,lm])
 refine WO_nil (W_seq (W_seq (W_region ?_)))
 refine WO_op (x := .ag [qs a1.Name, qs a1.Target, qi a1.Low, qi a1.High, .c (cL enc_Metric a1.Metrics), qi a1.Pace.Up, qi a1.Pace.Down, qi a1.Pace.UpSpan, qi a1.Pace.DownSpan, .c (cL enc_Note a1.Notes)]) rfl rfl rfl ?_; simp only [putT,st,ev,gt,hp,ofV,constT,intT,lm]
 obtain ⟨x6, hx6, H⟩ := bnd H
 refine WO_op (x := qb x6) (σ' := ⟨[], [some [qs a1.Name, qs a1.Target, qi a1.Low, qi a1.High, .c (cL enc_Metric a1.Metrics), qi a1.Pace.Up, qi a1.Pace.Down, qi a1.Pace.UpSpan, qi a1.Pace.DownSpan, .c (cL enc_Note a1.Notes)], some [qs a2.Name, qi a2.Now, .c (cL enc_Rec a2.Recs)], some [qs [], qi 0, .nil], some [qs x5.Name, qi x5.Now, .row 0]], [rr 2 enc_Rec x5.Recs true]⟩) rfl rfl (ev_callG (al := [.ag [qs a1.Name, qs a1.Target, qi a1.Low, qi a1.High, .c (cL enc_Metric a1.Metrics), qi a1.Pace.Up, qi a1.Pace.Down, qi a1.Pace.UpSpan, qi a1.Pace.DownSpan, .c (cL enc_Note a1.Notes)]]) (ls := []) (spec_OrderOk_ok hx6) rfl rfl rfl rfl rfl (by decide) rfl rfl rfl rfl rfl rfl) ?_; simp only [putT,st,ev,gt,hp,ofV,constT,intT,lm]
 iterate 2 (refine WO_op rfl rfl rfl ?_; simp only [putT,st,ev,gt,hp,ofV,constT,intT,lm])
 refine WO_if rfl rfl rfl (fun hc => ?_) (fun hc => ?_)
 ·
  replace H := tr hc H
  simp only [putT,st,ev,gt,hp,ofV,constT,intT,lm]
  iterate 3 refine WO_skip rfl rfl ?_
  refine WO_op (x := qb true) rfl rfl rfl ?_
  refine WO_op rfl rfl rfl ?_; simp only [putT,st,ev,gt,hp,ofV,constT,intT,lm]
  iterate 5 refine WO_skip rfl rfl ?_
  refine WO_op (x := qb true) rfl rfl rfl ?_
  refine WO_op rfl rfl rfl ?_; simp only [putT,st,ev,gt,hp,ofV,constT,intT,lm]
  iterate 3 refine WO_skip rfl rfl ?_
  refine WO_op (x := qb true) rfl rfl rfl ?_
  refine WO_op rfl rfl rfl ?_; simp only [putT,st,ev,gt,hp,ofV,constT,intT,lm]
  iterate 3 refine WO_skip rfl rfl ?_
  refine WO_op (x := qb true) rfl rfl rfl ?_
  refine WO_op rfl rfl rfl ?_; simp only [putT,st,ev,gt,hp,ofV,constT,intT,lm]
  iterate 13 refine WO_skip rfl rfl ?_
  refine WO_op (x := qb true) rfl rfl rfl ?_; simp only [putT,st,ev,gt,hp,ofV,constT,intT,lm]
  refine WO_nil ?_
  refine W_cond (t := true) rfl (fun _ => ?_) (fun h => by cases h)
  refine W_seq ?_
  refine W_drawL (by kernel_rfl) (by decide +kernel) ?_
  refine WL_op (x := .ag [qs x5.Name, qi x5.Now, .row 0]) rfl rfl rfl rfl ?_
  refine WL_op (x := .bp 1 1) rfl rfl rfl rfl ?_
  refine WL_op (x := qi a2.Now) rfl rfl rfl rfl ?_
  refine WL_op (x := .no) (σ' := ⟨[], [some [qs a1.Name, qs a1.Target, qi a1.Low, qi a1.High, .c (cL enc_Metric a1.Metrics), qi a1.Pace.Up, qi a1.Pace.Down, qi a1.Pace.UpSpan, qi a1.Pace.DownSpan, .c (cL enc_Note a1.Notes)], some [qs a2.Name, qi a2.Now, .c (cL enc_Rec a2.Recs)], some [qs x5.Name, qi x5.Now, .row 0], some [qs x5.Name, qi x5.Now, .row 0]], [rr 2 enc_Rec x5.Recs true]⟩) rfl rfl rfl rfl ?_; simp only [putT,st,ev,gt,hp,ofV,constT,intT,lm]
  refine WL_op rfl rfl rfl rfl ?_; simp only [putT,st,ev,gt,hp,ofV,constT,intT,lm]
  refine WL_nil (by kernel_rfl) ?_
  refine W_ret ?_
  obtain rfl := Option.some.inj H
  exact told5 rfl rfl rfl rfl (fitAs_nz rfl) rfl
 ·
  replace H := fl hc H
  refine WO_want (x := .ag [qs a2.Name, qi a2.Now, .c (cL enc_Rec a2.Recs)]) rfl rfl rfl ?_; simp only [putT,st,ev,gt,hp,ofV,constT,intT,lm]
  obtain ⟨x7, hx7, H⟩ := bnd H
  refine WO_want (x := qb x7) (σ' := ⟨[], [some [qs a1.Name, qs a1.Target, qi a1.Low, qi a1.High, .c (cL enc_Metric a1.Metrics), qi a1.Pace.Up, qi a1.Pace.Down, qi a1.Pace.UpSpan, qi a1.Pace.DownSpan, .c (cL enc_Note a1.Notes)], some [qs a2.Name, qi a2.Now, .c (cL enc_Rec a2.Recs)], some [qs [], qi 0, .nil], some [qs x5.Name, qi x5.Now, .row 0]], [rr 2 enc_Rec x5.Recs true]⟩) rfl rfl (ev_callG (al := [.ag [qs a2.Name, qi a2.Now, .c (cL enc_Rec a2.Recs)]]) (ls := []) (spec_ScaleOk_ok hx7) rfl rfl rfl rfl rfl (by decide) rfl rfl rfl rfl rfl rfl) ?_; simp only [putT,st,ev,gt,hp,ofV,constT,intT,lm]
  refine WO_want rfl rfl rfl ?_
  refine WO_op (x := qb (!x7)) rfl rfl rfl ?_
  refine WO_op rfl rfl rfl ?_; simp only [putT,st,ev,gt,hp,ofV,constT,intT,lm]
  refine WO_if rfl rfl rfl (fun hc => ?_) (fun hc => ?_)
  ·
   replace H := tr hc H
   simp only [putT,st,ev,gt,hp,ofV,constT,intT,lm]
   iterate 5 refine WO_skip rfl rfl ?_
   refine WO_op (x := qb true) rfl rfl rfl ?_
   refine WO_op rfl rfl rfl ?_; simp only [putT,st,ev,gt,hp,ofV,constT,intT,lm]
   iterate 3 refine WO_skip rfl rfl ?_
   refine WO_op (x := qb true) rfl rfl rfl ?_
   refine WO_op rfl rfl rfl ?_; simp only [putT,st,ev,gt,hp,ofV,constT,intT,lm]
   iterate 3 refine WO_skip rfl rfl ?_
   refine WO_op (x := qb true) rfl rfl rfl ?_
   refine WO_op rfl rfl rfl ?_; simp only [putT,st,ev,gt,hp,ofV,constT,intT,lm]
   iterate 13 refine WO_skip rfl rfl ?_
   refine WO_op (x := qb true) rfl rfl rfl ?_; simp only [putT,st,ev,gt,hp,ofV,constT,intT,lm]
   refine WO_nil ?_
   refine W_cond (t := true) rfl (fun _ => ?_) (fun h => by cases h)
   refine W_seq ?_
   refine W_drawL (by kernel_rfl) (by decide +kernel) ?_
   refine WL_op (x := .ag [qs x5.Name, qi x5.Now, .row 0]) rfl rfl rfl rfl ?_
   refine WL_op (x := .bp 1 1) rfl rfl rfl rfl ?_
   refine WL_op (x := qi a2.Now) rfl rfl rfl rfl ?_
   refine WL_op (x := .no) (σ' := ⟨[], [some [qs a1.Name, qs a1.Target, qi a1.Low, qi a1.High, .c (cL enc_Metric a1.Metrics), qi a1.Pace.Up, qi a1.Pace.Down, qi a1.Pace.UpSpan, qi a1.Pace.DownSpan, .c (cL enc_Note a1.Notes)], some [qs a2.Name, qi a2.Now, .c (cL enc_Rec a2.Recs)], some [qs x5.Name, qi x5.Now, .row 0], some [qs x5.Name, qi x5.Now, .row 0]], [rr 2 enc_Rec x5.Recs true]⟩) rfl rfl rfl rfl ?_; simp only [putT,st,ev,gt,hp,ofV,constT,intT,lm]
   refine WL_op rfl rfl rfl rfl ?_; simp only [putT,st,ev,gt,hp,ofV,constT,intT,lm]
   refine WL_nil (by kernel_rfl) ?_
   refine W_ret ?_
   obtain rfl := Option.some.inj H
   exact told5 rfl rfl rfl rfl (fitAs_nz rfl) rfl
  ·
   replace H := fl hc H
   refine WO_want (x := .bp 1 0) rfl rfl rfl ?_
   refine WO_want (x := qs a2.Name) rfl rfl rfl ?_
   refine WO_want (x := .bp 0 0) rfl rfl rfl ?_; simp only [putT,st,ev,gt,hp,ofV,constT,intT,lm]
   refine WO_want (x := qs a1.Name) rfl rfl rfl ?_; simp only [putT,st,ev,gt,hp,ofV,constT,intT,lm]
   refine WO_want rfl rfl (ev_neq_s rfl rfl rfl) ?_; simp only [putT,st,ev,gt,hp,ofV,constT,intT,lm]
   refine WO_op (x := qb (!(a2.Name == a1.Name))) rfl rfl rfl ?_
   refine WO_op rfl rfl rfl ?_; simp only [putT,st,ev,gt,hp,ofV,constT,intT,lm]
   refine WO_if rfl rfl rfl (fun hc => ?_) (fun hc => ?_)
   ·
    replace H := tr hc H
    simp only [putT,st,ev,gt,hp,ofV,constT,intT,lm]
    iterate 3 refine WO_skip rfl rfl ?_
    refine WO_op (x := qb true) rfl rfl rfl ?_
    refine WO_op rfl rfl rfl ?_; simp only [putT,st,ev,gt,hp,ofV,constT,intT,lm]
    iterate 3 refine WO_skip rfl rfl ?_
    refine WO_op (x := qb true) rfl rfl rfl ?_
    refine WO_op rfl rfl rfl ?_; simp only [putT,st,ev,gt,hp,ofV,constT,intT,lm]
    iterate 13 refine WO_skip rfl rfl ?_
    refine WO_op (x := qb true) rfl rfl rfl ?_; simp only [putT,st,ev,gt,hp,ofV,constT,intT,lm]
    refine WO_nil ?_
    refine W_cond (t := true) rfl (fun _ => ?_) (fun h => by cases h)
    refine W_seq ?_
    refine W_drawL (by kernel_rfl) (by decide +kernel) ?_
    refine WL_op (x := .ag [qs x5.Name, qi x5.Now, .row 0]) rfl rfl rfl rfl ?_
    refine WL_op (x := .bp 1 1) rfl rfl rfl rfl ?_
    refine WL_op (x := qi a2.Now) rfl rfl rfl rfl ?_
    refine WL_op (x := .no) (σ' := ⟨[], [some [qs a1.Name, qs a1.Target, qi a1.Low, qi a1.High, .c (cL enc_Metric a1.Metrics), qi a1.Pace.Up, qi a1.Pace.Down, qi a1.Pace.UpSpan, qi a1.Pace.DownSpan, .c (cL enc_Note a1.Notes)], some [qs a2.Name, qi a2.Now, .c (cL enc_Rec a2.Recs)], some [qs x5.Name, qi x5.Now, .row 0], some [qs x5.Name, qi x5.Now, .row 0]], [rr 2 enc_Rec x5.Recs true]⟩) rfl rfl rfl rfl ?_; simp only [putT,st,ev,gt,hp,ofV,constT,intT,lm]
    refine WL_op rfl rfl rfl rfl ?_; simp only [putT,st,ev,gt,hp,ofV,constT,intT,lm]
    refine WL_nil (by kernel_rfl) ?_
    refine W_ret ?_
    obtain rfl := Option.some.inj H
    exact told5 rfl rfl rfl rfl (fitAs_nz rfl) rfl
   ·
    replace H := fl hc H
    refine WO_want rfl rfl rfl ?_; simp only [putT,st,ev,gt,hp,ofV,constT,intT,lm]
    obtain ⟨x8, hx8, H⟩ := bnd H
    refine WO_want (x := qb x8) (σ' := ⟨[], [some [qs a1.Name, qs a1.Target, qi a1.Low, qi a1.High, .c (cL enc_Metric a1.Metrics), qi a1.Pace.Up, qi a1.Pace.Down, qi a1.Pace.UpSpan, qi a1.Pace.DownSpan, .c (cL enc_Note a1.Notes)], some [qs a2.Name, qi a2.Now, .c (cL enc_Rec a2.Recs)], some [qs [], qi 0, .nil], some [qs x5.Name, qi x5.Now, .row 0]], [rr 2 enc_Rec x5.Recs true]⟩) rfl rfl (ev_callG (al := [.c (cL enc_Sample a4)]) (ls := []) (spec_SamplesOk_ok hx8) rfl rfl rfl rfl rfl (by decide) rfl rfl rfl rfl rfl rfl) ?_; simp only [putT,st,ev,gt,hp,ofV,constT,intT,lm]
    refine WO_want rfl rfl rfl ?_
    refine WO_op (x := qb (!x8)) rfl rfl rfl ?_
    refine WO_op rfl rfl rfl ?_; simp only [putT,st,ev,gt,hp,ofV,constT,intT,lm]
    refine WO_if rfl rfl rfl (fun hc => ?_) (fun hc => ?_)
    ·
     replace H := tr hc H
     simp only [putT,st,ev,gt,hp,ofV,constT,intT,lm]
     iterate 3 refine WO_skip rfl rfl ?_
     refine WO_op (x := qb true) rfl rfl rfl ?_
     refine WO_op rfl rfl rfl ?_; simp only [putT,st,ev,gt,hp,ofV,constT,intT,lm]
     iterate 13 refine WO_skip rfl rfl ?_
     refine WO_op (x := qb true) rfl rfl rfl ?_; simp only [putT,st,ev,gt,hp,ofV,constT,intT,lm]
     refine WO_nil ?_
     refine W_cond (t := true) rfl (fun _ => ?_) (fun h => by cases h)
     refine W_seq ?_
     refine W_drawL (by kernel_rfl) (by decide +kernel) ?_
     refine WL_op (x := .ag [qs x5.Name, qi x5.Now, .row 0]) rfl rfl rfl rfl ?_
     refine WL_op (x := .bp 1 1) rfl rfl rfl rfl ?_
     refine WL_op (x := qi a2.Now) rfl rfl rfl rfl ?_
     refine WL_op (x := .no) (σ' := ⟨[], [some [qs a1.Name, qs a1.Target, qi a1.Low, qi a1.High, .c (cL enc_Metric a1.Metrics), qi a1.Pace.Up, qi a1.Pace.Down, qi a1.Pace.UpSpan, qi a1.Pace.DownSpan, .c (cL enc_Note a1.Notes)], some [qs a2.Name, qi a2.Now, .c (cL enc_Rec a2.Recs)], some [qs x5.Name, qi x5.Now, .row 0], some [qs x5.Name, qi x5.Now, .row 0]], [rr 2 enc_Rec x5.Recs true]⟩) rfl rfl rfl rfl ?_; simp only [putT,st,ev,gt,hp,ofV,constT,intT,lm]
     refine WL_op rfl rfl rfl rfl ?_; simp only [putT,st,ev,gt,hp,ofV,constT,intT,lm]
     refine WL_nil (by kernel_rfl) ?_
     refine W_ret ?_
     obtain rfl := Option.some.inj H
     exact told5 rfl rfl rfl rfl (fitAs_nz rfl) rfl
    ·
     replace H := fl hc H
     refine WO_want rfl rfl rfl ?_; simp only [putT,st,ev,gt,hp,ofV,constT,intT,lm]
     obtain ⟨x9, hx9, H⟩ := bnd H
     refine WO_want (x := qb x9) (σ' := ⟨[], [some [qs a1.Name, qs a1.Target, qi a1.Low, qi a1.High, .c (cL enc_Metric a1.Metrics), qi a1.Pace.Up, qi a1.Pace.Down, qi a1.Pace.UpSpan, qi a1.Pace.DownSpan, .c (cL enc_Note a1.Notes)], some [qs a2.Name, qi a2.Now, .c (cL enc_Rec a2.Recs)], some [qs [], qi 0, .nil], some [qs x5.Name, qi x5.Now, .row 0]], [rr 2 enc_Rec x5.Recs true]⟩) rfl rfl (ev_callG (al := [qi a3, qi 0, qi 1000000]) (ls := []) (spec_l1In_ok hx9) rfl rfl rfl rfl rfl (by decide) rfl rfl rfl rfl rfl rfl) ?_; simp only [putT,st,ev,gt,hp,ofV,constT,intT,lm]
     refine WO_want rfl rfl rfl ?_
     refine WO_op (x := qb (!x9)) rfl rfl rfl ?_
     refine WO_op rfl rfl rfl ?_; simp only [putT,st,ev,gt,hp,ofV,constT,intT,lm]
     refine WO_if rfl rfl rfl (fun hc => ?_) (fun hc => ?_)
     ·
      replace H := tr hc H
      simp only [putT,st,ev,gt,hp,ofV,constT,intT,lm]
      iterate 13 refine WO_skip rfl rfl ?_
      refine WO_op (x := qb true) rfl rfl rfl ?_; simp only [putT,st,ev,gt,hp,ofV,constT,intT,lm]
      refine WO_nil ?_
      refine W_cond (t := true) rfl (fun _ => ?_) (fun h => by cases h)
      refine W_seq ?_
      refine W_drawL (by kernel_rfl) (by decide +kernel) ?_
      refine WL_op (x := .ag [qs x5.Name, qi x5.Now, .row 0]) rfl rfl rfl rfl ?_
      refine WL_op (x := .bp 1 1) rfl rfl rfl rfl ?_
      refine WL_op (x := qi a2.Now) rfl rfl rfl rfl ?_
      refine WL_op (x := .no) (σ' := ⟨[], [some [qs a1.Name, qs a1.Target, qi a1.Low, qi a1.High, .c (cL enc_Metric a1.Metrics), qi a1.Pace.Up, qi a1.Pace.Down, qi a1.Pace.UpSpan, qi a1.Pace.DownSpan, .c (cL enc_Note a1.Notes)], some [qs a2.Name, qi a2.Now, .c (cL enc_Rec a2.Recs)], some [qs x5.Name, qi x5.Now, .row 0], some [qs x5.Name, qi x5.Now, .row 0]], [rr 2 enc_Rec x5.Recs true]⟩) rfl rfl rfl rfl ?_; simp only [putT,st,ev,gt,hp,ofV,constT,intT,lm]
      refine WL_op rfl rfl rfl rfl ?_; simp only [putT,st,ev,gt,hp,ofV,constT,intT,lm]
      refine WL_nil (by kernel_rfl) ?_
      refine W_ret ?_
      obtain rfl := Option.some.inj H
      exact told5 rfl rfl rfl rfl (fitAs_nz rfl) rfl
     ·
      replace H := fl hc H
      simp only [putT,st,ev,gt,hp,ofV,constT,intT,lm]
      iterate 3 (refine WO_want rfl rfl rfl ?_; simp only [putT,st,ev,gt,hp,ofV,constT,intT,lm])
      refine WO_if rfl rfl rfl (fun hc => ?_) (fun hc => ?_)
      ·
       replace H := tr hc H
       refine WO_want (x := .bp 1 2) rfl rfl rfl ?_
       refine WO_want (x := .c (cL enc_Rec a2.Recs)) rfl rfl rfl ?_; simp only [putT,st,ev,gt,hp,ofV,constT,intT,lm]
       iterate 2 (refine WO_want rfl rfl rfl ?_; simp only [putT,st,ev,gt,hp,ofV,constT,intT,lm])
       obtain ⟨x10, hx10, H⟩ := bnd H
       refine WO_want rfl rfl (ev_ix (en := enc_Rec) hx10 rfl rfl rfl rfl rfl rfl rfl) ?_; simp only [putT,st,ev,gt,hp,ofV,constT,intT,lm]
       refine WO_want (x := .cp (enc_Rec x10) 0) rfl rfl rfl ?_
       refine WO_want (x := qi x10.Time) rfl rfl rfl ?_; simp only [putT,st,ev,gt,hp,ofV,constT,intT,lm]
       iterate 2 (refine WO_want rfl rfl rfl ?_; simp only [putT,st,ev,gt,hp,ofV,constT,intT,lm])
       refine WO_want (x := qb (decide (x10.Time > a3))) rfl rfl rfl ?_
       refine WO_op (x := qb (decide (x10.Time > a3))) rfl rfl rfl ?_; simp only [putT,st,ev,gt,hp,ofV,constT,intT,lm]
       refine WO_nil ?_
       refine W_cond rfl (fun hc => ?_) (fun hc => ?_)
       ·
        replace H := tr hc H
        refine W_seq ?_
        refine W_drawL (by kernel_rfl) (by decide +kernel) ?_
        refine WL_op (x := .ag [qs x5.Name, qi x5.Now, .row 0]) rfl rfl rfl rfl ?_
        refine WL_op (x := .bp 1 1) rfl rfl rfl rfl ?_
        refine WL_op (x := qi a2.Now) rfl rfl rfl rfl ?_
        refine WL_op (x := .no) (σ' := ⟨[], [some [qs a1.Name, qs a1.Target, qi a1.Low, qi a1.High, .c (cL enc_Metric a1.Metrics), qi a1.Pace.Up, qi a1.Pace.Down, qi a1.Pace.UpSpan, qi a1.Pace.DownSpan, .c (cL enc_Note a1.Notes)], some [qs a2.Name, qi a2.Now, .c (cL enc_Rec a2.Recs)], some [qs x5.Name, qi x5.Now, .row 0], some [qs x5.Name, qi x5.Now, .row 0]], [rr 2 enc_Rec x5.Recs true]⟩) rfl rfl rfl rfl ?_; simp only [putT,st,ev,gt,hp,ofV,constT,intT,lm]
        refine WL_op rfl rfl rfl rfl ?_; simp only [putT,st,ev,gt,hp,ofV,constT,intT,lm]
        refine WL_nil (by kernel_rfl) ?_
        refine W_ret ?_
        obtain rfl := Option.some.inj H
        exact told5 rfl rfl rfl rfl (fitAs_nz rfl) rfl
       ·
        replace H := fl hc H
        refine W_skip ?_
        refine W_seq (W_region ?_)
        refine WO_op (x := .ag [qs a1.Name, qs a1.Target, qi a1.Low, qi a1.High, .c (cL enc_Metric a1.Metrics), qi a1.Pace.Up, qi a1.Pace.Down, qi a1.Pace.UpSpan, qi a1.Pace.DownSpan, .c (cL enc_Note a1.Notes)]) rfl rfl rfl ?_
        refine WO_op (x := .bp 1 1) rfl rfl rfl ?_
        refine WO_op (x := qi a2.Now) rfl rfl rfl ?_
        refine WO_op rfl rfl rfl ?_; simp only [putT,st,ev,gt,hp,ofV,constT,intT,lm]
        obtain ⟨x11, hx11, H⟩ := bnd H
        refine WO_op (x := .tu [qi x11.1, qb x11.2]) (σ' := ⟨[], [some [qs a1.Name, qs a1.Target, qi a1.Low, qi a1.High, .c (cL enc_Metric a1.Metrics), qi a1.Pace.Up, qi a1.Pace.Down, qi a1.Pace.UpSpan, qi a1.Pace.DownSpan, .c (cL enc_Note a1.Notes)], some [qs a2.Name, qi a2.Now, .c (cL enc_Rec a2.Recs)], some [qs [], qi 0, .nil], some [qs x5.Name, qi x5.Now, .row 0]], [rr 2 enc_Rec x5.Recs true]⟩) rfl rfl (ev_callG (al := [.ag [qs a1.Name, qs a1.Target, qi a1.Low, qi a1.High, .c (cL enc_Metric a1.Metrics), qi a1.Pace.Up, qi a1.Pace.Down, qi a1.Pace.UpSpan, qi a1.Pace.DownSpan, .c (cL enc_Note a1.Notes)], qi a2.Now, .c (cL enc_Sample a4)]) (ls := []) (spec_ByAll_ok hx11) rfl rfl rfl rfl rfl (by decide) rfl rfl rfl rfl rfl rfl) ?_; simp only [putT,st,ev,gt,hp,ofV,constT,intT,lm]
        refine WO_op rfl rfl rfl ?_
        refine WO_op (x := qi x11.1) rfl rfl rfl ?_
        refine WO_op (x := qb x11.2) rfl rfl rfl ?_; simp only [putT,st,ev,gt,hp,ofV,constT,intT,lm]
        iterate 2 (refine WO_op rfl rfl rfl ?_; simp only [putT,st,ev,gt,hp,ofV,constT,intT,lm])
        refine WO_nil (W_seq (W_seq (W_region ?_)))
        iterate 2 (refine WO_op rfl rfl rfl ?_; simp only [putT,st,ev,gt,hp,ofV,constT,intT,lm])
        refine WO_nil ?_
        refine W_cond rfl (fun hc => ?_) (fun hc => ?_)
        ·
         replace H := tr hc H
         refine W_seq (W_region ?_)
         refine WO_op (x := .bp 1 1) rfl rfl rfl ?_
         refine WO_op (x := qi a2.Now) rfl rfl rfl ?_
         refine WO_op (x := .bp 0 2) rfl rfl rfl ?_
         refine WO_op (x := qi a1.Low) rfl rfl rfl ?_; simp only [putT,st,ev,gt,hp,ofV,constT,intT,lm]
         refine WO_op (x := .bp 0 3) rfl rfl rfl ?_
         refine WO_op (x := qi a1.High) rfl rfl rfl ?_; simp only [putT,st,ev,gt,hp,ofV,constT,intT,lm]
         obtain ⟨x12, hx12, H⟩ := bnd H
         refine WO_op (x := qi x12) (σ' := ⟨[], [some [qs a1.Name, qs a1.Target, qi a1.Low, qi a1.High, .c (cL enc_Metric a1.Metrics), qi a1.Pace.Up, qi a1.Pace.Down, qi a1.Pace.UpSpan, qi a1.Pace.DownSpan, .c (cL enc_Note a1.Notes)], some [qs a2.Name, qi a2.Now, .c (cL enc_Rec a2.Recs)], some [qs [], qi 0, .nil], some [qs x5.Name, qi x5.Now, .row 0]], [rr 2 enc_Rec x5.Recs true]⟩) rfl rfl (ev_callG (al := [qi a2.Now, qi a1.Low, qi a1.High]) (ls := []) (spec_Clamp_ok hx12) rfl rfl rfl rfl rfl (by decide) rfl rfl rfl rfl rfl rfl) ?_; simp only [putT,st,ev,gt,hp,ofV,constT,intT,lm]
         refine WO_op (x := .bp 3 1) rfl rfl rfl ?_
         refine WO_op (x := .no) (σ' := ⟨[], [some [qs a1.Name, qs a1.Target, qi a1.Low, qi a1.High, .c (cL enc_Metric a1.Metrics), qi a1.Pace.Up, qi a1.Pace.Down, qi a1.Pace.UpSpan, qi a1.Pace.DownSpan, .c (cL enc_Note a1.Notes)], some [qs a2.Name, qi a2.Now, .c (cL enc_Rec a2.Recs)], some [qs [], qi 0, .nil], some [qs x5.Name, qi x12, .row 0]], [rr 2 enc_Rec x5.Recs true]⟩) rfl rfl rfl ?_; simp only [putT,st,ev,gt,hp,ofV,constT,intT,lm]
         refine WO_nil (W_seq ?_)
         refine W_drawL (by kernel_rfl) (by decide +kernel) ?_
         refine WL_op (x := .ag [qs x5.Name, qi x12, .row 0]) rfl rfl rfl rfl ?_
         refine WL_op (x := .bp 3 1) rfl rfl rfl rfl ?_
         refine WL_op (x := qi x12) rfl rfl rfl rfl ?_
         refine WL_op (x := .no) (σ' := ⟨[], [some [qs a1.Name, qs a1.Target, qi a1.Low, qi a1.High, .c (cL enc_Metric a1.Metrics), qi a1.Pace.Up, qi a1.Pace.Down, qi a1.Pace.UpSpan, qi a1.Pace.DownSpan, .c (cL enc_Note a1.Notes)], some [qs a2.Name, qi a2.Now, .c (cL enc_Rec a2.Recs)], some [qs x5.Name, qi x12, .row 0], some [qs x5.Name, qi x12, .row 0]], [rr 2 enc_Rec x5.Recs true]⟩) rfl rfl rfl rfl ?_; simp only [putT,st,ev,gt,hp,ofV,constT,intT,lm]
         refine WL_op rfl rfl rfl rfl ?_; simp only [putT,st,ev,gt,hp,ofV,constT,intT,lm]
         refine WL_nil (by kernel_rfl) ?_
         refine W_ret ?_
         obtain rfl := Option.some.inj H
         exact told5 rfl rfl rfl rfl (fitAs_nz rfl) rfl
        ·
         replace H := fl hc H
         refine W_skip ?_
         refine W_seq (W_region ?_)
         refine WO_op rfl rfl rfl ?_
         refine WO_op (x := .bp 0 2) rfl rfl rfl ?_
         refine WO_op (x := qi a1.Low) rfl rfl rfl ?_
         refine WO_op (x := .bp 0 3) rfl rfl rfl ?_; simp only [putT,st,ev,gt,hp,ofV,constT,intT,lm]
         refine WO_op (x := qi a1.High) rfl rfl rfl ?_; simp only [putT,st,ev,gt,hp,ofV,constT,intT,lm]
         obtain ⟨x13, hx13, H⟩ := bnd H
         refine WO_op (x := qi x13) (σ' := ⟨[], [some [qs a1.Name, qs a1.Target, qi a1.Low, qi a1.High, .c (cL enc_Metric a1.Metrics), qi a1.Pace.Up, qi a1.Pace.Down, qi a1.Pace.UpSpan, qi a1.Pace.DownSpan, .c (cL enc_Note a1.Notes)], some [qs a2.Name, qi a2.Now, .c (cL enc_Rec a2.Recs)], some [qs [], qi 0, .nil], some [qs x5.Name, qi x5.Now, .row 0]], [rr 2 enc_Rec x5.Recs true]⟩) rfl rfl (ev_callG (al := [qi x11.1, qi a1.Low, qi a1.High]) (ls := []) (spec_Clamp_ok hx13) rfl rfl rfl rfl rfl (by decide) rfl rfl rfl rfl rfl rfl) ?_; simp only [putT,st,ev,gt,hp,ofV,constT,intT,lm]
         refine WO_op rfl rfl rfl ?_; simp only [putT,st,ev,gt,hp,ofV,constT,intT,lm]
         refine WO_nil (W_seq (W_region ?_))
         refine WO_op (x := .bp 1 2) rfl rfl rfl ?_
         refine WO_op (x := .c (cL enc_Rec a2.Recs)) rfl rfl rfl ?_; simp only [putT,st,ev,gt,hp,ofV,constT,intT,lm]
         iterate 2 (refine WO_op rfl rfl rfl ?_; simp only [putT,st,ev,gt,hp,ofV,constT,intT,lm])
         obtain ⟨x14, hx14, H⟩ := bnd H
         refine WO_op (x := .row 1) (σ' := ⟨[], [some [qs a1.Name, qs a1.Target, qi a1.Low, qi a1.High, .c (cL enc_Metric a1.Metrics), qi a1.Pace.Up, qi a1.Pace.Down, qi a1.Pace.UpSpan, qi a1.Pace.DownSpan, .c (cL enc_Note a1.Notes)], some [qs a2.Name, qi a2.Now, .c (cL enc_Rec a2.Recs)], some [qs [], qi 0, .nil], some [qs x5.Name, qi x5.Now, .row 0]], [rr 2 enc_Rec x5.Recs true, rr 2 enc_Rec x14 true]⟩) rfl rfl (ev_callG (al := [.c (cL enc_Rec a2.Recs), qi a3, qi x13]) (ls := []) (spec_RecAdd_ok hx14) rfl rfl rfl rfl rfl (by decide) rfl rfl (by simp only [flatA, flatV, flatC, List.all_cons, List.all_nil, Option.all_some, Bool.and_self, Bool.or_true, fl_Rec]) rfl rfl rfl) ?_; simp only [putT,st,ev,gt,hp,ofV,constT,intT,lm]
         refine WO_op (x := .bp 3 2) rfl rfl rfl ?_
         refine WO_op (x := .no) (σ' := ⟨[], [some [qs a1.Name, qs a1.Target, qi a1.Low, qi a1.High, .c (cL enc_Metric a1.Metrics), qi a1.Pace.Up, qi a1.Pace.Down, qi a1.Pace.UpSpan, qi a1.Pace.DownSpan, .c (cL enc_Note a1.Notes)], some [qs a2.Name, qi a2.Now, .c (cL enc_Rec a2.Recs)], some [qs [], qi 0, .nil], some [qs x5.Name, qi x5.Now, .row 1]], [rr 2 enc_Rec x5.Recs true, rr 2 enc_Rec x14 true]⟩) rfl rfl rfl ?_; simp only [putT,st,ev,gt,hp,ofV,constT,intT,lm]
         refine WO_nil (W_seq ?_)
         refine W_drawL (by kernel_rfl) (by decide +kernel) ?_
         refine WL_op (x := .bp 0 5) rfl rfl rfl rfl ?_
         refine WL_op (x := .ag [qi a1.Pace.Up, qi a1.Pace.Down, qi a1.Pace.UpSpan, qi a1.Pace.DownSpan]) rfl rfl rfl rfl ?_
         refine WL_op (x := .bp 1 1) rfl rfl rfl rfl ?_
         refine WL_op (x := qi a2.Now) rfl rfl rfl rfl ?_; simp only [putT,st,ev,gt,hp,ofV,constT,intT,lm]
         refine WL_op (x := .bp 0 5) rfl rfl rfl rfl ?_
         refine WL_op (x := .ag [qi a1.Pace.Up, qi a1.Pace.Down, qi a1.Pace.UpSpan, qi a1.Pace.DownSpan]) rfl rfl rfl rfl ?_
         refine WL_op (x := .bp 1 2) rfl rfl rfl rfl ?_
         refine WL_op (x := .c (cL enc_Rec a2.Recs)) rfl rfl rfl rfl ?_; simp only [putT,st,ev,gt,hp,ofV,constT,intT,lm]
         refine WL_op rfl rfl rfl rfl ?_
         refine WL_op (x := .bp 1 1) rfl rfl rfl rfl ?_
         refine WL_op (x := qi a2.Now) rfl rfl rfl rfl ?_
         refine WL_op rfl rfl rfl rfl ?_; simp only [putT,st,ev,gt,hp,ofV,constT,intT,lm]
         obtain ⟨x15, hx15, H⟩ := bnd H
         refine WL_op (x := qi x15) (σ' := ⟨[], [some [qs a1.Name, qs a1.Target, qi a1.Low, qi a1.High, .c (cL enc_Metric a1.Metrics), qi a1.Pace.Up, qi a1.Pace.Down, qi a1.Pace.UpSpan, qi a1.Pace.DownSpan, .c (cL enc_Note a1.Notes)], some [qs a2.Name, qi a2.Now, .c (cL enc_Rec a2.Recs)], some [qs [], qi 0, .nil], some [qs x5.Name, qi x5.Now, .row 1]], [rr 2 enc_Rec x5.Recs true, rr 2 enc_Rec x14 true]⟩) rfl rfl rfl (ev_callG (al := [.ag [qi a1.Pace.Up, qi a1.Pace.Down, qi a1.Pace.UpSpan, qi a1.Pace.DownSpan], .c (cL enc_Rec a2.Recs), qi a3, qi a2.Now, qi x13]) (ls := []) (spec_Steady_ok hx15) rfl rfl rfl rfl rfl (by decide) rfl rfl rfl rfl rfl rfl) ?_; simp only [putT,st,ev,gt,hp,ofV,constT,intT,lm]
         obtain ⟨x16, hx16, H⟩ := bnd H
         refine WL_op (x := qi x16) (σ' := ⟨[], [some [qs a1.Name, qs a1.Target, qi a1.Low, qi a1.High, .c (cL enc_Metric a1.Metrics), qi a1.Pace.Up, qi a1.Pace.Down, qi a1.Pace.UpSpan, qi a1.Pace.DownSpan, .c (cL enc_Note a1.Notes)], some [qs a2.Name, qi a2.Now, .c (cL enc_Rec a2.Recs)], some [qs [], qi 0, .nil], some [qs x5.Name, qi x5.Now, .row 1]], [rr 2 enc_Rec x5.Recs true, rr 2 enc_Rec x14 true]⟩) rfl rfl rfl (ev_callG (al := [.ag [qi a1.Pace.Up, qi a1.Pace.Down, qi a1.Pace.UpSpan, qi a1.Pace.DownSpan], qi a2.Now, qi x15]) (ls := []) (spec_Slow_ok hx16) rfl rfl rfl rfl rfl (by decide) rfl rfl rfl rfl rfl rfl) ?_; simp only [putT,st,ev,gt,hp,ofV,constT,intT,lm]
         refine WL_op rfl rfl rfl rfl ?_; simp only [putT,st,ev,gt,hp,ofV,constT,intT,lm]
         refine WL_nil (by kernel_rfl) ?_
         refine W_seq (W_region ?_)
         refine WO_op rfl rfl rfl ?_
         refine WO_op (x := .bp 0 2) rfl rfl rfl ?_
         refine WO_op (x := qi a1.Low) rfl rfl rfl ?_
         refine WO_op (x := .bp 0 3) rfl rfl rfl ?_; simp only [putT,st,ev,gt,hp,ofV,constT,intT,lm]
         refine WO_op (x := qi a1.High) rfl rfl rfl ?_; simp only [putT,st,ev,gt,hp,ofV,constT,intT,lm]
         obtain ⟨x17, hx17, H⟩ := bnd H
         refine WO_op (x := qi x17) (σ' := ⟨[], [some [qs a1.Name, qs a1.Target, qi a1.Low, qi a1.High, .c (cL enc_Metric a1.Metrics), qi a1.Pace.Up, qi a1.Pace.Down, qi a1.Pace.UpSpan, qi a1.Pace.DownSpan, .c (cL enc_Note a1.Notes)], some [qs a2.Name, qi a2.Now, .c (cL enc_Rec a2.Recs)], some [qs [], qi 0, .nil], some [qs x5.Name, qi x5.Now, .row 1]], [rr 2 enc_Rec x5.Recs true, rr 2 enc_Rec x14 true]⟩) rfl rfl (ev_callG (al := [qi x16, qi a1.Low, qi a1.High]) (ls := []) (spec_Clamp_ok hx17) rfl rfl rfl rfl rfl (by decide) rfl rfl rfl rfl rfl rfl) ?_; simp only [putT,st,ev,gt,hp,ofV,constT,intT,lm]
         refine WO_op (x := .bp 3 1) rfl rfl rfl ?_
         refine WO_op (x := .no) (σ' := ⟨[], [some [qs a1.Name, qs a1.Target, qi a1.Low, qi a1.High, .c (cL enc_Metric a1.Metrics), qi a1.Pace.Up, qi a1.Pace.Down, qi a1.Pace.UpSpan, qi a1.Pace.DownSpan, .c (cL enc_Note a1.Notes)], some [qs a2.Name, qi a2.Now, .c (cL enc_Rec a2.Recs)], some [qs [], qi 0, .nil], some [qs x5.Name, qi x17, .row 1]], [rr 2 enc_Rec x5.Recs true, rr 2 enc_Rec x14 true]⟩) rfl rfl rfl ?_; simp only [putT,st,ev,gt,hp,ofV,constT,intT,lm]
         refine WO_nil (W_seq ?_)
         refine W_drawL (by kernel_rfl) (by decide +kernel) ?_
         refine WL_op (x := .ag [qs x5.Name, qi x17, .row 1]) rfl rfl rfl rfl ?_
         refine WL_op (x := .bp 3 1) rfl rfl rfl rfl ?_
         refine WL_op (x := qi x17) rfl rfl rfl rfl ?_
         refine WL_op (x := .no) (σ' := ⟨[], [some [qs a1.Name, qs a1.Target, qi a1.Low, qi a1.High, .c (cL enc_Metric a1.Metrics), qi a1.Pace.Up, qi a1.Pace.Down, qi a1.Pace.UpSpan, qi a1.Pace.DownSpan, .c (cL enc_Note a1.Notes)], some [qs a2.Name, qi a2.Now, .c (cL enc_Rec a2.Recs)], some [qs x5.Name, qi x17, .row 1], some [qs x5.Name, qi x17, .row 1]], [rr 2 enc_Rec x5.Recs true, rr 2 enc_Rec x14 true]⟩) rfl rfl rfl rfl ?_; simp only [putT,st,ev,gt,hp,ofV,constT,intT,lm]
         refine WL_op rfl rfl rfl rfl ?_; simp only [putT,st,ev,gt,hp,ofV,constT,intT,lm]
         refine WL_nil (by kernel_rfl) ?_
         refine W_ret ?_
         obtain rfl := Option.some.inj H
         exact told5 rfl rfl rfl rfl (fitAs_nz rfl) rfl
      ·
       replace H := fl hc H
       simp only [putT,st,ev,gt,hp,ofV,constT,intT,lm]
       iterate 9 refine WO_skip rfl rfl ?_
       refine WO_want (x := qb false) rfl rfl rfl ?_
       refine WO_op (x := qb false) rfl rfl rfl ?_; simp only [putT,st,ev,gt,hp,ofV,constT,intT,lm]
       refine WO_nil ?_
       refine W_cond (t := false) rfl (fun h => by cases h) (fun _ => ?_)
       refine W_skip ?_
       refine W_seq (W_region ?_)
       refine WO_op (x := .ag [qs a1.Name, qs a1.Target, qi a1.Low, qi a1.High, .c (cL enc_Metric a1.Metrics), qi a1.Pace.Up, qi a1.Pace.Down, qi a1.Pace.UpSpan, qi a1.Pace.DownSpan, .c (cL enc_Note a1.Notes)]) rfl rfl rfl ?_
       refine WO_op (x := .bp 1 1) rfl rfl rfl ?_
       refine WO_op (x := qi a2.Now) rfl rfl rfl ?_
       refine WO_op rfl rfl rfl ?_; simp only [putT,st,ev,gt,hp,ofV,constT,intT,lm]
       obtain ⟨x18, hx18, H⟩ := bnd H
       refine WO_op (x := .tu [qi x18.1, qb x18.2]) (σ' := ⟨[], [some [qs a1.Name, qs a1.Target, qi a1.Low, qi a1.High, .c (cL enc_Metric a1.Metrics), qi a1.Pace.Up, qi a1.Pace.Down, qi a1.Pace.UpSpan, qi a1.Pace.DownSpan, .c (cL enc_Note a1.Notes)], some [qs a2.Name, qi a2.Now, .c (cL enc_Rec a2.Recs)], some [qs [], qi 0, .nil], some [qs x5.Name, qi x5.Now, .row 0]], [rr 2 enc_Rec x5.Recs true]⟩) rfl rfl (ev_callG (al := [.ag [qs a1.Name, qs a1.Target, qi a1.Low, qi a1.High, .c (cL enc_Metric a1.Metrics), qi a1.Pace.Up, qi a1.Pace.Down, qi a1.Pace.UpSpan, qi a1.Pace.DownSpan, .c (cL enc_Note a1.Notes)], qi a2.Now, .c (cL enc_Sample a4)]) (ls := []) (spec_ByAll_ok hx18) rfl rfl rfl rfl rfl (by decide) rfl rfl rfl rfl rfl rfl) ?_; simp only [putT,st,ev,gt,hp,ofV,constT,intT,lm]
       refine WO_op rfl rfl rfl ?_
       refine WO_op (x := qi x18.1) rfl rfl rfl ?_
       refine WO_op (x := qb x18.2) rfl rfl rfl ?_; simp only [putT,st,ev,gt,hp,ofV,constT,intT,lm]
       iterate 2 (refine WO_op rfl rfl rfl ?_; simp only [putT,st,ev,gt,hp,ofV,constT,intT,lm])
       refine WO_nil (W_seq (W_seq (W_region ?_)))
       iterate 2 (refine WO_op rfl rfl rfl ?_; simp only [putT,st,ev,gt,hp,ofV,constT,intT,lm])
       refine WO_nil ?_
       refine W_cond rfl (fun hc => ?_) (fun hc => ?_)
       ·
        replace H := tr hc H
        refine W_seq (W_region ?_)
        refine WO_op (x := .bp 1 1) rfl rfl rfl ?_
        refine WO_op (x := qi a2.Now) rfl rfl rfl ?_
        refine WO_op (x := .bp 0 2) rfl rfl rfl ?_
        refine WO_op (x := qi a1.Low) rfl rfl rfl ?_; simp only [putT,st,ev,gt,hp,ofV,constT,intT,lm]
        refine WO_op (x := .bp 0 3) rfl rfl rfl ?_
        refine WO_op (x := qi a1.High) rfl rfl rfl ?_; simp only [putT,st,ev,gt,hp,ofV,constT,intT,lm]
        obtain ⟨x19, hx19, H⟩ := bnd H
        refine WO_op (x := qi x19) (σ' := ⟨[], [some [qs a1.Name, qs a1.Target, qi a1.Low, qi a1.High, .c (cL enc_Metric a1.Metrics), qi a1.Pace.Up, qi a1.Pace.Down, qi a1.Pace.UpSpan, qi a1.Pace.DownSpan, .c (cL enc_Note a1.Notes)], some [qs a2.Name, qi a2.Now, .c (cL enc_Rec a2.Recs)], some [qs [], qi 0, .nil], some [qs x5.Name, qi x5.Now, .row 0]], [rr 2 enc_Rec x5.Recs true]⟩) rfl rfl (ev_callG (al := [qi a2.Now, qi a1.Low, qi a1.High]) (ls := []) (spec_Clamp_ok hx19) rfl rfl rfl rfl rfl (by decide) rfl rfl rfl rfl rfl rfl) ?_; simp only [putT,st,ev,gt,hp,ofV,constT,intT,lm]
        refine WO_op (x := .bp 3 1) rfl rfl rfl ?_
        refine WO_op (x := .no) (σ' := ⟨[], [some [qs a1.Name, qs a1.Target, qi a1.Low, qi a1.High, .c (cL enc_Metric a1.Metrics), qi a1.Pace.Up, qi a1.Pace.Down, qi a1.Pace.UpSpan, qi a1.Pace.DownSpan, .c (cL enc_Note a1.Notes)], some [qs a2.Name, qi a2.Now, .c (cL enc_Rec a2.Recs)], some [qs [], qi 0, .nil], some [qs x5.Name, qi x19, .row 0]], [rr 2 enc_Rec x5.Recs true]⟩) rfl rfl rfl ?_; simp only [putT,st,ev,gt,hp,ofV,constT,intT,lm]
        refine WO_nil (W_seq ?_)
        refine W_drawL (by kernel_rfl) (by decide +kernel) ?_
        refine WL_op (x := .ag [qs x5.Name, qi x19, .row 0]) rfl rfl rfl rfl ?_
        refine WL_op (x := .bp 3 1) rfl rfl rfl rfl ?_
        refine WL_op (x := qi x19) rfl rfl rfl rfl ?_
        refine WL_op (x := .no) (σ' := ⟨[], [some [qs a1.Name, qs a1.Target, qi a1.Low, qi a1.High, .c (cL enc_Metric a1.Metrics), qi a1.Pace.Up, qi a1.Pace.Down, qi a1.Pace.UpSpan, qi a1.Pace.DownSpan, .c (cL enc_Note a1.Notes)], some [qs a2.Name, qi a2.Now, .c (cL enc_Rec a2.Recs)], some [qs x5.Name, qi x19, .row 0], some [qs x5.Name, qi x19, .row 0]], [rr 2 enc_Rec x5.Recs true]⟩) rfl rfl rfl rfl ?_; simp only [putT,st,ev,gt,hp,ofV,constT,intT,lm]
        refine WL_op rfl rfl rfl rfl ?_; simp only [putT,st,ev,gt,hp,ofV,constT,intT,lm]
        refine WL_nil (by kernel_rfl) ?_
        refine W_ret ?_
        obtain rfl := Option.some.inj H
        exact told5 rfl rfl rfl rfl (fitAs_nz rfl) rfl
       ·
        replace H := fl hc H
        refine W_skip ?_
        refine W_seq (W_region ?_)
        refine WO_op rfl rfl rfl ?_
        refine WO_op (x := .bp 0 2) rfl rfl rfl ?_
        refine WO_op (x := qi a1.Low) rfl rfl rfl ?_
        refine WO_op (x := .bp 0 3) rfl rfl rfl ?_; simp only [putT,st,ev,gt,hp,ofV,constT,intT,lm]
        refine WO_op (x := qi a1.High) rfl rfl rfl ?_; simp only [putT,st,ev,gt,hp,ofV,constT,intT,lm]
        obtain ⟨x20, hx20, H⟩ := bnd H
        refine WO_op (x := qi x20) (σ' := ⟨[], [some [qs a1.Name, qs a1.Target, qi a1.Low, qi a1.High, .c (cL enc_Metric a1.Metrics), qi a1.Pace.Up, qi a1.Pace.Down, qi a1.Pace.UpSpan, qi a1.Pace.DownSpan, .c (cL enc_Note a1.Notes)], some [qs a2.Name, qi a2.Now, .c (cL enc_Rec a2.Recs)], some [qs [], qi 0, .nil], some [qs x5.Name, qi x5.Now, .row 0]], [rr 2 enc_Rec x5.Recs true]⟩) rfl rfl (ev_callG (al := [qi x18.1, qi a1.Low, qi a1.High]) (ls := []) (spec_Clamp_ok hx20) rfl rfl rfl rfl rfl (by decide) rfl rfl rfl rfl rfl rfl) ?_; simp only [putT,st,ev,gt,hp,ofV,constT,intT,lm]
        refine WO_op rfl rfl rfl ?_; simp only [putT,st,ev,gt,hp,ofV,constT,intT,lm]
        refine WO_nil (W_seq (W_region ?_))
        refine WO_op (x := .bp 1 2) rfl rfl rfl ?_
        refine WO_op (x := .c (cL enc_Rec a2.Recs)) rfl rfl rfl ?_; simp only [putT,st,ev,gt,hp,ofV,constT,intT,lm]
        iterate 2 (refine WO_op rfl rfl rfl ?_; simp only [putT,st,ev,gt,hp,ofV,constT,intT,lm])
        obtain ⟨x21, hx21, H⟩ := bnd H
        refine WO_op (x := .row 1) (σ' := ⟨[], [some [qs a1.Name, qs a1.Target, qi a1.Low, qi a1.High, .c (cL enc_Metric a1.Metrics), qi a1.Pace.Up, qi a1.Pace.Down, qi a1.Pace.UpSpan, qi a1.Pace.DownSpan, .c (cL enc_Note a1.Notes)], some [qs a2.Name, qi a2.Now, .c (cL enc_Rec a2.Recs)], some [qs [], qi 0, .nil], some [qs x5.Name, qi x5.Now, .row 0]], [rr 2 enc_Rec x5.Recs true, rr 2 enc_Rec x21 true]⟩) rfl rfl (ev_callG (al := [.c (cL enc_Rec a2.Recs), qi a3, qi x20]) (ls := []) (spec_RecAdd_ok hx21) rfl rfl rfl rfl rfl (by decide) rfl rfl (by simp only [flatA, flatV, flatC, List.all_cons, List.all_nil, Option.all_some, Bool.and_self, Bool.or_true, fl_Rec]) rfl rfl rfl) ?_; simp only [putT,st,ev,gt,hp,ofV,constT,intT,lm]
        refine WO_op (x := .bp 3 2) rfl rfl rfl ?_
        refine WO_op (x := .no) (σ' := ⟨[], [some [qs a1.Name, qs a1.Target, qi a1.Low, qi a1.High, .c (cL enc_Metric a1.Metrics), qi a1.Pace.Up, qi a1.Pace.Down, qi a1.Pace.UpSpan, qi a1.Pace.DownSpan, .c (cL enc_Note a1.Notes)], some [qs a2.Name, qi a2.Now, .c (cL enc_Rec a2.Recs)], some [qs [], qi 0, .nil], some [qs x5.Name, qi x5.Now, .row 1]], [rr 2 enc_Rec x5.Recs true, rr 2 enc_Rec x21 true]⟩) rfl rfl rfl ?_; simp only [putT,st,ev,gt,hp,ofV,constT,intT,lm]
        refine WO_nil (W_seq ?_)
        refine W_drawL (by kernel_rfl) (by decide +kernel) ?_
        refine WL_op (x := .bp 0 5) rfl rfl rfl rfl ?_
        refine WL_op (x := .ag [qi a1.Pace.Up, qi a1.Pace.Down, qi a1.Pace.UpSpan, qi a1.Pace.DownSpan]) rfl rfl rfl rfl ?_
        refine WL_op (x := .bp 1 1) rfl rfl rfl rfl ?_
        refine WL_op (x := qi a2.Now) rfl rfl rfl rfl ?_; simp only [putT,st,ev,gt,hp,ofV,constT,intT,lm]
        refine WL_op (x := .bp 0 5) rfl rfl rfl rfl ?_
        refine WL_op (x := .ag [qi a1.Pace.Up, qi a1.Pace.Down, qi a1.Pace.UpSpan, qi a1.Pace.DownSpan]) rfl rfl rfl rfl ?_
        refine WL_op (x := .bp 1 2) rfl rfl rfl rfl ?_
        refine WL_op (x := .c (cL enc_Rec a2.Recs)) rfl rfl rfl rfl ?_; simp only [putT,st,ev,gt,hp,ofV,constT,intT,lm]
        refine WL_op rfl rfl rfl rfl ?_
        refine WL_op (x := .bp 1 1) rfl rfl rfl rfl ?_
        refine WL_op (x := qi a2.Now) rfl rfl rfl rfl ?_
        refine WL_op rfl rfl rfl rfl ?_; simp only [putT,st,ev,gt,hp,ofV,constT,intT,lm]
        obtain ⟨x22, hx22, H⟩ := bnd H
        refine WL_op (x := qi x22) (σ' := ⟨[], [some [qs a1.Name, qs a1.Target, qi a1.Low, qi a1.High, .c (cL enc_Metric a1.Metrics), qi a1.Pace.Up, qi a1.Pace.Down, qi a1.Pace.UpSpan, qi a1.Pace.DownSpan, .c (cL enc_Note a1.Notes)], some [qs a2.Name, qi a2.Now, .c (cL enc_Rec a2.Recs)], some [qs [], qi 0, .nil], some [qs x5.Name, qi x5.Now, .row 1]], [rr 2 enc_Rec x5.Recs true, rr 2 enc_Rec x21 true]⟩) rfl rfl rfl (ev_callG (al := [.ag [qi a1.Pace.Up, qi a1.Pace.Down, qi a1.Pace.UpSpan, qi a1.Pace.DownSpan], .c (cL enc_Rec a2.Recs), qi a3, qi a2.Now, qi x20]) (ls := []) (spec_Steady_ok hx22) rfl rfl rfl rfl rfl (by decide) rfl rfl rfl rfl rfl rfl) ?_; simp only [putT,st,ev,gt,hp,ofV,constT,intT,lm]
        obtain ⟨x23, hx23, H⟩ := bnd H
        refine WL_op (x := qi x23) (σ' := ⟨[], [some [qs a1.Name, qs a1.Target, qi a1.Low, qi a1.High, .c (cL enc_Metric a1.Metrics), qi a1.Pace.Up, qi a1.Pace.Down, qi a1.Pace.UpSpan, qi a1.Pace.DownSpan, .c (cL enc_Note a1.Notes)], some [qs a2.Name, qi a2.Now, .c (cL enc_Rec a2.Recs)], some [qs [], qi 0, .nil], some [qs x5.Name, qi x5.Now, .row 1]], [rr 2 enc_Rec x5.Recs true, rr 2 enc_Rec x21 true]⟩) rfl rfl rfl (ev_callG (al := [.ag [qi a1.Pace.Up, qi a1.Pace.Down, qi a1.Pace.UpSpan, qi a1.Pace.DownSpan], qi a2.Now, qi x22]) (ls := []) (spec_Slow_ok hx23) rfl rfl rfl rfl rfl (by decide) rfl rfl rfl rfl rfl rfl) ?_; simp only [putT,st,ev,gt,hp,ofV,constT,intT,lm]
        refine WL_op rfl rfl rfl rfl ?_; simp only [putT,st,ev,gt,hp,ofV,constT,intT,lm]
        refine WL_nil (by kernel_rfl) ?_
        refine W_seq (W_region ?_)
        refine WO_op rfl rfl rfl ?_
        refine WO_op (x := .bp 0 2) rfl rfl rfl ?_
        refine WO_op (x := qi a1.Low) rfl rfl rfl ?_
        refine WO_op (x := .bp 0 3) rfl rfl rfl ?_; simp only [putT,st,ev,gt,hp,ofV,constT,intT,lm]
        refine WO_op (x := qi a1.High) rfl rfl rfl ?_; simp only [putT,st,ev,gt,hp,ofV,constT,intT,lm]
        obtain ⟨x24, hx24, H⟩ := bnd H
        refine WO_op (x := qi x24) (σ' := ⟨[], [some [qs a1.Name, qs a1.Target, qi a1.Low, qi a1.High, .c (cL enc_Metric a1.Metrics), qi a1.Pace.Up, qi a1.Pace.Down, qi a1.Pace.UpSpan, qi a1.Pace.DownSpan, .c (cL enc_Note a1.Notes)], some [qs a2.Name, qi a2.Now, .c (cL enc_Rec a2.Recs)], some [qs [], qi 0, .nil], some [qs x5.Name, qi x5.Now, .row 1]], [rr 2 enc_Rec x5.Recs true, rr 2 enc_Rec x21 true]⟩) rfl rfl (ev_callG (al := [qi x23, qi a1.Low, qi a1.High]) (ls := []) (spec_Clamp_ok hx24) rfl rfl rfl rfl rfl (by decide) rfl rfl rfl rfl rfl rfl) ?_; simp only [putT,st,ev,gt,hp,ofV,constT,intT,lm]
        refine WO_op (x := .bp 3 1) rfl rfl rfl ?_
        refine WO_op (x := .no) (σ' := ⟨[], [some [qs a1.Name, qs a1.Target, qi a1.Low, qi a1.High, .c (cL enc_Metric a1.Metrics), qi a1.Pace.Up, qi a1.Pace.Down, qi a1.Pace.UpSpan, qi a1.Pace.DownSpan, .c (cL enc_Note a1.Notes)], some [qs a2.Name, qi a2.Now, .c (cL enc_Rec a2.Recs)], some [qs [], qi 0, .nil], some [qs x5.Name, qi x24, .row 1]], [rr 2 enc_Rec x5.Recs true, rr 2 enc_Rec x21 true]⟩) rfl rfl rfl ?_; simp only [putT,st,ev,gt,hp,ofV,constT,intT,lm]
        refine WO_nil (W_seq ?_)
        refine W_drawL (by kernel_rfl) (by decide +kernel) ?_
        refine WL_op (x := .ag [qs x5.Name, qi x24, .row 1]) rfl rfl rfl rfl ?_
        refine WL_op (x := .bp 3 1) rfl rfl rfl rfl ?_
        refine WL_op (x := qi x24) rfl rfl rfl rfl ?_
        refine WL_op (x := .no) (σ' := ⟨[], [some [qs a1.Name, qs a1.Target, qi a1.Low, qi a1.High, .c (cL enc_Metric a1.Metrics), qi a1.Pace.Up, qi a1.Pace.Down, qi a1.Pace.UpSpan, qi a1.Pace.DownSpan, .c (cL enc_Note a1.Notes)], some [qs a2.Name, qi a2.Now, .c (cL enc_Rec a2.Recs)], some [qs x5.Name, qi x24, .row 1], some [qs x5.Name, qi x24, .row 1]], [rr 2 enc_Rec x5.Recs true, rr 2 enc_Rec x21 true]⟩) rfl rfl rfl rfl ?_; simp only [putT,st,ev,gt,hp,ofV,constT,intT,lm]
        refine WL_op rfl rfl rfl rfl ?_; simp only [putT,st,ev,gt,hp,ofV,constT,intT,lm]
        refine WL_nil (by kernel_rfl) ?_
        refine W_ret ?_
        obtain rfl := Option.some.inj H
        exact told5 rfl rfl rfl rfl (fitAs_nz rfl) rfl
theorem spec_Settle_ok {a1 : Order} {a2 : Scale} {a3 : Int} {a4 : List Sample} {a5 : Int} {r : Scale} (H : spec_Settle a1 a2 a3 a4 a5 = some r) : R 20 [.ag [(cS a1.Name, none), (cS a1.Target, none), (cI .i64 a1.Low, none), (cI .i64 a1.High, none), (cL enc_Metric a1.Metrics, none), (cI .i64 a1.Pace.Up, none), (cI .i64 a1.Pace.Down, none), (cI .i64 a1.Pace.UpSpan, none), (cI .i64 a1.Pace.DownSpan, none), (cL enc_Note a1.Notes, none)], .ag [(cS a2.Name, none), (cI .i64 a2.Now, none), (cL enc_Rec a2.Recs, none)], .c (cI .i64 a3) none, .c (cL enc_Sample a4) none, .c (cI .i64 a5) none] = some (.ag [(cS r.Name, none), (cI .i64 r.Now, none), (cL enc_Rec r.Recs, some 2)], []) := by
 unfold spec_Settle at H
 refine Fz_walk 36 rfl rfl Tryz.func20 rfl (by kernel_rfl) rfl rfl rfl rfl ?_
 simp only [tellVs, tellV, tells, tell, st0, padT, SX.newRow, SX.newBox, List.length_cons, List.length_nil, Nat.reduceAdd, Nat.reduceSub, List.replicate, List.cons_append, List.nil_append, List.foldl_cons, List.foldl_nil]
 refine W_seq (W_region ?_)
 refine WO_op (x := .bp 0 0) (σ' := ⟨[], [some [qs a1.Name, qs a1.Target, qi a1.Low, qi a1.High, .c (cL enc_Metric a1.Metrics), qi a1.Pace.Up, qi a1.Pace.Down, qi a1.Pace.UpSpan, qi a1.Pace.DownSpan, .c (cL enc_Note a1.Notes)]], []⟩) rfl rfl rfl ?_
 refine WO_op (x := .bp 1 0) (σ' := ⟨[], [some [qs a1.Name, qs a1.Target, qi a1.Low, qi a1.High, .c (cL enc_Metric a1.Metrics), qi a1.Pace.Up, qi a1.Pace.Down, qi a1.Pace.UpSpan, qi a1.Pace.DownSpan, .c (cL enc_Note a1.Notes)], some [qs a2.Name, qi a2.Now, .c (cL enc_Rec a2.Recs)]], []⟩) rfl rfl rfl ?_
 refine WO_op (x := .bp 2 0) (σ' := ⟨[], [some [qs a1.Name, qs a1.Target, qi a1.Low, qi a1.High, .c (cL enc_Metric a1.Metrics), qi a1.Pace.Up, qi a1.Pace.Down, qi a1.Pace.UpSpan, qi a1.Pace.DownSpan, .c (cL enc_Note a1.Notes)], some [qs a2.Name, qi a2.Now, .c (cL enc_Rec a2.Recs)], some [qs [], qi 0, .nil]], []⟩) rfl rfl rfl ?_; simp only [putT,st,ev,gt,hp,ofV,constT,intT,lm]
 refine WO_nil (W_seq (W_region ?_))
 refine WO_op (x := .ag [qs a2.Name, qi a2.Now, .c (cL enc_Rec a2.Recs)]) rfl rfl rfl ?_; simp only [putT,st,ev,gt,hp,ofV,constT,intT,lm]
 obtain ⟨x6, hx6, H⟩ := bnd H
 refine WO_op (x := .ag [qs x6.Name, qi x6.Now, .row 0]) (σ' := ⟨[], [some [qs a1.Name, qs a1.Target, qi a1.Low, qi a1.High, .c (cL enc_Metric a1.Metrics), qi a1.Pace.Up, qi a1.Pace.Down, qi a1.Pace.UpSpan, qi a1.Pace.DownSpan, .c (cL enc_Note a1.Notes)], some [qs a2.Name, qi a2.Now, .c (cL enc_Rec a2.Recs)], some [qs [], qi 0, .nil]], [rr 2 enc_Rec x6.Recs true]⟩) rfl rfl (ev_callG (al := [.ag [qs a2.Name, qi a2.Now, .c (cL enc_Rec a2.Recs)]]) (ls := []) (spec_l17Copy_ok hx6) rfl rfl rfl rfl rfl (by decide) rfl rfl (by simp only [flatA, flatV, flatC, List.all_cons, List.all_nil, Option.all_some, Bool.and_self, Bool.or_true, fl_Rec]) rfl rfl rfl) ?_; simp only [putT,st,ev,gt,hp,ofV,constT,intT,lm]
 refine WO_op (x := .bp 3 0) (σ' := ⟨[], [some [qs a1.Name, qs a1.Target, qi a1.Low, qi a1.High, .c (cL enc_Metric a1.Metrics), qi a1.Pace.Up, qi a1.Pace.Down, qi a1.Pace.UpSpan, qi a1.Pace.DownSpan, .c (cL enc_Note a1.Notes)], some [qs a2.Name, qi a2.Now, .c (cL enc_Rec a2.Recs)], some [qs [], qi 0, .nil], some [qs [], qi 0, .nil]], [rr 2 enc_Rec x6.Recs true]⟩) rfl rfl rfl ?_
 refine WO_op (x := .no) (σ' := ⟨[], [some [qs a1.Name, qs a1.Target, qi a1.Low, qi a1.High, .c (cL enc_Metric a1.Metrics), qi a1.Pace.Up, qi a1.Pace.Down, qi a1.Pace.UpSpan, qi a1.Pace.DownSpan, .c (cL enc_Note a1.Notes)], some [qs a2.Name, qi a2.Now, .c (cL enc_Rec a2.Recs)], some [qs [], qi 0, .nil], some [qs x6.Name, qi x6.Now, .row 0]], [rr 2 enc_Rec x6.Recs true]⟩) rfl rfl rfl ?_; simp only [putT,st,ev,gt,hp,ofV,constT,intT,lm]
 refine WO_nil (W_seq (W_seq (W_region ?_)))
 refine WO_op rfl rfl rfl ?_; simp only [putT,st,ev,gt,hp,ofV,constT,intT,lm]
 refine WO_nil ?_
 refine W_block ?_
 obtain ⟨t15, ht15, H⟩ := bnd H
 refine loop_rule (ls := []) 0 (fun t15 : Str × Int × List Rec => ⟨[.no, .no, .no, .no, .no, .no, .no, .no, .no, .no, .bp 0 0, .bp 1 0], [some [qs [], qi 0, .nil], some [qs t15.1, qi t15.2.1, .row 0]], [rr 2 enc_Rec t15.2.2 true]⟩) (fun t => t15 = t) ⟨[.no, .no, qi a3, .c (cL enc_Sample a4), qi a5, .bp 0 0, .no, .no, .no, .no, .bp 1 0, .bp 2 0, qi 0], [some [qs a1.Name, qs a1.Target, qi a1.Low, qi a1.High, .c (cL enc_Metric a1.Metrics), qi a1.Pace.Up, qi a1.Pace.Down, qi a1.Pace.UpSpan, qi a1.Pace.DownSpan, .c (cL enc_Note a1.Notes)], some [qs [], qi 0, .nil], some [qs x6.Name, qi x6.Now, .row 0]], [rr 2 enc_Rec x6.Recs true]⟩ (by repeat (first | exact mono_told | refine mono_seq ?_ | refine mono_blk ?_ | refine mono_lp ?_)) (le_intro [0, 2, 3] [0] (by decide) (by decide) rfl (by simp [leS, leT, leA, gt]) (by simp [leB, leT, leA]) (by simp [leR])) ?_ ?_
 ·
  rintro t1 rfl
  refine W_seq (W_region ?_)
  refine WO_op (x := .ag [qs t15.1, qi t15.2.1, .row 0]) rfl rfl rfl ?_
  refine WO_op (x := .no) (σ' := ⟨[], [some [qs t15.1, qi t15.2.1, .row 0], some [qs t15.1, qi t15.2.1, .row 0]], [rr 2 enc_Rec t15.2.2 true]⟩) rfl rfl rfl ?_; simp only [putT,st,ev,gt,hp,ofV,constT,intT,lm]
  refine WO_nil ?_
  refine W_ret ?_
  obtain rfl := Option.some.inj H
  exact told5 rfl rfl rfl rfl (fitAs_nz rfl) rfl
 ·
  intro V1 hV1 hW1 hX1
  refine (spec_Settle.l0.partial_correctness a1 a4 a5 (fun v7 v8 v9 v10 v11 s' => s' = t15 → (V1 ⟨[.no, .no, qi v7, .c (cL enc_Sample a4), qi a5, .bp 0 0, .no, .no, .no, .no, .bp 1 0, .bp 2 0, qi v8], [some [qs a1.Name, qs a1.Target, qi a1.Low, qi a1.High, .c (cL enc_Metric a1.Metrics), qi a1.Pace.Up, qi a1.Pace.Down, qi a1.Pace.UpSpan, qi a1.Pace.DownSpan, .c (cL enc_Note a1.Notes)], some [qs [], qi 0, .nil], some [qs v9, qi v10, .row 0]], [rr 2 enc_Rec v11 true]⟩)) ?_ _ _ _ _ _ _ ht15 rfl)
  intro l0 IH1 v7 v8 v9 v10 v11 s' H1 e
  subst e
  refine hV1 _ ?_
  refine W_seq (W_seq (W_region ?_))
  iterate 2 (refine WO_op rfl rfl rfl ?_; simp only [putT,st,ev,gt,hp,ofV,constT,intT,lm])
  obtain ⟨x12, hx12, H1⟩ := bnd H1
  refine WO_op (x := qi x12) (σ' := ⟨[], [some [qs a1.Name, qs a1.Target, qi a1.Low, qi a1.High, .c (cL enc_Metric a1.Metrics), qi a1.Pace.Up, qi a1.Pace.Down, qi a1.Pace.UpSpan, qi a1.Pace.DownSpan, .c (cL enc_Note a1.Notes)], some [qs [], qi 0, .nil], some [qs v9, qi v10, .row 0]], [rr 2 enc_Rec v11 true]⟩) rfl rfl (ev_callG (al := [qi a5, qi 60]) (ls := []) (spec_l1Min_ok hx12) rfl rfl rfl rfl rfl (by decide) rfl rfl rfl rfl rfl rfl) ?_; simp only [putT,st,ev,gt,hp,ofV,constT,intT,lm]
  iterate 2 (refine WO_op rfl rfl rfl ?_; simp only [putT,st,ev,gt,hp,ofV,constT,intT,lm])
  refine WO_if rfl rfl rfl (fun hc => ?_) (fun hc => ?_)
  ·
   replace H1 := tr hc H1
   refine WO_want rfl rfl rfl ?_; simp only [putT,st,ev,gt,hp,ofV,constT,intT,lm]
   obtain ⟨x13, hx13, H1⟩ := bnd H1
   refine WO_want (x := qb x13) (σ' := ⟨[], [some [qs a1.Name, qs a1.Target, qi a1.Low, qi a1.High, .c (cL enc_Metric a1.Metrics), qi a1.Pace.Up, qi a1.Pace.Down, qi a1.Pace.UpSpan, qi a1.Pace.DownSpan, .c (cL enc_Note a1.Notes)], some [qs [], qi 0, .nil], some [qs v9, qi v10, .row 0]], [rr 2 enc_Rec v11 true]⟩) rfl rfl (ev_callG (al := [qi v7, qi 0, qi 1000000]) (ls := []) (spec_l1In_ok hx13) rfl rfl rfl rfl rfl (by decide) rfl rfl rfl rfl rfl rfl) ?_; simp only [putT,st,ev,gt,hp,ofV,constT,intT,lm]
   refine WO_op (x := qb x13) rfl rfl rfl ?_; simp only [putT,st,ev,gt,hp,ofV,constT,intT,lm]
   refine WO_nil ?_
   refine W_cond rfl (fun hc => ?_) (fun hc => ?_)
   ·
    replace H1 := tr hc H1
    refine W_skip ?_
    refine W_seq ?_
    refine W_block ?_
    refine W_seq (W_region ?_)
    refine WO_op (x := .ag [qs a1.Name, qs a1.Target, qi a1.Low, qi a1.High, .c (cL enc_Metric a1.Metrics), qi a1.Pace.Up, qi a1.Pace.Down, qi a1.Pace.UpSpan, qi a1.Pace.DownSpan, .c (cL enc_Note a1.Notes)]) rfl rfl rfl ?_
    refine WO_op (x := .ag [qs v9, qi v10, .row 0]) rfl rfl rfl ?_; simp only [putT,st,ev,gt,hp,ofV,constT,intT,lm]
    iterate 2 (refine WO_op rfl rfl rfl ?_; simp only [putT,st,ev,gt,hp,ofV,constT,intT,lm])
    obtain ⟨x14, hx14, H1⟩ := bnd H1
    refine WO_op (x := .tu [.ag [qs x14.1.Name, qi x14.1.Now, .row 1], qi x14.2]) (σ' := ⟨[], [some [qs a1.Name, qs a1.Target, qi a1.Low, qi a1.High, .c (cL enc_Metric a1.Metrics), qi a1.Pace.Up, qi a1.Pace.Down, qi a1.Pace.UpSpan, qi a1.Pace.DownSpan, .c (cL enc_Note a1.Notes)], some [qs [], qi 0, .nil], some [qs v9, qi v10, .row 0]], [rr 2 enc_Rec v11 true, rr 2 enc_Rec x14.1.Recs true]⟩) rfl rfl (ev_callG (al := [.ag [qs a1.Name, qs a1.Target, qi a1.Low, qi a1.High, .c (cL enc_Metric a1.Metrics), qi a1.Pace.Up, qi a1.Pace.Down, qi a1.Pace.UpSpan, qi a1.Pace.DownSpan, .c (cL enc_Note a1.Notes)], .ag [qs v9, qi v10, .row 0], qi v7, .c (cL enc_Sample a4)]) (ls := []) (spec_Step_ok hx14) rfl rfl rfl rfl rfl (by decide) rfl rfl (by simp only [flatA, flatV, flatC, List.all_cons, List.all_nil, Option.all_some, Bool.and_self, Bool.or_true, fl_Rec]) rfl rfl rfl) ?_; simp only [putT,st,ev,gt,hp,ofV,constT,intT,lm]
    refine WO_op rfl rfl rfl ?_
    refine WO_op (x := .ag [qs x14.1.Name, qi x14.1.Now, .row 1]) rfl rfl rfl ?_
    refine WO_op (x := qi x14.2) rfl rfl rfl ?_
    refine WO_op (x := .no) (σ' := ⟨[], [some [qs a1.Name, qs a1.Target, qi a1.Low, qi a1.High, .c (cL enc_Metric a1.Metrics), qi a1.Pace.Up, qi a1.Pace.Down, qi a1.Pace.UpSpan, qi a1.Pace.DownSpan, .c (cL enc_Note a1.Notes)], some [qs [], qi 0, .nil], some [qs x14.1.Name, qi x14.1.Now, .row 1]], [rr 2 enc_Rec v11 true, rr 2 enc_Rec x14.1.Recs true]⟩) rfl rfl rfl ?_; simp only [putT,st,ev,gt,hp,ofV,constT,intT,lm]
    refine WO_nil (W_region ?_)
    iterate 3 (refine WO_op rfl rfl rfl ?_; simp only [putT,st,ev,gt,hp,ofV,constT,intT,lm])
    refine WO_nil (W_region ?_)
    iterate 3 (refine WO_op rfl rfl rfl ?_; simp only [putT,st,ev,gt,hp,ofV,constT,intT,lm])
    refine WO_nil ?_
    exact hW1 _ _ ((IH1 _ _ _ _ _ _ H1 rfl)) (le_intro [0, 1, 2] [1] (by decide) (by decide) rfl (by simp [leS, leT, leA, gt]) (by simp [leB, leT, leA]) (by simp [leR]))
   ·
    replace H1 := fl hc H1
    refine W_exit ?_
    obtain rfl := Option.some.inj H1
    exact hX1 (v9, v10, v11) _ rfl (le_intro [1, 2] [0] (by decide) (by decide) rfl (by simp [leS, leT, leA, gt]) (by simp [leB, leT, leA]) (by simp [leR]))
  ·
   replace H1 := fl hc H1
   simp only [putT,st,ev,gt,hp,ofV,constT,intT,lm]
   iterate 2 refine WO_skip rfl rfl ?_
   refine WO_op (x := qb false) rfl rfl rfl ?_; simp only [putT,st,ev,gt,hp,ofV,constT,intT,lm]
   refine WO_nil ?_
   refine W_cond (t := false) rfl (fun h => by cases h) (fun _ => ?_)
   refine W_exit ?_
   obtain rfl := Option.some.inj H1
   exact hX1 (v9, v10, v11) _ rfl (le_intro [1, 2] [0] (by decide) (by decide) rfl (by simp [leS, leT, leA, gt]) (by simp [leB, leT, leA]) (by simp [leR]))
theorem slices_Clone_Simpl_Rec_impl_Rec_ok {a1 r : List Rec} (H : slices_Clone_Simpl_Rec_impl_Rec a1 = some r) : R 77 [.c (cL enc_Rec a1) none] = some (.c (cL enc_Rec r) (some 2), []) := by
  unfold slices_Clone_Simpl_Rec_impl_Rec Nt.clone at H
  split at H
  · rename_i h
    obtain rfl := Option.some.inj H
    exact Fz_pr rfl (by simp only [cloneF]; rw [if_pos ⟨wide_map (en := enc_Rec) (fun _ => rfl) a1, by simpa using h⟩])
  · simp at H
theorem impl_copyScale_ok {a1 : Scale} {r : Scale} (H : impl_copyScale a1 = some r) : R 41 [.ag [(cS a1.Name, none), (cI .i64 a1.Now, none), (cL enc_Rec a1.Recs, none)]] = some (.ag [(cS r.Name, none), (cI .i64 r.Now, none), (cL enc_Rec r.Recs, some 2)], []) := by
 unfold impl_copyScale at H
 refine Fz_walk 8 rfl rfl Tryz.func41 rfl (by kernel_rfl) rfl rfl rfl rfl ?_
 simp only [tellVs, tellV, tells, tell, st0, padT, SX.newRow, SX.newBox, List.length_cons, List.length_nil, Nat.reduceAdd, Nat.reduceSub, List.replicate, List.cons_append, List.nil_append, List.foldl_cons, List.foldl_nil]
 refine W_seq (W_region ?_)
 refine WO_op (x := .bp 0 0) (σ' := ⟨[], [some [qs a1.Name, qi a1.Now, .c (cL enc_Rec a1.Recs)]], []⟩) rfl rfl rfl ?_
 refine WO_op (x := .bp 1 0) (σ' := ⟨[], [some [qs a1.Name, qi a1.Now, .c (cL enc_Rec a1.Recs)], some [qs [], qi 0, .nil]], []⟩) rfl rfl rfl ?_; simp only [putT,st,ev,gt,hp,ofV,constT,intT,lm]
 refine WO_nil (W_seq (W_region ?_))
 refine WO_op (x := .bp 0 2) rfl rfl rfl ?_
 refine WO_op (x := .c (cL enc_Rec a1.Recs)) rfl rfl rfl ?_; simp only [putT,st,ev,gt,hp,ofV,constT,intT,lm]
 obtain ⟨x2, hx2, H⟩ := bnd H
 refine WO_op (x := .row 0) (σ' := ⟨[], [some [qs a1.Name, qi a1.Now, .c (cL enc_Rec a1.Recs)], some [qs [], qi 0, .nil]], [rr 2 enc_Rec x2 true]⟩) rfl rfl (ev_callG (al := [.c (cL enc_Rec a1.Recs)]) (ls := []) (slices_Clone_Simpl_Rec_impl_Rec_ok hx2) rfl rfl rfl rfl rfl (by decide) rfl rfl (by simp only [flatA, flatV, flatC, List.all_cons, List.all_nil, Option.all_some, Bool.and_self, Bool.or_true, fl_Rec]) rfl rfl rfl) ?_; simp only [putT,st,ev,gt,hp,ofV,constT,intT,lm]
 refine WO_op (x := .bp 0 2) rfl rfl rfl ?_
 refine WO_op (x := .no) (σ' := ⟨[], [some [qs a1.Name, qi a1.Now, .row 0], some [qs [], qi 0, .nil]], [rr 2 enc_Rec x2 true]⟩) rfl rfl rfl ?_; simp only [putT,st,ev,gt,hp,ofV,constT,intT,lm]
 refine WO_nil (W_seq (W_region ?_))
 refine WO_op (x := .ag [qs a1.Name, qi a1.Now, .row 0]) rfl rfl rfl ?_
 refine WO_op (x := .no) (σ' := ⟨[], [some [qs a1.Name, qi a1.Now, .row 0], some [qs a1.Name, qi a1.Now, .row 0]], [rr 2 enc_Rec x2 true]⟩) rfl rfl rfl ?_; simp only [putT,st,ev,gt,hp,ofV,constT,intT,lm]
 refine WO_nil ?_
 refine W_ret ?_
 obtain rfl := Option.some.inj H
 exact told5 rfl rfl rfl rfl (fitAs_nz rfl) rfl
theorem impl_from_ok {a1 : Int} {a2 : Int} {a3 : Int} {r : Bool} (H : impl_from a1 a2 a3 = some r) : R 62 [.c (cI .i64 a1) none, .c (cI .i64 a2) none, .c (cI .i64 a3) none] = some (.c (cB r) none, []) := by
 unfold impl_from at H
 refine Fz_walk 15 rfl rfl Tryz.func62 rfl (by kernel_rfl) rfl rfl rfl rfl ?_
 simp only [tellVs, tellV, tells, tell, st0, padT, SX.newRow, SX.newBox, List.length_cons, List.length_nil, Nat.reduceAdd, Nat.reduceSub, List.replicate, List.cons_append, List.nil_append, List.foldl_cons, List.foldl_nil]
 refine W_seq (W_region ?_)
 refine WO_op rfl rfl rfl ?_; simp only [putT,st,ev,gt,hp,ofV,constT,intT,lm]
 refine WO_nil (W_seq (W_region ?_))
 iterate 4 (refine WO_op rfl rfl rfl ?_; simp only [putT,st,ev,gt,hp,ofV,constT,intT,lm])
 refine WO_if rfl rfl rfl (fun hc => ?_) (fun hc => ?_)
 ·
  replace H := tr hc H
  simp only [putT,st,ev,gt,hp,ofV,constT,intT,lm]
  iterate 3 (refine WO_want rfl rfl rfl ?_; simp only [putT,st,ev,gt,hp,ofV,constT,intT,lm])
  refine WO_op (x := qb (decide (a1 ≤ a3))) rfl rfl rfl ?_
  refine WO_op rfl rfl rfl ?_; simp only [putT,st,ev,gt,hp,ofV,constT,intT,lm]
  refine WO_nil ?_
  refine W_ret ?_
  obtain rfl := Option.some.inj H
  exact told3 rfl
 ·
  replace H := fl hc H
  simp only [putT,st,ev,gt,hp,ofV,constT,intT,lm]
  iterate 3 refine WO_skip rfl rfl ?_
  refine WO_op (x := qb false) rfl rfl rfl ?_
  refine WO_op rfl rfl rfl ?_; simp only [putT,st,ev,gt,hp,ofV,constT,intT,lm]
  refine WO_nil ?_
  refine W_ret ?_
  obtain rfl := Option.some.inj H
  exact told3 rfl
theorem impl_isDigit_ok {a1 : Int} {r : Bool} (H : impl_isDigit a1 = some r) : R 97 [.c (cI .u8 a1) none] = some (.c (cB r) none, []) := by
 unfold impl_isDigit at H
 refine Fz_walk 9 rfl rfl Tryz.func97 rfl (by kernel_rfl) rfl rfl rfl rfl ?_
 simp only [tellVs, tellV, tells, tell, st0, padT, SX.newRow, SX.newBox, List.length_cons, List.length_nil, Nat.reduceAdd, Nat.reduceSub, List.replicate, List.cons_append, List.nil_append, List.foldl_cons, List.foldl_nil]
 refine W_seq (W_region ?_)
 refine WO_op rfl rfl rfl ?_; simp only [putT,st,ev,gt,hp,ofV,constT,intT,lm]
 refine WO_nil (W_seq (W_region ?_))
 iterate 3 (refine WO_op rfl rfl rfl ?_; simp only [putT,st,ev,gt,hp,ofV,constT,intT,lm])
 refine WO_if rfl rfl rfl (fun hc => ?_) (fun hc => ?_)
 ·
  replace H := tr hc H
  simp only [putT,st,ev,gt,hp,ofV,constT,intT,lm]
  iterate 2 (refine WO_want rfl rfl rfl ?_; simp only [putT,st,ev,gt,hp,ofV,constT,intT,lm])
  refine WO_op (x := qb (decide (a1 ≤ 57))) rfl rfl rfl ?_
  refine WO_op rfl rfl rfl ?_; simp only [putT,st,ev,gt,hp,ofV,constT,intT,lm]
  refine WO_nil ?_
  refine W_ret ?_
  obtain rfl := Option.some.inj H
  exact told3 rfl
 ·
  replace H := fl hc H
  simp only [putT,st,ev,gt,hp,ofV,constT,intT,lm]
  iterate 2 refine WO_skip rfl rfl ?_
  refine WO_op (x := qb false) rfl rfl rfl ?_
  refine WO_op rfl rfl rfl ?_; simp only [putT,st,ev,gt,hp,ofV,constT,intT,lm]
  refine WO_nil ?_
  refine W_ret ?_
  obtain rfl := Option.some.inj H
  exact told3 rfl
theorem impl_NameOk_ok {a1 : Str} {r : Bool} (H : impl_NameOk a1 = some r) : R 79 [.c (cS a1) none] = some (.c (cB r) none, []) := by
 unfold impl_NameOk at H
 refine Fz_walk 43 rfl rfl Tryz.func79 rfl (by kernel_rfl) rfl rfl rfl rfl ?_
 simp only [tellVs, tellV, tells, tell, st0, padT, SX.newRow, SX.newBox, List.length_cons, List.length_nil, Nat.reduceAdd, Nat.reduceSub, List.replicate, List.cons_append, List.nil_append, List.foldl_cons, List.foldl_nil]
 refine W_seq (W_region ?_)
 refine WO_op rfl rfl rfl ?_; simp only [putT,st,ev,gt,hp,ofV,constT,intT,lm]
 refine WO_nil (W_seq (W_seq (W_region ?_)))
 refine WO_op rfl rfl rfl ?_
 refine WO_op (x := qi (a1.length : Int)) rfl rfl rfl ?_
 refine WO_op rfl rfl rfl ?_; simp only [putT,st,ev,gt,hp,ofV,constT,intT,lm]
 refine WO_nil ?_
 refine W_block ?_
 obtain ⟨s13, hs13, H⟩ := bnd H
 refine loop_rule (ls := []) 0 (fun t11 : Unit => ⟨[qs a1], [], []⟩) (fun t => s13 = .inr t) ⟨[qs a1, .no, .no, .no, .no, .no, qi (a1.length : Int), qi 0], [], []⟩ (by repeat (first | exact mono_told | refine mono_seq ?_ | refine mono_blk ?_ | refine mono_lp ?_)) (le_intro [] [] (by decide) (by decide) rfl (by simp [leS, leT, leA, gt]) (by simp [leB, leT, leA]) (by simp [leR])) ?_ ?_
 ·
  rintro t11 rfl
  refine W_seq (W_region ?_)
  refine WO_op rfl rfl rfl ?_
  refine WO_op (x := qi (a1.length : Int)) rfl rfl rfl ?_; simp only [putT,st,ev,gt,hp,ofV,constT,intT,lm]
  obtain ⟨x12, hx12, H⟩ := bnd H
  refine WO_op (x := qb x12) (σ' := ⟨[], [], []⟩) rfl rfl (ev_callG (al := [qi (a1.length : Int), qi 1, qi 20]) (ls := []) (impl_from_ok hx12) rfl rfl rfl rfl rfl (by decide) rfl rfl rfl rfl rfl rfl) ?_; simp only [putT,st,ev,gt,hp,ofV,constT,intT,lm]
  refine WO_op rfl rfl rfl ?_; simp only [putT,st,ev,gt,hp,ofV,constT,intT,lm]
  refine WO_nil ?_
  refine W_ret ?_
  obtain rfl := Option.some.inj H
  exact told3 rfl
 ·
  intro V1 hV1 hW1 hX1
  refine (impl_NameOk.l0.partial_correctness a1 (fun v2 s' => s' = s13 → (V1 ⟨[qs a1, .no, .no, .no, .no, .no, qi (a1.length : Int), qi v2], [], []⟩)) ?_ _ _ hs13 rfl)
  intro l0 IH1 v2 s' H1 e
  subst e
  refine hV1 _ ?_
  refine W_seq (W_region ?_)
  refine WO_op rfl rfl rfl ?_; simp only [putT,st,ev,gt,hp,ofV,constT,intT,lm]
  refine WO_nil (W_seq ?_)
  refine W_cond rfl (fun hc => ?_) (fun hc => ?_)
  ·
   replace H1 := tr hc H1
   refine W_skip ?_
   refine W_seq ?_
   refine W_block ?_
   refine W_seq (W_region ?_)
   iterate 2 (refine WO_op rfl rfl rfl ?_; simp only [putT,st,ev,gt,hp,ofV,constT,intT,lm])
   refine WO_nil (W_seq (W_region ?_))
   iterate 2 (refine WO_op rfl rfl rfl ?_; simp only [putT,st,ev,gt,hp,ofV,constT,intT,lm])
   obtain ⟨c3, hc3, H1⟩ := bnd H1
   refine WO_op rfl rfl (ev_sx hc3 rfl rfl rfl rfl) ?_; simp only [putT,st,ev,gt,hp,ofV,constT,intT,lm]
   iterate 2 (refine WO_op rfl rfl rfl ?_; simp only [putT,st,ev,gt,hp,ofV,constT,intT,lm])
   refine WO_if rfl rfl rfl (fun hc => ?_) (fun hc => ?_)
   ·
    replace H1 := tr hc H1
    simp only [putT,st,ev,gt,hp,ofV,constT,intT,lm]
    iterate 2 (refine WO_want rfl rfl rfl ?_; simp only [putT,st,ev,gt,hp,ofV,constT,intT,lm])
    obtain ⟨c4, hc4, H1⟩ := bnd H1
    refine WO_want rfl rfl (ev_sx hc4 rfl rfl rfl rfl) ?_; simp only [putT,st,ev,gt,hp,ofV,constT,intT,lm]
    refine WO_want rfl rfl rfl ?_
    refine WO_op (x := qb (decide ((byte c4) ≤ 122))) rfl rfl rfl ?_
    refine WO_op rfl rfl rfl ?_; simp only [putT,st,ev,gt,hp,ofV,constT,intT,lm]
    refine WO_nil (W_seq (W_region ?_))
    iterate 3 (refine WO_op rfl rfl rfl ?_; simp only [putT,st,ev,gt,hp,ofV,constT,intT,lm])
    refine WO_if rfl rfl rfl (fun hc => ?_) (fun hc => ?_)
    ·
     replace H1 := tr hc H1
     simp only [putT,st,ev,gt,hp,ofV,constT,intT,lm]
     iterate 3 (refine WO_want rfl rfl rfl ?_; simp only [putT,st,ev,gt,hp,ofV,constT,intT,lm])
     refine WO_if rfl rfl rfl (fun hc => ?_) (fun hc => ?_)
     ·
      replace H1 := tr hc H1
      simp only [putT,st,ev,gt,hp,ofV,constT,intT,lm]
      iterate 11 refine WO_skip rfl rfl ?_
      refine WO_want (x := qb true) rfl rfl rfl ?_
      refine WO_op (x := qb true) rfl rfl rfl ?_; simp only [putT,st,ev,gt,hp,ofV,constT,intT,lm]
      refine WO_nil ?_
      refine W_cond (t := true) rfl (fun _ => ?_) (fun h => by cases h)
      refine W_seq (W_region ?_)
      refine WO_op rfl rfl rfl ?_; simp only [putT,st,ev,gt,hp,ofV,constT,intT,lm]
      refine WO_nil ?_
      refine W_ret ?_
      obtain rfl := Option.some.inj H1
      obtain rfl := Option.some.inj H
      exact told3 rfl
     ·
      replace H1 := fl hc H1
      simp only [putT,st,ev,gt,hp,ofV,constT,intT,lm]
      iterate 2 (refine WO_want rfl rfl rfl ?_; simp only [putT,st,ev,gt,hp,ofV,constT,intT,lm])
      obtain ⟨c5, hc5, H1⟩ := bnd H1
      refine WO_want rfl rfl (ev_sx hc5 rfl rfl rfl rfl) ?_; simp only [putT,st,ev,gt,hp,ofV,constT,intT,lm]
      obtain ⟨x6, hx6, H1⟩ := bnd H1
      refine WO_want (x := qb x6) (σ' := ⟨[], [], []⟩) rfl rfl (ev_callG (al := [.c (cI .u8 (byte c5))]) (ls := []) (impl_isDigit_ok hx6) rfl rfl rfl rfl rfl (by decide) rfl rfl rfl rfl rfl rfl) ?_; simp only [putT,st,ev,gt,hp,ofV,constT,intT,lm]
      iterate 2 (refine WO_want rfl rfl rfl ?_; simp only [putT,st,ev,gt,hp,ofV,constT,intT,lm])
      refine WO_if rfl rfl rfl (fun hc => ?_) (fun hc => ?_)
      ·
       replace H1 := tr hc H1
       simp only [putT,st,ev,gt,hp,ofV,constT,intT,lm]
       iterate 2 (refine WO_want rfl rfl rfl ?_; simp only [putT,st,ev,gt,hp,ofV,constT,intT,lm])
       obtain ⟨c7, hc7, H1⟩ := bnd H1
       refine WO_want rfl rfl (ev_sx hc7 rfl rfl rfl rfl) ?_; simp only [putT,st,ev,gt,hp,ofV,constT,intT,lm]
       refine WO_want rfl rfl rfl ?_; simp only [putT,st,ev,gt,hp,ofV,constT,intT,lm]
       iterate 2 (refine WO_want (x := qb ((byte c7) != 45)) rfl rfl rfl ?_; simp only [putT,st,ev,gt,hp,ofV,constT,intT,lm])
       refine WO_op (x := qb ((byte c7) != 45)) rfl rfl rfl ?_; simp only [putT,st,ev,gt,hp,ofV,constT,intT,lm]
       refine WO_nil ?_
       refine W_cond rfl (fun hc => ?_) (fun hc => ?_)
       ·
        replace H1 := tr hc H1
        refine W_seq (W_region ?_)
        refine WO_op rfl rfl rfl ?_; simp only [putT,st,ev,gt,hp,ofV,constT,intT,lm]
        refine WO_nil ?_
        refine W_ret ?_
        obtain rfl := Option.some.inj H1
        obtain rfl := Option.some.inj H
        exact told3 rfl
       ·
        replace H1 := fl hc H1
        refine W_skip ?_
        refine W_region ?_
        iterate 2 (refine WO_op rfl rfl rfl ?_; simp only [putT,st,ev,gt,hp,ofV,constT,intT,lm])
        refine WO_nil ?_
        exact hW1 _ _ ((IH1 _ _ H1 rfl)) (le_intro [] [] (by decide) (by decide) rfl (by simp [leS, leT, leA, gt]) (by simp [leB, leT, leA]) (by simp [leR]))
      ·
       replace H1 := fl hc H1
       simp only [putT,st,ev,gt,hp,ofV,constT,intT,lm]
       iterate 4 refine WO_skip rfl rfl ?_
       simp only [putT,st,ev,gt,hp,ofV,constT,intT,lm]
       iterate 2 (refine WO_want (x := qb false) rfl rfl rfl ?_; simp only [putT,st,ev,gt,hp,ofV,constT,intT,lm])
       refine WO_op (x := qb false) rfl rfl rfl ?_; simp only [putT,st,ev,gt,hp,ofV,constT,intT,lm]
       refine WO_nil ?_
       refine W_cond (t := false) rfl (fun h => by cases h) (fun _ => ?_)
       refine W_skip ?_
       refine W_region ?_
       iterate 2 (refine WO_op rfl rfl rfl ?_; simp only [putT,st,ev,gt,hp,ofV,constT,intT,lm])
       refine WO_nil ?_
       exact hW1 _ _ ((IH1 _ _ H1 rfl)) (le_intro [] [] (by decide) (by decide) rfl (by simp [leS, leT, leA, gt]) (by simp [leB, leT, leA]) (by simp [leR]))
    ·
     replace H1 := fl hc H1
     simp only [putT,st,ev,gt,hp,ofV,constT,intT,lm]
     iterate 15 refine WO_skip rfl rfl ?_
     refine WO_op (x := qb false) rfl rfl rfl ?_; simp only [putT,st,ev,gt,hp,ofV,constT,intT,lm]
     refine WO_nil ?_
     refine W_cond (t := false) rfl (fun h => by cases h) (fun _ => ?_)
     refine W_skip ?_
     refine W_region ?_
     iterate 2 (refine WO_op rfl rfl rfl ?_; simp only [putT,st,ev,gt,hp,ofV,constT,intT,lm])
     refine WO_nil ?_
     exact hW1 _ _ ((IH1 _ _ H1 rfl)) (le_intro [] [] (by decide) (by decide) rfl (by simp [leS, leT, leA, gt]) (by simp [leB, leT, leA]) (by simp [leR]))
   ·
    replace H1 := fl hc H1
    simp only [putT,st,ev,gt,hp,ofV,constT,intT,lm]
    iterate 4 refine WO_skip rfl rfl ?_
    refine WO_op (x := qb false) rfl rfl rfl ?_
    refine WO_op rfl rfl rfl ?_; simp only [putT,st,ev,gt,hp,ofV,constT,intT,lm]
    refine WO_nil (W_seq (W_region ?_))
    iterate 3 (refine WO_op rfl rfl rfl ?_; simp only [putT,st,ev,gt,hp,ofV,constT,intT,lm])
    refine WO_if rfl rfl rfl (fun hc => ?_) (fun hc => ?_)
    ·
     replace H1 := tr hc H1
     simp only [putT,st,ev,gt,hp,ofV,constT,intT,lm]
     iterate 3 (refine WO_want rfl rfl rfl ?_; simp only [putT,st,ev,gt,hp,ofV,constT,intT,lm])
     refine WO_if rfl rfl rfl (fun hc => ?_) (fun hc => ?_)
     ·
      replace H1 := tr hc H1
      simp only [putT,st,ev,gt,hp,ofV,constT,intT,lm]
      iterate 11 refine WO_skip rfl rfl ?_
      refine WO_want (x := qb true) rfl rfl rfl ?_
      refine WO_op (x := qb true) rfl rfl rfl ?_; simp only [putT,st,ev,gt,hp,ofV,constT,intT,lm]
      refine WO_nil ?_
      refine W_cond (t := true) rfl (fun _ => ?_) (fun h => by cases h)
      refine W_seq (W_region ?_)
      refine WO_op rfl rfl rfl ?_; simp only [putT,st,ev,gt,hp,ofV,constT,intT,lm]
      refine WO_nil ?_
      refine W_ret ?_
      obtain rfl := Option.some.inj H1
      obtain rfl := Option.some.inj H
      exact told3 rfl
     ·
      replace H1 := fl hc H1
      simp only [putT,st,ev,gt,hp,ofV,constT,intT,lm]
      iterate 2 (refine WO_want rfl rfl rfl ?_; simp only [putT,st,ev,gt,hp,ofV,constT,intT,lm])
      obtain ⟨c8, hc8, H1⟩ := bnd H1
      refine WO_want rfl rfl (ev_sx hc8 rfl rfl rfl rfl) ?_; simp only [putT,st,ev,gt,hp,ofV,constT,intT,lm]
      obtain ⟨x9, hx9, H1⟩ := bnd H1
      refine WO_want (x := qb x9) (σ' := ⟨[], [], []⟩) rfl rfl (ev_callG (al := [.c (cI .u8 (byte c8))]) (ls := []) (impl_isDigit_ok hx9) rfl rfl rfl rfl rfl (by decide) rfl rfl rfl rfl rfl rfl) ?_; simp only [putT,st,ev,gt,hp,ofV,constT,intT,lm]
      iterate 2 (refine WO_want rfl rfl rfl ?_; simp only [putT,st,ev,gt,hp,ofV,constT,intT,lm])
      refine WO_if rfl rfl rfl (fun hc => ?_) (fun hc => ?_)
      ·
       replace H1 := tr hc H1
       simp only [putT,st,ev,gt,hp,ofV,constT,intT,lm]
       iterate 2 (refine WO_want rfl rfl rfl ?_; simp only [putT,st,ev,gt,hp,ofV,constT,intT,lm])
       obtain ⟨c10, hc10, H1⟩ := bnd H1
       refine WO_want rfl rfl (ev_sx hc10 rfl rfl rfl rfl) ?_; simp only [putT,st,ev,gt,hp,ofV,constT,intT,lm]
       refine WO_want rfl rfl rfl ?_; simp only [putT,st,ev,gt,hp,ofV,constT,intT,lm]
       iterate 2 (refine WO_want (x := qb ((byte c10) != 45)) rfl rfl rfl ?_; simp only [putT,st,ev,gt,hp,ofV,constT,intT,lm])
       refine WO_op (x := qb ((byte c10) != 45)) rfl rfl rfl ?_; simp only [putT,st,ev,gt,hp,ofV,constT,intT,lm]
       refine WO_nil ?_
       refine W_cond rfl (fun hc => ?_) (fun hc => ?_)
       ·
        replace H1 := tr hc H1
        refine W_seq (W_region ?_)
        refine WO_op rfl rfl rfl ?_; simp only [putT,st,ev,gt,hp,ofV,constT,intT,lm]
        refine WO_nil ?_
        refine W_ret ?_
        obtain rfl := Option.some.inj H1
        obtain rfl := Option.some.inj H
        exact told3 rfl
       ·
        replace H1 := fl hc H1
        refine W_skip ?_
        refine W_region ?_
        iterate 2 (refine WO_op rfl rfl rfl ?_; simp only [putT,st,ev,gt,hp,ofV,constT,intT,lm])
        refine WO_nil ?_
        exact hW1 _ _ ((IH1 _ _ H1 rfl)) (le_intro [] [] (by decide) (by decide) rfl (by simp [leS, leT, leA, gt]) (by simp [leB, leT, leA]) (by simp [leR]))
      ·
       replace H1 := fl hc H1
       simp only [putT,st,ev,gt,hp,ofV,constT,intT,lm]
       iterate 4 refine WO_skip rfl rfl ?_
       simp only [putT,st,ev,gt,hp,ofV,constT,intT,lm]
       iterate 2 (refine WO_want (x := qb false) rfl rfl rfl ?_; simp only [putT,st,ev,gt,hp,ofV,constT,intT,lm])
       refine WO_op (x := qb false) rfl rfl rfl ?_; simp only [putT,st,ev,gt,hp,ofV,constT,intT,lm]
       refine WO_nil ?_
       refine W_cond (t := false) rfl (fun h => by cases h) (fun _ => ?_)
       refine W_skip ?_
       refine W_region ?_
       iterate 2 (refine WO_op rfl rfl rfl ?_; simp only [putT,st,ev,gt,hp,ofV,constT,intT,lm])
       refine WO_nil ?_
       exact hW1 _ _ ((IH1 _ _ H1 rfl)) (le_intro [] [] (by decide) (by decide) rfl (by simp [leS, leT, leA, gt]) (by simp [leB, leT, leA]) (by simp [leR]))
    ·
     replace H1 := fl hc H1
     simp only [putT,st,ev,gt,hp,ofV,constT,intT,lm]
     iterate 15 refine WO_skip rfl rfl ?_
     refine WO_op (x := qb false) rfl rfl rfl ?_; simp only [putT,st,ev,gt,hp,ofV,constT,intT,lm]
     refine WO_nil ?_
     refine W_cond (t := false) rfl (fun h => by cases h) (fun _ => ?_)
     refine W_skip ?_
     refine W_region ?_
     iterate 2 (refine WO_op rfl rfl rfl ?_; simp only [putT,st,ev,gt,hp,ofV,constT,intT,lm])
     refine WO_nil ?_
     exact hW1 _ _ ((IH1 _ _ H1 rfl)) (le_intro [] [] (by decide) (by decide) rfl (by simp [leS, leT, leA, gt]) (by simp [leB, leT, leA]) (by simp [leR]))
  ·
   replace H1 := fl hc H1
   refine W_exit ?_
   obtain rfl := Option.some.inj H1
   exact hX1 () _ rfl (le_intro [] [] (by decide) (by decide) rfl (by simp [leS, leT, leA, gt]) (by simp [leB, leT, leA]) (by simp [leR]))
theorem impl_MetricOk_ok {a1 : Metric} {r : Bool} (H : impl_MetricOk a1 = some r) : R 78 [.ag [(cS a1.Name, none), (cI .i64 a1.Kind, none), (cI .i64 a1.Goal, none)]] = some (.c (cB r) none, []) := by
 unfold impl_MetricOk at H
 refine Fz_walk 16 rfl rfl Tryz.func78 rfl (by kernel_rfl) rfl rfl rfl rfl ?_
 simp only [tellVs, tellV, tells, tell, st0, padT, SX.newRow, SX.newBox, List.length_cons, List.length_nil, Nat.reduceAdd, Nat.reduceSub, List.replicate, List.cons_append, List.nil_append, List.foldl_cons, List.foldl_nil]
 refine W_seq (W_region ?_)
 refine WO_op (x := .bp 0 0) (σ' := ⟨[], [some [qs a1.Name, qi a1.Kind, qi a1.Goal]], []⟩) rfl rfl rfl ?_
 refine WO_op rfl rfl rfl ?_; simp only [putT,st,ev,gt,hp,ofV,constT,intT,lm]
 refine WO_nil (W_seq (W_region ?_))
 refine WO_op (x := .bp 0 0) rfl rfl rfl ?_
 refine WO_op (x := qs a1.Name) rfl rfl rfl ?_; simp only [putT,st,ev,gt,hp,ofV,constT,intT,lm]
 obtain ⟨x2, hx2, H⟩ := bnd H
 refine WO_op (x := qb x2) (σ' := ⟨[], [some [qs a1.Name, qi a1.Kind, qi a1.Goal]], []⟩) rfl rfl (ev_callG (al := [qs a1.Name]) (ls := []) (impl_NameOk_ok hx2) rfl rfl rfl rfl rfl (by decide) rfl rfl rfl rfl rfl rfl) ?_; simp only [putT,st,ev,gt,hp,ofV,constT,intT,lm]
 refine WO_op rfl rfl rfl ?_; simp only [putT,st,ev,gt,hp,ofV,constT,intT,lm]
 refine WO_if rfl rfl rfl (fun hc => ?_) (fun hc => ?_)
 ·
  replace H := tr hc H
  refine WO_want (x := .bp 0 1) rfl rfl rfl ?_
  refine WO_want (x := qi a1.Kind) rfl rfl rfl ?_; simp only [putT,st,ev,gt,hp,ofV,constT,intT,lm]
  obtain ⟨x3, hx3, H⟩ := bnd H
  refine WO_want (x := qb x3) (σ' := ⟨[], [some [qs a1.Name, qi a1.Kind, qi a1.Goal]], []⟩) rfl rfl (ev_callG (al := [qi a1.Kind, qi 1, qi 3]) (ls := []) (impl_from_ok hx3) rfl rfl rfl rfl rfl (by decide) rfl rfl rfl rfl rfl rfl) ?_; simp only [putT,st,ev,gt,hp,ofV,constT,intT,lm]
  refine WO_op (x := qb x3) rfl rfl rfl ?_
  refine WO_op rfl rfl rfl ?_; simp only [putT,st,ev,gt,hp,ofV,constT,intT,lm]
  refine WO_if rfl rfl rfl (fun hc => ?_) (fun hc => ?_)
  ·
   replace H := tr hc H
   refine WO_want (x := .bp 0 2) rfl rfl rfl ?_
   refine WO_want (x := qi a1.Goal) rfl rfl rfl ?_; simp only [putT,st,ev,gt,hp,ofV,constT,intT,lm]
   obtain ⟨x4, hx4, H⟩ := bnd H
   refine WO_want (x := qb x4) (σ' := ⟨[], [some [qs a1.Name, qi a1.Kind, qi a1.Goal]], []⟩) rfl rfl (ev_callG (al := [qi a1.Goal, qi 1, qi 1000000]) (ls := []) (impl_from_ok hx4) rfl rfl rfl rfl rfl (by decide) rfl rfl rfl rfl rfl rfl) ?_; simp only [putT,st,ev,gt,hp,ofV,constT,intT,lm]
   refine WO_op (x := qb x4) rfl rfl rfl ?_
   refine WO_op rfl rfl rfl ?_; simp only [putT,st,ev,gt,hp,ofV,constT,intT,lm]
   refine WO_nil ?_
   refine W_ret ?_
   obtain rfl := Option.some.inj H
   exact told3 rfl
  ·
   replace H := fl hc H
   simp only [putT,st,ev,gt,hp,ofV,constT,intT,lm]
   iterate 3 refine WO_skip rfl rfl ?_
   refine WO_op (x := qb false) rfl rfl rfl ?_
   refine WO_op rfl rfl rfl ?_; simp only [putT,st,ev,gt,hp,ofV,constT,intT,lm]
   refine WO_nil ?_
   refine W_ret ?_
   obtain rfl := Option.some.inj H
   exact told3 rfl
 ·
  replace H := fl hc H
  simp only [putT,st,ev,gt,hp,ofV,constT,intT,lm]
  iterate 3 refine WO_skip rfl rfl ?_
  refine WO_op (x := qb false) rfl rfl rfl ?_
  refine WO_op rfl rfl rfl ?_; simp only [putT,st,ev,gt,hp,ofV,constT,intT,lm]
  iterate 3 refine WO_skip rfl rfl ?_
  refine WO_op (x := qb false) rfl rfl rfl ?_
  refine WO_op rfl rfl rfl ?_; simp only [putT,st,ev,gt,hp,ofV,constT,intT,lm]
  refine WO_nil ?_
  refine W_ret ?_
  obtain rfl := Option.some.inj H
  exact told3 rfl
theorem impl_isMany_ok {a1 : Int} {r : Bool} (H : impl_isMany a1 = some r) : R 82 [.c (cI .i64 a1) none] = some (.c (cB r) none, []) := by
 unfold impl_isMany at H
 refine Fz_walk 5 rfl rfl Tryz.func82 rfl (by kernel_rfl) rfl rfl rfl rfl ?_
 simp only [tellVs, tellV, tells, tell, st0, padT, SX.newRow, SX.newBox, List.length_cons, List.length_nil, Nat.reduceAdd, Nat.reduceSub, List.replicate, List.cons_append, List.nil_append, List.foldl_cons, List.foldl_nil]
 refine W_seq (W_region ?_)
 refine WO_op rfl rfl rfl ?_; simp only [putT,st,ev,gt,hp,ofV,constT,intT,lm]
 refine WO_nil (W_seq (W_region ?_))
 refine WO_op rfl rfl rfl ?_; simp only [putT,st,ev,gt,hp,ofV,constT,intT,lm]
 obtain ⟨x2, hx2, H⟩ := bnd H
 refine WO_op (x := qb x2) (σ' := ⟨[], [], []⟩) rfl rfl (ev_callG (al := [qi a1, qi 0, qi 1000]) (ls := []) (impl_from_ok hx2) rfl rfl rfl rfl rfl (by decide) rfl rfl rfl rfl rfl rfl) ?_; simp only [putT,st,ev,gt,hp,ofV,constT,intT,lm]
 refine WO_op rfl rfl rfl ?_; simp only [putT,st,ev,gt,hp,ofV,constT,intT,lm]
 refine WO_nil ?_
 refine W_ret ?_
 obtain rfl := Option.some.inj H
 exact told3 rfl
theorem impl_PaceOk_ok {a1 : Pace} {r : Bool} (H : impl_PaceOk a1 = some r) : R 80 [.ag [(cI .i64 a1.Up, none), (cI .i64 a1.Down, none), (cI .i64 a1.UpSpan, none), (cI .i64 a1.DownSpan, none)]] = some (.c (cB r) none, []) := by
 unfold impl_PaceOk at H
 refine Fz_walk 21 rfl rfl Tryz.func80 rfl (by kernel_rfl) rfl rfl rfl rfl ?_
 simp only [tellVs, tellV, tells, tell, st0, padT, SX.newRow, SX.newBox, List.length_cons, List.length_nil, Nat.reduceAdd, Nat.reduceSub, List.replicate, List.cons_append, List.nil_append, List.foldl_cons, List.foldl_nil]
 refine W_seq (W_region ?_)
 refine WO_op (x := .bp 0 0) (σ' := ⟨[], [some [qi a1.Up, qi a1.Down, qi a1.UpSpan, qi a1.DownSpan]], []⟩) rfl rfl rfl ?_
 refine WO_op rfl rfl rfl ?_; simp only [putT,st,ev,gt,hp,ofV,constT,intT,lm]
 refine WO_nil (W_seq (W_region ?_))
 refine WO_op (x := .bp 0 0) rfl rfl rfl ?_
 refine WO_op (x := qi a1.Up) rfl rfl rfl ?_; simp only [putT,st,ev,gt,hp,ofV,constT,intT,lm]
 obtain ⟨x2, hx2, H⟩ := bnd H
 refine WO_op (x := qb x2) (σ' := ⟨[], [some [qi a1.Up, qi a1.Down, qi a1.UpSpan, qi a1.DownSpan]], []⟩) rfl rfl (ev_callG (al := [qi a1.Up]) (ls := []) (impl_isMany_ok hx2) rfl rfl rfl rfl rfl (by decide) rfl rfl rfl rfl rfl rfl) ?_; simp only [putT,st,ev,gt,hp,ofV,constT,intT,lm]
 refine WO_op rfl rfl rfl ?_; simp only [putT,st,ev,gt,hp,ofV,constT,intT,lm]
 refine WO_if rfl rfl rfl (fun hc => ?_) (fun hc => ?_)
 ·
  replace H := tr hc H
  refine WO_want (x := .bp 0 1) rfl rfl rfl ?_
  refine WO_want (x := qi a1.Down) rfl rfl rfl ?_; simp only [putT,st,ev,gt,hp,ofV,constT,intT,lm]
  obtain ⟨x3, hx3, H⟩ := bnd H
  refine WO_want (x := qb x3) (σ' := ⟨[], [some [qi a1.Up, qi a1.Down, qi a1.UpSpan, qi a1.DownSpan]], []⟩) rfl rfl (ev_callG (al := [qi a1.Down]) (ls := []) (impl_isMany_ok hx3) rfl rfl rfl rfl rfl (by decide) rfl rfl rfl rfl rfl rfl) ?_; simp only [putT,st,ev,gt,hp,ofV,constT,intT,lm]
  refine WO_op (x := qb x3) rfl rfl rfl ?_
  refine WO_op rfl rfl rfl ?_; simp only [putT,st,ev,gt,hp,ofV,constT,intT,lm]
  refine WO_if rfl rfl rfl (fun hc => ?_) (fun hc => ?_)
  ·
   replace H := tr hc H
   refine WO_want (x := .bp 0 2) rfl rfl rfl ?_
   refine WO_want (x := qi a1.UpSpan) rfl rfl rfl ?_; simp only [putT,st,ev,gt,hp,ofV,constT,intT,lm]
   obtain ⟨x4, hx4, H⟩ := bnd H
   refine WO_want (x := qb x4) (σ' := ⟨[], [some [qi a1.Up, qi a1.Down, qi a1.UpSpan, qi a1.DownSpan]], []⟩) rfl rfl (ev_callG (al := [qi a1.UpSpan, qi 0, qi 3600]) (ls := []) (impl_from_ok hx4) rfl rfl rfl rfl rfl (by decide) rfl rfl rfl rfl rfl rfl) ?_; simp only [putT,st,ev,gt,hp,ofV,constT,intT,lm]
   refine WO_op (x := qb x4) rfl rfl rfl ?_
   refine WO_op rfl rfl rfl ?_; simp only [putT,st,ev,gt,hp,ofV,constT,intT,lm]
   refine WO_if rfl rfl rfl (fun hc => ?_) (fun hc => ?_)
   ·
    replace H := tr hc H
    refine WO_want (x := .bp 0 3) rfl rfl rfl ?_
    refine WO_want (x := qi a1.DownSpan) rfl rfl rfl ?_; simp only [putT,st,ev,gt,hp,ofV,constT,intT,lm]
    obtain ⟨x5, hx5, H⟩ := bnd H
    refine WO_want (x := qb x5) (σ' := ⟨[], [some [qi a1.Up, qi a1.Down, qi a1.UpSpan, qi a1.DownSpan]], []⟩) rfl rfl (ev_callG (al := [qi a1.DownSpan, qi 0, qi 3600]) (ls := []) (impl_from_ok hx5) rfl rfl rfl rfl rfl (by decide) rfl rfl rfl rfl rfl rfl) ?_; simp only [putT,st,ev,gt,hp,ofV,constT,intT,lm]
    refine WO_op (x := qb x5) rfl rfl rfl ?_
    refine WO_op rfl rfl rfl ?_; simp only [putT,st,ev,gt,hp,ofV,constT,intT,lm]
    refine WO_nil ?_
    refine W_ret ?_
    obtain rfl := Option.some.inj H
    exact told3 rfl
   ·
    replace H := fl hc H
    simp only [putT,st,ev,gt,hp,ofV,constT,intT,lm]
    iterate 3 refine WO_skip rfl rfl ?_
    refine WO_op (x := qb false) rfl rfl rfl ?_
    refine WO_op rfl rfl rfl ?_; simp only [putT,st,ev,gt,hp,ofV,constT,intT,lm]
    refine WO_nil ?_
    refine W_ret ?_
    obtain rfl := Option.some.inj H
    exact told3 rfl
  ·
   replace H := fl hc H
   simp only [putT,st,ev,gt,hp,ofV,constT,intT,lm]
   iterate 3 refine WO_skip rfl rfl ?_
   refine WO_op (x := qb false) rfl rfl rfl ?_
   refine WO_op rfl rfl rfl ?_; simp only [putT,st,ev,gt,hp,ofV,constT,intT,lm]
   iterate 3 refine WO_skip rfl rfl ?_
   refine WO_op (x := qb false) rfl rfl rfl ?_
   refine WO_op rfl rfl rfl ?_; simp only [putT,st,ev,gt,hp,ofV,constT,intT,lm]
   refine WO_nil ?_
   refine W_ret ?_
   obtain rfl := Option.some.inj H
   exact told3 rfl
 ·
  replace H := fl hc H
  simp only [putT,st,ev,gt,hp,ofV,constT,intT,lm]
  iterate 3 refine WO_skip rfl rfl ?_
  refine WO_op (x := qb false) rfl rfl rfl ?_
  refine WO_op rfl rfl rfl ?_; simp only [putT,st,ev,gt,hp,ofV,constT,intT,lm]
  iterate 3 refine WO_skip rfl rfl ?_
  refine WO_op (x := qb false) rfl rfl rfl ?_
  refine WO_op rfl rfl rfl ?_; simp only [putT,st,ev,gt,hp,ofV,constT,intT,lm]
  iterate 3 refine WO_skip rfl rfl ?_
  refine WO_op (x := qb false) rfl rfl rfl ?_
  refine WO_op rfl rfl rfl ?_; simp only [putT,st,ev,gt,hp,ofV,constT,intT,lm]
  refine WO_nil ?_
  refine W_ret ?_
  obtain rfl := Option.some.inj H
  exact told3 rfl
theorem impl_isLetter_ok {a1 : Int} {r : Bool} (H : impl_isLetter a1 = some r) : R 103 [.c (cI .u8 a1) none] = some (.c (cB r) none, []) := by
 unfold impl_isLetter at H
 refine Fz_walk 17 rfl rfl Tryz.func103 rfl (by kernel_rfl) rfl rfl rfl rfl ?_
 simp only [tellVs, tellV, tells, tell, st0, padT, SX.newRow, SX.newBox, List.length_cons, List.length_nil, Nat.reduceAdd, Nat.reduceSub, List.replicate, List.cons_append, List.nil_append, List.foldl_cons, List.foldl_nil]
 refine W_seq (W_region ?_)
 refine WO_op rfl rfl rfl ?_; simp only [putT,st,ev,gt,hp,ofV,constT,intT,lm]
 refine WO_nil (W_seq (W_region ?_))
 iterate 3 (refine WO_op rfl rfl rfl ?_; simp only [putT,st,ev,gt,hp,ofV,constT,intT,lm])
 refine WO_if rfl rfl rfl (fun hc => ?_) (fun hc => ?_)
 ·
  replace H := tr hc H
  simp only [putT,st,ev,gt,hp,ofV,constT,intT,lm]
  iterate 2 (refine WO_want rfl rfl rfl ?_; simp only [putT,st,ev,gt,hp,ofV,constT,intT,lm])
  refine WO_op (x := qb (decide (a1 ≤ 122))) rfl rfl rfl ?_
  refine WO_op rfl rfl rfl ?_; simp only [putT,st,ev,gt,hp,ofV,constT,intT,lm]
  refine WO_if rfl rfl rfl (fun hc => ?_) (fun hc => ?_)
  ·
   replace H := tr hc H
   simp only [putT,st,ev,gt,hp,ofV,constT,intT,lm]
   iterate 6 refine WO_skip rfl rfl ?_
   refine WO_op (x := qb true) rfl rfl rfl ?_
   refine WO_op rfl rfl rfl ?_; simp only [putT,st,ev,gt,hp,ofV,constT,intT,lm]
   refine WO_nil ?_
   refine W_ret ?_
   obtain rfl := Option.some.inj H
   exact told3 rfl
  ·
   replace H := fl hc H
   simp only [putT,st,ev,gt,hp,ofV,constT,intT,lm]
   iterate 3 (refine WO_want rfl rfl rfl ?_; simp only [putT,st,ev,gt,hp,ofV,constT,intT,lm])
   refine WO_if rfl rfl rfl (fun hc => ?_) (fun hc => ?_)
   ·
    replace H := tr hc H
    simp only [putT,st,ev,gt,hp,ofV,constT,intT,lm]
    iterate 2 (refine WO_want rfl rfl rfl ?_; simp only [putT,st,ev,gt,hp,ofV,constT,intT,lm])
    refine WO_want (x := qb (decide (a1 ≤ 90))) rfl rfl rfl ?_
    refine WO_op (x := qb (decide (a1 ≤ 90))) rfl rfl rfl ?_
    refine WO_op rfl rfl rfl ?_; simp only [putT,st,ev,gt,hp,ofV,constT,intT,lm]
    refine WO_nil ?_
    refine W_ret ?_
    obtain rfl := Option.some.inj H
    exact told3 rfl
   ·
    replace H := fl hc H
    simp only [putT,st,ev,gt,hp,ofV,constT,intT,lm]
    iterate 2 refine WO_skip rfl rfl ?_
    refine WO_want (x := qb false) rfl rfl rfl ?_
    refine WO_op (x := qb false) rfl rfl rfl ?_
    refine WO_op rfl rfl rfl ?_; simp only [putT,st,ev,gt,hp,ofV,constT,intT,lm]
    refine WO_nil ?_
    refine W_ret ?_
    obtain rfl := Option.some.inj H
    exact told3 rfl
 ·
  replace H := fl hc H
  simp only [putT,st,ev,gt,hp,ofV,constT,intT,lm]
  iterate 2 refine WO_skip rfl rfl ?_
  refine WO_op (x := qb false) rfl rfl rfl ?_
  refine WO_op rfl rfl rfl ?_; simp only [putT,st,ev,gt,hp,ofV,constT,intT,lm]
  iterate 3 (refine WO_want rfl rfl rfl ?_; simp only [putT,st,ev,gt,hp,ofV,constT,intT,lm])
  refine WO_if rfl rfl rfl (fun hc => ?_) (fun hc => ?_)
  ·
   replace H := tr hc H
   simp only [putT,st,ev,gt,hp,ofV,constT,intT,lm]
   iterate 2 (refine WO_want rfl rfl rfl ?_; simp only [putT,st,ev,gt,hp,ofV,constT,intT,lm])
   refine WO_want (x := qb (decide (a1 ≤ 90))) rfl rfl rfl ?_
   refine WO_op (x := qb (decide (a1 ≤ 90))) rfl rfl rfl ?_
   refine WO_op rfl rfl rfl ?_; simp only [putT,st,ev,gt,hp,ofV,constT,intT,lm]
   refine WO_nil ?_
   refine W_ret ?_
   obtain rfl := Option.some.inj H
   exact told3 rfl
  ·
   replace H := fl hc H
   simp only [putT,st,ev,gt,hp,ofV,constT,intT,lm]
   iterate 2 refine WO_skip rfl rfl ?_
   refine WO_want (x := qb false) rfl rfl rfl ?_
   refine WO_op (x := qb false) rfl rfl rfl ?_
   refine WO_op rfl rfl rfl ?_; simp only [putT,st,ev,gt,hp,ofV,constT,intT,lm]
   refine WO_nil ?_
   refine W_ret ?_
   obtain rfl := Option.some.inj H
   exact told3 rfl
theorem internal_bytealg_IndexByteString_ok {a1 : Str} {a2 r : Int} (H : internal_bytealg_IndexByteString a1 a2 = some r) : R 107 [.c (cS a1) none, .c (cI .u8 a2) none] = some (.c (cI .i64 r) none, []) := by
  obtain rfl := Option.some.inj H
  exact Fz_pr rfl (by simp only [indexByteF, indexByte_lib])
theorem internal_stringslite_IndexByte_ok {a1 : Str} {a2 : Int} {r : Int} (H : internal_stringslite_IndexByte a1 a2 = some r) : R 106 [.c (cS a1) none, .c (cI .u8 a2) none] = some (.c (cI .i64 r) none, []) := by
 unfold internal_stringslite_IndexByte at H
 refine Fz_walk 8 rfl rfl Tryz.func106 rfl (by kernel_rfl) rfl rfl rfl rfl ?_
 simp only [tellVs, tellV, tells, tell, st0, padT, SX.newRow, SX.newBox, List.length_cons, List.length_nil, Nat.reduceAdd, Nat.reduceSub, List.replicate, List.cons_append, List.nil_append, List.foldl_cons, List.foldl_nil]
 refine W_seq (W_region ?_)
 refine WO_op rfl rfl rfl ?_; simp only [putT,st,ev,gt,hp,ofV,constT,intT,lm]
 refine WO_nil (W_seq (W_region ?_))
 iterate 2 (refine WO_op rfl rfl rfl ?_; simp only [putT,st,ev,gt,hp,ofV,constT,intT,lm])
 obtain ⟨x3, hx3, H⟩ := bnd H
 refine WO_op (x := qi x3) (σ' := ⟨[], [], []⟩) rfl rfl (ev_callG (al := [qs a1, .c (cI .u8 a2)]) (ls := []) (internal_bytealg_IndexByteString_ok hx3) rfl rfl rfl rfl rfl (by decide) rfl rfl rfl rfl rfl rfl) ?_; simp only [putT,st,ev,gt,hp,ofV,constT,intT,lm]
 refine WO_op rfl rfl rfl ?_; simp only [putT,st,ev,gt,hp,ofV,constT,intT,lm]
 refine WO_nil ?_
 refine W_ret ?_
 obtain rfl := Option.some.inj H
 exact told3 rfl
theorem strings_IndexByte_ok {a1 : Str} {a2 : Int} {r : Int} (H : strings_IndexByte a1 a2 = some r) : R 104 [.c (cS a1) none, .c (cI .u8 a2) none] = some (.c (cI .i64 r) none, []) := by
 unfold strings_IndexByte at H
 refine Fz_walk 8 rfl rfl Tryz.func104 rfl (by kernel_rfl) rfl rfl rfl rfl ?_
 simp only [tellVs, tellV, tells, tell, st0, padT, SX.newRow, SX.newBox, List.length_cons, List.length_nil, Nat.reduceAdd, Nat.reduceSub, List.replicate, List.cons_append, List.nil_append, List.foldl_cons, List.foldl_nil]
 refine W_seq (W_region ?_)
 refine WO_op rfl rfl rfl ?_; simp only [putT,st,ev,gt,hp,ofV,constT,intT,lm]
 refine WO_nil (W_seq (W_region ?_))
 iterate 2 (refine WO_op rfl rfl rfl ?_; simp only [putT,st,ev,gt,hp,ofV,constT,intT,lm])
 obtain ⟨x3, hx3, H⟩ := bnd H
 refine WO_op (x := qi x3) (σ' := ⟨[], [], []⟩) rfl rfl (ev_callG (al := [qs a1, .c (cI .u8 a2)]) (ls := []) (internal_stringslite_IndexByte_ok hx3) rfl rfl rfl rfl rfl (by decide) rfl rfl rfl rfl rfl rfl) ?_; simp only [putT,st,ev,gt,hp,ofV,constT,intT,lm]
 refine WO_op rfl rfl rfl ?_; simp only [putT,st,ev,gt,hp,ofV,constT,intT,lm]
 refine WO_nil ?_
 refine W_ret ?_
 obtain rfl := Option.some.inj H
 exact told3 rfl
end Go.Pu
