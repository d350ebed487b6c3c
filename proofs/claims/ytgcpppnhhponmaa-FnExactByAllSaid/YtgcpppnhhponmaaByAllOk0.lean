import Derived.Test.YtgcpppnhhponmaaByAllEn
set_option linter.unusedVariables false
set_option linter.unusedSimpArgs false
namespace Go.Pu
open Go Go.SX Go.Nt Go.Proofs
set_option maxRecDepth 20000 in
set_option maxHeartbeats 1000000 in
theorem laws_szMetric_ok {a1 : Metric} {a2 : Int} {r : Int} (H : laws_szMetric a1 a2 = some r) : R 124 [.ag [(cS a1.Name, none), (cI .i64 a1.Kind, none), (cI .i64 a1.Goal, none)], .c (cI .i64 a2) none] = some (.c (cI .i64 r) none, []) := by
  unfold laws_szMetric at H
  refine Fz_walk 13 rfl rfl Try.func124 rfl (by kernel_rfl) rfl rfl rfl rfl ?_
  simp only [tellVs, tellV, tells, tell, st0, padT, SX.newRow, SX.newBox, List.length_cons, List.length_nil, Nat.reduceAdd, Nat.reduceSub, List.replicate, List.cons_append, List.nil_append, List.foldl_cons, List.foldl_nil]
  refine W_seq ?_
  refine W_region ?_
  refine WO_op (x := .bp 0 0) (σ' := ⟨[], [some [.c (cS a1.Name), .c (cI .i64 a1.Kind), .c (cI .i64 a1.Goal)]], []⟩) rfl rfl rfl ?_; simp only [putT, st, ev, gt, hp, ofV, constT, intT, List.length_map]
  refine WO_op rfl rfl rfl ?_; simp only [putT, st, ev, gt, hp, ofV, constT, intT, List.length_map]
  refine WO_nil ?_
  refine W_seq ?_
  refine W_region ?_
  refine WO_op rfl rfl rfl ?_; simp only [putT, st, ev, gt, hp, ofV, constT, intT, List.length_map]
  refine WO_op (x := .bp 0 0) rfl rfl rfl ?_; simp only [putT, st, ev, gt, hp, ofV, constT, intT, List.length_map]
  refine WO_op (x := .c (cS a1.Name)) rfl rfl rfl ?_; simp only [putT, st, ev, gt, hp, ofV, constT, intT, List.length_map]
  refine WO_op (x := .c (cI .i64 (a1.Name.length : Int))) rfl rfl rfl ?_; simp only [putT, st, ev, gt, hp, ofV, constT, intT, List.length_map]
  iterate 2 (refine WO_op rfl rfl rfl ?_; simp only [putT, st, ev, gt, hp, ofV, constT, intT, List.length_map])
  refine WO_nil ?_
  refine W_seq ?_
  refine W_seq ?_
  refine W_region ?_
  iterate 2 (refine WO_op rfl rfl rfl ?_; simp only [putT, st, ev, gt, hp, ofV, constT, intT, List.length_map])
  refine WO_nil ?_
  refine W_cond rfl (fun hc => ?_) (fun hc => ?_)
  · replace H := tr hc H
    refine W_seq ?_
    refine W_region ?_
    refine WO_op rfl rfl rfl ?_; simp only [putT, st, ev, gt, hp, ofV, constT, intT, List.length_map]
    refine WO_nil ?_
    refine W_ret ?_
    obtain rfl := Option.some.inj H
    exact told3 rfl
  · replace H := fl hc H
    refine W_skip ?_
    refine W_seq ?_
    refine W_region ?_
    iterate 2 (refine WO_op rfl rfl rfl ?_; simp only [putT, st, ev, gt, hp, ofV, constT, intT, List.length_map])
    refine WO_nil ?_
    refine W_ret ?_
    obtain rfl := Option.some.inj H
    exact told3 rfl
set_option maxRecDepth 20000 in
set_option maxHeartbeats 1000000 in
theorem laws_szMetricS_ok {a1 : List Metric} {a2 : Int} {r : Int} (H : laws_szMetricS a1 a2 = some r) : R 58 [.c (cL enc_Metric a1) none, .c (cI .i64 a2) none] = some (.c (cI .i64 r) none, []) := by
  unfold laws_szMetricS at H
  refine Fz_walk 27 rfl rfl Try.func58 rfl (by kernel_rfl) rfl rfl rfl rfl ?_
  simp only [tellVs, tellV, tells, tell, st0, padT, SX.newRow, SX.newBox, List.length_cons, List.length_nil, Nat.reduceAdd, Nat.reduceSub, List.replicate, List.cons_append, List.nil_append, List.foldl_cons, List.foldl_nil]
  refine W_seq ?_
  refine W_region ?_
  refine WO_op rfl rfl rfl ?_; simp only [putT, st, ev, gt, hp, ofV, constT, intT, List.length_map]
  refine WO_nil ?_
  refine W_seq ?_
  refine W_region ?_
  iterate 5 (refine WO_op rfl rfl rfl ?_; simp only [putT, st, ev, gt, hp, ofV, constT, intT, List.length_map])
  refine WO_nil ?_
  refine W_seq ?_
  refine W_seq ?_
  refine W_region ?_
  iterate 2 (refine WO_op rfl rfl rfl ?_; simp only [putT, st, ev, gt, hp, ofV, constT, intT, List.length_map])
  refine WO_nil ?_
  refine W_cond rfl (fun hc => ?_) (fun hc => ?_)
  · replace H := tr hc H
    refine W_seq ?_
    refine W_region ?_
    refine WO_op rfl rfl rfl ?_; simp only [putT, st, ev, gt, hp, ofV, constT, intT, List.length_map]
    refine WO_nil ?_
    refine W_ret ?_
    obtain rfl := Option.some.inj H
    exact told3 rfl
  · replace H := fl hc H
    refine W_skip ?_
    refine W_seq ?_
    refine W_seq ?_
    refine W_region ?_
    refine WO_op rfl rfl rfl ?_; simp only [putT, st, ev, gt, hp, ofV, constT, intT, List.length_map]
    refine WO_nil ?_
    refine W_block ?_
    obtain ⟨s8, hs8, H⟩ := bnd H
    refine loop_rule (ls := []) 0 (fun t7 : Int => ⟨[.no, .c (cI .i64 t7)], [], []⟩) (fun t => s8 = .inr t) ⟨[.c (cL enc_Metric a1), .c (cI .i64 (IntKind.i64.wrap (a2 - (a1.length : Int)))), .no, .no, .no, .c (cI .i64 0)], [], []⟩ (by repeat (first | exact mono_told | refine mono_seq ?_ | refine mono_blk ?_ | refine mono_lp ?_)) (le_intro [] [] (by decide) (by decide) rfl (by simp [leS, leT, leA, gt]) (by simp [leB, leT, leA]) (by simp [leR])) ?_ ?_
    · rintro t7 rfl
      refine W_seq ?_
      refine W_region ?_
      iterate 2 (refine WO_op rfl rfl rfl ?_; simp only [putT, st, ev, gt, hp, ofV, constT, intT, List.length_map])
      refine WO_nil ?_
      refine W_ret ?_
      obtain rfl := Option.some.inj H
      exact told3 rfl
    · intro V1 hV1 hW1 hX1
      refine (laws_szMetricS.l0.partial_correctness a1 (fun v3 v4 s' => s' = s8 → (V1 ⟨[.c (cL enc_Metric a1), .c (cI .i64 v3), .no, .no, .no, .c (cI .i64 v4)], [], []⟩)) ?_ _ _ _ hs8 rfl)
      intro l0 IH1 v3 v4 s' H1 e
      subst e
      refine hV1 _ ?_
      refine W_seq ?_
      refine W_seq ?_
      refine W_region ?_
      iterate 4 (refine WO_op rfl rfl rfl ?_; simp only [putT, st, ev, gt, hp, ofV, constT, intT, List.length_map])
      refine WO_nil ?_
      refine W_cond rfl (fun hc => ?_) (fun hc => ?_)
      · replace H1 := tr hc H1
        refine W_skip ?_
        refine W_seq ?_
        refine W_block ?_
        refine W_seq ?_
        refine W_region ?_
        iterate 2 (refine WO_op rfl rfl rfl ?_; simp only [putT, st, ev, gt, hp, ofV, constT, intT, List.length_map])
        obtain ⟨x5, hx5, H1⟩ := bnd H1
        refine WO_op rfl rfl (ev_ix (en := enc_Metric) hx5 rfl rfl rfl rfl rfl rfl rfl) ?_; simp only [putT, st, ev, gt, hp, ofV, constT, intT, List.length_map]
        refine WO_op (x := .ag [.c (cS x5.Name), .c (cI .i64 x5.Kind), .c (cI .i64 x5.Goal)]) rfl rfl rfl ?_; simp only [putT, st, ev, gt, hp, ofV, constT, intT, List.length_map]
        refine WO_op rfl rfl rfl ?_; simp only [putT, st, ev, gt, hp, ofV, constT, intT, List.length_map]
        obtain ⟨x6, hx6, H1⟩ := bnd H1
        refine WO_op (x := .c (cI .i64 x6)) (σ' := ⟨[], [], []⟩) rfl rfl (ev_callG (al := [.ag [.c (cS x5.Name), .c (cI .i64 x5.Kind), .c (cI .i64 x5.Goal)], .c (cI .i64 v3)]) (ls := []) (laws_szMetric_ok hx6) rfl rfl rfl rfl rfl (by decide) rfl rfl rfl rfl rfl rfl) ?_; simp only [putT, st, ev, gt, hp, ofV, constT, intT, List.length_map]
        refine WO_op rfl rfl rfl ?_; simp only [putT, st, ev, gt, hp, ofV, constT, intT, List.length_map]
        refine WO_nil ?_
        refine W_seq ?_
        refine W_region ?_
        iterate 2 (refine WO_op rfl rfl rfl ?_; simp only [putT, st, ev, gt, hp, ofV, constT, intT, List.length_map])
        refine WO_nil ?_
        refine W_cond rfl (fun hc => ?_) (fun hc => ?_)
        · replace H1 := tr hc H1
          refine W_seq ?_
          refine W_region ?_
          refine WO_op rfl rfl rfl ?_; simp only [putT, st, ev, gt, hp, ofV, constT, intT, List.length_map]
          refine WO_nil ?_
          refine W_ret ?_
          obtain rfl := Option.some.inj H1
          obtain rfl := Option.some.inj H
          exact told3 rfl
        · replace H1 := fl hc H1
          refine W_skip ?_
          refine W_region ?_
          iterate 3 (refine WO_op rfl rfl rfl ?_; simp only [putT, st, ev, gt, hp, ofV, constT, intT, List.length_map])
          refine WO_nil ?_
          exact hW1 _ _ ((IH1 _ _ _ H1 rfl)) (le_intro [] [] (by decide) (by decide) rfl (by simp [leS, leT, leA, gt]) (by simp [leB, leT, leA]) (by simp [leR]))
      · replace H1 := fl hc H1
        refine W_exit ?_
        obtain rfl := Option.some.inj H1
        exact hX1 v3 _ rfl (le_intro [] [] (by decide) (by decide) rfl (by simp [leS, leT, leA, gt]) (by simp [leB, leT, leA]) (by simp [leR]))
set_option maxRecDepth 20000 in
set_option maxHeartbeats 1000000 in
theorem laws_szNote_ok {a1 : Note} {a2 : Int} {r : Int} (H : laws_szNote a1 a2 = some r) : R 125 [.ag [(cS a1.Key, none), (cS a1.Text, none)], .c (cI .i64 a2) none] = some (.c (cI .i64 r) none, []) := by
  unfold laws_szNote at H
  refine Fz_walk 20 rfl rfl Try.func125 rfl (by kernel_rfl) rfl rfl rfl rfl ?_
  simp only [tellVs, tellV, tells, tell, st0, padT, SX.newRow, SX.newBox, List.length_cons, List.length_nil, Nat.reduceAdd, Nat.reduceSub, List.replicate, List.cons_append, List.nil_append, List.foldl_cons, List.foldl_nil]
  refine W_seq ?_
  refine W_region ?_
  refine WO_op (x := .bp 0 0) (σ' := ⟨[], [some [.c (cS a1.Key), .c (cS a1.Text)]], []⟩) rfl rfl rfl ?_; simp only [putT, st, ev, gt, hp, ofV, constT, intT, List.length_map]
  refine WO_op rfl rfl rfl ?_; simp only [putT, st, ev, gt, hp, ofV, constT, intT, List.length_map]
  refine WO_nil ?_
  refine W_seq ?_
  refine W_region ?_
  refine WO_op rfl rfl rfl ?_; simp only [putT, st, ev, gt, hp, ofV, constT, intT, List.length_map]
  refine WO_op (x := .bp 0 0) rfl rfl rfl ?_; simp only [putT, st, ev, gt, hp, ofV, constT, intT, List.length_map]
  refine WO_op (x := .c (cS a1.Key)) rfl rfl rfl ?_; simp only [putT, st, ev, gt, hp, ofV, constT, intT, List.length_map]
  refine WO_op (x := .c (cI .i64 (a1.Key.length : Int))) rfl rfl rfl ?_; simp only [putT, st, ev, gt, hp, ofV, constT, intT, List.length_map]
  iterate 2 (refine WO_op rfl rfl rfl ?_; simp only [putT, st, ev, gt, hp, ofV, constT, intT, List.length_map])
  refine WO_nil ?_
  refine W_seq ?_
  refine W_seq ?_
  refine W_region ?_
  iterate 2 (refine WO_op rfl rfl rfl ?_; simp only [putT, st, ev, gt, hp, ofV, constT, intT, List.length_map])
  refine WO_nil ?_
  refine W_cond rfl (fun hc => ?_) (fun hc => ?_)
  · replace H := tr hc H
    refine W_seq ?_
    refine W_region ?_
    refine WO_op rfl rfl rfl ?_; simp only [putT, st, ev, gt, hp, ofV, constT, intT, List.length_map]
    refine WO_nil ?_
    refine W_ret ?_
    obtain rfl := Option.some.inj H
    exact told3 rfl
  · replace H := fl hc H
    refine W_skip ?_
    refine W_seq ?_
    refine W_region ?_
    refine WO_op rfl rfl rfl ?_; simp only [putT, st, ev, gt, hp, ofV, constT, intT, List.length_map]
    refine WO_op (x := .bp 0 1) rfl rfl rfl ?_; simp only [putT, st, ev, gt, hp, ofV, constT, intT, List.length_map]
    refine WO_op (x := .c (cS a1.Text)) rfl rfl rfl ?_; simp only [putT, st, ev, gt, hp, ofV, constT, intT, List.length_map]
    refine WO_op (x := .c (cI .i64 (a1.Text.length : Int))) rfl rfl rfl ?_; simp only [putT, st, ev, gt, hp, ofV, constT, intT, List.length_map]
    iterate 2 (refine WO_op rfl rfl rfl ?_; simp only [putT, st, ev, gt, hp, ofV, constT, intT, List.length_map])
    refine WO_nil ?_
    refine W_seq ?_
    refine W_seq ?_
    refine W_region ?_
    iterate 2 (refine WO_op rfl rfl rfl ?_; simp only [putT, st, ev, gt, hp, ofV, constT, intT, List.length_map])
    refine WO_nil ?_
    refine W_cond rfl (fun hc => ?_) (fun hc => ?_)
    · replace H := tr hc H
      refine W_seq ?_
      refine W_region ?_
      refine WO_op rfl rfl rfl ?_; simp only [putT, st, ev, gt, hp, ofV, constT, intT, List.length_map]
      refine WO_nil ?_
      refine W_ret ?_
      obtain rfl := Option.some.inj H
      exact told3 rfl
    · replace H := fl hc H
      refine W_skip ?_
      refine W_seq ?_
      refine W_region ?_
      iterate 2 (refine WO_op rfl rfl rfl ?_; simp only [putT, st, ev, gt, hp, ofV, constT, intT, List.length_map])
      refine WO_nil ?_
      refine W_ret ?_
      obtain rfl := Option.some.inj H
      exact told3 rfl
set_option maxRecDepth 20000 in
set_option maxHeartbeats 1000000 in
theorem laws_szNoteS_ok {a1 : List Note} {a2 : Int} {r : Int} (H : laws_szNoteS a1 a2 = some r) : R 59 [.c (cL enc_Note a1) none, .c (cI .i64 a2) none] = some (.c (cI .i64 r) none, []) := by
  unfold laws_szNoteS at H
  refine Fz_walk 27 rfl rfl Try.func59 rfl (by kernel_rfl) rfl rfl rfl rfl ?_
  simp only [tellVs, tellV, tells, tell, st0, padT, SX.newRow, SX.newBox, List.length_cons, List.length_nil, Nat.reduceAdd, Nat.reduceSub, List.replicate, List.cons_append, List.nil_append, List.foldl_cons, List.foldl_nil]
  refine W_seq ?_
  refine W_region ?_
  refine WO_op rfl rfl rfl ?_; simp only [putT, st, ev, gt, hp, ofV, constT, intT, List.length_map]
  refine WO_nil ?_
  refine W_seq ?_
  refine W_region ?_
  iterate 5 (refine WO_op rfl rfl rfl ?_; simp only [putT, st, ev, gt, hp, ofV, constT, intT, List.length_map])
  refine WO_nil ?_
  refine W_seq ?_
  refine W_seq ?_
  refine W_region ?_
  iterate 2 (refine WO_op rfl rfl rfl ?_; simp only [putT, st, ev, gt, hp, ofV, constT, intT, List.length_map])
  refine WO_nil ?_
  refine W_cond rfl (fun hc => ?_) (fun hc => ?_)
  · replace H := tr hc H
    refine W_seq ?_
    refine W_region ?_
    refine WO_op rfl rfl rfl ?_; simp only [putT, st, ev, gt, hp, ofV, constT, intT, List.length_map]
    refine WO_nil ?_
    refine W_ret ?_
    obtain rfl := Option.some.inj H
    exact told3 rfl
  · replace H := fl hc H
    refine W_skip ?_
    refine W_seq ?_
    refine W_seq ?_
    refine W_region ?_
    refine WO_op rfl rfl rfl ?_; simp only [putT, st, ev, gt, hp, ofV, constT, intT, List.length_map]
    refine WO_nil ?_
    refine W_block ?_
    obtain ⟨s8, hs8, H⟩ := bnd H
    refine loop_rule (ls := []) 0 (fun t7 : Int => ⟨[.no, .c (cI .i64 t7)], [], []⟩) (fun t => s8 = .inr t) ⟨[.c (cL enc_Note a1), .c (cI .i64 (IntKind.i64.wrap (a2 - (a1.length : Int)))), .no, .no, .no, .c (cI .i64 0)], [], []⟩ (by repeat (first | exact mono_told | refine mono_seq ?_ | refine mono_blk ?_ | refine mono_lp ?_)) (le_intro [] [] (by decide) (by decide) rfl (by simp [leS, leT, leA, gt]) (by simp [leB, leT, leA]) (by simp [leR])) ?_ ?_
    · rintro t7 rfl
      refine W_seq ?_
      refine W_region ?_
      iterate 2 (refine WO_op rfl rfl rfl ?_; simp only [putT, st, ev, gt, hp, ofV, constT, intT, List.length_map])
      refine WO_nil ?_
      refine W_ret ?_
      obtain rfl := Option.some.inj H
      exact told3 rfl
    · intro V1 hV1 hW1 hX1
      refine (laws_szNoteS.l0.partial_correctness a1 (fun v3 v4 s' => s' = s8 → (V1 ⟨[.c (cL enc_Note a1), .c (cI .i64 v3), .no, .no, .no, .c (cI .i64 v4)], [], []⟩)) ?_ _ _ _ hs8 rfl)
      intro l0 IH1 v3 v4 s' H1 e
      subst e
      refine hV1 _ ?_
      refine W_seq ?_
      refine W_seq ?_
      refine W_region ?_
      iterate 4 (refine WO_op rfl rfl rfl ?_; simp only [putT, st, ev, gt, hp, ofV, constT, intT, List.length_map])
      refine WO_nil ?_
      refine W_cond rfl (fun hc => ?_) (fun hc => ?_)
      · replace H1 := tr hc H1
        refine W_skip ?_
        refine W_seq ?_
        refine W_block ?_
        refine W_seq ?_
        refine W_region ?_
        iterate 2 (refine WO_op rfl rfl rfl ?_; simp only [putT, st, ev, gt, hp, ofV, constT, intT, List.length_map])
        obtain ⟨x5, hx5, H1⟩ := bnd H1
        refine WO_op rfl rfl (ev_ix (en := enc_Note) hx5 rfl rfl rfl rfl rfl rfl rfl) ?_; simp only [putT, st, ev, gt, hp, ofV, constT, intT, List.length_map]
        refine WO_op (x := .ag [.c (cS x5.Key), .c (cS x5.Text)]) rfl rfl rfl ?_; simp only [putT, st, ev, gt, hp, ofV, constT, intT, List.length_map]
        refine WO_op rfl rfl rfl ?_; simp only [putT, st, ev, gt, hp, ofV, constT, intT, List.length_map]
        obtain ⟨x6, hx6, H1⟩ := bnd H1
        refine WO_op (x := .c (cI .i64 x6)) (σ' := ⟨[], [], []⟩) rfl rfl (ev_callG (al := [.ag [.c (cS x5.Key), .c (cS x5.Text)], .c (cI .i64 v3)]) (ls := []) (laws_szNote_ok hx6) rfl rfl rfl rfl rfl (by decide) rfl rfl rfl rfl rfl rfl) ?_; simp only [putT, st, ev, gt, hp, ofV, constT, intT, List.length_map]
        refine WO_op rfl rfl rfl ?_; simp only [putT, st, ev, gt, hp, ofV, constT, intT, List.length_map]
        refine WO_nil ?_
        refine W_seq ?_
        refine W_region ?_
        iterate 2 (refine WO_op rfl rfl rfl ?_; simp only [putT, st, ev, gt, hp, ofV, constT, intT, List.length_map])
        refine WO_nil ?_
        refine W_cond rfl (fun hc => ?_) (fun hc => ?_)
        · replace H1 := tr hc H1
          refine W_seq ?_
          refine W_region ?_
          refine WO_op rfl rfl rfl ?_; simp only [putT, st, ev, gt, hp, ofV, constT, intT, List.length_map]
          refine WO_nil ?_
          refine W_ret ?_
          obtain rfl := Option.some.inj H1
          obtain rfl := Option.some.inj H
          exact told3 rfl
        · replace H1 := fl hc H1
          refine W_skip ?_
          refine W_region ?_
          iterate 3 (refine WO_op rfl rfl rfl ?_; simp only [putT, st, ev, gt, hp, ofV, constT, intT, List.length_map])
          refine WO_nil ?_
          exact hW1 _ _ ((IH1 _ _ _ H1 rfl)) (le_intro [] [] (by decide) (by decide) rfl (by simp [leS, leT, leA, gt]) (by simp [leB, leT, leA]) (by simp [leR]))
      · replace H1 := fl hc H1
        refine W_exit ?_
        obtain rfl := Option.some.inj H1
        exact hX1 v3 _ rfl (le_intro [] [] (by decide) (by decide) rfl (by simp [leS, leT, leA, gt]) (by simp [leB, leT, leA]) (by simp [leR]))
set_option maxRecDepth 20000 in
set_option maxHeartbeats 1000000 in
theorem laws_szOrder_ok {a1 : Order} {a2 : Int} {r : Int} (H : laws_szOrder a1 a2 = some r) : R 12 [.ag [(cS a1.Name, none), (cS a1.Target, none), (cI .i64 a1.Low, none), (cI .i64 a1.High, none), (cL enc_Metric a1.Metrics, none), (cI .i64 a1.Pace.Up, none), (cI .i64 a1.Pace.Down, none), (cI .i64 a1.Pace.UpSpan, none), (cI .i64 a1.Pace.DownSpan, none), (cL enc_Note a1.Notes, none)], .c (cI .i64 a2) none] = some (.c (cI .i64 r) none, []) := by
  unfold laws_szOrder at H
  refine Fz_walk 32 rfl rfl Try.func12 rfl (by kernel_rfl) rfl rfl rfl rfl ?_
  simp only [tellVs, tellV, tells, tell, st0, padT, SX.newRow, SX.newBox, List.length_cons, List.length_nil, Nat.reduceAdd, Nat.reduceSub, List.replicate, List.cons_append, List.nil_append, List.foldl_cons, List.foldl_nil]
  refine W_seq ?_
  refine W_region ?_
  refine WO_op (x := .bp 0 0) (σ' := ⟨[], [some [.c (cS a1.Name), .c (cS a1.Target), .c (cI .i64 a1.Low), .c (cI .i64 a1.High), .c (cL enc_Metric a1.Metrics), .c (cI .i64 a1.Pace.Up), .c (cI .i64 a1.Pace.Down), .c (cI .i64 a1.Pace.UpSpan), .c (cI .i64 a1.Pace.DownSpan), .c (cL enc_Note a1.Notes)]], []⟩) rfl rfl rfl ?_; simp only [putT, st, ev, gt, hp, ofV, constT, intT, List.length_map]
  refine WO_op rfl rfl rfl ?_; simp only [putT, st, ev, gt, hp, ofV, constT, intT, List.length_map]
  refine WO_nil ?_
  refine W_seq ?_
  refine W_region ?_
  refine WO_op rfl rfl rfl ?_; simp only [putT, st, ev, gt, hp, ofV, constT, intT, List.length_map]
  refine WO_op (x := .bp 0 0) rfl rfl rfl ?_; simp only [putT, st, ev, gt, hp, ofV, constT, intT, List.length_map]
  refine WO_op (x := .c (cS a1.Name)) rfl rfl rfl ?_; simp only [putT, st, ev, gt, hp, ofV, constT, intT, List.length_map]
  refine WO_op (x := .c (cI .i64 (a1.Name.length : Int))) rfl rfl rfl ?_; simp only [putT, st, ev, gt, hp, ofV, constT, intT, List.length_map]
  iterate 2 (refine WO_op rfl rfl rfl ?_; simp only [putT, st, ev, gt, hp, ofV, constT, intT, List.length_map])
  refine WO_nil ?_
  refine W_seq ?_
  refine W_seq ?_
  refine W_region ?_
  iterate 2 (refine WO_op rfl rfl rfl ?_; simp only [putT, st, ev, gt, hp, ofV, constT, intT, List.length_map])
  refine WO_nil ?_
  refine W_cond rfl (fun hc => ?_) (fun hc => ?_)
  · replace H := tr hc H
    refine W_seq ?_
    refine W_region ?_
    refine WO_op rfl rfl rfl ?_; simp only [putT, st, ev, gt, hp, ofV, constT, intT, List.length_map]
    refine WO_nil ?_
    refine W_ret ?_
    obtain rfl := Option.some.inj H
    exact told3 rfl
  · replace H := fl hc H
    refine W_skip ?_
    refine W_seq ?_
    refine W_region ?_
    refine WO_op rfl rfl rfl ?_; simp only [putT, st, ev, gt, hp, ofV, constT, intT, List.length_map]
    refine WO_op (x := .bp 0 1) rfl rfl rfl ?_; simp only [putT, st, ev, gt, hp, ofV, constT, intT, List.length_map]
    refine WO_op (x := .c (cS a1.Target)) rfl rfl rfl ?_; simp only [putT, st, ev, gt, hp, ofV, constT, intT, List.length_map]
    refine WO_op (x := .c (cI .i64 (a1.Target.length : Int))) rfl rfl rfl ?_; simp only [putT, st, ev, gt, hp, ofV, constT, intT, List.length_map]
    iterate 2 (refine WO_op rfl rfl rfl ?_; simp only [putT, st, ev, gt, hp, ofV, constT, intT, List.length_map])
    refine WO_nil ?_
    refine W_seq ?_
    refine W_seq ?_
    refine W_region ?_
    iterate 2 (refine WO_op rfl rfl rfl ?_; simp only [putT, st, ev, gt, hp, ofV, constT, intT, List.length_map])
    refine WO_nil ?_
    refine W_cond rfl (fun hc => ?_) (fun hc => ?_)
    · replace H := tr hc H
      refine W_seq ?_
      refine W_region ?_
      refine WO_op rfl rfl rfl ?_; simp only [putT, st, ev, gt, hp, ofV, constT, intT, List.length_map]
      refine WO_nil ?_
      refine W_ret ?_
      obtain rfl := Option.some.inj H
      exact told3 rfl
    · replace H := fl hc H
      refine W_skip ?_
      refine W_seq ?_
      refine W_region ?_
      refine WO_op (x := .bp 0 4) rfl rfl rfl ?_; simp only [putT, st, ev, gt, hp, ofV, constT, intT, List.length_map]
      refine WO_op (x := .c (cL enc_Metric a1.Metrics)) rfl rfl rfl ?_; simp only [putT, st, ev, gt, hp, ofV, constT, intT, List.length_map]
      refine WO_op rfl rfl rfl ?_; simp only [putT, st, ev, gt, hp, ofV, constT, intT, List.length_map]
      obtain ⟨x3, hx3, H⟩ := bnd H
      refine WO_op (x := .c (cI .i64 x3)) (σ' := ⟨[], [some [.c (cS a1.Name), .c (cS a1.Target), .c (cI .i64 a1.Low), .c (cI .i64 a1.High), .c (cL enc_Metric a1.Metrics), .c (cI .i64 a1.Pace.Up), .c (cI .i64 a1.Pace.Down), .c (cI .i64 a1.Pace.UpSpan), .c (cI .i64 a1.Pace.DownSpan), .c (cL enc_Note a1.Notes)]], []⟩) rfl rfl (ev_callG (al := [.c (cL enc_Metric a1.Metrics), .c (cI .i64 (IntKind.i64.wrap ((IntKind.i64.wrap (a2 - (a1.Name.length : Int))) - (a1.Target.length : Int))))]) (ls := []) (laws_szMetricS_ok hx3) rfl rfl rfl rfl rfl (by decide) rfl rfl rfl rfl rfl rfl) ?_; simp only [putT, st, ev, gt, hp, ofV, constT, intT, List.length_map]
      refine WO_op rfl rfl rfl ?_; simp only [putT, st, ev, gt, hp, ofV, constT, intT, List.length_map]
      refine WO_nil ?_
      refine W_seq ?_
      refine W_seq ?_
      refine W_region ?_
      iterate 2 (refine WO_op rfl rfl rfl ?_; simp only [putT, st, ev, gt, hp, ofV, constT, intT, List.length_map])
      refine WO_nil ?_
      refine W_cond rfl (fun hc => ?_) (fun hc => ?_)
      · replace H := tr hc H
        refine W_seq ?_
        refine W_region ?_
        refine WO_op rfl rfl rfl ?_; simp only [putT, st, ev, gt, hp, ofV, constT, intT, List.length_map]
        refine WO_nil ?_
        refine W_ret ?_
        obtain rfl := Option.some.inj H
        exact told3 rfl
      · replace H := fl hc H
        refine W_skip ?_
        refine W_seq ?_
        refine W_region ?_
        refine WO_op (x := .bp 0 9) rfl rfl rfl ?_; simp only [putT, st, ev, gt, hp, ofV, constT, intT, List.length_map]
        refine WO_op (x := .c (cL enc_Note a1.Notes)) rfl rfl rfl ?_; simp only [putT, st, ev, gt, hp, ofV, constT, intT, List.length_map]
        refine WO_op rfl rfl rfl ?_; simp only [putT, st, ev, gt, hp, ofV, constT, intT, List.length_map]
        obtain ⟨x4, hx4, H⟩ := bnd H
        refine WO_op (x := .c (cI .i64 x4)) (σ' := ⟨[], [some [.c (cS a1.Name), .c (cS a1.Target), .c (cI .i64 a1.Low), .c (cI .i64 a1.High), .c (cL enc_Metric a1.Metrics), .c (cI .i64 a1.Pace.Up), .c (cI .i64 a1.Pace.Down), .c (cI .i64 a1.Pace.UpSpan), .c (cI .i64 a1.Pace.DownSpan), .c (cL enc_Note a1.Notes)]], []⟩) rfl rfl (ev_callG (al := [.c (cL enc_Note a1.Notes), .c (cI .i64 x3)]) (ls := []) (laws_szNoteS_ok hx4) rfl rfl rfl rfl rfl (by decide) rfl rfl rfl rfl rfl rfl) ?_; simp only [putT, st, ev, gt, hp, ofV, constT, intT, List.length_map]
        refine WO_op rfl rfl rfl ?_; simp only [putT, st, ev, gt, hp, ofV, constT, intT, List.length_map]
        refine WO_nil ?_
        refine W_seq ?_
        refine W_seq ?_
        refine W_region ?_
        iterate 2 (refine WO_op rfl rfl rfl ?_; simp only [putT, st, ev, gt, hp, ofV, constT, intT, List.length_map])
        refine WO_nil ?_
        refine W_cond rfl (fun hc => ?_) (fun hc => ?_)
        · replace H := tr hc H
          refine W_seq ?_
          refine W_region ?_
          refine WO_op rfl rfl rfl ?_; simp only [putT, st, ev, gt, hp, ofV, constT, intT, List.length_map]
          refine WO_nil ?_
          refine W_ret ?_
          obtain rfl := Option.some.inj H
          exact told3 rfl
        · replace H := fl hc H
          refine W_skip ?_
          refine W_seq ?_
          refine W_region ?_
          iterate 2 (refine WO_op rfl rfl rfl ?_; simp only [putT, st, ev, gt, hp, ofV, constT, intT, List.length_map])
          refine WO_nil ?_
          refine W_ret ?_
          obtain rfl := Option.some.inj H
          exact told3 rfl
set_option maxRecDepth 20000 in
set_option maxHeartbeats 1000000 in
theorem laws_szSample_ok {a1 : Sample} {a2 : Int} {r : Int} (H : laws_szSample a1 a2 = some r) : R 60 [.ag [(cS a1.Name, none), (cI .i64 a1.Value, none)], .c (cI .i64 a2) none] = some (.c (cI .i64 r) none, []) := by
  unfold laws_szSample at H
  refine Fz_walk 13 rfl rfl Try.func60 rfl (by kernel_rfl) rfl rfl rfl rfl ?_
  simp only [tellVs, tellV, tells, tell, st0, padT, SX.newRow, SX.newBox, List.length_cons, List.length_nil, Nat.reduceAdd, Nat.reduceSub, List.replicate, List.cons_append, List.nil_append, List.foldl_cons, List.foldl_nil]
  refine W_seq ?_
  refine W_region ?_
  refine WO_op (x := .bp 0 0) (σ' := ⟨[], [some [.c (cS a1.Name), .c (cI .i64 a1.Value)]], []⟩) rfl rfl rfl ?_; simp only [putT, st, ev, gt, hp, ofV, constT, intT, List.length_map]
  refine WO_op rfl rfl rfl ?_; simp only [putT, st, ev, gt, hp, ofV, constT, intT, List.length_map]
  refine WO_nil ?_
  refine W_seq ?_
  refine W_region ?_
  refine WO_op rfl rfl rfl ?_; simp only [putT, st, ev, gt, hp, ofV, constT, intT, List.length_map]
  refine WO_op (x := .bp 0 0) rfl rfl rfl ?_; simp only [putT, st, ev, gt, hp, ofV, constT, intT, List.length_map]
  refine WO_op (x := .c (cS a1.Name)) rfl rfl rfl ?_; simp only [putT, st, ev, gt, hp, ofV, constT, intT, List.length_map]
  refine WO_op (x := .c (cI .i64 (a1.Name.length : Int))) rfl rfl rfl ?_; simp only [putT, st, ev, gt, hp, ofV, constT, intT, List.length_map]
  iterate 2 (refine WO_op rfl rfl rfl ?_; simp only [putT, st, ev, gt, hp, ofV, constT, intT, List.length_map])
  refine WO_nil ?_
  refine W_seq ?_
  refine W_seq ?_
  refine W_region ?_
  iterate 2 (refine WO_op rfl rfl rfl ?_; simp only [putT, st, ev, gt, hp, ofV, constT, intT, List.length_map])
  refine WO_nil ?_
  refine W_cond rfl (fun hc => ?_) (fun hc => ?_)
  · replace H := tr hc H
    refine W_seq ?_
    refine W_region ?_
    refine WO_op rfl rfl rfl ?_; simp only [putT, st, ev, gt, hp, ofV, constT, intT, List.length_map]
    refine WO_nil ?_
    refine W_ret ?_
    obtain rfl := Option.some.inj H
    exact told3 rfl
  · replace H := fl hc H
    refine W_skip ?_
    refine W_seq ?_
    refine W_region ?_
    iterate 2 (refine WO_op rfl rfl rfl ?_; simp only [putT, st, ev, gt, hp, ofV, constT, intT, List.length_map])
    refine WO_nil ?_
    refine W_ret ?_
    obtain rfl := Option.some.inj H
    exact told3 rfl
set_option maxRecDepth 20000 in
set_option maxHeartbeats 1000000 in
theorem laws_szSampleS_ok {a1 : List Sample} {a2 : Int} {r : Int} (H : laws_szSampleS a1 a2 = some r) : R 13 [.c (cL enc_Sample a1) none, .c (cI .i64 a2) none] = some (.c (cI .i64 r) none, []) := by
  unfold laws_szSampleS at H
  refine Fz_walk 27 rfl rfl Try.func13 rfl (by kernel_rfl) rfl rfl rfl rfl ?_
  simp only [tellVs, tellV, tells, tell, st0, padT, SX.newRow, SX.newBox, List.length_cons, List.length_nil, Nat.reduceAdd, Nat.reduceSub, List.replicate, List.cons_append, List.nil_append, List.foldl_cons, List.foldl_nil]
  refine W_seq ?_
  refine W_region ?_
  refine WO_op rfl rfl rfl ?_; simp only [putT, st, ev, gt, hp, ofV, constT, intT, List.length_map]
  refine WO_nil ?_
  refine W_seq ?_
  refine W_region ?_
  iterate 5 (refine WO_op rfl rfl rfl ?_; simp only [putT, st, ev, gt, hp, ofV, constT, intT, List.length_map])
  refine WO_nil ?_
  refine W_seq ?_
  refine W_seq ?_
  refine W_region ?_
  iterate 2 (refine WO_op rfl rfl rfl ?_; simp only [putT, st, ev, gt, hp, ofV, constT, intT, List.length_map])
  refine WO_nil ?_
  refine W_cond rfl (fun hc => ?_) (fun hc => ?_)
  · replace H := tr hc H
    refine W_seq ?_
    refine W_region ?_
    refine WO_op rfl rfl rfl ?_; simp only [putT, st, ev, gt, hp, ofV, constT, intT, List.length_map]
    refine WO_nil ?_
    refine W_ret ?_
    obtain rfl := Option.some.inj H
    exact told3 rfl
  · replace H := fl hc H
    refine W_skip ?_
    refine W_seq ?_
    refine W_seq ?_
    refine W_region ?_
    refine WO_op rfl rfl rfl ?_; simp only [putT, st, ev, gt, hp, ofV, constT, intT, List.length_map]
    refine WO_nil ?_
    refine W_block ?_
    obtain ⟨s8, hs8, H⟩ := bnd H
    refine loop_rule (ls := []) 0 (fun t7 : Int => ⟨[.no, .c (cI .i64 t7)], [], []⟩) (fun t => s8 = .inr t) ⟨[.c (cL enc_Sample a1), .c (cI .i64 (IntKind.i64.wrap (a2 - (a1.length : Int)))), .no, .no, .no, .c (cI .i64 0)], [], []⟩ (by repeat (first | exact mono_told | refine mono_seq ?_ | refine mono_blk ?_ | refine mono_lp ?_)) (le_intro [] [] (by decide) (by decide) rfl (by simp [leS, leT, leA, gt]) (by simp [leB, leT, leA]) (by simp [leR])) ?_ ?_
    · rintro t7 rfl
      refine W_seq ?_
      refine W_region ?_
      iterate 2 (refine WO_op rfl rfl rfl ?_; simp only [putT, st, ev, gt, hp, ofV, constT, intT, List.length_map])
      refine WO_nil ?_
      refine W_ret ?_
      obtain rfl := Option.some.inj H
      exact told3 rfl
    · intro V1 hV1 hW1 hX1
      refine (laws_szSampleS.l0.partial_correctness a1 (fun v3 v4 s' => s' = s8 → (V1 ⟨[.c (cL enc_Sample a1), .c (cI .i64 v3), .no, .no, .no, .c (cI .i64 v4)], [], []⟩)) ?_ _ _ _ hs8 rfl)
      intro l0 IH1 v3 v4 s' H1 e
      subst e
      refine hV1 _ ?_
      refine W_seq ?_
      refine W_seq ?_
      refine W_region ?_
      iterate 4 (refine WO_op rfl rfl rfl ?_; simp only [putT, st, ev, gt, hp, ofV, constT, intT, List.length_map])
      refine WO_nil ?_
      refine W_cond rfl (fun hc => ?_) (fun hc => ?_)
      · replace H1 := tr hc H1
        refine W_skip ?_
        refine W_seq ?_
        refine W_block ?_
        refine W_seq ?_
        refine W_region ?_
        iterate 2 (refine WO_op rfl rfl rfl ?_; simp only [putT, st, ev, gt, hp, ofV, constT, intT, List.length_map])
        obtain ⟨x5, hx5, H1⟩ := bnd H1
        refine WO_op rfl rfl (ev_ix (en := enc_Sample) hx5 rfl rfl rfl rfl rfl rfl rfl) ?_; simp only [putT, st, ev, gt, hp, ofV, constT, intT, List.length_map]
        refine WO_op (x := .ag [.c (cS x5.Name), .c (cI .i64 x5.Value)]) rfl rfl rfl ?_; simp only [putT, st, ev, gt, hp, ofV, constT, intT, List.length_map]
        refine WO_op rfl rfl rfl ?_; simp only [putT, st, ev, gt, hp, ofV, constT, intT, List.length_map]
        obtain ⟨x6, hx6, H1⟩ := bnd H1
        refine WO_op (x := .c (cI .i64 x6)) (σ' := ⟨[], [], []⟩) rfl rfl (ev_callG (al := [.ag [.c (cS x5.Name), .c (cI .i64 x5.Value)], .c (cI .i64 v3)]) (ls := []) (laws_szSample_ok hx6) rfl rfl rfl rfl rfl (by decide) rfl rfl rfl rfl rfl rfl) ?_; simp only [putT, st, ev, gt, hp, ofV, constT, intT, List.length_map]
        refine WO_op rfl rfl rfl ?_; simp only [putT, st, ev, gt, hp, ofV, constT, intT, List.length_map]
        refine WO_nil ?_
        refine W_seq ?_
        refine W_region ?_
        iterate 2 (refine WO_op rfl rfl rfl ?_; simp only [putT, st, ev, gt, hp, ofV, constT, intT, List.length_map])
        refine WO_nil ?_
        refine W_cond rfl (fun hc => ?_) (fun hc => ?_)
        · replace H1 := tr hc H1
          refine W_seq ?_
          refine W_region ?_
          refine WO_op rfl rfl rfl ?_; simp only [putT, st, ev, gt, hp, ofV, constT, intT, List.length_map]
          refine WO_nil ?_
          refine W_ret ?_
          obtain rfl := Option.some.inj H1
          obtain rfl := Option.some.inj H
          exact told3 rfl
        · replace H1 := fl hc H1
          refine W_skip ?_
          refine W_region ?_
          iterate 3 (refine WO_op rfl rfl rfl ?_; simp only [putT, st, ev, gt, hp, ofV, constT, intT, List.length_map])
          refine WO_nil ?_
          exact hW1 _ _ ((IH1 _ _ _ H1 rfl)) (le_intro [] [] (by decide) (by decide) rfl (by simp [leS, leT, leA, gt]) (by simp [leB, leT, leA]) (by simp [leR]))
      · replace H1 := fl hc H1
        refine W_exit ?_
        obtain rfl := Option.some.inj H1
        exact hX1 v3 _ rfl (le_intro [] [] (by decide) (by decide) rfl (by simp [leS, leT, leA, gt]) (by simp [leB, leT, leA]) (by simp [leR]))
set_option maxRecDepth 20000 in
set_option maxHeartbeats 1000000 in
theorem laws_toMetric_ok {a1 : Metric} {r : Metric} (H : laws_toMetric a1 = some r) : R 126 [.ag [(cS a1.Name, none), (cI .i64 a1.Kind, none), (cI .i64 a1.Goal, none)]] = some (.ag [(cS r.Name, none), (cI .i64 r.Kind, none), (cI .i64 r.Goal, none)], []) := by
  unfold laws_toMetric at H
  refine Fz_walk 14 rfl rfl Try.func126 rfl (by kernel_rfl) rfl rfl rfl rfl ?_
  simp only [tellVs, tellV, tells, tell, st0, padT, SX.newRow, SX.newBox, List.length_cons, List.length_nil, Nat.reduceAdd, Nat.reduceSub, List.replicate, List.cons_append, List.nil_append, List.foldl_cons, List.foldl_nil]
  refine W_seq ?_
  refine W_region ?_
  refine WO_op (x := .bp 0 0) (σ' := ⟨[], [some [.c (cS a1.Name), .c (cI .i64 a1.Kind), .c (cI .i64 a1.Goal)]], []⟩) rfl rfl rfl ?_; simp only [putT, st, ev, gt, hp, ofV, constT, intT, List.length_map]
  refine WO_op (x := .bp 1 0) (σ' := ⟨[], [some [.c (cS a1.Name), .c (cI .i64 a1.Kind), .c (cI .i64 a1.Goal)], some [.c (cS []), .c (cI .i64 0), .c (cI .i64 0)]], []⟩) rfl rfl rfl ?_; simp only [putT, st, ev, gt, hp, ofV, constT, intT, List.length_map]
  refine WO_nil ?_
  refine W_seq ?_
  refine W_region ?_
  refine WO_op (x := .bp 2 0) (σ' := ⟨[], [some [.c (cS a1.Name), .c (cI .i64 a1.Kind), .c (cI .i64 a1.Goal)], some [.c (cS []), .c (cI .i64 0), .c (cI .i64 0)], some [.c (cS []), .c (cI .i64 0), .c (cI .i64 0)]], []⟩) rfl rfl rfl ?_; simp only [putT, st, ev, gt, hp, ofV, constT, intT, List.length_map]
  refine WO_nil ?_
  refine W_seq ?_
  refine W_region ?_
  refine WO_op (x := .bp 0 0) rfl rfl rfl ?_; simp only [putT, st, ev, gt, hp, ofV, constT, intT, List.length_map]
  refine WO_op (x := .c (cS a1.Name)) rfl rfl rfl ?_; simp only [putT, st, ev, gt, hp, ofV, constT, intT, List.length_map]
  refine WO_op (x := .bp 2 0) rfl rfl rfl ?_; simp only [putT, st, ev, gt, hp, ofV, constT, intT, List.length_map]
  refine WO_op (x := .no) (σ' := ⟨[], [some [.c (cS a1.Name), .c (cI .i64 a1.Kind), .c (cI .i64 a1.Goal)], some [.c (cS []), .c (cI .i64 0), .c (cI .i64 0)], some [.c (cS a1.Name), .c (cI .i64 0), .c (cI .i64 0)]], []⟩) rfl rfl rfl ?_; simp only [putT, st, ev, gt, hp, ofV, constT, intT, List.length_map]
  refine WO_nil ?_
  refine W_seq ?_
  refine W_region ?_
  refine WO_op (x := .bp 0 1) rfl rfl rfl ?_; simp only [putT, st, ev, gt, hp, ofV, constT, intT, List.length_map]
  refine WO_op (x := .c (cI .i64 a1.Kind)) rfl rfl rfl ?_; simp only [putT, st, ev, gt, hp, ofV, constT, intT, List.length_map]
  refine WO_op (x := .bp 2 1) rfl rfl rfl ?_; simp only [putT, st, ev, gt, hp, ofV, constT, intT, List.length_map]
  refine WO_op (x := .no) (σ' := ⟨[], [some [.c (cS a1.Name), .c (cI .i64 a1.Kind), .c (cI .i64 a1.Goal)], some [.c (cS []), .c (cI .i64 0), .c (cI .i64 0)], some [.c (cS a1.Name), .c (cI .i64 a1.Kind), .c (cI .i64 0)]], []⟩) rfl rfl rfl ?_; simp only [putT, st, ev, gt, hp, ofV, constT, intT, List.length_map]
  refine WO_nil ?_
  refine W_seq ?_
  refine W_region ?_
  refine WO_op (x := .bp 0 2) rfl rfl rfl ?_; simp only [putT, st, ev, gt, hp, ofV, constT, intT, List.length_map]
  refine WO_op (x := .c (cI .i64 a1.Goal)) rfl rfl rfl ?_; simp only [putT, st, ev, gt, hp, ofV, constT, intT, List.length_map]
  refine WO_op (x := .bp 2 2) rfl rfl rfl ?_; simp only [putT, st, ev, gt, hp, ofV, constT, intT, List.length_map]
  refine WO_op (x := .no) (σ' := ⟨[], [some [.c (cS a1.Name), .c (cI .i64 a1.Kind), .c (cI .i64 a1.Goal)], some [.c (cS []), .c (cI .i64 0), .c (cI .i64 0)], some [.c (cS a1.Name), .c (cI .i64 a1.Kind), .c (cI .i64 a1.Goal)]], []⟩) rfl rfl rfl ?_; simp only [putT, st, ev, gt, hp, ofV, constT, intT, List.length_map]
  refine WO_nil ?_
  refine W_seq ?_
  refine W_region ?_
  refine WO_op (x := .ag [.c (cS a1.Name), .c (cI .i64 a1.Kind), .c (cI .i64 a1.Goal)]) rfl rfl rfl ?_; simp only [putT, st, ev, gt, hp, ofV, constT, intT, List.length_map]
  refine WO_op (x := .no) (σ' := ⟨[], [some [.c (cS a1.Name), .c (cI .i64 a1.Kind), .c (cI .i64 a1.Goal)], some [.c (cS a1.Name), .c (cI .i64 a1.Kind), .c (cI .i64 a1.Goal)], some [.c (cS a1.Name), .c (cI .i64 a1.Kind), .c (cI .i64 a1.Goal)]], []⟩) rfl rfl rfl ?_; simp only [putT, st, ev, gt, hp, ofV, constT, intT, List.length_map]
  refine WO_nil ?_
  refine W_ret ?_
  obtain rfl := Option.some.inj H
  exact told3 rfl
set_option maxRecDepth 20000 in
set_option maxHeartbeats 1000000 in
theorem laws_toMetricS_ok {a1 : List Metric} {r : List Metric} (H : laws_toMetricS a1 = some r) : R 62 [.c (cL enc_Metric a1) none] = some (.c (cL enc_Metric r) (some 3), []) := by
  unfold laws_toMetricS at H
  refine Fz_walk 23 rfl rfl Try.func62 rfl (by kernel_rfl) rfl rfl rfl rfl ?_
  simp only [tellVs, tellV, tells, tell, st0, padT, SX.newRow, SX.newBox, List.length_cons, List.length_nil, Nat.reduceAdd, Nat.reduceSub, List.replicate, List.cons_append, List.nil_append, List.foldl_cons, List.foldl_nil]
  refine W_seq ?_
  refine W_region ?_
  refine WO_op rfl rfl rfl ?_; simp only [putT, st, ev, gt, hp, ofV, constT, intT, List.length_map]
  refine WO_nil ?_
  refine W_seq ?_
  refine W_region ?_
  iterate 2 (refine WO_op rfl rfl rfl ?_; simp only [putT, st, ev, gt, hp, ofV, constT, intT, List.length_map])
  obtain ⟨m2, hm2, H⟩ := bnd H
  refine WO_op (x := .row 0) (σ' := ⟨[], [], [rr 3 enc_Metric m2 true]⟩) rfl rfl (ev_mk (en := enc_Metric) hm2 rfl rfl rfl rfl rfl rfl rfl rfl rfl rfl rfl rfl rfl rfl) ?_; simp only [putT, st, ev, gt, hp, ofV, constT, intT, List.length_map]
  refine WO_op rfl rfl rfl ?_; simp only [putT, st, ev, gt, hp, ofV, constT, intT, List.length_map]
  refine WO_nil ?_
  refine W_seq ?_
  refine W_seq ?_
  refine W_region ?_
  refine WO_op rfl rfl rfl ?_; simp only [putT, st, ev, gt, hp, ofV, constT, intT, List.length_map]
  refine WO_nil ?_
  refine W_block ?_
  obtain ⟨t9, ht9, H⟩ := bnd H
  refine loop_rule (ls := []) 0 (fun t9 : List Metric => ⟨[.no, .no, .no, .row 0], [], [rr 3 enc_Metric t9 true]⟩) (fun t => t9 = t) ⟨[.c (cL enc_Metric a1), .no, .no, .row 0, .c (cI .i64 0)], [], [rr 3 enc_Metric m2 true]⟩ (by repeat (first | exact mono_told | refine mono_seq ?_ | refine mono_blk ?_ | refine mono_lp ?_)) (le_intro [] [0] (by decide) (by decide) rfl (by simp [leS, leT, leA, gt]) (by simp [leB, leT, leA]) (by simp [leR])) ?_ ?_
  · rintro t1 rfl
    refine W_seq ?_
    refine W_region ?_
    iterate 2 (refine WO_op rfl rfl rfl ?_; simp only [putT, st, ev, gt, hp, ofV, constT, intT, List.length_map])
    refine WO_nil ?_
    refine W_ret ?_
    obtain rfl := Option.some.inj H
    exact told5 rfl rfl rfl rfl (fitAs_nz rfl) rfl
  · intro V1 hV1 hW1 hX1
    refine (laws_toMetricS.l0.partial_correctness a1 (fun v3 v4 s' => s' = t9 → (V1 ⟨[.c (cL enc_Metric a1), .no, .no, .row 0, .c (cI .i64 v3)], [], [rr 3 enc_Metric v4 true]⟩)) ?_ _ _ _ ht9 rfl)
    intro l0 IH1 v3 v4 s' H1 e
    subst e
    refine hV1 _ ?_
    refine W_seq ?_
    refine W_seq ?_
    refine W_region ?_
    iterate 4 (refine WO_op rfl rfl rfl ?_; simp only [putT, st, ev, gt, hp, ofV, constT, intT, List.length_map])
    refine WO_nil ?_
    refine W_cond rfl (fun hc => ?_) (fun hc => ?_)
    · replace H1 := tr hc H1
      refine W_skip ?_
      refine W_seq ?_
      refine W_block ?_
      refine W_region ?_
      iterate 4 (refine WO_op rfl rfl rfl ?_; simp only [putT, st, ev, gt, hp, ofV, constT, intT, List.length_map])
      obtain ⟨x5, hx5, H1⟩ := bnd H1
      refine WO_op rfl rfl (ev_ix (en := enc_Metric) hx5 rfl rfl rfl rfl rfl rfl rfl) ?_; simp only [putT, st, ev, gt, hp, ofV, constT, intT, List.length_map]
      refine WO_op (x := .ag [.c (cS x5.Name), .c (cI .i64 x5.Kind), .c (cI .i64 x5.Goal)]) rfl rfl rfl ?_; simp only [putT, st, ev, gt, hp, ofV, constT, intT, List.length_map]
      obtain ⟨x6, hx6, H1⟩ := bnd H1
      refine WO_op (x := .ag [.c (cS x6.Name), .c (cI .i64 x6.Kind), .c (cI .i64 x6.Goal)]) (σ' := ⟨[], [], [rr 3 enc_Metric v4 true]⟩) rfl rfl (ev_callG (al := [.ag [.c (cS x5.Name), .c (cI .i64 x5.Kind), .c (cI .i64 x5.Goal)]]) (ls := []) (laws_toMetric_ok hx6) rfl rfl rfl rfl rfl (by decide) rfl rfl rfl rfl rfl rfl) ?_; simp only [putT, st, ev, gt, hp, ofV, constT, intT, List.length_map]
      obtain ⟨x7, hx7, H1⟩ := bnd H1
      refine WO_op rfl rfl (ev_ixR (en := enc_Metric) hx7 rfl rfl rfl rfl rfl rfl rfl) ?_; simp only [putT, st, ev, gt, hp, ofV, constT, intT, List.length_map]
      obtain ⟨m8, hm8, H1⟩ := bnd H1
      refine WO_op (x := .no) (σ' := ⟨[], [], [rr 3 enc_Metric m8 true]⟩) rfl rfl (ev_stR (en := enc_Metric) hm8 hx7 rfl rfl rfl rfl rfl rfl rfl rfl) ?_; simp only [putT, st, ev, gt, hp, ofV, constT, intT, List.length_map]
      refine WO_nil ?_
      refine W_region ?_
      iterate 3 (refine WO_op rfl rfl rfl ?_; simp only [putT, st, ev, gt, hp, ofV, constT, intT, List.length_map])
      refine WO_nil ?_
      exact hW1 _ _ ((IH1 _ _ _ H1 rfl)) (le_intro [] [0] (by decide) (by decide) rfl (by simp [leS, leT, leA, gt]) (by simp [leB, leT, leA]) (by simp [leR]))
    · replace H1 := fl hc H1
      refine W_exit ?_
      obtain rfl := Option.some.inj H1
      exact hX1 v4 _ rfl (le_intro [] [0] (by decide) (by decide) rfl (by simp [leS, leT, leA, gt]) (by simp [leB, leT, leA]) (by simp [leR]))
set_option maxRecDepth 20000 in
set_option maxHeartbeats 1000000 in
theorem laws_toPace_ok {a1 : Pace} {r : Pace} (H : laws_toPace a1 = some r) : R 63 [.ag [(cI .i64 a1.Up, none), (cI .i64 a1.Down, none), (cI .i64 a1.UpSpan, none), (cI .i64 a1.DownSpan, none)]] = some (.ag [(cI .i64 r.Up, none), (cI .i64 r.Down, none), (cI .i64 r.UpSpan, none), (cI .i64 r.DownSpan, none)], []) := by
  unfold laws_toPace at H
  refine Fz_walk 17 rfl rfl Try.func63 rfl (by kernel_rfl) rfl rfl rfl rfl ?_
  simp only [tellVs, tellV, tells, tell, st0, padT, SX.newRow, SX.newBox, List.length_cons, List.length_nil, Nat.reduceAdd, Nat.reduceSub, List.replicate, List.cons_append, List.nil_append, List.foldl_cons, List.foldl_nil]
  refine W_seq ?_
  refine W_region ?_
  refine WO_op (x := .bp 0 0) (σ' := ⟨[], [some [.c (cI .i64 a1.Up), .c (cI .i64 a1.Down), .c (cI .i64 a1.UpSpan), .c (cI .i64 a1.DownSpan)]], []⟩) rfl rfl rfl ?_; simp only [putT, st, ev, gt, hp, ofV, constT, intT, List.length_map]
  refine WO_op (x := .bp 1 0) (σ' := ⟨[], [some [.c (cI .i64 a1.Up), .c (cI .i64 a1.Down), .c (cI .i64 a1.UpSpan), .c (cI .i64 a1.DownSpan)], some [.c (cI .i64 0), .c (cI .i64 0), .c (cI .i64 0), .c (cI .i64 0)]], []⟩) rfl rfl rfl ?_; simp only [putT, st, ev, gt, hp, ofV, constT, intT, List.length_map]
  refine WO_nil ?_
  refine W_seq ?_
  refine W_region ?_
  refine WO_op (x := .bp 2 0) (σ' := ⟨[], [some [.c (cI .i64 a1.Up), .c (cI .i64 a1.Down), .c (cI .i64 a1.UpSpan), .c (cI .i64 a1.DownSpan)], some [.c (cI .i64 0), .c (cI .i64 0), .c (cI .i64 0), .c (cI .i64 0)], some [.c (cI .i64 0), .c (cI .i64 0), .c (cI .i64 0), .c (cI .i64 0)]], []⟩) rfl rfl rfl ?_; simp only [putT, st, ev, gt, hp, ofV, constT, intT, List.length_map]
  refine WO_nil ?_
  refine W_seq ?_
  refine W_region ?_
  refine WO_op (x := .bp 0 0) rfl rfl rfl ?_; simp only [putT, st, ev, gt, hp, ofV, constT, intT, List.length_map]
  refine WO_op (x := .c (cI .i64 a1.Up)) rfl rfl rfl ?_; simp only [putT, st, ev, gt, hp, ofV, constT, intT, List.length_map]
  refine WO_op (x := .bp 2 0) rfl rfl rfl ?_; simp only [putT, st, ev, gt, hp, ofV, constT, intT, List.length_map]
  refine WO_op (x := .no) (σ' := ⟨[], [some [.c (cI .i64 a1.Up), .c (cI .i64 a1.Down), .c (cI .i64 a1.UpSpan), .c (cI .i64 a1.DownSpan)], some [.c (cI .i64 0), .c (cI .i64 0), .c (cI .i64 0), .c (cI .i64 0)], some [.c (cI .i64 a1.Up), .c (cI .i64 0), .c (cI .i64 0), .c (cI .i64 0)]], []⟩) rfl rfl rfl ?_; simp only [putT, st, ev, gt, hp, ofV, constT, intT, List.length_map]
  refine WO_nil ?_
  refine W_seq ?_
  refine W_region ?_
  refine WO_op (x := .bp 0 1) rfl rfl rfl ?_; simp only [putT, st, ev, gt, hp, ofV, constT, intT, List.length_map]
  refine WO_op (x := .c (cI .i64 a1.Down)) rfl rfl rfl ?_; simp only [putT, st, ev, gt, hp, ofV, constT, intT, List.length_map]
  refine WO_op (x := .bp 2 1) rfl rfl rfl ?_; simp only [putT, st, ev, gt, hp, ofV, constT, intT, List.length_map]
  refine WO_op (x := .no) (σ' := ⟨[], [some [.c (cI .i64 a1.Up), .c (cI .i64 a1.Down), .c (cI .i64 a1.UpSpan), .c (cI .i64 a1.DownSpan)], some [.c (cI .i64 0), .c (cI .i64 0), .c (cI .i64 0), .c (cI .i64 0)], some [.c (cI .i64 a1.Up), .c (cI .i64 a1.Down), .c (cI .i64 0), .c (cI .i64 0)]], []⟩) rfl rfl rfl ?_; simp only [putT, st, ev, gt, hp, ofV, constT, intT, List.length_map]
  refine WO_nil ?_
  refine W_seq ?_
  refine W_region ?_
  refine WO_op (x := .bp 0 2) rfl rfl rfl ?_; simp only [putT, st, ev, gt, hp, ofV, constT, intT, List.length_map]
  refine WO_op (x := .c (cI .i64 a1.UpSpan)) rfl rfl rfl ?_; simp only [putT, st, ev, gt, hp, ofV, constT, intT, List.length_map]
  refine WO_op (x := .bp 2 2) rfl rfl rfl ?_; simp only [putT, st, ev, gt, hp, ofV, constT, intT, List.length_map]
  refine WO_op (x := .no) (σ' := ⟨[], [some [.c (cI .i64 a1.Up), .c (cI .i64 a1.Down), .c (cI .i64 a1.UpSpan), .c (cI .i64 a1.DownSpan)], some [.c (cI .i64 0), .c (cI .i64 0), .c (cI .i64 0), .c (cI .i64 0)], some [.c (cI .i64 a1.Up), .c (cI .i64 a1.Down), .c (cI .i64 a1.UpSpan), .c (cI .i64 0)]], []⟩) rfl rfl rfl ?_; simp only [putT, st, ev, gt, hp, ofV, constT, intT, List.length_map]
  refine WO_nil ?_
  refine W_seq ?_
  refine W_region ?_
  refine WO_op (x := .bp 0 3) rfl rfl rfl ?_; simp only [putT, st, ev, gt, hp, ofV, constT, intT, List.length_map]
  refine WO_op (x := .c (cI .i64 a1.DownSpan)) rfl rfl rfl ?_; simp only [putT, st, ev, gt, hp, ofV, constT, intT, List.length_map]
  refine WO_op (x := .bp 2 3) rfl rfl rfl ?_; simp only [putT, st, ev, gt, hp, ofV, constT, intT, List.length_map]
  refine WO_op (x := .no) (σ' := ⟨[], [some [.c (cI .i64 a1.Up), .c (cI .i64 a1.Down), .c (cI .i64 a1.UpSpan), .c (cI .i64 a1.DownSpan)], some [.c (cI .i64 0), .c (cI .i64 0), .c (cI .i64 0), .c (cI .i64 0)], some [.c (cI .i64 a1.Up), .c (cI .i64 a1.Down), .c (cI .i64 a1.UpSpan), .c (cI .i64 a1.DownSpan)]], []⟩) rfl rfl rfl ?_; simp only [putT, st, ev, gt, hp, ofV, constT, intT, List.length_map]
  refine WO_nil ?_
  refine W_seq ?_
  refine W_region ?_
  refine WO_op (x := .ag [.c (cI .i64 a1.Up), .c (cI .i64 a1.Down), .c (cI .i64 a1.UpSpan), .c (cI .i64 a1.DownSpan)]) rfl rfl rfl ?_; simp only [putT, st, ev, gt, hp, ofV, constT, intT, List.length_map]
  refine WO_op (x := .no) (σ' := ⟨[], [some [.c (cI .i64 a1.Up), .c (cI .i64 a1.Down), .c (cI .i64 a1.UpSpan), .c (cI .i64 a1.DownSpan)], some [.c (cI .i64 a1.Up), .c (cI .i64 a1.Down), .c (cI .i64 a1.UpSpan), .c (cI .i64 a1.DownSpan)], some [.c (cI .i64 a1.Up), .c (cI .i64 a1.Down), .c (cI .i64 a1.UpSpan), .c (cI .i64 a1.DownSpan)]], []⟩) rfl rfl rfl ?_; simp only [putT, st, ev, gt, hp, ofV, constT, intT, List.length_map]
  refine WO_nil ?_
  refine W_ret ?_
  obtain rfl := Option.some.inj H
  exact told3 rfl
set_option maxRecDepth 20000 in
set_option maxHeartbeats 1000000 in
theorem laws_toNote_ok {a1 : Note} {r : Note} (H : laws_toNote a1 = some r) : R 127 [.ag [(cS a1.Key, none), (cS a1.Text, none)]] = some (.ag [(cS r.Key, none), (cS r.Text, none)], []) := by
  unfold laws_toNote at H
  refine Fz_walk 11 rfl rfl Try.func127 rfl (by kernel_rfl) rfl rfl rfl rfl ?_
  simp only [tellVs, tellV, tells, tell, st0, padT, SX.newRow, SX.newBox, List.length_cons, List.length_nil, Nat.reduceAdd, Nat.reduceSub, List.replicate, List.cons_append, List.nil_append, List.foldl_cons, List.foldl_nil]
  refine W_seq ?_
  refine W_region ?_
  refine WO_op (x := .bp 0 0) (σ' := ⟨[], [some [.c (cS a1.Key), .c (cS a1.Text)]], []⟩) rfl rfl rfl ?_; simp only [putT, st, ev, gt, hp, ofV, constT, intT, List.length_map]
  refine WO_op (x := .bp 1 0) (σ' := ⟨[], [some [.c (cS a1.Key), .c (cS a1.Text)], some [.c (cS []), .c (cS [])]], []⟩) rfl rfl rfl ?_; simp only [putT, st, ev, gt, hp, ofV, constT, intT, List.length_map]
  refine WO_nil ?_
  refine W_seq ?_
  refine W_region ?_
  refine WO_op (x := .bp 2 0) (σ' := ⟨[], [some [.c (cS a1.Key), .c (cS a1.Text)], some [.c (cS []), .c (cS [])], some [.c (cS []), .c (cS [])]], []⟩) rfl rfl rfl ?_; simp only [putT, st, ev, gt, hp, ofV, constT, intT, List.length_map]
  refine WO_nil ?_
  refine W_seq ?_
  refine W_region ?_
  refine WO_op (x := .bp 0 0) rfl rfl rfl ?_; simp only [putT, st, ev, gt, hp, ofV, constT, intT, List.length_map]
  refine WO_op (x := .c (cS a1.Key)) rfl rfl rfl ?_; simp only [putT, st, ev, gt, hp, ofV, constT, intT, List.length_map]
  refine WO_op (x := .bp 2 0) rfl rfl rfl ?_; simp only [putT, st, ev, gt, hp, ofV, constT, intT, List.length_map]
  refine WO_op (x := .no) (σ' := ⟨[], [some [.c (cS a1.Key), .c (cS a1.Text)], some [.c (cS []), .c (cS [])], some [.c (cS a1.Key), .c (cS [])]], []⟩) rfl rfl rfl ?_; simp only [putT, st, ev, gt, hp, ofV, constT, intT, List.length_map]
  refine WO_nil ?_
  refine W_seq ?_
  refine W_region ?_
  refine WO_op (x := .bp 0 1) rfl rfl rfl ?_; simp only [putT, st, ev, gt, hp, ofV, constT, intT, List.length_map]
  refine WO_op (x := .c (cS a1.Text)) rfl rfl rfl ?_; simp only [putT, st, ev, gt, hp, ofV, constT, intT, List.length_map]
  refine WO_op (x := .bp 2 1) rfl rfl rfl ?_; simp only [putT, st, ev, gt, hp, ofV, constT, intT, List.length_map]
  refine WO_op (x := .no) (σ' := ⟨[], [some [.c (cS a1.Key), .c (cS a1.Text)], some [.c (cS []), .c (cS [])], some [.c (cS a1.Key), .c (cS a1.Text)]], []⟩) rfl rfl rfl ?_; simp only [putT, st, ev, gt, hp, ofV, constT, intT, List.length_map]
  refine WO_nil ?_
  refine W_seq ?_
  refine W_region ?_
  refine WO_op (x := .ag [.c (cS a1.Key), .c (cS a1.Text)]) rfl rfl rfl ?_; simp only [putT, st, ev, gt, hp, ofV, constT, intT, List.length_map]
  refine WO_op (x := .no) (σ' := ⟨[], [some [.c (cS a1.Key), .c (cS a1.Text)], some [.c (cS a1.Key), .c (cS a1.Text)], some [.c (cS a1.Key), .c (cS a1.Text)]], []⟩) rfl rfl rfl ?_; simp only [putT, st, ev, gt, hp, ofV, constT, intT, List.length_map]
  refine WO_nil ?_
  refine W_ret ?_
  obtain rfl := Option.some.inj H
  exact told3 rfl
set_option maxRecDepth 20000 in
set_option maxHeartbeats 1000000 in
theorem laws_toNoteS_ok {a1 : List Note} {r : List Note} (H : laws_toNoteS a1 = some r) : R 64 [.c (cL enc_Note a1) none] = some (.c (cL enc_Note r) (some 2), []) := by
  unfold laws_toNoteS at H
  refine Fz_walk 23 rfl rfl Try.func64 rfl (by kernel_rfl) rfl rfl rfl rfl ?_
  simp only [tellVs, tellV, tells, tell, st0, padT, SX.newRow, SX.newBox, List.length_cons, List.length_nil, Nat.reduceAdd, Nat.reduceSub, List.replicate, List.cons_append, List.nil_append, List.foldl_cons, List.foldl_nil]
  refine W_seq ?_
  refine W_region ?_
  refine WO_op rfl rfl rfl ?_; simp only [putT, st, ev, gt, hp, ofV, constT, intT, List.length_map]
  refine WO_nil ?_
  refine W_seq ?_
  refine W_region ?_
  iterate 2 (refine WO_op rfl rfl rfl ?_; simp only [putT, st, ev, gt, hp, ofV, constT, intT, List.length_map])
  obtain ⟨m2, hm2, H⟩ := bnd H
  refine WO_op (x := .row 0) (σ' := ⟨[], [], [rr 2 enc_Note m2 true]⟩) rfl rfl (ev_mk (en := enc_Note) hm2 rfl rfl rfl rfl rfl rfl rfl rfl rfl rfl rfl rfl rfl rfl) ?_; simp only [putT, st, ev, gt, hp, ofV, constT, intT, List.length_map]
  refine WO_op rfl rfl rfl ?_; simp only [putT, st, ev, gt, hp, ofV, constT, intT, List.length_map]
  refine WO_nil ?_
  refine W_seq ?_
  refine W_seq ?_
  refine W_region ?_
  refine WO_op rfl rfl rfl ?_; simp only [putT, st, ev, gt, hp, ofV, constT, intT, List.length_map]
  refine WO_nil ?_
  refine W_block ?_
  obtain ⟨t9, ht9, H⟩ := bnd H
  refine loop_rule (ls := []) 0 (fun t9 : List Note => ⟨[.no, .no, .no, .row 0], [], [rr 2 enc_Note t9 true]⟩) (fun t => t9 = t) ⟨[.c (cL enc_Note a1), .no, .no, .row 0, .c (cI .i64 0)], [], [rr 2 enc_Note m2 true]⟩ (by repeat (first | exact mono_told | refine mono_seq ?_ | refine mono_blk ?_ | refine mono_lp ?_)) (le_intro [] [0] (by decide) (by decide) rfl (by simp [leS, leT, leA, gt]) (by simp [leB, leT, leA]) (by simp [leR])) ?_ ?_
  · rintro t1 rfl
    refine W_seq ?_
    refine W_region ?_
    iterate 2 (refine WO_op rfl rfl rfl ?_; simp only [putT, st, ev, gt, hp, ofV, constT, intT, List.length_map])
    refine WO_nil ?_
    refine W_ret ?_
    obtain rfl := Option.some.inj H
    exact told5 rfl rfl rfl rfl (fitAs_nz rfl) rfl
  · intro V1 hV1 hW1 hX1
    refine (laws_toNoteS.l0.partial_correctness a1 (fun v3 v4 s' => s' = t9 → (V1 ⟨[.c (cL enc_Note a1), .no, .no, .row 0, .c (cI .i64 v3)], [], [rr 2 enc_Note v4 true]⟩)) ?_ _ _ _ ht9 rfl)
    intro l0 IH1 v3 v4 s' H1 e
    subst e
    refine hV1 _ ?_
    refine W_seq ?_
    refine W_seq ?_
    refine W_region ?_
    iterate 4 (refine WO_op rfl rfl rfl ?_; simp only [putT, st, ev, gt, hp, ofV, constT, intT, List.length_map])
    refine WO_nil ?_
    refine W_cond rfl (fun hc => ?_) (fun hc => ?_)
    · replace H1 := tr hc H1
      refine W_skip ?_
      refine W_seq ?_
      refine W_block ?_
      refine W_region ?_
      iterate 4 (refine WO_op rfl rfl rfl ?_; simp only [putT, st, ev, gt, hp, ofV, constT, intT, List.length_map])
      obtain ⟨x5, hx5, H1⟩ := bnd H1
      refine WO_op rfl rfl (ev_ix (en := enc_Note) hx5 rfl rfl rfl rfl rfl rfl rfl) ?_; simp only [putT, st, ev, gt, hp, ofV, constT, intT, List.length_map]
      refine WO_op (x := .ag [.c (cS x5.Key), .c (cS x5.Text)]) rfl rfl rfl ?_; simp only [putT, st, ev, gt, hp, ofV, constT, intT, List.length_map]
      obtain ⟨x6, hx6, H1⟩ := bnd H1
      refine WO_op (x := .ag [.c (cS x6.Key), .c (cS x6.Text)]) (σ' := ⟨[], [], [rr 2 enc_Note v4 true]⟩) rfl rfl (ev_callG (al := [.ag [.c (cS x5.Key), .c (cS x5.Text)]]) (ls := []) (laws_toNote_ok hx6) rfl rfl rfl rfl rfl (by decide) rfl rfl rfl rfl rfl rfl) ?_; simp only [putT, st, ev, gt, hp, ofV, constT, intT, List.length_map]
      obtain ⟨x7, hx7, H1⟩ := bnd H1
      refine WO_op rfl rfl (ev_ixR (en := enc_Note) hx7 rfl rfl rfl rfl rfl rfl rfl) ?_; simp only [putT, st, ev, gt, hp, ofV, constT, intT, List.length_map]
      obtain ⟨m8, hm8, H1⟩ := bnd H1
      refine WO_op (x := .no) (σ' := ⟨[], [], [rr 2 enc_Note m8 true]⟩) rfl rfl (ev_stR (en := enc_Note) hm8 hx7 rfl rfl rfl rfl rfl rfl rfl rfl) ?_; simp only [putT, st, ev, gt, hp, ofV, constT, intT, List.length_map]
      refine WO_nil ?_
      refine W_region ?_
      iterate 3 (refine WO_op rfl rfl rfl ?_; simp only [putT, st, ev, gt, hp, ofV, constT, intT, List.length_map])
      refine WO_nil ?_
      exact hW1 _ _ ((IH1 _ _ _ H1 rfl)) (le_intro [] [0] (by decide) (by decide) rfl (by simp [leS, leT, leA, gt]) (by simp [leB, leT, leA]) (by simp [leR]))
    · replace H1 := fl hc H1
      refine W_exit ?_
      obtain rfl := Option.some.inj H1
      exact hX1 v4 _ rfl (le_intro [] [0] (by decide) (by decide) rfl (by simp [leS, leT, leA, gt]) (by simp [leB, leT, leA]) (by simp [leR]))
set_option maxRecDepth 20000 in
set_option maxHeartbeats 1000000 in
theorem laws_toOrder_ok {a1 : Order} {r : Order} (H : laws_toOrder a1 = some r) : R 15 [.ag [(cS a1.Name, none), (cS a1.Target, none), (cI .i64 a1.Low, none), (cI .i64 a1.High, none), (cL enc_Metric a1.Metrics, none), (cI .i64 a1.Pace.Up, none), (cI .i64 a1.Pace.Down, none), (cI .i64 a1.Pace.UpSpan, none), (cI .i64 a1.Pace.DownSpan, none), (cL enc_Note a1.Notes, none)]] = some (.ag [(cS r.Name, none), (cS r.Target, none), (cI .i64 r.Low, none), (cI .i64 r.High, none), (cL enc_Metric r.Metrics, some 3), (cI .i64 r.Pace.Up, none), (cI .i64 r.Pace.Down, none), (cI .i64 r.Pace.UpSpan, none), (cI .i64 r.Pace.DownSpan, none), (cL enc_Note r.Notes, some 2)], []) := by
  unfold laws_toOrder at H
  refine Fz_walk 29 rfl rfl Try.func15 rfl (by kernel_rfl) rfl rfl rfl rfl ?_
  simp only [tellVs, tellV, tells, tell, st0, padT, SX.newRow, SX.newBox, List.length_cons, List.length_nil, Nat.reduceAdd, Nat.reduceSub, List.replicate, List.cons_append, List.nil_append, List.foldl_cons, List.foldl_nil]
  refine W_seq ?_
  refine W_region ?_
  refine WO_op (x := .bp 0 0) (σ' := ⟨[], [some [.c (cS a1.Name), .c (cS a1.Target), .c (cI .i64 a1.Low), .c (cI .i64 a1.High), .c (cL enc_Metric a1.Metrics), .c (cI .i64 a1.Pace.Up), .c (cI .i64 a1.Pace.Down), .c (cI .i64 a1.Pace.UpSpan), .c (cI .i64 a1.Pace.DownSpan), .c (cL enc_Note a1.Notes)]], []⟩) rfl rfl rfl ?_; simp only [putT, st, ev, gt, hp, ofV, constT, intT, List.length_map]
  refine WO_op (x := .bp 1 0) (σ' := ⟨[], [some [.c (cS a1.Name), .c (cS a1.Target), .c (cI .i64 a1.Low), .c (cI .i64 a1.High), .c (cL enc_Metric a1.Metrics), .c (cI .i64 a1.Pace.Up), .c (cI .i64 a1.Pace.Down), .c (cI .i64 a1.Pace.UpSpan), .c (cI .i64 a1.Pace.DownSpan), .c (cL enc_Note a1.Notes)], some [.c (cS []), .c (cS []), .c (cI .i64 0), .c (cI .i64 0), .nil, .c (cI .i64 0), .c (cI .i64 0), .c (cI .i64 0), .c (cI .i64 0), .nil]], []⟩) rfl rfl rfl ?_; simp only [putT, st, ev, gt, hp, ofV, constT, intT, List.length_map]
  refine WO_nil ?_
  refine W_seq ?_
  refine W_region ?_
  refine WO_op (x := .bp 2 0) (σ' := ⟨[], [some [.c (cS a1.Name), .c (cS a1.Target), .c (cI .i64 a1.Low), .c (cI .i64 a1.High), .c (cL enc_Metric a1.Metrics), .c (cI .i64 a1.Pace.Up), .c (cI .i64 a1.Pace.Down), .c (cI .i64 a1.Pace.UpSpan), .c (cI .i64 a1.Pace.DownSpan), .c (cL enc_Note a1.Notes)], some [.c (cS []), .c (cS []), .c (cI .i64 0), .c (cI .i64 0), .nil, .c (cI .i64 0), .c (cI .i64 0), .c (cI .i64 0), .c (cI .i64 0), .nil], some [.c (cS []), .c (cS []), .c (cI .i64 0), .c (cI .i64 0), .nil, .c (cI .i64 0), .c (cI .i64 0), .c (cI .i64 0), .c (cI .i64 0), .nil]], []⟩) rfl rfl rfl ?_; simp only [putT, st, ev, gt, hp, ofV, constT, intT, List.length_map]
  refine WO_nil ?_
  refine W_seq ?_
  refine W_region ?_
  refine WO_op (x := .bp 0 0) rfl rfl rfl ?_; simp only [putT, st, ev, gt, hp, ofV, constT, intT, List.length_map]
  refine WO_op (x := .c (cS a1.Name)) rfl rfl rfl ?_; simp only [putT, st, ev, gt, hp, ofV, constT, intT, List.length_map]
  refine WO_op (x := .bp 2 0) rfl rfl rfl ?_; simp only [putT, st, ev, gt, hp, ofV, constT, intT, List.length_map]
  refine WO_op (x := .no) (σ' := ⟨[], [some [.c (cS a1.Name), .c (cS a1.Target), .c (cI .i64 a1.Low), .c (cI .i64 a1.High), .c (cL enc_Metric a1.Metrics), .c (cI .i64 a1.Pace.Up), .c (cI .i64 a1.Pace.Down), .c (cI .i64 a1.Pace.UpSpan), .c (cI .i64 a1.Pace.DownSpan), .c (cL enc_Note a1.Notes)], some [.c (cS []), .c (cS []), .c (cI .i64 0), .c (cI .i64 0), .nil, .c (cI .i64 0), .c (cI .i64 0), .c (cI .i64 0), .c (cI .i64 0), .nil], some [.c (cS a1.Name), .c (cS []), .c (cI .i64 0), .c (cI .i64 0), .nil, .c (cI .i64 0), .c (cI .i64 0), .c (cI .i64 0), .c (cI .i64 0), .nil]], []⟩) rfl rfl rfl ?_; simp only [putT, st, ev, gt, hp, ofV, constT, intT, List.length_map]
  refine WO_nil ?_
  refine W_seq ?_
  refine W_region ?_
  refine WO_op (x := .bp 0 1) rfl rfl rfl ?_; simp only [putT, st, ev, gt, hp, ofV, constT, intT, List.length_map]
  refine WO_op (x := .c (cS a1.Target)) rfl rfl rfl ?_; simp only [putT, st, ev, gt, hp, ofV, constT, intT, List.length_map]
  refine WO_op (x := .bp 2 1) rfl rfl rfl ?_; simp only [putT, st, ev, gt, hp, ofV, constT, intT, List.length_map]
  refine WO_op (x := .no) (σ' := ⟨[], [some [.c (cS a1.Name), .c (cS a1.Target), .c (cI .i64 a1.Low), .c (cI .i64 a1.High), .c (cL enc_Metric a1.Metrics), .c (cI .i64 a1.Pace.Up), .c (cI .i64 a1.Pace.Down), .c (cI .i64 a1.Pace.UpSpan), .c (cI .i64 a1.Pace.DownSpan), .c (cL enc_Note a1.Notes)], some [.c (cS []), .c (cS []), .c (cI .i64 0), .c (cI .i64 0), .nil, .c (cI .i64 0), .c (cI .i64 0), .c (cI .i64 0), .c (cI .i64 0), .nil], some [.c (cS a1.Name), .c (cS a1.Target), .c (cI .i64 0), .c (cI .i64 0), .nil, .c (cI .i64 0), .c (cI .i64 0), .c (cI .i64 0), .c (cI .i64 0), .nil]], []⟩) rfl rfl rfl ?_; simp only [putT, st, ev, gt, hp, ofV, constT, intT, List.length_map]
  refine WO_nil ?_
  refine W_seq ?_
  refine W_region ?_
  refine WO_op (x := .bp 0 2) rfl rfl rfl ?_; simp only [putT, st, ev, gt, hp, ofV, constT, intT, List.length_map]
  refine WO_op (x := .c (cI .i64 a1.Low)) rfl rfl rfl ?_; simp only [putT, st, ev, gt, hp, ofV, constT, intT, List.length_map]
  refine WO_op (x := .bp 2 2) rfl rfl rfl ?_; simp only [putT, st, ev, gt, hp, ofV, constT, intT, List.length_map]
  refine WO_op (x := .no) (σ' := ⟨[], [some [.c (cS a1.Name), .c (cS a1.Target), .c (cI .i64 a1.Low), .c (cI .i64 a1.High), .c (cL enc_Metric a1.Metrics), .c (cI .i64 a1.Pace.Up), .c (cI .i64 a1.Pace.Down), .c (cI .i64 a1.Pace.UpSpan), .c (cI .i64 a1.Pace.DownSpan), .c (cL enc_Note a1.Notes)], some [.c (cS []), .c (cS []), .c (cI .i64 0), .c (cI .i64 0), .nil, .c (cI .i64 0), .c (cI .i64 0), .c (cI .i64 0), .c (cI .i64 0), .nil], some [.c (cS a1.Name), .c (cS a1.Target), .c (cI .i64 a1.Low), .c (cI .i64 0), .nil, .c (cI .i64 0), .c (cI .i64 0), .c (cI .i64 0), .c (cI .i64 0), .nil]], []⟩) rfl rfl rfl ?_; simp only [putT, st, ev, gt, hp, ofV, constT, intT, List.length_map]
  refine WO_nil ?_
  refine W_seq ?_
  refine W_region ?_
  refine WO_op (x := .bp 0 3) rfl rfl rfl ?_; simp only [putT, st, ev, gt, hp, ofV, constT, intT, List.length_map]
  refine WO_op (x := .c (cI .i64 a1.High)) rfl rfl rfl ?_; simp only [putT, st, ev, gt, hp, ofV, constT, intT, List.length_map]
  refine WO_op (x := .bp 2 3) rfl rfl rfl ?_; simp only [putT, st, ev, gt, hp, ofV, constT, intT, List.length_map]
  refine WO_op (x := .no) (σ' := ⟨[], [some [.c (cS a1.Name), .c (cS a1.Target), .c (cI .i64 a1.Low), .c (cI .i64 a1.High), .c (cL enc_Metric a1.Metrics), .c (cI .i64 a1.Pace.Up), .c (cI .i64 a1.Pace.Down), .c (cI .i64 a1.Pace.UpSpan), .c (cI .i64 a1.Pace.DownSpan), .c (cL enc_Note a1.Notes)], some [.c (cS []), .c (cS []), .c (cI .i64 0), .c (cI .i64 0), .nil, .c (cI .i64 0), .c (cI .i64 0), .c (cI .i64 0), .c (cI .i64 0), .nil], some [.c (cS a1.Name), .c (cS a1.Target), .c (cI .i64 a1.Low), .c (cI .i64 a1.High), .nil, .c (cI .i64 0), .c (cI .i64 0), .c (cI .i64 0), .c (cI .i64 0), .nil]], []⟩) rfl rfl rfl ?_; simp only [putT, st, ev, gt, hp, ofV, constT, intT, List.length_map]
  refine WO_nil ?_
  refine W_seq ?_
  refine W_region ?_
  refine WO_op (x := .bp 0 4) rfl rfl rfl ?_; simp only [putT, st, ev, gt, hp, ofV, constT, intT, List.length_map]
  refine WO_op (x := .c (cL enc_Metric a1.Metrics)) rfl rfl rfl ?_; simp only [putT, st, ev, gt, hp, ofV, constT, intT, List.length_map]
  obtain ⟨x2, hx2, H⟩ := bnd H
  refine WO_op (x := .row 0) (σ' := ⟨[], [some [.c (cS a1.Name), .c (cS a1.Target), .c (cI .i64 a1.Low), .c (cI .i64 a1.High), .c (cL enc_Metric a1.Metrics), .c (cI .i64 a1.Pace.Up), .c (cI .i64 a1.Pace.Down), .c (cI .i64 a1.Pace.UpSpan), .c (cI .i64 a1.Pace.DownSpan), .c (cL enc_Note a1.Notes)], some [.c (cS []), .c (cS []), .c (cI .i64 0), .c (cI .i64 0), .nil, .c (cI .i64 0), .c (cI .i64 0), .c (cI .i64 0), .c (cI .i64 0), .nil], some [.c (cS a1.Name), .c (cS a1.Target), .c (cI .i64 a1.Low), .c (cI .i64 a1.High), .nil, .c (cI .i64 0), .c (cI .i64 0), .c (cI .i64 0), .c (cI .i64 0), .nil]], [rr 3 enc_Metric x2 true]⟩) rfl rfl (ev_callG (al := [.c (cL enc_Metric a1.Metrics)]) (ls := []) (laws_toMetricS_ok hx2) rfl rfl rfl rfl rfl (by decide) rfl rfl (by simp only [flatA, flatV, flatC, List.all_cons, List.all_nil, Option.all_some, Bool.and_self, Bool.or_true, fl_Metric]) rfl rfl rfl) ?_; simp only [putT, st, ev, gt, hp, ofV, constT, intT, List.length_map]
  refine WO_op (x := .bp 2 4) rfl rfl rfl ?_; simp only [putT, st, ev, gt, hp, ofV, constT, intT, List.length_map]
  refine WO_op (x := .no) (σ' := ⟨[], [some [.c (cS a1.Name), .c (cS a1.Target), .c (cI .i64 a1.Low), .c (cI .i64 a1.High), .c (cL enc_Metric a1.Metrics), .c (cI .i64 a1.Pace.Up), .c (cI .i64 a1.Pace.Down), .c (cI .i64 a1.Pace.UpSpan), .c (cI .i64 a1.Pace.DownSpan), .c (cL enc_Note a1.Notes)], some [.c (cS []), .c (cS []), .c (cI .i64 0), .c (cI .i64 0), .nil, .c (cI .i64 0), .c (cI .i64 0), .c (cI .i64 0), .c (cI .i64 0), .nil], some [.c (cS a1.Name), .c (cS a1.Target), .c (cI .i64 a1.Low), .c (cI .i64 a1.High), .row 0, .c (cI .i64 0), .c (cI .i64 0), .c (cI .i64 0), .c (cI .i64 0), .nil]], [rr 3 enc_Metric x2 true]⟩) rfl rfl rfl ?_; simp only [putT, st, ev, gt, hp, ofV, constT, intT, List.length_map]
  refine WO_nil ?_
  refine W_seq ?_
  refine W_region ?_
  refine WO_op (x := .bp 0 5) rfl rfl rfl ?_; simp only [putT, st, ev, gt, hp, ofV, constT, intT, List.length_map]
  refine WO_op (x := .ag [.c (cI .i64 a1.Pace.Up), .c (cI .i64 a1.Pace.Down), .c (cI .i64 a1.Pace.UpSpan), .c (cI .i64 a1.Pace.DownSpan)]) rfl rfl rfl ?_; simp only [putT, st, ev, gt, hp, ofV, constT, intT, List.length_map]
  obtain ⟨x3, hx3, H⟩ := bnd H
  refine WO_op (x := .ag [.c (cI .i64 x3.Up), .c (cI .i64 x3.Down), .c (cI .i64 x3.UpSpan), .c (cI .i64 x3.DownSpan)]) (σ' := ⟨[], [some [.c (cS a1.Name), .c (cS a1.Target), .c (cI .i64 a1.Low), .c (cI .i64 a1.High), .c (cL enc_Metric a1.Metrics), .c (cI .i64 a1.Pace.Up), .c (cI .i64 a1.Pace.Down), .c (cI .i64 a1.Pace.UpSpan), .c (cI .i64 a1.Pace.DownSpan), .c (cL enc_Note a1.Notes)], some [.c (cS []), .c (cS []), .c (cI .i64 0), .c (cI .i64 0), .nil, .c (cI .i64 0), .c (cI .i64 0), .c (cI .i64 0), .c (cI .i64 0), .nil], some [.c (cS a1.Name), .c (cS a1.Target), .c (cI .i64 a1.Low), .c (cI .i64 a1.High), .row 0, .c (cI .i64 0), .c (cI .i64 0), .c (cI .i64 0), .c (cI .i64 0), .nil]], [rr 3 enc_Metric x2 true]⟩) rfl rfl (ev_callG (al := [.ag [.c (cI .i64 a1.Pace.Up), .c (cI .i64 a1.Pace.Down), .c (cI .i64 a1.Pace.UpSpan), .c (cI .i64 a1.Pace.DownSpan)]]) (ls := []) (laws_toPace_ok hx3) rfl rfl rfl rfl rfl (by decide) rfl rfl rfl rfl rfl rfl) ?_; simp only [putT, st, ev, gt, hp, ofV, constT, intT, List.length_map]
  refine WO_op (x := .bp 2 5) rfl rfl rfl ?_; simp only [putT, st, ev, gt, hp, ofV, constT, intT, List.length_map]
  refine WO_op (x := .no) (σ' := ⟨[], [some [.c (cS a1.Name), .c (cS a1.Target), .c (cI .i64 a1.Low), .c (cI .i64 a1.High), .c (cL enc_Metric a1.Metrics), .c (cI .i64 a1.Pace.Up), .c (cI .i64 a1.Pace.Down), .c (cI .i64 a1.Pace.UpSpan), .c (cI .i64 a1.Pace.DownSpan), .c (cL enc_Note a1.Notes)], some [.c (cS []), .c (cS []), .c (cI .i64 0), .c (cI .i64 0), .nil, .c (cI .i64 0), .c (cI .i64 0), .c (cI .i64 0), .c (cI .i64 0), .nil], some [.c (cS a1.Name), .c (cS a1.Target), .c (cI .i64 a1.Low), .c (cI .i64 a1.High), .row 0, .c (cI .i64 x3.Up), .c (cI .i64 x3.Down), .c (cI .i64 x3.UpSpan), .c (cI .i64 x3.DownSpan), .nil]], [rr 3 enc_Metric x2 true]⟩) rfl rfl rfl ?_; simp only [putT, st, ev, gt, hp, ofV, constT, intT, List.length_map]
  refine WO_nil ?_
  refine W_seq ?_
  refine W_region ?_
  refine WO_op (x := .bp 0 9) rfl rfl rfl ?_; simp only [putT, st, ev, gt, hp, ofV, constT, intT, List.length_map]
  refine WO_op (x := .c (cL enc_Note a1.Notes)) rfl rfl rfl ?_; simp only [putT, st, ev, gt, hp, ofV, constT, intT, List.length_map]
  obtain ⟨x4, hx4, H⟩ := bnd H
  refine WO_op (x := .row 1) (σ' := ⟨[], [some [.c (cS a1.Name), .c (cS a1.Target), .c (cI .i64 a1.Low), .c (cI .i64 a1.High), .c (cL enc_Metric a1.Metrics), .c (cI .i64 a1.Pace.Up), .c (cI .i64 a1.Pace.Down), .c (cI .i64 a1.Pace.UpSpan), .c (cI .i64 a1.Pace.DownSpan), .c (cL enc_Note a1.Notes)], some [.c (cS []), .c (cS []), .c (cI .i64 0), .c (cI .i64 0), .nil, .c (cI .i64 0), .c (cI .i64 0), .c (cI .i64 0), .c (cI .i64 0), .nil], some [.c (cS a1.Name), .c (cS a1.Target), .c (cI .i64 a1.Low), .c (cI .i64 a1.High), .row 0, .c (cI .i64 x3.Up), .c (cI .i64 x3.Down), .c (cI .i64 x3.UpSpan), .c (cI .i64 x3.DownSpan), .nil]], [rr 3 enc_Metric x2 true, rr 2 enc_Note x4 true]⟩) rfl rfl (ev_callG (al := [.c (cL enc_Note a1.Notes)]) (ls := []) (laws_toNoteS_ok hx4) rfl rfl rfl rfl rfl (by decide) rfl rfl (by simp only [flatA, flatV, flatC, List.all_cons, List.all_nil, Option.all_some, Bool.and_self, Bool.or_true, fl_Note]) rfl rfl rfl) ?_; simp only [putT, st, ev, gt, hp, ofV, constT, intT, List.length_map]
  refine WO_op (x := .bp 2 9) rfl rfl rfl ?_; simp only [putT, st, ev, gt, hp, ofV, constT, intT, List.length_map]
  refine WO_op (x := .no) (σ' := ⟨[], [some [.c (cS a1.Name), .c (cS a1.Target), .c (cI .i64 a1.Low), .c (cI .i64 a1.High), .c (cL enc_Metric a1.Metrics), .c (cI .i64 a1.Pace.Up), .c (cI .i64 a1.Pace.Down), .c (cI .i64 a1.Pace.UpSpan), .c (cI .i64 a1.Pace.DownSpan), .c (cL enc_Note a1.Notes)], some [.c (cS []), .c (cS []), .c (cI .i64 0), .c (cI .i64 0), .nil, .c (cI .i64 0), .c (cI .i64 0), .c (cI .i64 0), .c (cI .i64 0), .nil], some [.c (cS a1.Name), .c (cS a1.Target), .c (cI .i64 a1.Low), .c (cI .i64 a1.High), .row 0, .c (cI .i64 x3.Up), .c (cI .i64 x3.Down), .c (cI .i64 x3.UpSpan), .c (cI .i64 x3.DownSpan), .row 1]], [rr 3 enc_Metric x2 true, rr 2 enc_Note x4 true]⟩) rfl rfl rfl ?_; simp only [putT, st, ev, gt, hp, ofV, constT, intT, List.length_map]
  refine WO_nil ?_
  refine W_seq ?_
  refine W_region ?_
  refine WO_op (x := .ag [.c (cS a1.Name), .c (cS a1.Target), .c (cI .i64 a1.Low), .c (cI .i64 a1.High), .row 0, .c (cI .i64 x3.Up), .c (cI .i64 x3.Down), .c (cI .i64 x3.UpSpan), .c (cI .i64 x3.DownSpan), .row 1]) rfl rfl rfl ?_; simp only [putT, st, ev, gt, hp, ofV, constT, intT, List.length_map]
  refine WO_op (x := .no) (σ' := ⟨[], [some [.c (cS a1.Name), .c (cS a1.Target), .c (cI .i64 a1.Low), .c (cI .i64 a1.High), .c (cL enc_Metric a1.Metrics), .c (cI .i64 a1.Pace.Up), .c (cI .i64 a1.Pace.Down), .c (cI .i64 a1.Pace.UpSpan), .c (cI .i64 a1.Pace.DownSpan), .c (cL enc_Note a1.Notes)], some [.c (cS a1.Name), .c (cS a1.Target), .c (cI .i64 a1.Low), .c (cI .i64 a1.High), .row 0, .c (cI .i64 x3.Up), .c (cI .i64 x3.Down), .c (cI .i64 x3.UpSpan), .c (cI .i64 x3.DownSpan), .row 1], some [.c (cS a1.Name), .c (cS a1.Target), .c (cI .i64 a1.Low), .c (cI .i64 a1.High), .row 0, .c (cI .i64 x3.Up), .c (cI .i64 x3.Down), .c (cI .i64 x3.UpSpan), .c (cI .i64 x3.DownSpan), .row 1]], [rr 3 enc_Metric x2 true, rr 2 enc_Note x4 true]⟩) rfl rfl rfl ?_; simp only [putT, st, ev, gt, hp, ofV, constT, intT, List.length_map]
  refine WO_nil ?_
  refine W_ret ?_
  obtain rfl := Option.some.inj H
  exact told5 rfl rfl rfl rfl (fitAs_nz rfl) rfl
set_option maxRecDepth 20000 in
set_option maxHeartbeats 1000000 in
theorem laws_toSample_ok {a1 : Sample} {r : Sample} (H : laws_toSample a1 = some r) : R 65 [.ag [(cS a1.Name, none), (cI .i64 a1.Value, none)]] = some (.ag [(cS r.Name, none), (cI .i64 r.Value, none)], []) := by
  unfold laws_toSample at H
  refine Fz_walk 11 rfl rfl Try.func65 rfl (by kernel_rfl) rfl rfl rfl rfl ?_
  simp only [tellVs, tellV, tells, tell, st0, padT, SX.newRow, SX.newBox, List.length_cons, List.length_nil, Nat.reduceAdd, Nat.reduceSub, List.replicate, List.cons_append, List.nil_append, List.foldl_cons, List.foldl_nil]
  refine W_seq ?_
  refine W_region ?_
  refine WO_op (x := .bp 0 0) (σ' := ⟨[], [some [.c (cS a1.Name), .c (cI .i64 a1.Value)]], []⟩) rfl rfl rfl ?_; simp only [putT, st, ev, gt, hp, ofV, constT, intT, List.length_map]
  refine WO_op (x := .bp 1 0) (σ' := ⟨[], [some [.c (cS a1.Name), .c (cI .i64 a1.Value)], some [.c (cS []), .c (cI .i64 0)]], []⟩) rfl rfl rfl ?_; simp only [putT, st, ev, gt, hp, ofV, constT, intT, List.length_map]
  refine WO_nil ?_
  refine W_seq ?_
  refine W_region ?_
  refine WO_op (x := .bp 2 0) (σ' := ⟨[], [some [.c (cS a1.Name), .c (cI .i64 a1.Value)], some [.c (cS []), .c (cI .i64 0)], some [.c (cS []), .c (cI .i64 0)]], []⟩) rfl rfl rfl ?_; simp only [putT, st, ev, gt, hp, ofV, constT, intT, List.length_map]
  refine WO_nil ?_
  refine W_seq ?_
  refine W_region ?_
  refine WO_op (x := .bp 0 0) rfl rfl rfl ?_; simp only [putT, st, ev, gt, hp, ofV, constT, intT, List.length_map]
  refine WO_op (x := .c (cS a1.Name)) rfl rfl rfl ?_; simp only [putT, st, ev, gt, hp, ofV, constT, intT, List.length_map]
  refine WO_op (x := .bp 2 0) rfl rfl rfl ?_; simp only [putT, st, ev, gt, hp, ofV, constT, intT, List.length_map]
  refine WO_op (x := .no) (σ' := ⟨[], [some [.c (cS a1.Name), .c (cI .i64 a1.Value)], some [.c (cS []), .c (cI .i64 0)], some [.c (cS a1.Name), .c (cI .i64 0)]], []⟩) rfl rfl rfl ?_; simp only [putT, st, ev, gt, hp, ofV, constT, intT, List.length_map]
  refine WO_nil ?_
  refine W_seq ?_
  refine W_region ?_
  refine WO_op (x := .bp 0 1) rfl rfl rfl ?_; simp only [putT, st, ev, gt, hp, ofV, constT, intT, List.length_map]
  refine WO_op (x := .c (cI .i64 a1.Value)) rfl rfl rfl ?_; simp only [putT, st, ev, gt, hp, ofV, constT, intT, List.length_map]
  refine WO_op (x := .bp 2 1) rfl rfl rfl ?_; simp only [putT, st, ev, gt, hp, ofV, constT, intT, List.length_map]
  refine WO_op (x := .no) (σ' := ⟨[], [some [.c (cS a1.Name), .c (cI .i64 a1.Value)], some [.c (cS []), .c (cI .i64 0)], some [.c (cS a1.Name), .c (cI .i64 a1.Value)]], []⟩) rfl rfl rfl ?_; simp only [putT, st, ev, gt, hp, ofV, constT, intT, List.length_map]
  refine WO_nil ?_
  refine W_seq ?_
  refine W_region ?_
  refine WO_op (x := .ag [.c (cS a1.Name), .c (cI .i64 a1.Value)]) rfl rfl rfl ?_; simp only [putT, st, ev, gt, hp, ofV, constT, intT, List.length_map]
  refine WO_op (x := .no) (σ' := ⟨[], [some [.c (cS a1.Name), .c (cI .i64 a1.Value)], some [.c (cS a1.Name), .c (cI .i64 a1.Value)], some [.c (cS a1.Name), .c (cI .i64 a1.Value)]], []⟩) rfl rfl rfl ?_; simp only [putT, st, ev, gt, hp, ofV, constT, intT, List.length_map]
  refine WO_nil ?_
  refine W_ret ?_
  obtain rfl := Option.some.inj H
  exact told3 rfl
set_option maxRecDepth 20000 in
set_option maxHeartbeats 1000000 in
theorem laws_toSampleS_ok {a1 : List Sample} {r : List Sample} (H : laws_toSampleS a1 = some r) : R 16 [.c (cL enc_Sample a1) none] = some (.c (cL enc_Sample r) (some 2), []) := by
  unfold laws_toSampleS at H
  refine Fz_walk 23 rfl rfl Try.func16 rfl (by kernel_rfl) rfl rfl rfl rfl ?_
  simp only [tellVs, tellV, tells, tell, st0, padT, SX.newRow, SX.newBox, List.length_cons, List.length_nil, Nat.reduceAdd, Nat.reduceSub, List.replicate, List.cons_append, List.nil_append, List.foldl_cons, List.foldl_nil]
  refine W_seq ?_
  refine W_region ?_
  refine WO_op rfl rfl rfl ?_; simp only [putT, st, ev, gt, hp, ofV, constT, intT, List.length_map]
  refine WO_nil ?_
  refine W_seq ?_
  refine W_region ?_
  iterate 2 (refine WO_op rfl rfl rfl ?_; simp only [putT, st, ev, gt, hp, ofV, constT, intT, List.length_map])
  obtain ⟨m2, hm2, H⟩ := bnd H
  refine WO_op (x := .row 0) (σ' := ⟨[], [], [rr 2 enc_Sample m2 true]⟩) rfl rfl (ev_mk (en := enc_Sample) hm2 rfl rfl rfl rfl rfl rfl rfl rfl rfl rfl rfl rfl rfl rfl) ?_; simp only [putT, st, ev, gt, hp, ofV, constT, intT, List.length_map]
  refine WO_op rfl rfl rfl ?_; simp only [putT, st, ev, gt, hp, ofV, constT, intT, List.length_map]
  refine WO_nil ?_
  refine W_seq ?_
  refine W_seq ?_
  refine W_region ?_
  refine WO_op rfl rfl rfl ?_; simp only [putT, st, ev, gt, hp, ofV, constT, intT, List.length_map]
  refine WO_nil ?_
  refine W_block ?_
  obtain ⟨t9, ht9, H⟩ := bnd H
  refine loop_rule (ls := []) 0 (fun t9 : List Sample => ⟨[.no, .no, .no, .row 0], [], [rr 2 enc_Sample t9 true]⟩) (fun t => t9 = t) ⟨[.c (cL enc_Sample a1), .no, .no, .row 0, .c (cI .i64 0)], [], [rr 2 enc_Sample m2 true]⟩ (by repeat (first | exact mono_told | refine mono_seq ?_ | refine mono_blk ?_ | refine mono_lp ?_)) (le_intro [] [0] (by decide) (by decide) rfl (by simp [leS, leT, leA, gt]) (by simp [leB, leT, leA]) (by simp [leR])) ?_ ?_
  · rintro t1 rfl
    refine W_seq ?_
    refine W_region ?_
    iterate 2 (refine WO_op rfl rfl rfl ?_; simp only [putT, st, ev, gt, hp, ofV, constT, intT, List.length_map])
    refine WO_nil ?_
    refine W_ret ?_
    obtain rfl := Option.some.inj H
    exact told5 rfl rfl rfl rfl (fitAs_nz rfl) rfl
  · intro V1 hV1 hW1 hX1
    refine (laws_toSampleS.l0.partial_correctness a1 (fun v3 v4 s' => s' = t9 → (V1 ⟨[.c (cL enc_Sample a1), .no, .no, .row 0, .c (cI .i64 v3)], [], [rr 2 enc_Sample v4 true]⟩)) ?_ _ _ _ ht9 rfl)
    intro l0 IH1 v3 v4 s' H1 e
    subst e
    refine hV1 _ ?_
    refine W_seq ?_
    refine W_seq ?_
    refine W_region ?_
    iterate 4 (refine WO_op rfl rfl rfl ?_; simp only [putT, st, ev, gt, hp, ofV, constT, intT, List.length_map])
    refine WO_nil ?_
    refine W_cond rfl (fun hc => ?_) (fun hc => ?_)
    · replace H1 := tr hc H1
      refine W_skip ?_
      refine W_seq ?_
      refine W_block ?_
      refine W_region ?_
      iterate 4 (refine WO_op rfl rfl rfl ?_; simp only [putT, st, ev, gt, hp, ofV, constT, intT, List.length_map])
      obtain ⟨x5, hx5, H1⟩ := bnd H1
      refine WO_op rfl rfl (ev_ix (en := enc_Sample) hx5 rfl rfl rfl rfl rfl rfl rfl) ?_; simp only [putT, st, ev, gt, hp, ofV, constT, intT, List.length_map]
      refine WO_op (x := .ag [.c (cS x5.Name), .c (cI .i64 x5.Value)]) rfl rfl rfl ?_; simp only [putT, st, ev, gt, hp, ofV, constT, intT, List.length_map]
      obtain ⟨x6, hx6, H1⟩ := bnd H1
      refine WO_op (x := .ag [.c (cS x6.Name), .c (cI .i64 x6.Value)]) (σ' := ⟨[], [], [rr 2 enc_Sample v4 true]⟩) rfl rfl (ev_callG (al := [.ag [.c (cS x5.Name), .c (cI .i64 x5.Value)]]) (ls := []) (laws_toSample_ok hx6) rfl rfl rfl rfl rfl (by decide) rfl rfl rfl rfl rfl rfl) ?_; simp only [putT, st, ev, gt, hp, ofV, constT, intT, List.length_map]
      obtain ⟨x7, hx7, H1⟩ := bnd H1
      refine WO_op rfl rfl (ev_ixR (en := enc_Sample) hx7 rfl rfl rfl rfl rfl rfl rfl) ?_; simp only [putT, st, ev, gt, hp, ofV, constT, intT, List.length_map]
      obtain ⟨m8, hm8, H1⟩ := bnd H1
      refine WO_op (x := .no) (σ' := ⟨[], [], [rr 2 enc_Sample m8 true]⟩) rfl rfl (ev_stR (en := enc_Sample) hm8 hx7 rfl rfl rfl rfl rfl rfl rfl rfl) ?_; simp only [putT, st, ev, gt, hp, ofV, constT, intT, List.length_map]
      refine WO_nil ?_
      refine W_region ?_
      iterate 3 (refine WO_op rfl rfl rfl ?_; simp only [putT, st, ev, gt, hp, ofV, constT, intT, List.length_map])
      refine WO_nil ?_
      exact hW1 _ _ ((IH1 _ _ _ H1 rfl)) (le_intro [] [0] (by decide) (by decide) rfl (by simp [leS, leT, leA, gt]) (by simp [leB, leT, leA]) (by simp [leR]))
    · replace H1 := fl hc H1
      refine W_exit ?_
      obtain rfl := Option.some.inj H1
      exact hX1 v4 _ rfl (le_intro [] [0] (by decide) (by decide) rfl (by simp [leS, leT, leA, gt]) (by simp [leB, leT, leA]) (by simp [leR]))
set_option maxRecDepth 20000 in
set_option maxHeartbeats 1000000 in
theorem spec_l1In_ok {a1 : Int} {a2 : Int} {a3 : Int} {r : Bool} (H : spec_l1In a1 a2 a3 = some r) : R 81 [.c (cI .i64 a1) none, .c (cI .i64 a2) none, .c (cI .i64 a3) none] = some (.c (cB r) none, []) := by
  unfold spec_l1In at H
  refine Fz_walk 15 rfl rfl Try.func81 rfl (by kernel_rfl) rfl rfl rfl rfl ?_
  simp only [tellVs, tellV, tells, tell, st0, padT, SX.newRow, SX.newBox, List.length_cons, List.length_nil, Nat.reduceAdd, Nat.reduceSub, List.replicate, List.cons_append, List.nil_append, List.foldl_cons, List.foldl_nil]
  refine W_seq ?_
  refine W_region ?_
  refine WO_op rfl rfl rfl ?_; simp only [putT, st, ev, gt, hp, ofV, constT, intT, List.length_map]
  refine WO_nil ?_
  refine W_seq ?_
  refine W_region ?_
  iterate 4 (refine WO_op rfl rfl rfl ?_; simp only [putT, st, ev, gt, hp, ofV, constT, intT, List.length_map])
  refine WO_if rfl rfl rfl (fun hc => ?_) (fun hc => ?_)
  · replace H := tr hc H
    simp only [putT, st, ev, gt, hp, ofV, constT, intT, List.length_map]
    iterate 3 (refine WO_want rfl rfl rfl ?_; simp only [putT, st, ev, gt, hp, ofV, constT, intT, List.length_map])
    refine WO_op (x := .c (cB (decide (a1 ≤ a3)))) rfl rfl rfl ?_; simp only [putT, st, ev, gt, hp, ofV, constT, intT, List.length_map]
    refine WO_op rfl rfl rfl ?_; simp only [putT, st, ev, gt, hp, ofV, constT, intT, List.length_map]
    refine WO_nil ?_
    refine W_ret ?_
    obtain rfl := Option.some.inj H
    exact told3 rfl
  · replace H := fl hc H
    simp only [putT, st, ev, gt, hp, ofV, constT, intT, List.length_map]
    refine WO_skip rfl rfl ?_; simp only [putT, st, ev, gt, hp, ofV, constT, intT, List.length_map]
    refine WO_skip rfl rfl ?_; simp only [putT, st, ev, gt, hp, ofV, constT, intT, List.length_map]
    refine WO_skip rfl rfl ?_; simp only [putT, st, ev, gt, hp, ofV, constT, intT, List.length_map]
    refine WO_op (x := .c (cB false)) rfl rfl rfl ?_; simp only [putT, st, ev, gt, hp, ofV, constT, intT, List.length_map]
    refine WO_op rfl rfl rfl ?_; simp only [putT, st, ev, gt, hp, ofV, constT, intT, List.length_map]
    refine WO_nil ?_
    refine W_ret ?_
    obtain rfl := Option.some.inj H
    exact told3 rfl
set_option maxRecDepth 20000 in
set_option maxHeartbeats 1000000 in
theorem spec_NameOk_ok {a1 : Str} {r : Bool} (H : spec_NameOk a1 = some r) : R 84 [.c (cS a1) none] = some (.c (cB r) none, []) := by
  unfold spec_NameOk at H
  refine Fz_walk 40 rfl rfl Try.func84 rfl (by kernel_rfl) rfl rfl rfl rfl ?_
  simp only [tellVs, tellV, tells, tell, st0, padT, SX.newRow, SX.newBox, List.length_cons, List.length_nil, Nat.reduceAdd, Nat.reduceSub, List.replicate, List.cons_append, List.nil_append, List.foldl_cons, List.foldl_nil]
  refine W_seq ?_
  refine W_region ?_
  refine WO_op rfl rfl rfl ?_; simp only [putT, st, ev, gt, hp, ofV, constT, intT, List.length_map]
  refine WO_nil ?_
  refine W_seq ?_
  refine W_seq ?_
  refine W_region ?_
  refine WO_op rfl rfl rfl ?_; simp only [putT, st, ev, gt, hp, ofV, constT, intT, List.length_map]
  refine WO_nil ?_
  refine W_block ?_
  obtain ⟨s6, hs6, H⟩ := bnd H
  refine loop_rule (ls := []) 0 (fun t4 : Unit => ⟨[.c (cS a1)], [], []⟩) (fun t => s6 = .inr t) ⟨[.c (cS a1), .no, .no, .c (cI .i64 0)], [], []⟩ (by repeat (first | exact mono_told | refine mono_seq ?_ | refine mono_blk ?_ | refine mono_lp ?_)) (le_intro [] [] (by decide) (by decide) rfl (by simp [leS, leT, leA, gt]) (by simp [leB, leT, leA]) (by simp [leR])) ?_ ?_
  · rintro t4 rfl
    refine W_seq ?_
    refine W_region ?_
    refine WO_op rfl rfl rfl ?_; simp only [putT, st, ev, gt, hp, ofV, constT, intT, List.length_map]
    refine WO_op (x := .c (cI .i64 (a1.length : Int))) rfl rfl rfl ?_; simp only [putT, st, ev, gt, hp, ofV, constT, intT, List.length_map]
    obtain ⟨x5, hx5, H⟩ := bnd H
    refine WO_op (x := .c (cB x5)) (σ' := ⟨[], [], []⟩) rfl rfl (ev_callG (al := [.c (cI .i64 (a1.length : Int)), .c (cI .i64 1), .c (cI .i64 20)]) (ls := []) (spec_l1In_ok hx5) rfl rfl rfl rfl rfl (by decide) rfl rfl rfl rfl rfl rfl) ?_; simp only [putT, st, ev, gt, hp, ofV, constT, intT, List.length_map]
    refine WO_op rfl rfl rfl ?_; simp only [putT, st, ev, gt, hp, ofV, constT, intT, List.length_map]
    refine WO_nil ?_
    refine W_ret ?_
    obtain rfl := Option.some.inj H
    exact told3 rfl
  · intro V1 hV1 hW1 hX1
    refine (spec_NameOk.l0.partial_correctness a1 (fun v2 s' => s' = s6 → (V1 ⟨[.c (cS a1), .no, .no, .c (cI .i64 v2)], [], []⟩)) ?_ _ _ hs6 rfl)
    intro l0 IH1 v2 s' H1 e
    subst e
    refine hV1 _ ?_
    refine W_seq ?_
    refine W_seq ?_
    refine W_region ?_
    iterate 2 (refine WO_op rfl rfl rfl ?_; simp only [putT, st, ev, gt, hp, ofV, constT, intT, List.length_map])
    refine WO_op (x := .c (cI .i64 (a1.length : Int))) rfl rfl rfl ?_; simp only [putT, st, ev, gt, hp, ofV, constT, intT, List.length_map]
    refine WO_op rfl rfl rfl ?_; simp only [putT, st, ev, gt, hp, ofV, constT, intT, List.length_map]
    refine WO_nil ?_
    refine W_cond rfl (fun hc => ?_) (fun hc => ?_)
    · replace H1 := tr hc H1
      refine W_skip ?_
      refine W_seq ?_
      refine W_block ?_
      refine W_seq ?_
      refine W_region ?_
      iterate 2 (refine WO_op rfl rfl rfl ?_; simp only [putT, st, ev, gt, hp, ofV, constT, intT, List.length_map])
      obtain ⟨c3, hc3, H1⟩ := bnd H1
      refine WO_op rfl rfl (ev_sx hc3 rfl rfl rfl rfl) ?_; simp only [putT, st, ev, gt, hp, ofV, constT, intT, List.length_map]
      refine WO_op rfl rfl rfl ?_; simp only [putT, st, ev, gt, hp, ofV, constT, intT, List.length_map]
      refine WO_nil ?_
      refine W_seq ?_
      refine W_region ?_
      iterate 3 (refine WO_op rfl rfl rfl ?_; simp only [putT, st, ev, gt, hp, ofV, constT, intT, List.length_map])
      refine WO_if rfl rfl rfl (fun hc => ?_) (fun hc => ?_)
      · replace H1 := tr hc H1
        simp only [putT, st, ev, gt, hp, ofV, constT, intT, List.length_map]
        iterate 2 (refine WO_want rfl rfl rfl ?_; simp only [putT, st, ev, gt, hp, ofV, constT, intT, List.length_map])
        refine WO_op (x := .c (cB (decide ((byte c3) ≤ 122)))) rfl rfl rfl ?_; simp only [putT, st, ev, gt, hp, ofV, constT, intT, List.length_map]
        refine WO_op rfl rfl rfl ?_; simp only [putT, st, ev, gt, hp, ofV, constT, intT, List.length_map]
        refine WO_if rfl rfl rfl (fun hc => ?_) (fun hc => ?_)
        · replace H1 := tr hc H1
          simp only [putT, st, ev, gt, hp, ofV, constT, intT, List.length_map]
          refine WO_skip rfl rfl ?_; simp only [putT, st, ev, gt, hp, ofV, constT, intT, List.length_map]
          refine WO_skip rfl rfl ?_; simp only [putT, st, ev, gt, hp, ofV, constT, intT, List.length_map]
          refine WO_skip rfl rfl ?_; simp only [putT, st, ev, gt, hp, ofV, constT, intT, List.length_map]
          refine WO_skip rfl rfl ?_; simp only [putT, st, ev, gt, hp, ofV, constT, intT, List.length_map]
          refine WO_skip rfl rfl ?_; simp only [putT, st, ev, gt, hp, ofV, constT, intT, List.length_map]
          refine WO_skip rfl rfl ?_; simp only [putT, st, ev, gt, hp, ofV, constT, intT, List.length_map]
          refine WO_skip rfl rfl ?_; simp only [putT, st, ev, gt, hp, ofV, constT, intT, List.length_map]
          refine WO_skip rfl rfl ?_; simp only [putT, st, ev, gt, hp, ofV, constT, intT, List.length_map]
          refine WO_skip rfl rfl ?_; simp only [putT, st, ev, gt, hp, ofV, constT, intT, List.length_map]
          refine WO_skip rfl rfl ?_; simp only [putT, st, ev, gt, hp, ofV, constT, intT, List.length_map]
          refine WO_skip rfl rfl ?_; simp only [putT, st, ev, gt, hp, ofV, constT, intT, List.length_map]
          refine WO_skip rfl rfl ?_; simp only [putT, st, ev, gt, hp, ofV, constT, intT, List.length_map]
          refine WO_skip rfl rfl ?_; simp only [putT, st, ev, gt, hp, ofV, constT, intT, List.length_map]
          refine WO_skip rfl rfl ?_; simp only [putT, st, ev, gt, hp, ofV, constT, intT, List.length_map]
          refine WO_op (x := .c (cB true)) rfl rfl rfl ?_; simp only [putT, st, ev, gt, hp, ofV, constT, intT, List.length_map]
          refine WO_op rfl rfl rfl ?_; simp only [putT, st, ev, gt, hp, ofV, constT, intT, List.length_map]
          refine WO_nil ?_
          refine W_cond rfl (fun hc => ?_) (fun hc => ?_)
          · replace H1 := tr hc H1
            refine W_seq ?_
            refine W_region ?_
            refine WO_op rfl rfl rfl ?_; simp only [putT, st, ev, gt, hp, ofV, constT, intT, List.length_map]
            refine WO_nil ?_
            refine W_ret ?_
            obtain rfl := Option.some.inj H1
            obtain rfl := Option.some.inj H
            exact told3 rfl
          · replace H1 := fl hc H1
            refine W_skip ?_
            refine W_region ?_
            iterate 3 (refine WO_op rfl rfl rfl ?_; simp only [putT, st, ev, gt, hp, ofV, constT, intT, List.length_map])
            refine WO_nil ?_
            exact hW1 _ _ ((IH1 _ _ H1 rfl)) (le_intro [] [] (by decide) (by decide) rfl (by simp [leS, leT, leA, gt]) (by simp [leB, leT, leA]) (by simp [leR]))
        · replace H1 := fl hc H1
          simp only [putT, st, ev, gt, hp, ofV, constT, intT, List.length_map]
          iterate 3 (refine WO_want rfl rfl rfl ?_; simp only [putT, st, ev, gt, hp, ofV, constT, intT, List.length_map])
          refine WO_if rfl rfl rfl (fun hc => ?_) (fun hc => ?_)
          · replace H1 := tr hc H1
            simp only [putT, st, ev, gt, hp, ofV, constT, intT, List.length_map]
            iterate 3 (refine WO_want rfl rfl rfl ?_; simp only [putT, st, ev, gt, hp, ofV, constT, intT, List.length_map])
            refine WO_if rfl rfl rfl (fun hc => ?_) (fun hc => ?_)
            · replace H1 := tr hc H1
              simp only [putT, st, ev, gt, hp, ofV, constT, intT, List.length_map]
              iterate 2 (refine WO_want rfl rfl rfl ?_; simp only [putT, st, ev, gt, hp, ofV, constT, intT, List.length_map])
              refine WO_want (x := .c (cB (decide ((byte c3) ≤ 57)))) rfl rfl rfl ?_; simp only [putT, st, ev, gt, hp, ofV, constT, intT, List.length_map]
              refine WO_want rfl rfl rfl ?_; simp only [putT, st, ev, gt, hp, ofV, constT, intT, List.length_map]
              refine WO_if rfl rfl rfl (fun hc => ?_) (fun hc => ?_)
              · replace H1 := tr hc H1
                simp only [putT, st, ev, gt, hp, ofV, constT, intT, List.length_map]
                refine WO_skip rfl rfl ?_; simp only [putT, st, ev, gt, hp, ofV, constT, intT, List.length_map]
                refine WO_skip rfl rfl ?_; simp only [putT, st, ev, gt, hp, ofV, constT, intT, List.length_map]
                iterate 2 (refine WO_want (x := .c (cB true)) rfl rfl rfl ?_; simp only [putT, st, ev, gt, hp, ofV, constT, intT, List.length_map])
                refine WO_op (x := .c (cB true)) rfl rfl rfl ?_; simp only [putT, st, ev, gt, hp, ofV, constT, intT, List.length_map]
                refine WO_op rfl rfl rfl ?_; simp only [putT, st, ev, gt, hp, ofV, constT, intT, List.length_map]
                refine WO_nil ?_
                refine W_cond rfl (fun hc => ?_) (fun hc => ?_)
                · replace H1 := tr hc H1
                  refine W_seq ?_
                  refine W_region ?_
                  refine WO_op rfl rfl rfl ?_; simp only [putT, st, ev, gt, hp, ofV, constT, intT, List.length_map]
                  refine WO_nil ?_
                  refine W_ret ?_
                  obtain rfl := Option.some.inj H1
                  obtain rfl := Option.some.inj H
                  exact told3 rfl
                · replace H1 := fl hc H1
                  refine W_skip ?_
                  refine W_region ?_
                  iterate 3 (refine WO_op rfl rfl rfl ?_; simp only [putT, st, ev, gt, hp, ofV, constT, intT, List.length_map])
                  refine WO_nil ?_
                  exact hW1 _ _ ((IH1 _ _ H1 rfl)) (le_intro [] [] (by decide) (by decide) rfl (by simp [leS, leT, leA, gt]) (by simp [leB, leT, leA]) (by simp [leR]))
              · replace H1 := fl hc H1
                simp only [putT, st, ev, gt, hp, ofV, constT, intT, List.length_map]
                iterate 2 (refine WO_want rfl rfl rfl ?_; simp only [putT, st, ev, gt, hp, ofV, constT, intT, List.length_map])
                iterate 2 (refine WO_want (x := .c (cB ((byte c3) == 45))) rfl rfl rfl ?_; simp only [putT, st, ev, gt, hp, ofV, constT, intT, List.length_map])
                refine WO_op (x := .c (cB ((byte c3) == 45))) rfl rfl rfl ?_; simp only [putT, st, ev, gt, hp, ofV, constT, intT, List.length_map]
                refine WO_op rfl rfl rfl ?_; simp only [putT, st, ev, gt, hp, ofV, constT, intT, List.length_map]
                refine WO_nil ?_
                refine W_cond rfl (fun hc => ?_) (fun hc => ?_)
                · replace H1 := tr hc H1
                  refine W_seq ?_
                  refine W_region ?_
                  refine WO_op rfl rfl rfl ?_; simp only [putT, st, ev, gt, hp, ofV, constT, intT, List.length_map]
                  refine WO_nil ?_
                  refine W_ret ?_
                  obtain rfl := Option.some.inj H1
                  obtain rfl := Option.some.inj H
                  exact told3 rfl
                · replace H1 := fl hc H1
                  refine W_skip ?_
                  refine W_region ?_
                  iterate 3 (refine WO_op rfl rfl rfl ?_; simp only [putT, st, ev, gt, hp, ofV, constT, intT, List.length_map])
                  refine WO_nil ?_
                  exact hW1 _ _ ((IH1 _ _ H1 rfl)) (le_intro [] [] (by decide) (by decide) rfl (by simp [leS, leT, leA, gt]) (by simp [leB, leT, leA]) (by simp [leR]))
            · replace H1 := fl hc H1
              simp only [putT, st, ev, gt, hp, ofV, constT, intT, List.length_map]
              refine WO_skip rfl rfl ?_; simp only [putT, st, ev, gt, hp, ofV, constT, intT, List.length_map]
              refine WO_skip rfl rfl ?_; simp only [putT, st, ev, gt, hp, ofV, constT, intT, List.length_map]
              refine WO_want (x := .c (cB false)) rfl rfl rfl ?_; simp only [putT, st, ev, gt, hp, ofV, constT, intT, List.length_map]
              iterate 3 (refine WO_want rfl rfl rfl ?_; simp only [putT, st, ev, gt, hp, ofV, constT, intT, List.length_map])
              iterate 2 (refine WO_want (x := .c (cB ((byte c3) == 45))) rfl rfl rfl ?_; simp only [putT, st, ev, gt, hp, ofV, constT, intT, List.length_map])
              refine WO_op (x := .c (cB ((byte c3) == 45))) rfl rfl rfl ?_; simp only [putT, st, ev, gt, hp, ofV, constT, intT, List.length_map]
              refine WO_op rfl rfl rfl ?_; simp only [putT, st, ev, gt, hp, ofV, constT, intT, List.length_map]
              refine WO_nil ?_
              refine W_cond rfl (fun hc => ?_) (fun hc => ?_)
              · replace H1 := tr hc H1
                refine W_seq ?_
                refine W_region ?_
                refine WO_op rfl rfl rfl ?_; simp only [putT, st, ev, gt, hp, ofV, constT, intT, List.length_map]
                refine WO_nil ?_
                refine W_ret ?_
                obtain rfl := Option.some.inj H1
                obtain rfl := Option.some.inj H
                exact told3 rfl
              · replace H1 := fl hc H1
                refine W_skip ?_
                refine W_region ?_
                iterate 3 (refine WO_op rfl rfl rfl ?_; simp only [putT, st, ev, gt, hp, ofV, constT, intT, List.length_map])
                refine WO_nil ?_
                exact hW1 _ _ ((IH1 _ _ H1 rfl)) (le_intro [] [] (by decide) (by decide) rfl (by simp [leS, leT, leA, gt]) (by simp [leB, leT, leA]) (by simp [leR]))
          · replace H1 := fl hc H1
            simp only [putT, st, ev, gt, hp, ofV, constT, intT, List.length_map]
            refine WO_skip rfl rfl ?_; simp only [putT, st, ev, gt, hp, ofV, constT, intT, List.length_map]
            refine WO_skip rfl rfl ?_; simp only [putT, st, ev, gt, hp, ofV, constT, intT, List.length_map]
            refine WO_skip rfl rfl ?_; simp only [putT, st, ev, gt, hp, ofV, constT, intT, List.length_map]
            refine WO_skip rfl rfl ?_; simp only [putT, st, ev, gt, hp, ofV, constT, intT, List.length_map]
            refine WO_skip rfl rfl ?_; simp only [putT, st, ev, gt, hp, ofV, constT, intT, List.length_map]
            refine WO_skip rfl rfl ?_; simp only [putT, st, ev, gt, hp, ofV, constT, intT, List.length_map]
            refine WO_skip rfl rfl ?_; simp only [putT, st, ev, gt, hp, ofV, constT, intT, List.length_map]
            refine WO_skip rfl rfl ?_; simp only [putT, st, ev, gt, hp, ofV, constT, intT, List.length_map]
            refine WO_skip rfl rfl ?_; simp only [putT, st, ev, gt, hp, ofV, constT, intT, List.length_map]
            refine WO_skip rfl rfl ?_; simp only [putT, st, ev, gt, hp, ofV, constT, intT, List.length_map]
            refine WO_want (x := .c (cB false)) rfl rfl rfl ?_; simp only [putT, st, ev, gt, hp, ofV, constT, intT, List.length_map]
            refine WO_op (x := .c (cB false)) rfl rfl rfl ?_; simp only [putT, st, ev, gt, hp, ofV, constT, intT, List.length_map]
            refine WO_op rfl rfl rfl ?_; simp only [putT, st, ev, gt, hp, ofV, constT, intT, List.length_map]
            refine WO_nil ?_
            refine W_cond rfl (fun hc => ?_) (fun hc => ?_)
            · replace H1 := tr hc H1
              refine W_seq ?_
              refine W_region ?_
              refine WO_op rfl rfl rfl ?_; simp only [putT, st, ev, gt, hp, ofV, constT, intT, List.length_map]
              refine WO_nil ?_
              refine W_ret ?_
              obtain rfl := Option.some.inj H1
              obtain rfl := Option.some.inj H
              exact told3 rfl
            · replace H1 := fl hc H1
              refine W_skip ?_
              refine W_region ?_
              iterate 3 (refine WO_op rfl rfl rfl ?_; simp only [putT, st, ev, gt, hp, ofV, constT, intT, List.length_map])
              refine WO_nil ?_
              exact hW1 _ _ ((IH1 _ _ H1 rfl)) (le_intro [] [] (by decide) (by decide) rfl (by simp [leS, leT, leA, gt]) (by simp [leB, leT, leA]) (by simp [leR]))
      · replace H1 := fl hc H1
        simp only [putT, st, ev, gt, hp, ofV, constT, intT, List.length_map]
        refine WO_skip rfl rfl ?_; simp only [putT, st, ev, gt, hp, ofV, constT, intT, List.length_map]
        refine WO_skip rfl rfl ?_; simp only [putT, st, ev, gt, hp, ofV, constT, intT, List.length_map]
        refine WO_op (x := .c (cB false)) rfl rfl rfl ?_; simp only [putT, st, ev, gt, hp, ofV, constT, intT, List.length_map]
        refine WO_op rfl rfl rfl ?_; simp only [putT, st, ev, gt, hp, ofV, constT, intT, List.length_map]
        iterate 3 (refine WO_want rfl rfl rfl ?_; simp only [putT, st, ev, gt, hp, ofV, constT, intT, List.length_map])
        refine WO_if rfl rfl rfl (fun hc => ?_) (fun hc => ?_)
        · replace H1 := tr hc H1
          simp only [putT, st, ev, gt, hp, ofV, constT, intT, List.length_map]
          iterate 3 (refine WO_want rfl rfl rfl ?_; simp only [putT, st, ev, gt, hp, ofV, constT, intT, List.length_map])
          refine WO_if rfl rfl rfl (fun hc => ?_) (fun hc => ?_)
          · replace H1 := tr hc H1
            simp only [putT, st, ev, gt, hp, ofV, constT, intT, List.length_map]
            iterate 2 (refine WO_want rfl rfl rfl ?_; simp only [putT, st, ev, gt, hp, ofV, constT, intT, List.length_map])
            refine WO_want (x := .c (cB (decide ((byte c3) ≤ 57)))) rfl rfl rfl ?_; simp only [putT, st, ev, gt, hp, ofV, constT, intT, List.length_map]
            refine WO_want rfl rfl rfl ?_; simp only [putT, st, ev, gt, hp, ofV, constT, intT, List.length_map]
            refine WO_if rfl rfl rfl (fun hc => ?_) (fun hc => ?_)
            · replace H1 := tr hc H1
              simp only [putT, st, ev, gt, hp, ofV, constT, intT, List.length_map]
              refine WO_skip rfl rfl ?_; simp only [putT, st, ev, gt, hp, ofV, constT, intT, List.length_map]
              refine WO_skip rfl rfl ?_; simp only [putT, st, ev, gt, hp, ofV, constT, intT, List.length_map]
              iterate 2 (refine WO_want (x := .c (cB true)) rfl rfl rfl ?_; simp only [putT, st, ev, gt, hp, ofV, constT, intT, List.length_map])
              refine WO_op (x := .c (cB true)) rfl rfl rfl ?_; simp only [putT, st, ev, gt, hp, ofV, constT, intT, List.length_map]
              refine WO_op rfl rfl rfl ?_; simp only [putT, st, ev, gt, hp, ofV, constT, intT, List.length_map]
              refine WO_nil ?_
              refine W_cond rfl (fun hc => ?_) (fun hc => ?_)
              · replace H1 := tr hc H1
                refine W_seq ?_
                refine W_region ?_
                refine WO_op rfl rfl rfl ?_; simp only [putT, st, ev, gt, hp, ofV, constT, intT, List.length_map]
                refine WO_nil ?_
                refine W_ret ?_
                obtain rfl := Option.some.inj H1
                obtain rfl := Option.some.inj H
                exact told3 rfl
              · replace H1 := fl hc H1
                refine W_skip ?_
                refine W_region ?_
                iterate 3 (refine WO_op rfl rfl rfl ?_; simp only [putT, st, ev, gt, hp, ofV, constT, intT, List.length_map])
                refine WO_nil ?_
                exact hW1 _ _ ((IH1 _ _ H1 rfl)) (le_intro [] [] (by decide) (by decide) rfl (by simp [leS, leT, leA, gt]) (by simp [leB, leT, leA]) (by simp [leR]))
            · replace H1 := fl hc H1
              simp only [putT, st, ev, gt, hp, ofV, constT, intT, List.length_map]
              iterate 2 (refine WO_want rfl rfl rfl ?_; simp only [putT, st, ev, gt, hp, ofV, constT, intT, List.length_map])
              iterate 2 (refine WO_want (x := .c (cB ((byte c3) == 45))) rfl rfl rfl ?_; simp only [putT, st, ev, gt, hp, ofV, constT, intT, List.length_map])
              refine WO_op (x := .c (cB ((byte c3) == 45))) rfl rfl rfl ?_; simp only [putT, st, ev, gt, hp, ofV, constT, intT, List.length_map]
              refine WO_op rfl rfl rfl ?_; simp only [putT, st, ev, gt, hp, ofV, constT, intT, List.length_map]
              refine WO_nil ?_
              refine W_cond rfl (fun hc => ?_) (fun hc => ?_)
              · replace H1 := tr hc H1
                refine W_seq ?_
                refine W_region ?_
                refine WO_op rfl rfl rfl ?_; simp only [putT, st, ev, gt, hp, ofV, constT, intT, List.length_map]
                refine WO_nil ?_
                refine W_ret ?_
                obtain rfl := Option.some.inj H1
                obtain rfl := Option.some.inj H
                exact told3 rfl
              · replace H1 := fl hc H1
                refine W_skip ?_
                refine W_region ?_
                iterate 3 (refine WO_op rfl rfl rfl ?_; simp only [putT, st, ev, gt, hp, ofV, constT, intT, List.length_map])
                refine WO_nil ?_
                exact hW1 _ _ ((IH1 _ _ H1 rfl)) (le_intro [] [] (by decide) (by decide) rfl (by simp [leS, leT, leA, gt]) (by simp [leB, leT, leA]) (by simp [leR]))
          · replace H1 := fl hc H1
            simp only [putT, st, ev, gt, hp, ofV, constT, intT, List.length_map]
            refine WO_skip rfl rfl ?_; simp only [putT, st, ev, gt, hp, ofV, constT, intT, List.length_map]
            refine WO_skip rfl rfl ?_; simp only [putT, st, ev, gt, hp, ofV, constT, intT, List.length_map]
            refine WO_want (x := .c (cB false)) rfl rfl rfl ?_; simp only [putT, st, ev, gt, hp, ofV, constT, intT, List.length_map]
            iterate 3 (refine WO_want rfl rfl rfl ?_; simp only [putT, st, ev, gt, hp, ofV, constT, intT, List.length_map])
            iterate 2 (refine WO_want (x := .c (cB ((byte c3) == 45))) rfl rfl rfl ?_; simp only [putT, st, ev, gt, hp, ofV, constT, intT, List.length_map])
            refine WO_op (x := .c (cB ((byte c3) == 45))) rfl rfl rfl ?_; simp only [putT, st, ev, gt, hp, ofV, constT, intT, List.length_map]
            refine WO_op rfl rfl rfl ?_; simp only [putT, st, ev, gt, hp, ofV, constT, intT, List.length_map]
            refine WO_nil ?_
            refine W_cond rfl (fun hc => ?_) (fun hc => ?_)
            · replace H1 := tr hc H1
              refine W_seq ?_
              refine W_region ?_
              refine WO_op rfl rfl rfl ?_; simp only [putT, st, ev, gt, hp, ofV, constT, intT, List.length_map]
              refine WO_nil ?_
              refine W_ret ?_
              obtain rfl := Option.some.inj H1
              obtain rfl := Option.some.inj H
              exact told3 rfl
            · replace H1 := fl hc H1
              refine W_skip ?_
              refine W_region ?_
              iterate 3 (refine WO_op rfl rfl rfl ?_; simp only [putT, st, ev, gt, hp, ofV, constT, intT, List.length_map])
              refine WO_nil ?_
              exact hW1 _ _ ((IH1 _ _ H1 rfl)) (le_intro [] [] (by decide) (by decide) rfl (by simp [leS, leT, leA, gt]) (by simp [leB, leT, leA]) (by simp [leR]))
        · replace H1 := fl hc H1
          simp only [putT, st, ev, gt, hp, ofV, constT, intT, List.length_map]
          refine WO_skip rfl rfl ?_; simp only [putT, st, ev, gt, hp, ofV, constT, intT, List.length_map]
          refine WO_skip rfl rfl ?_; simp only [putT, st, ev, gt, hp, ofV, constT, intT, List.length_map]
          refine WO_skip rfl rfl ?_; simp only [putT, st, ev, gt, hp, ofV, constT, intT, List.length_map]
          refine WO_skip rfl rfl ?_; simp only [putT, st, ev, gt, hp, ofV, constT, intT, List.length_map]
          refine WO_skip rfl rfl ?_; simp only [putT, st, ev, gt, hp, ofV, constT, intT, List.length_map]
          refine WO_skip rfl rfl ?_; simp only [putT, st, ev, gt, hp, ofV, constT, intT, List.length_map]
          refine WO_skip rfl rfl ?_; simp only [putT, st, ev, gt, hp, ofV, constT, intT, List.length_map]
          refine WO_skip rfl rfl ?_; simp only [putT, st, ev, gt, hp, ofV, constT, intT, List.length_map]
          refine WO_skip rfl rfl ?_; simp only [putT, st, ev, gt, hp, ofV, constT, intT, List.length_map]
          refine WO_skip rfl rfl ?_; simp only [putT, st, ev, gt, hp, ofV, constT, intT, List.length_map]
          refine WO_want (x := .c (cB false)) rfl rfl rfl ?_; simp only [putT, st, ev, gt, hp, ofV, constT, intT, List.length_map]
          refine WO_op (x := .c (cB false)) rfl rfl rfl ?_; simp only [putT, st, ev, gt, hp, ofV, constT, intT, List.length_map]
          refine WO_op rfl rfl rfl ?_; simp only [putT, st, ev, gt, hp, ofV, constT, intT, List.length_map]
          refine WO_nil ?_
          refine W_cond rfl (fun hc => ?_) (fun hc => ?_)
          · replace H1 := tr hc H1
            refine W_seq ?_
            refine W_region ?_
            refine WO_op rfl rfl rfl ?_; simp only [putT, st, ev, gt, hp, ofV, constT, intT, List.length_map]
            refine WO_nil ?_
            refine W_ret ?_
            obtain rfl := Option.some.inj H1
            obtain rfl := Option.some.inj H
            exact told3 rfl
          · replace H1 := fl hc H1
            refine W_skip ?_
            refine W_region ?_
            iterate 3 (refine WO_op rfl rfl rfl ?_; simp only [putT, st, ev, gt, hp, ofV, constT, intT, List.length_map])
            refine WO_nil ?_
            exact hW1 _ _ ((IH1 _ _ H1 rfl)) (le_intro [] [] (by decide) (by decide) rfl (by simp [leS, leT, leA, gt]) (by simp [leB, leT, leA]) (by simp [leR]))
    · replace H1 := fl hc H1
      refine W_exit ?_
      obtain rfl := Option.some.inj H1
      exact hX1 () _ rfl (le_intro [] [] (by decide) (by decide) rfl (by simp [leS, leT, leA, gt]) (by simp [leB, leT, leA]) (by simp [leR]))
set_option maxRecDepth 20000 in
set_option maxHeartbeats 1000000 in
theorem spec_MetricOk_ok {a1 : Metric} {r : Bool} (H : spec_MetricOk a1 = some r) : R 80 [.ag [(cS a1.Name, none), (cI .i64 a1.Kind, none), (cI .i64 a1.Goal, none)]] = some (.c (cB r) none, []) := by
  unfold spec_MetricOk at H
  refine Fz_walk 16 rfl rfl Try.func80 rfl (by kernel_rfl) rfl rfl rfl rfl ?_
  simp only [tellVs, tellV, tells, tell, st0, padT, SX.newRow, SX.newBox, List.length_cons, List.length_nil, Nat.reduceAdd, Nat.reduceSub, List.replicate, List.cons_append, List.nil_append, List.foldl_cons, List.foldl_nil]
  refine W_seq ?_
  refine W_region ?_
  refine WO_op (x := .bp 0 0) (σ' := ⟨[], [some [.c (cS a1.Name), .c (cI .i64 a1.Kind), .c (cI .i64 a1.Goal)]], []⟩) rfl rfl rfl ?_; simp only [putT, st, ev, gt, hp, ofV, constT, intT, List.length_map]
  refine WO_op rfl rfl rfl ?_; simp only [putT, st, ev, gt, hp, ofV, constT, intT, List.length_map]
  refine WO_nil ?_
  refine W_seq ?_
  refine W_region ?_
  refine WO_op (x := .bp 0 0) rfl rfl rfl ?_; simp only [putT, st, ev, gt, hp, ofV, constT, intT, List.length_map]
  refine WO_op (x := .c (cS a1.Name)) rfl rfl rfl ?_; simp only [putT, st, ev, gt, hp, ofV, constT, intT, List.length_map]
  obtain ⟨x2, hx2, H⟩ := bnd H
  refine WO_op (x := .c (cB x2)) (σ' := ⟨[], [some [.c (cS a1.Name), .c (cI .i64 a1.Kind), .c (cI .i64 a1.Goal)]], []⟩) rfl rfl (ev_callG (al := [.c (cS a1.Name)]) (ls := []) (spec_NameOk_ok hx2) rfl rfl rfl rfl rfl (by decide) rfl rfl rfl rfl rfl rfl) ?_; simp only [putT, st, ev, gt, hp, ofV, constT, intT, List.length_map]
  refine WO_op rfl rfl rfl ?_; simp only [putT, st, ev, gt, hp, ofV, constT, intT, List.length_map]
  refine WO_if rfl rfl rfl (fun hc => ?_) (fun hc => ?_)
  · replace H := tr hc H
    simp only [putT, st, ev, gt, hp, ofV, constT, intT, List.length_map]
    refine WO_want (x := .bp 0 1) rfl rfl rfl ?_; simp only [putT, st, ev, gt, hp, ofV, constT, intT, List.length_map]
    refine WO_want (x := .c (cI .i64 a1.Kind)) rfl rfl rfl ?_; simp only [putT, st, ev, gt, hp, ofV, constT, intT, List.length_map]
    obtain ⟨x3, hx3, H⟩ := bnd H
    refine WO_want (x := .c (cB x3)) (σ' := ⟨[], [some [.c (cS a1.Name), .c (cI .i64 a1.Kind), .c (cI .i64 a1.Goal)]], []⟩) rfl rfl (ev_callG (al := [.c (cI .i64 a1.Kind), .c (cI .i64 1), .c (cI .i64 3)]) (ls := []) (spec_l1In_ok hx3) rfl rfl rfl rfl rfl (by decide) rfl rfl rfl rfl rfl rfl) ?_; simp only [putT, st, ev, gt, hp, ofV, constT, intT, List.length_map]
    refine WO_op (x := .c (cB x3)) rfl rfl rfl ?_; simp only [putT, st, ev, gt, hp, ofV, constT, intT, List.length_map]
    refine WO_op rfl rfl rfl ?_; simp only [putT, st, ev, gt, hp, ofV, constT, intT, List.length_map]
    refine WO_if rfl rfl rfl (fun hc => ?_) (fun hc => ?_)
    · replace H := tr hc H
      simp only [putT, st, ev, gt, hp, ofV, constT, intT, List.length_map]
      refine WO_want (x := .bp 0 2) rfl rfl rfl ?_; simp only [putT, st, ev, gt, hp, ofV, constT, intT, List.length_map]
      refine WO_want (x := .c (cI .i64 a1.Goal)) rfl rfl rfl ?_; simp only [putT, st, ev, gt, hp, ofV, constT, intT, List.length_map]
      obtain ⟨x4, hx4, H⟩ := bnd H
      refine WO_want (x := .c (cB x4)) (σ' := ⟨[], [some [.c (cS a1.Name), .c (cI .i64 a1.Kind), .c (cI .i64 a1.Goal)]], []⟩) rfl rfl (ev_callG (al := [.c (cI .i64 a1.Goal), .c (cI .i64 1), .c (cI .i64 1000000)]) (ls := []) (spec_l1In_ok hx4) rfl rfl rfl rfl rfl (by decide) rfl rfl rfl rfl rfl rfl) ?_; simp only [putT, st, ev, gt, hp, ofV, constT, intT, List.length_map]
      refine WO_op (x := .c (cB x4)) rfl rfl rfl ?_; simp only [putT, st, ev, gt, hp, ofV, constT, intT, List.length_map]
      refine WO_op rfl rfl rfl ?_; simp only [putT, st, ev, gt, hp, ofV, constT, intT, List.length_map]
      refine WO_nil ?_
      refine W_ret ?_
      obtain rfl := Option.some.inj H
      exact told3 rfl
    · replace H := fl hc H
      simp only [putT, st, ev, gt, hp, ofV, constT, intT, List.length_map]
      refine WO_skip rfl rfl ?_; simp only [putT, st, ev, gt, hp, ofV, constT, intT, List.length_map]
      refine WO_skip rfl rfl ?_; simp only [putT, st, ev, gt, hp, ofV, constT, intT, List.length_map]
      refine WO_skip rfl rfl ?_; simp only [putT, st, ev, gt, hp, ofV, constT, intT, List.length_map]
      refine WO_op (x := .c (cB false)) rfl rfl rfl ?_; simp only [putT, st, ev, gt, hp, ofV, constT, intT, List.length_map]
      refine WO_op rfl rfl rfl ?_; simp only [putT, st, ev, gt, hp, ofV, constT, intT, List.length_map]
      refine WO_nil ?_
      refine W_ret ?_
      obtain rfl := Option.some.inj H
      exact told3 rfl
  · replace H := fl hc H
    simp only [putT, st, ev, gt, hp, ofV, constT, intT, List.length_map]
    refine WO_skip rfl rfl ?_; simp only [putT, st, ev, gt, hp, ofV, constT, intT, List.length_map]
    refine WO_skip rfl rfl ?_; simp only [putT, st, ev, gt, hp, ofV, constT, intT, List.length_map]
    refine WO_skip rfl rfl ?_; simp only [putT, st, ev, gt, hp, ofV, constT, intT, List.length_map]
    refine WO_op (x := .c (cB false)) rfl rfl rfl ?_; simp only [putT, st, ev, gt, hp, ofV, constT, intT, List.length_map]
    refine WO_op rfl rfl rfl ?_; simp only [putT, st, ev, gt, hp, ofV, constT, intT, List.length_map]
    refine WO_skip rfl rfl ?_; simp only [putT, st, ev, gt, hp, ofV, constT, intT, List.length_map]
    refine WO_skip rfl rfl ?_; simp only [putT, st, ev, gt, hp, ofV, constT, intT, List.length_map]
    refine WO_skip rfl rfl ?_; simp only [putT, st, ev, gt, hp, ofV, constT, intT, List.length_map]
    refine WO_op (x := .c (cB false)) rfl rfl rfl ?_; simp only [putT, st, ev, gt, hp, ofV, constT, intT, List.length_map]
    refine WO_op rfl rfl rfl ?_; simp only [putT, st, ev, gt, hp, ofV, constT, intT, List.length_map]
    refine WO_nil ?_
    refine W_ret ?_
    obtain rfl := Option.some.inj H
    exact told3 rfl
set_option maxRecDepth 20000 in
set_option maxHeartbeats 1000000 in
theorem spec_l6Metrics_ok {a1 : List Metric} {r : Bool} (H : spec_l6Metrics a1 = some r) : R 88 [.c (cL enc_Metric a1) none] = some (.c (cB r) none, []) := by
  unfold spec_l6Metrics at H
  refine Fz_walk 37 rfl rfl Try.func88 rfl (by kernel_rfl) rfl rfl rfl rfl ?_
  simp only [tellVs, tellV, tells, tell, st0, padT, SX.newRow, SX.newBox, List.length_cons, List.length_nil, Nat.reduceAdd, Nat.reduceSub, List.replicate, List.cons_append, List.nil_append, List.foldl_cons, List.foldl_nil]
  refine W_seq ?_
  refine W_region ?_
  refine WO_op rfl rfl rfl ?_; simp only [putT, st, ev, gt, hp, ofV, constT, intT, List.length_map]
  refine WO_nil ?_
  refine W_seq ?_
  refine W_seq ?_
  refine W_region ?_
  refine WO_op rfl rfl rfl ?_; simp only [putT, st, ev, gt, hp, ofV, constT, intT, List.length_map]
  refine WO_nil ?_
  refine W_block ?_
  obtain ⟨s8, hs8, H⟩ := bnd H
  refine loop_rule (ls := []) 0 (fun t7 : Unit => ⟨[.c (cL enc_Metric a1)], [], []⟩) (fun t => s8 = .inr t) ⟨[.c (cL enc_Metric a1), .no, .no, .c (cI .i64 0)], [], []⟩ (by repeat (first | exact mono_told | refine mono_seq ?_ | refine mono_blk ?_ | refine mono_lp ?_)) (le_intro [] [] (by decide) (by decide) rfl (by simp [leS, leT, leA, gt]) (by simp [leB, leT, leA]) (by simp [leR])) ?_ ?_
  · rintro t7 rfl
    refine W_seq ?_
    refine W_region ?_
    iterate 4 (refine WO_op rfl rfl rfl ?_; simp only [putT, st, ev, gt, hp, ofV, constT, intT, List.length_map])
    refine WO_nil ?_
    refine W_ret ?_
    obtain rfl := Option.some.inj H
    exact told3 rfl
  · intro V1 hV1 hW1 hX1
    refine (spec_l6Metrics.l0.partial_correctness a1 (fun v2 s' => s' = s8 → (V1 ⟨[.c (cL enc_Metric a1), .no, .no, .c (cI .i64 v2)], [], []⟩)) ?_ _ _ hs8 rfl)
    intro l0 IH1 v2 s' H1 e
    subst e
    refine hV1 _ ?_
    refine W_seq ?_
    refine W_seq ?_
    refine W_region ?_
    iterate 4 (refine WO_op rfl rfl rfl ?_; simp only [putT, st, ev, gt, hp, ofV, constT, intT, List.length_map])
    refine WO_nil ?_
    refine W_cond rfl (fun hc => ?_) (fun hc => ?_)
    · replace H1 := tr hc H1
      refine W_skip ?_
      refine W_seq ?_
      refine W_block ?_
      refine W_seq ?_
      refine W_draw (by kernel_rfl) (by kernel_rfl) ?_
      iterate 2 (refine WO_op rfl rfl rfl ?_; simp only [putT, st, ev, gt, hp, ofV, constT, intT, List.length_map])
      obtain ⟨x3, hx3, H1⟩ := bnd H1
      refine WO_op rfl rfl (ev_ix (en := enc_Metric) hx3 rfl rfl rfl rfl rfl rfl rfl) ?_; simp only [putT, st, ev, gt, hp, ofV, constT, intT, List.length_map]
      refine WO_op (x := .ag [.c (cS x3.Name), .c (cI .i64 x3.Kind), .c (cI .i64 x3.Goal)]) rfl rfl rfl ?_; simp only [putT, st, ev, gt, hp, ofV, constT, intT, List.length_map]
      obtain ⟨x4, hx4, H1⟩ := bnd H1
      refine WO_op (x := .c (cB x4)) (σ' := ⟨[], [], []⟩) rfl rfl (ev_callG (al := [.ag [.c (cS x3.Name), .c (cI .i64 x3.Kind), .c (cI .i64 x3.Goal)]]) (ls := []) (spec_MetricOk_ok hx4) rfl rfl rfl rfl rfl (by decide) rfl rfl rfl rfl rfl rfl) ?_; simp only [putT, st, ev, gt, hp, ofV, constT, intT, List.length_map]
      iterate 2 (refine WO_op rfl rfl rfl ?_; simp only [putT, st, ev, gt, hp, ofV, constT, intT, List.length_map])
      refine WO_if rfl rfl rfl (fun hc => ?_) (fun hc => ?_)
      · replace H1 := tr hc H1
        simp only [putT, st, ev, gt, hp, ofV, constT, intT, List.length_map]
        refine WO_skip rfl rfl ?_; simp only [putT, st, ev, gt, hp, ofV, constT, intT, List.length_map]
        refine WO_skip rfl rfl ?_; simp only [putT, st, ev, gt, hp, ofV, constT, intT, List.length_map]
        refine WO_skip rfl rfl ?_; simp only [putT, st, ev, gt, hp, ofV, constT, intT, List.length_map]
        refine WO_skip rfl rfl ?_; simp only [putT, st, ev, gt, hp, ofV, constT, intT, List.length_map]
        refine WO_skip rfl rfl ?_; simp only [putT, st, ev, gt, hp, ofV, constT, intT, List.length_map]
        refine WO_skip rfl rfl ?_; simp only [putT, st, ev, gt, hp, ofV, constT, intT, List.length_map]
        refine WO_skip rfl rfl ?_; simp only [putT, st, ev, gt, hp, ofV, constT, intT, List.length_map]
        refine WO_skip rfl rfl ?_; simp only [putT, st, ev, gt, hp, ofV, constT, intT, List.length_map]
        refine WO_skip rfl rfl ?_; simp only [putT, st, ev, gt, hp, ofV, constT, intT, List.length_map]
        refine WO_skip rfl rfl ?_; simp only [putT, st, ev, gt, hp, ofV, constT, intT, List.length_map]
        refine WO_skip rfl rfl ?_; simp only [putT, st, ev, gt, hp, ofV, constT, intT, List.length_map]
        refine WO_skip rfl rfl ?_; simp only [putT, st, ev, gt, hp, ofV, constT, intT, List.length_map]
        refine WO_skip rfl rfl ?_; simp only [putT, st, ev, gt, hp, ofV, constT, intT, List.length_map]
        refine WO_skip rfl rfl ?_; simp only [putT, st, ev, gt, hp, ofV, constT, intT, List.length_map]
        refine WO_skip rfl rfl ?_; simp only [putT, st, ev, gt, hp, ofV, constT, intT, List.length_map]
        refine WO_skip rfl rfl ?_; simp only [putT, st, ev, gt, hp, ofV, constT, intT, List.length_map]
        refine WO_op (x := .c (cB true)) rfl rfl rfl ?_; simp only [putT, st, ev, gt, hp, ofV, constT, intT, List.length_map]
        refine WO_nil ?_
        refine W_cond (t := true) rfl (fun _ => ?_) (fun h => by cases h)
        refine W_seq ?_
        refine W_region ?_
        refine WO_op rfl rfl rfl ?_; simp only [putT, st, ev, gt, hp, ofV, constT, intT, List.length_map]
        refine WO_nil ?_
        refine W_ret ?_
        obtain rfl := Option.some.inj H1
        obtain rfl := Option.some.inj H
        exact told3 rfl
      · replace H1 := fl hc H1
        simp only [putT, st, ev, gt, hp, ofV, constT, intT, List.length_map]
        iterate 3 (refine WO_want rfl rfl rfl ?_; simp only [putT, st, ev, gt, hp, ofV, constT, intT, List.length_map])
        refine WO_if rfl rfl rfl (fun hc => ?_) (fun hc => ?_)
        · replace H1 := tr hc H1
          simp only [putT, st, ev, gt, hp, ofV, constT, intT, List.length_map]
          iterate 3 (refine WO_want rfl rfl rfl ?_; simp only [putT, st, ev, gt, hp, ofV, constT, intT, List.length_map])
          obtain ⟨x5, hx5, H1⟩ := bnd H1
          refine WO_want rfl rfl (ev_ix (en := enc_Metric) hx5 rfl rfl rfl rfl rfl rfl rfl) ?_; simp only [putT, st, ev, gt, hp, ofV, constT, intT, List.length_map]
          refine WO_want (x := .cp (enc_Metric x5) 0) rfl rfl rfl ?_; simp only [putT, st, ev, gt, hp, ofV, constT, intT, List.length_map]
          refine WO_want (x := .c (cS x5.Name)) rfl rfl rfl ?_; simp only [putT, st, ev, gt, hp, ofV, constT, intT, List.length_map]
          iterate 2 (refine WO_want rfl rfl rfl ?_; simp only [putT, st, ev, gt, hp, ofV, constT, intT, List.length_map])
          obtain ⟨x6, hx6, H1⟩ := bnd H1
          refine WO_want rfl rfl (ev_ix (en := enc_Metric) hx6 rfl rfl rfl rfl rfl rfl rfl) ?_; simp only [putT, st, ev, gt, hp, ofV, constT, intT, List.length_map]
          refine WO_want (x := .cp (enc_Metric x6) 0) rfl rfl rfl ?_; simp only [putT, st, ev, gt, hp, ofV, constT, intT, List.length_map]
          refine WO_want (x := .c (cS x6.Name)) rfl rfl rfl ?_; simp only [putT, st, ev, gt, hp, ofV, constT, intT, List.length_map]
          refine WO_want rfl rfl (ev_geq_s rfl rfl rfl) ?_; simp only [putT, st, ev, gt, hp, ofV, constT, intT, List.length_map]
          refine WO_want (x := .c (cB (!(slt x5.Name x6.Name)))) rfl rfl rfl ?_; simp only [putT, st, ev, gt, hp, ofV, constT, intT, List.length_map]
          refine WO_op (x := .c (cB (!(slt x5.Name x6.Name)))) rfl rfl rfl ?_; simp only [putT, st, ev, gt, hp, ofV, constT, intT, List.length_map]
          refine WO_nil ?_
          refine W_cond rfl (fun hc => ?_) (fun hc => ?_)
          · replace H1 := tr hc H1
            refine W_seq ?_
            refine W_region ?_
            refine WO_op rfl rfl rfl ?_; simp only [putT, st, ev, gt, hp, ofV, constT, intT, List.length_map]
            refine WO_nil ?_
            refine W_ret ?_
            obtain rfl := Option.some.inj H1
            obtain rfl := Option.some.inj H
            exact told3 rfl
          · replace H1 := fl hc H1
            refine W_skip ?_
            refine W_region ?_
            iterate 3 (refine WO_op rfl rfl rfl ?_; simp only [putT, st, ev, gt, hp, ofV, constT, intT, List.length_map])
            refine WO_nil ?_
            exact hW1 _ _ ((IH1 _ _ H1 rfl)) (le_intro [] [] (by decide) (by decide) rfl (by simp [leS, leT, leA, gt]) (by simp [leB, leT, leA]) (by simp [leR]))
        · replace H1 := fl hc H1
          simp only [putT, st, ev, gt, hp, ofV, constT, intT, List.length_map]
          refine WO_skip rfl rfl ?_; simp only [putT, st, ev, gt, hp, ofV, constT, intT, List.length_map]
          refine WO_skip rfl rfl ?_; simp only [putT, st, ev, gt, hp, ofV, constT, intT, List.length_map]
          refine WO_skip rfl rfl ?_; simp only [putT, st, ev, gt, hp, ofV, constT, intT, List.length_map]
          refine WO_skip rfl rfl ?_; simp only [putT, st, ev, gt, hp, ofV, constT, intT, List.length_map]
          refine WO_skip rfl rfl ?_; simp only [putT, st, ev, gt, hp, ofV, constT, intT, List.length_map]
          refine WO_skip rfl rfl ?_; simp only [putT, st, ev, gt, hp, ofV, constT, intT, List.length_map]
          refine WO_skip rfl rfl ?_; simp only [putT, st, ev, gt, hp, ofV, constT, intT, List.length_map]
          refine WO_skip rfl rfl ?_; simp only [putT, st, ev, gt, hp, ofV, constT, intT, List.length_map]
          refine WO_skip rfl rfl ?_; simp only [putT, st, ev, gt, hp, ofV, constT, intT, List.length_map]
          refine WO_skip rfl rfl ?_; simp only [putT, st, ev, gt, hp, ofV, constT, intT, List.length_map]
          refine WO_skip rfl rfl ?_; simp only [putT, st, ev, gt, hp, ofV, constT, intT, List.length_map]
          refine WO_skip rfl rfl ?_; simp only [putT, st, ev, gt, hp, ofV, constT, intT, List.length_map]
          refine WO_want (x := .c (cB false)) rfl rfl rfl ?_; simp only [putT, st, ev, gt, hp, ofV, constT, intT, List.length_map]
          refine WO_op (x := .c (cB false)) rfl rfl rfl ?_; simp only [putT, st, ev, gt, hp, ofV, constT, intT, List.length_map]
          refine WO_nil ?_
          refine W_cond (t := false) rfl (fun h => by cases h) (fun _ => ?_)
          refine W_skip ?_
          refine W_region ?_
          iterate 3 (refine WO_op rfl rfl rfl ?_; simp only [putT, st, ev, gt, hp, ofV, constT, intT, List.length_map])
          refine WO_nil ?_
          exact hW1 _ _ ((IH1 _ _ H1 rfl)) (le_intro [] [] (by decide) (by decide) rfl (by simp [leS, leT, leA, gt]) (by simp [leB, leT, leA]) (by simp [leR]))
    · replace H1 := fl hc H1
      refine W_exit ?_
      obtain rfl := Option.some.inj H1
      exact hX1 () _ rfl (le_intro [] [] (by decide) (by decide) rfl (by simp [leS, leT, leA, gt]) (by simp [leB, leT, leA]) (by simp [leR]))
set_option maxRecDepth 20000 in
set_option maxHeartbeats 1000000 in
theorem spec_PaceOk_ok {a1 : Pace} {r : Bool} (H : spec_PaceOk a1 = some r) : R 89 [.ag [(cI .i64 a1.Up, none), (cI .i64 a1.Down, none), (cI .i64 a1.UpSpan, none), (cI .i64 a1.DownSpan, none)]] = some (.c (cB r) none, []) := by
  unfold spec_PaceOk at H
  refine Fz_walk 21 rfl rfl Try.func89 rfl (by kernel_rfl) rfl rfl rfl rfl ?_
  simp only [tellVs, tellV, tells, tell, st0, padT, SX.newRow, SX.newBox, List.length_cons, List.length_nil, Nat.reduceAdd, Nat.reduceSub, List.replicate, List.cons_append, List.nil_append, List.foldl_cons, List.foldl_nil]
  refine W_seq ?_
  refine W_region ?_
  refine WO_op (x := .bp 0 0) (σ' := ⟨[], [some [.c (cI .i64 a1.Up), .c (cI .i64 a1.Down), .c (cI .i64 a1.UpSpan), .c (cI .i64 a1.DownSpan)]], []⟩) rfl rfl rfl ?_; simp only [putT, st, ev, gt, hp, ofV, constT, intT, List.length_map]
  refine WO_op rfl rfl rfl ?_; simp only [putT, st, ev, gt, hp, ofV, constT, intT, List.length_map]
  refine WO_nil ?_
  refine W_seq ?_
  refine W_region ?_
  refine WO_op (x := .bp 0 0) rfl rfl rfl ?_; simp only [putT, st, ev, gt, hp, ofV, constT, intT, List.length_map]
  refine WO_op (x := .c (cI .i64 a1.Up)) rfl rfl rfl ?_; simp only [putT, st, ev, gt, hp, ofV, constT, intT, List.length_map]
  obtain ⟨x2, hx2, H⟩ := bnd H
  refine WO_op (x := .c (cB x2)) (σ' := ⟨[], [some [.c (cI .i64 a1.Up), .c (cI .i64 a1.Down), .c (cI .i64 a1.UpSpan), .c (cI .i64 a1.DownSpan)]], []⟩) rfl rfl (ev_callG (al := [.c (cI .i64 a1.Up), .c (cI .i64 0), .c (cI .i64 1000)]) (ls := []) (spec_l1In_ok hx2) rfl rfl rfl rfl rfl (by decide) rfl rfl rfl rfl rfl rfl) ?_; simp only [putT, st, ev, gt, hp, ofV, constT, intT, List.length_map]
  refine WO_op rfl rfl rfl ?_; simp only [putT, st, ev, gt, hp, ofV, constT, intT, List.length_map]
  refine WO_if rfl rfl rfl (fun hc => ?_) (fun hc => ?_)
  · replace H := tr hc H
    simp only [putT, st, ev, gt, hp, ofV, constT, intT, List.length_map]
    refine WO_want (x := .bp 0 1) rfl rfl rfl ?_; simp only [putT, st, ev, gt, hp, ofV, constT, intT, List.length_map]
    refine WO_want (x := .c (cI .i64 a1.Down)) rfl rfl rfl ?_; simp only [putT, st, ev, gt, hp, ofV, constT, intT, List.length_map]
    obtain ⟨x3, hx3, H⟩ := bnd H
    refine WO_want (x := .c (cB x3)) (σ' := ⟨[], [some [.c (cI .i64 a1.Up), .c (cI .i64 a1.Down), .c (cI .i64 a1.UpSpan), .c (cI .i64 a1.DownSpan)]], []⟩) rfl rfl (ev_callG (al := [.c (cI .i64 a1.Down), .c (cI .i64 0), .c (cI .i64 1000)]) (ls := []) (spec_l1In_ok hx3) rfl rfl rfl rfl rfl (by decide) rfl rfl rfl rfl rfl rfl) ?_; simp only [putT, st, ev, gt, hp, ofV, constT, intT, List.length_map]
    refine WO_op (x := .c (cB x3)) rfl rfl rfl ?_; simp only [putT, st, ev, gt, hp, ofV, constT, intT, List.length_map]
    refine WO_op rfl rfl rfl ?_; simp only [putT, st, ev, gt, hp, ofV, constT, intT, List.length_map]
    refine WO_if rfl rfl rfl (fun hc => ?_) (fun hc => ?_)
    · replace H := tr hc H
      simp only [putT, st, ev, gt, hp, ofV, constT, intT, List.length_map]
      refine WO_want (x := .bp 0 2) rfl rfl rfl ?_; simp only [putT, st, ev, gt, hp, ofV, constT, intT, List.length_map]
      refine WO_want (x := .c (cI .i64 a1.UpSpan)) rfl rfl rfl ?_; simp only [putT, st, ev, gt, hp, ofV, constT, intT, List.length_map]
      obtain ⟨x4, hx4, H⟩ := bnd H
      refine WO_want (x := .c (cB x4)) (σ' := ⟨[], [some [.c (cI .i64 a1.Up), .c (cI .i64 a1.Down), .c (cI .i64 a1.UpSpan), .c (cI .i64 a1.DownSpan)]], []⟩) rfl rfl (ev_callG (al := [.c (cI .i64 a1.UpSpan), .c (cI .i64 0), .c (cI .i64 3600)]) (ls := []) (spec_l1In_ok hx4) rfl rfl rfl rfl rfl (by decide) rfl rfl rfl rfl rfl rfl) ?_; simp only [putT, st, ev, gt, hp, ofV, constT, intT, List.length_map]
      refine WO_op (x := .c (cB x4)) rfl rfl rfl ?_; simp only [putT, st, ev, gt, hp, ofV, constT, intT, List.length_map]
      refine WO_op rfl rfl rfl ?_; simp only [putT, st, ev, gt, hp, ofV, constT, intT, List.length_map]
      refine WO_if rfl rfl rfl (fun hc => ?_) (fun hc => ?_)
      · replace H := tr hc H
        simp only [putT, st, ev, gt, hp, ofV, constT, intT, List.length_map]
        refine WO_want (x := .bp 0 3) rfl rfl rfl ?_; simp only [putT, st, ev, gt, hp, ofV, constT, intT, List.length_map]
        refine WO_want (x := .c (cI .i64 a1.DownSpan)) rfl rfl rfl ?_; simp only [putT, st, ev, gt, hp, ofV, constT, intT, List.length_map]
        obtain ⟨x5, hx5, H⟩ := bnd H
        refine WO_want (x := .c (cB x5)) (σ' := ⟨[], [some [.c (cI .i64 a1.Up), .c (cI .i64 a1.Down), .c (cI .i64 a1.UpSpan), .c (cI .i64 a1.DownSpan)]], []⟩) rfl rfl (ev_callG (al := [.c (cI .i64 a1.DownSpan), .c (cI .i64 0), .c (cI .i64 3600)]) (ls := []) (spec_l1In_ok hx5) rfl rfl rfl rfl rfl (by decide) rfl rfl rfl rfl rfl rfl) ?_; simp only [putT, st, ev, gt, hp, ofV, constT, intT, List.length_map]
        refine WO_op (x := .c (cB x5)) rfl rfl rfl ?_; simp only [putT, st, ev, gt, hp, ofV, constT, intT, List.length_map]
        refine WO_op rfl rfl rfl ?_; simp only [putT, st, ev, gt, hp, ofV, constT, intT, List.length_map]
        refine WO_nil ?_
        refine W_ret ?_
        obtain rfl := Option.some.inj H
        exact told3 rfl
      · replace H := fl hc H
        simp only [putT, st, ev, gt, hp, ofV, constT, intT, List.length_map]
        refine WO_skip rfl rfl ?_; simp only [putT, st, ev, gt, hp, ofV, constT, intT, List.length_map]
        refine WO_skip rfl rfl ?_; simp only [putT, st, ev, gt, hp, ofV, constT, intT, List.length_map]
        refine WO_skip rfl rfl ?_; simp only [putT, st, ev, gt, hp, ofV, constT, intT, List.length_map]
        refine WO_op (x := .c (cB false)) rfl rfl rfl ?_; simp only [putT, st, ev, gt, hp, ofV, constT, intT, List.length_map]
        refine WO_op rfl rfl rfl ?_; simp only [putT, st, ev, gt, hp, ofV, constT, intT, List.length_map]
        refine WO_nil ?_
        refine W_ret ?_
        obtain rfl := Option.some.inj H
        exact told3 rfl
    · replace H := fl hc H
      simp only [putT, st, ev, gt, hp, ofV, constT, intT, List.length_map]
      refine WO_skip rfl rfl ?_; simp only [putT, st, ev, gt, hp, ofV, constT, intT, List.length_map]
      refine WO_skip rfl rfl ?_; simp only [putT, st, ev, gt, hp, ofV, constT, intT, List.length_map]
      refine WO_skip rfl rfl ?_; simp only [putT, st, ev, gt, hp, ofV, constT, intT, List.length_map]
      refine WO_op (x := .c (cB false)) rfl rfl rfl ?_; simp only [putT, st, ev, gt, hp, ofV, constT, intT, List.length_map]
      refine WO_op rfl rfl rfl ?_; simp only [putT, st, ev, gt, hp, ofV, constT, intT, List.length_map]
      refine WO_skip rfl rfl ?_; simp only [putT, st, ev, gt, hp, ofV, constT, intT, List.length_map]
      refine WO_skip rfl rfl ?_; simp only [putT, st, ev, gt, hp, ofV, constT, intT, List.length_map]
      refine WO_skip rfl rfl ?_; simp only [putT, st, ev, gt, hp, ofV, constT, intT, List.length_map]
      refine WO_op (x := .c (cB false)) rfl rfl rfl ?_; simp only [putT, st, ev, gt, hp, ofV, constT, intT, List.length_map]
      refine WO_op rfl rfl rfl ?_; simp only [putT, st, ev, gt, hp, ofV, constT, intT, List.length_map]
      refine WO_nil ?_
      refine W_ret ?_
      obtain rfl := Option.some.inj H
      exact told3 rfl
  · replace H := fl hc H
    simp only [putT, st, ev, gt, hp, ofV, constT, intT, List.length_map]
    refine WO_skip rfl rfl ?_; simp only [putT, st, ev, gt, hp, ofV, constT, intT, List.length_map]
    refine WO_skip rfl rfl ?_; simp only [putT, st, ev, gt, hp, ofV, constT, intT, List.length_map]
    refine WO_skip rfl rfl ?_; simp only [putT, st, ev, gt, hp, ofV, constT, intT, List.length_map]
    refine WO_op (x := .c (cB false)) rfl rfl rfl ?_; simp only [putT, st, ev, gt, hp, ofV, constT, intT, List.length_map]
    refine WO_op rfl rfl rfl ?_; simp only [putT, st, ev, gt, hp, ofV, constT, intT, List.length_map]
    refine WO_skip rfl rfl ?_; simp only [putT, st, ev, gt, hp, ofV, constT, intT, List.length_map]
    refine WO_skip rfl rfl ?_; simp only [putT, st, ev, gt, hp, ofV, constT, intT, List.length_map]
    refine WO_skip rfl rfl ?_; simp only [putT, st, ev, gt, hp, ofV, constT, intT, List.length_map]
    refine WO_op (x := .c (cB false)) rfl rfl rfl ?_; simp only [putT, st, ev, gt, hp, ofV, constT, intT, List.length_map]
    refine WO_op rfl rfl rfl ?_; simp only [putT, st, ev, gt, hp, ofV, constT, intT, List.length_map]
    refine WO_skip rfl rfl ?_; simp only [putT, st, ev, gt, hp, ofV, constT, intT, List.length_map]
    refine WO_skip rfl rfl ?_; simp only [putT, st, ev, gt, hp, ofV, constT, intT, List.length_map]
    refine WO_skip rfl rfl ?_; simp only [putT, st, ev, gt, hp, ofV, constT, intT, List.length_map]
    refine WO_op (x := .c (cB false)) rfl rfl rfl ?_; simp only [putT, st, ev, gt, hp, ofV, constT, intT, List.length_map]
    refine WO_op rfl rfl rfl ?_; simp only [putT, st, ev, gt, hp, ofV, constT, intT, List.length_map]
    refine WO_nil ?_
    refine W_ret ?_
    obtain rfl := Option.some.inj H
    exact told3 rfl
set_option maxRecDepth 20000 in
set_option maxHeartbeats 1000000 in
theorem spec_l5Letter_ok {a1 : Int} {r : Bool} (H : spec_l5Letter a1 = some r) : R 169 [.c (cI .u8 a1) none] = some (.c (cB r) none, []) := by
  unfold spec_l5Letter at H
  refine Fz_walk 17 rfl rfl Try.func169 rfl (by kernel_rfl) rfl rfl rfl rfl ?_
  simp only [tellVs, tellV, tells, tell, st0, padT, SX.newRow, SX.newBox, List.length_cons, List.length_nil, Nat.reduceAdd, Nat.reduceSub, List.replicate, List.cons_append, List.nil_append, List.foldl_cons, List.foldl_nil]
  refine W_seq ?_
  refine W_region ?_
  refine WO_op rfl rfl rfl ?_; simp only [putT, st, ev, gt, hp, ofV, constT, intT, List.length_map]
  refine WO_nil ?_
  refine W_seq ?_
  refine W_region ?_
  iterate 3 (refine WO_op rfl rfl rfl ?_; simp only [putT, st, ev, gt, hp, ofV, constT, intT, List.length_map])
  refine WO_if rfl rfl rfl (fun hc => ?_) (fun hc => ?_)
  · replace H := tr hc H
    simp only [putT, st, ev, gt, hp, ofV, constT, intT, List.length_map]
    iterate 2 (refine WO_want rfl rfl rfl ?_; simp only [putT, st, ev, gt, hp, ofV, constT, intT, List.length_map])
    refine WO_op (x := .c (cB (decide (a1 ≤ 122)))) rfl rfl rfl ?_; simp only [putT, st, ev, gt, hp, ofV, constT, intT, List.length_map]
    refine WO_op rfl rfl rfl ?_; simp only [putT, st, ev, gt, hp, ofV, constT, intT, List.length_map]
    refine WO_if rfl rfl rfl (fun hc => ?_) (fun hc => ?_)
    · replace H := tr hc H
      simp only [putT, st, ev, gt, hp, ofV, constT, intT, List.length_map]
      refine WO_skip rfl rfl ?_; simp only [putT, st, ev, gt, hp, ofV, constT, intT, List.length_map]
      refine WO_skip rfl rfl ?_; simp only [putT, st, ev, gt, hp, ofV, constT, intT, List.length_map]
      refine WO_skip rfl rfl ?_; simp only [putT, st, ev, gt, hp, ofV, constT, intT, List.length_map]
      refine WO_skip rfl rfl ?_; simp only [putT, st, ev, gt, hp, ofV, constT, intT, List.length_map]
      refine WO_skip rfl rfl ?_; simp only [putT, st, ev, gt, hp, ofV, constT, intT, List.length_map]
      refine WO_skip rfl rfl ?_; simp only [putT, st, ev, gt, hp, ofV, constT, intT, List.length_map]
      refine WO_op (x := .c (cB true)) rfl rfl rfl ?_; simp only [putT, st, ev, gt, hp, ofV, constT, intT, List.length_map]
      refine WO_op rfl rfl rfl ?_; simp only [putT, st, ev, gt, hp, ofV, constT, intT, List.length_map]
      refine WO_nil ?_
      refine W_ret ?_
      obtain rfl := Option.some.inj H
      exact told3 rfl
    · replace H := fl hc H
      simp only [putT, st, ev, gt, hp, ofV, constT, intT, List.length_map]
      iterate 3 (refine WO_want rfl rfl rfl ?_; simp only [putT, st, ev, gt, hp, ofV, constT, intT, List.length_map])
      refine WO_if rfl rfl rfl (fun hc => ?_) (fun hc => ?_)
      · replace H := tr hc H
        simp only [putT, st, ev, gt, hp, ofV, constT, intT, List.length_map]
        iterate 2 (refine WO_want rfl rfl rfl ?_; simp only [putT, st, ev, gt, hp, ofV, constT, intT, List.length_map])
        refine WO_want (x := .c (cB (decide (a1 ≤ 90)))) rfl rfl rfl ?_; simp only [putT, st, ev, gt, hp, ofV, constT, intT, List.length_map]
        refine WO_op (x := .c (cB (decide (a1 ≤ 90)))) rfl rfl rfl ?_; simp only [putT, st, ev, gt, hp, ofV, constT, intT, List.length_map]
        refine WO_op rfl rfl rfl ?_; simp only [putT, st, ev, gt, hp, ofV, constT, intT, List.length_map]
        refine WO_nil ?_
        refine W_ret ?_
        obtain rfl := Option.some.inj H
        exact told3 rfl
      · replace H := fl hc H
        simp only [putT, st, ev, gt, hp, ofV, constT, intT, List.length_map]
        refine WO_skip rfl rfl ?_; simp only [putT, st, ev, gt, hp, ofV, constT, intT, List.length_map]
        refine WO_skip rfl rfl ?_; simp only [putT, st, ev, gt, hp, ofV, constT, intT, List.length_map]
        refine WO_want (x := .c (cB false)) rfl rfl rfl ?_; simp only [putT, st, ev, gt, hp, ofV, constT, intT, List.length_map]
        refine WO_op (x := .c (cB false)) rfl rfl rfl ?_; simp only [putT, st, ev, gt, hp, ofV, constT, intT, List.length_map]
        refine WO_op rfl rfl rfl ?_; simp only [putT, st, ev, gt, hp, ofV, constT, intT, List.length_map]
        refine WO_nil ?_
        refine W_ret ?_
        obtain rfl := Option.some.inj H
        exact told3 rfl
  · replace H := fl hc H
    simp only [putT, st, ev, gt, hp, ofV, constT, intT, List.length_map]
    refine WO_skip rfl rfl ?_; simp only [putT, st, ev, gt, hp, ofV, constT, intT, List.length_map]
    refine WO_skip rfl rfl ?_; simp only [putT, st, ev, gt, hp, ofV, constT, intT, List.length_map]
    refine WO_op (x := .c (cB false)) rfl rfl rfl ?_; simp only [putT, st, ev, gt, hp, ofV, constT, intT, List.length_map]
    refine WO_op rfl rfl rfl ?_; simp only [putT, st, ev, gt, hp, ofV, constT, intT, List.length_map]
    iterate 3 (refine WO_want rfl rfl rfl ?_; simp only [putT, st, ev, gt, hp, ofV, constT, intT, List.length_map])
    refine WO_if rfl rfl rfl (fun hc => ?_) (fun hc => ?_)
    · replace H := tr hc H
      simp only [putT, st, ev, gt, hp, ofV, constT, intT, List.length_map]
      iterate 2 (refine WO_want rfl rfl rfl ?_; simp only [putT, st, ev, gt, hp, ofV, constT, intT, List.length_map])
      refine WO_want (x := .c (cB (decide (a1 ≤ 90)))) rfl rfl rfl ?_; simp only [putT, st, ev, gt, hp, ofV, constT, intT, List.length_map]
      refine WO_op (x := .c (cB (decide (a1 ≤ 90)))) rfl rfl rfl ?_; simp only [putT, st, ev, gt, hp, ofV, constT, intT, List.length_map]
      refine WO_op rfl rfl rfl ?_; simp only [putT, st, ev, gt, hp, ofV, constT, intT, List.length_map]
      refine WO_nil ?_
      refine W_ret ?_
      obtain rfl := Option.some.inj H
      exact told3 rfl
    · replace H := fl hc H
      simp only [putT, st, ev, gt, hp, ofV, constT, intT, List.length_map]
      refine WO_skip rfl rfl ?_; simp only [putT, st, ev, gt, hp, ofV, constT, intT, List.length_map]
      refine WO_skip rfl rfl ?_; simp only [putT, st, ev, gt, hp, ofV, constT, intT, List.length_map]
      refine WO_want (x := .c (cB false)) rfl rfl rfl ?_; simp only [putT, st, ev, gt, hp, ofV, constT, intT, List.length_map]
      refine WO_op (x := .c (cB false)) rfl rfl rfl ?_; simp only [putT, st, ev, gt, hp, ofV, constT, intT, List.length_map]
      refine WO_op rfl rfl rfl ?_; simp only [putT, st, ev, gt, hp, ofV, constT, intT, List.length_map]
      refine WO_nil ?_
      refine W_ret ?_
      obtain rfl := Option.some.inj H
      exact told3 rfl
end Go.Pu
