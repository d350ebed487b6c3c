import Derived.Test.YtgcpppnhhponmaaByAllOk0
import Derived.Test.YtgcpppnhhponmaaByAllOk1
import Derived.Test.YtgcpppnhhponmaaByAllOk2
set_option linter.unusedVariables false
set_option linter.unusedSimpArgs false
namespace Go.Pu
open Go Go.SX Go.Nt Go.Proofs
set_option maxRecDepth 20000 in
set_option maxHeartbeats 1000000 in
theorem impl_ByAll_ok {a1 : Order} {a2 : Int} {a3 : List Sample} {r : Int × Bool} (H : impl_ByAll a1 a2 a3 = some r) : R 17 [.ag [(cS a1.Name, none), (cS a1.Target, none), (cI .i64 a1.Low, none), (cI .i64 a1.High, none), (cL enc_Metric a1.Metrics, none), (cI .i64 a1.Pace.Up, none), (cI .i64 a1.Pace.Down, none), (cI .i64 a1.Pace.UpSpan, none), (cI .i64 a1.Pace.DownSpan, none), (cL enc_Note a1.Notes, none)], .c (cI .i64 a2) none, .c (cL enc_Sample a3) none] = some (.tu [.c (cI .i64 r.1) none, .c (cB r.2) none], []) := by
  unfold impl_ByAll at H
  refine Fz_walk 49 rfl rfl Try.func17 rfl (by kernel_rfl) rfl rfl rfl rfl ?_
  simp only [tellVs, tellV, tells, tell, st0, padT, SX.newRow, SX.newBox, List.length_cons, List.length_nil, Nat.reduceAdd, Nat.reduceSub, List.replicate, List.cons_append, List.nil_append, List.foldl_cons, List.foldl_nil]
  refine W_seq ?_
  refine W_region ?_
  refine WO_op (x := .bp 0 0) (σ' := ⟨[], [some [.c (cS a1.Name), .c (cS a1.Target), .c (cI .i64 a1.Low), .c (cI .i64 a1.High), .c (cL enc_Metric a1.Metrics), .c (cI .i64 a1.Pace.Up), .c (cI .i64 a1.Pace.Down), .c (cI .i64 a1.Pace.UpSpan), .c (cI .i64 a1.Pace.DownSpan), .c (cL enc_Note a1.Notes)]], []⟩) rfl rfl rfl ?_; simp only [putT, st, ev, gt, hp, ofV, constT, intT, List.length_map]
  iterate 2 (refine WO_op rfl rfl rfl ?_; simp only [putT, st, ev, gt, hp, ofV, constT, intT, List.length_map])
  refine WO_nil ?_
  refine W_seq ?_
  refine W_seq ?_
  refine W_region ?_
  refine WO_op (x := .ag [.c (cS a1.Name), .c (cS a1.Target), .c (cI .i64 a1.Low), .c (cI .i64 a1.High), .c (cL enc_Metric a1.Metrics), .c (cI .i64 a1.Pace.Up), .c (cI .i64 a1.Pace.Down), .c (cI .i64 a1.Pace.UpSpan), .c (cI .i64 a1.Pace.DownSpan), .c (cL enc_Note a1.Notes)]) rfl rfl rfl ?_; simp only [putT, st, ev, gt, hp, ofV, constT, intT, List.length_map]
  obtain ⟨x4, hx4, H⟩ := bnd H
  refine WO_op (x := .c (cB x4)) (σ' := ⟨[], [some [.c (cS a1.Name), .c (cS a1.Target), .c (cI .i64 a1.Low), .c (cI .i64 a1.High), .c (cL enc_Metric a1.Metrics), .c (cI .i64 a1.Pace.Up), .c (cI .i64 a1.Pace.Down), .c (cI .i64 a1.Pace.UpSpan), .c (cI .i64 a1.Pace.DownSpan), .c (cL enc_Note a1.Notes)]], []⟩) rfl rfl (ev_callG (al := [.ag [.c (cS a1.Name), .c (cS a1.Target), .c (cI .i64 a1.Low), .c (cI .i64 a1.High), .c (cL enc_Metric a1.Metrics), .c (cI .i64 a1.Pace.Up), .c (cI .i64 a1.Pace.Down), .c (cI .i64 a1.Pace.UpSpan), .c (cI .i64 a1.Pace.DownSpan), .c (cL enc_Note a1.Notes)]]) (ls := []) (impl_OrderOk_ok hx4) rfl rfl rfl rfl rfl (by decide) rfl rfl rfl rfl rfl rfl) ?_; simp only [putT, st, ev, gt, hp, ofV, constT, intT, List.length_map]
  iterate 2 (refine WO_op rfl rfl rfl ?_; simp only [putT, st, ev, gt, hp, ofV, constT, intT, List.length_map])
  refine WO_if rfl rfl rfl (fun hc => ?_) (fun hc => ?_)
  · replace H := tr hc H
    simp only [putT, st, ev, gt, hp, ofV, constT, intT, List.length_map]
    refine WO_skip rfl rfl ?_; simp only [putT, st, ev, gt, hp, ofV, constT, intT, List.length_map]
    refine WO_skip rfl rfl ?_; simp only [putT, st, ev, gt, hp, ofV, constT, intT, List.length_map]
    refine WO_skip rfl rfl ?_; simp only [putT, st, ev, gt, hp, ofV, constT, intT, List.length_map]
    refine WO_op (x := .c (cB true)) rfl rfl rfl ?_; simp only [putT, st, ev, gt, hp, ofV, constT, intT, List.length_map]
    refine WO_nil ?_
    refine W_cond (t := true) rfl (fun _ => ?_) (fun h => by cases h)
    refine W_seq ?_
    refine W_region ?_
    iterate 3 (refine WO_op rfl rfl rfl ?_; simp only [putT, st, ev, gt, hp, ofV, constT, intT, List.length_map])
    refine WO_nil ?_
    refine W_ret ?_
    obtain rfl := Option.some.inj H
    exact told3 rfl
  · replace H := fl hc H
    simp only [putT, st, ev, gt, hp, ofV, constT, intT, List.length_map]
    refine WO_want rfl rfl rfl ?_; simp only [putT, st, ev, gt, hp, ofV, constT, intT, List.length_map]
    obtain ⟨x5, hx5, H⟩ := bnd H
    refine WO_want (x := .c (cB x5)) (σ' := ⟨[], [some [.c (cS a1.Name), .c (cS a1.Target), .c (cI .i64 a1.Low), .c (cI .i64 a1.High), .c (cL enc_Metric a1.Metrics), .c (cI .i64 a1.Pace.Up), .c (cI .i64 a1.Pace.Down), .c (cI .i64 a1.Pace.UpSpan), .c (cI .i64 a1.Pace.DownSpan), .c (cL enc_Note a1.Notes)]], []⟩) rfl rfl (ev_callG (al := [.c (cL enc_Sample a3)]) (ls := []) (impl_SamplesOk_ok hx5) rfl rfl rfl rfl rfl (by decide) rfl rfl rfl rfl rfl rfl) ?_; simp only [putT, st, ev, gt, hp, ofV, constT, intT, List.length_map]
    refine WO_want rfl rfl rfl ?_; simp only [putT, st, ev, gt, hp, ofV, constT, intT, List.length_map]
    refine WO_op (x := .c (cB (!x5))) rfl rfl rfl ?_; simp only [putT, st, ev, gt, hp, ofV, constT, intT, List.length_map]
    refine WO_nil ?_
    refine W_cond rfl (fun hc => ?_) (fun hc => ?_)
    · replace H := tr hc H
      refine W_seq ?_
      refine W_region ?_
      iterate 3 (refine WO_op rfl rfl rfl ?_; simp only [putT, st, ev, gt, hp, ofV, constT, intT, List.length_map])
      refine WO_nil ?_
      refine W_ret ?_
      obtain rfl := Option.some.inj H
      exact told3 rfl
    · replace H := fl hc H
      refine W_skip ?_
      refine W_seq ?_
      refine W_region ?_
      iterate 2 (refine WO_op rfl rfl rfl ?_; simp only [putT, st, ev, gt, hp, ofV, constT, intT, List.length_map])
      refine WO_nil ?_
      refine W_seq ?_
      refine W_seq ?_
      refine W_region ?_
      refine WO_op (x := .bp 0 4) rfl rfl rfl ?_; simp only [putT, st, ev, gt, hp, ofV, constT, intT, List.length_map]
      refine WO_op (x := .c (cL enc_Metric a1.Metrics)) rfl rfl rfl ?_; simp only [putT, st, ev, gt, hp, ofV, constT, intT, List.length_map]
      iterate 2 (refine WO_op rfl rfl rfl ?_; simp only [putT, st, ev, gt, hp, ofV, constT, intT, List.length_map])
      refine WO_nil ?_
      refine W_block ?_
      obtain ⟨t12, ht12, H⟩ := bnd H
      refine loop_rule (ls := []) 0 (fun t12 : Int × Bool => ⟨[.no, .c (cI .i64 a2), .no, .no, .no, .no, .no, .no, .c (cI .i64 t12.1), .c (cB t12.2)], [], []⟩) (fun t => t12 = t) ⟨[.no, .c (cI .i64 a2), .c (cL enc_Sample a3), .no, .no, .no, .no, .no, .c (cI .i64 0), .c (cB false), .no, .no, .no, .no, .no, .no, .no, .no, .no, .no, .no, .no, .no, .no, .c (cL enc_Metric a1.Metrics), .c (cI .i64 (a1.Metrics.length : Int)), .c (cI .i64 0)], [], []⟩ (by repeat (first | exact mono_told | refine mono_seq ?_ | refine mono_blk ?_ | refine mono_lp ?_)) (le_intro [] [] (by decide) (by decide) rfl (by simp [leS, leT, leA, gt]) (by simp [leB, leT, leA]) (by simp [leR])) ?_ ?_
      · rintro t1 rfl
        refine W_seq ?_
        refine W_seq ?_
        refine W_region ?_
        iterate 2 (refine WO_op rfl rfl rfl ?_; simp only [putT, st, ev, gt, hp, ofV, constT, intT, List.length_map])
        refine WO_nil ?_
        refine W_cond rfl (fun hc => ?_) (fun hc => ?_)
        · replace H := tr hc H
          refine W_seq ?_
          refine W_region ?_
          iterate 3 (refine WO_op rfl rfl rfl ?_; simp only [putT, st, ev, gt, hp, ofV, constT, intT, List.length_map])
          refine WO_nil ?_
          refine W_ret ?_
          obtain rfl := Option.some.inj H
          exact told3 rfl
        · replace H := fl hc H
          refine W_skip ?_
          refine W_seq ?_
          refine W_region ?_
          iterate 3 (refine WO_op rfl rfl rfl ?_; simp only [putT, st, ev, gt, hp, ofV, constT, intT, List.length_map])
          refine WO_nil ?_
          refine W_ret ?_
          obtain rfl := Option.some.inj H
          exact told3 rfl
      · intro V1 hV1 hW1 hX1
        refine (impl_ByAll.l0.partial_correctness a1 a2 a3 (fun v6 v7 v8 s' => s' = t12 → (V1 ⟨[.no, .c (cI .i64 a2), .c (cL enc_Sample a3), .no, .no, .no, .no, .no, .c (cI .i64 v6), .c (cB v7), .no, .no, .no, .no, .no, .no, .no, .no, .no, .no, .no, .no, .no, .no, .c (cL enc_Metric a1.Metrics), .c (cI .i64 (a1.Metrics.length : Int)), .c (cI .i64 v8)], [], []⟩)) ?_ _ _ _ _ ht12 rfl)
        intro l0 IH1 v6 v7 v8 s' H1 e
        subst e
        refine hV1 _ ?_
        refine W_seq ?_
        refine W_region ?_
        refine WO_op rfl rfl rfl ?_; simp only [putT, st, ev, gt, hp, ofV, constT, intT, List.length_map]
        refine WO_nil ?_
        refine W_seq ?_
        refine W_cond rfl (fun hc => ?_) (fun hc => ?_)
        · replace H1 := tr hc H1
          refine W_skip ?_
          refine W_seq ?_
          refine W_block ?_
          refine W_seq ?_
          refine W_region ?_
          obtain ⟨x9, hx9, H1⟩ := bnd H1
          refine WO_op rfl rfl (ev_ix (en := enc_Metric) hx9 rfl rfl rfl rfl rfl rfl rfl) ?_; simp only [putT, st, ev, gt, hp, ofV, constT, intT, List.length_map]
          refine WO_op (x := .ag [.c (cS x9.Name), .c (cI .i64 x9.Kind), .c (cI .i64 x9.Goal)]) rfl rfl rfl ?_; simp only [putT, st, ev, gt, hp, ofV, constT, intT, List.length_map]
          refine WO_op (x := .bp 0 0) (σ' := ⟨[], [some [.c (cS []), .c (cI .i64 0), .c (cI .i64 0)]], []⟩) rfl rfl rfl ?_; simp only [putT, st, ev, gt, hp, ofV, constT, intT, List.length_map]
          refine WO_op (x := .no) (σ' := ⟨[], [some [.c (cS x9.Name), .c (cI .i64 x9.Kind), .c (cI .i64 x9.Goal)]], []⟩) rfl rfl rfl ?_; simp only [putT, st, ev, gt, hp, ofV, constT, intT, List.length_map]
          refine WO_nil ?_
          refine W_seq ?_
          refine W_region ?_
          refine WO_op rfl rfl rfl ?_; simp only [putT, st, ev, gt, hp, ofV, constT, intT, List.length_map]
          refine WO_op (x := .bp 0 0) rfl rfl rfl ?_; simp only [putT, st, ev, gt, hp, ofV, constT, intT, List.length_map]
          refine WO_op (x := .c (cS x9.Name)) rfl rfl rfl ?_; simp only [putT, st, ev, gt, hp, ofV, constT, intT, List.length_map]
          obtain ⟨x10, hx10, H1⟩ := bnd H1
          refine WO_op (x := .tu [.c (cI .i64 x10.1), .c (cB x10.2)]) (σ' := ⟨[], [some [.c (cS x9.Name), .c (cI .i64 x9.Kind), .c (cI .i64 x9.Goal)]], []⟩) rfl rfl (ev_callG (al := [.c (cL enc_Sample a3), .c (cS x9.Name)]) (ls := []) (impl_SampleOf_ok hx10) rfl rfl rfl rfl rfl (by decide) rfl rfl rfl rfl rfl rfl) ?_; simp only [putT, st, ev, gt, hp, ofV, constT, intT, List.length_map]
          refine WO_op rfl rfl rfl ?_; simp only [putT, st, ev, gt, hp, ofV, constT, intT, List.length_map]
          refine WO_op (x := .c (cI .i64 x10.1)) rfl rfl rfl ?_; simp only [putT, st, ev, gt, hp, ofV, constT, intT, List.length_map]
          refine WO_op (x := .c (cB x10.2)) rfl rfl rfl ?_; simp only [putT, st, ev, gt, hp, ofV, constT, intT, List.length_map]
          iterate 2 (refine WO_op rfl rfl rfl ?_; simp only [putT, st, ev, gt, hp, ofV, constT, intT, List.length_map])
          refine WO_nil ?_
          refine W_seq ?_
          refine W_region ?_
          refine WO_op rfl rfl rfl ?_; simp only [putT, st, ev, gt, hp, ofV, constT, intT, List.length_map]
          refine WO_nil ?_
          refine W_cond rfl (fun hc => ?_) (fun hc => ?_)
          · replace H1 := tr hc H1
            refine W_seq ?_
            refine W_region ?_
            refine WO_op rfl rfl rfl ?_; simp only [putT, st, ev, gt, hp, ofV, constT, intT, List.length_map]
            refine WO_op (x := .ag [.c (cS x9.Name), .c (cI .i64 x9.Kind), .c (cI .i64 x9.Goal)]) rfl rfl rfl ?_; simp only [putT, st, ev, gt, hp, ofV, constT, intT, List.length_map]
            iterate 2 (refine WO_op rfl rfl rfl ?_; simp only [putT, st, ev, gt, hp, ofV, constT, intT, List.length_map])
            obtain ⟨x11, hx11, H1⟩ := bnd H1
            refine WO_op (x := .c (cI .i64 x11)) (σ' := ⟨[], [some [.c (cS x9.Name), .c (cI .i64 x9.Kind), .c (cI .i64 x9.Goal)]], []⟩) rfl rfl (ev_callG (al := [.ag [.c (cS x9.Name), .c (cI .i64 x9.Kind), .c (cI .i64 x9.Goal)], .c (cI .i64 a2), .c (cI .i64 x10.1)]) (ls := []) (impl_ByOne_ok hx11) rfl rfl rfl rfl rfl (by decide) rfl rfl rfl rfl rfl rfl) ?_; simp only [putT, st, ev, gt, hp, ofV, constT, intT, List.length_map]
            iterate 2 (refine WO_op rfl rfl rfl ?_; simp only [putT, st, ev, gt, hp, ofV, constT, intT, List.length_map])
            refine WO_nil ?_
            refine W_region ?_
            refine WO_op rfl rfl rfl ?_; simp only [putT, st, ev, gt, hp, ofV, constT, intT, List.length_map]
            refine WO_nil ?_
            refine W_region ?_
            iterate 2 (refine WO_op rfl rfl rfl ?_; simp only [putT, st, ev, gt, hp, ofV, constT, intT, List.length_map])
            refine WO_nil ?_
            exact hW1 _ _ ((IH1 _ _ _ _ H1 rfl)) (le_intro [] [] (by decide) (by decide) rfl (by simp [leS, leT, leA, gt]) (by simp [leB, leT, leA]) (by simp [leR]))
          · replace H1 := fl hc H1
            refine W_skip ?_
            refine W_region ?_
            iterate 2 (refine WO_op rfl rfl rfl ?_; simp only [putT, st, ev, gt, hp, ofV, constT, intT, List.length_map])
            refine WO_nil ?_
            exact hW1 _ _ ((IH1 _ _ _ _ H1 rfl)) (le_intro [] [] (by decide) (by decide) rfl (by simp [leS, leT, leA, gt]) (by simp [leB, leT, leA]) (by simp [leR]))
        · replace H1 := fl hc H1
          refine W_exit ?_
          obtain rfl := Option.some.inj H1
          exact hX1 (v6, v7) _ rfl (le_intro [] [] (by decide) (by decide) rfl (by simp [leS, leT, leA, gt]) (by simp [leB, leT, leA]) (by simp [leR]))
set_option maxRecDepth 20000 in
set_option maxHeartbeats 1000000 in
theorem laws_eqMetric_ok {a1 : Metric} {a2 : Metric} {r : Bool} (H : laws_eqMetric a1 a2 = some r) : R 128 [.ag [(cS a1.Name, none), (cI .i64 a1.Kind, none), (cI .i64 a1.Goal, none)], .ag [(cS a2.Name, none), (cI .i64 a2.Kind, none), (cI .i64 a2.Goal, none)]] = some (.c (cB r) none, []) := by
  unfold laws_eqMetric at H
  refine Fz_walk 20 rfl rfl Try.func128 rfl (by kernel_rfl) rfl rfl rfl rfl ?_
  simp only [tellVs, tellV, tells, tell, st0, padT, SX.newRow, SX.newBox, List.length_cons, List.length_nil, Nat.reduceAdd, Nat.reduceSub, List.replicate, List.cons_append, List.nil_append, List.foldl_cons, List.foldl_nil]
  refine W_seq ?_
  refine W_region ?_
  refine WO_op (x := .bp 0 0) (σ' := ⟨[], [some [.c (cS a1.Name), .c (cI .i64 a1.Kind), .c (cI .i64 a1.Goal)]], []⟩) rfl rfl rfl ?_; simp only [putT, st, ev, gt, hp, ofV, constT, intT, List.length_map]
  refine WO_op (x := .bp 1 0) (σ' := ⟨[], [some [.c (cS a1.Name), .c (cI .i64 a1.Kind), .c (cI .i64 a1.Goal)], some [.c (cS a2.Name), .c (cI .i64 a2.Kind), .c (cI .i64 a2.Goal)]], []⟩) rfl rfl rfl ?_; simp only [putT, st, ev, gt, hp, ofV, constT, intT, List.length_map]
  refine WO_op rfl rfl rfl ?_; simp only [putT, st, ev, gt, hp, ofV, constT, intT, List.length_map]
  refine WO_nil ?_
  refine W_seq ?_
  refine W_seq ?_
  refine W_region ?_
  refine WO_op (x := .bp 0 0) rfl rfl rfl ?_; simp only [putT, st, ev, gt, hp, ofV, constT, intT, List.length_map]
  refine WO_op (x := .c (cS a1.Name)) rfl rfl rfl ?_; simp only [putT, st, ev, gt, hp, ofV, constT, intT, List.length_map]
  refine WO_op (x := .bp 1 0) rfl rfl rfl ?_; simp only [putT, st, ev, gt, hp, ofV, constT, intT, List.length_map]
  refine WO_op (x := .c (cS a2.Name)) rfl rfl rfl ?_; simp only [putT, st, ev, gt, hp, ofV, constT, intT, List.length_map]
  refine WO_op rfl rfl (ev_neq_s rfl rfl rfl) ?_; simp only [putT, st, ev, gt, hp, ofV, constT, intT, List.length_map]
  refine WO_nil ?_
  refine W_cond rfl (fun hc => ?_) (fun hc => ?_)
  · replace H := tr hc H
    refine W_seq ?_
    refine W_region ?_
    refine WO_op rfl rfl rfl ?_; simp only [putT, st, ev, gt, hp, ofV, constT, intT, List.length_map]
    refine WO_nil ?_
    refine W_ret ?_
    obtain rfl := Option.some.inj H
    exact told3 rfl
  · replace H := fl hc H
    refine W_skip ?_
    refine W_seq ?_
    refine W_seq ?_
    refine W_region ?_
    refine WO_op (x := .bp 0 1) rfl rfl rfl ?_; simp only [putT, st, ev, gt, hp, ofV, constT, intT, List.length_map]
    refine WO_op (x := .c (cI .i64 a1.Kind)) rfl rfl rfl ?_; simp only [putT, st, ev, gt, hp, ofV, constT, intT, List.length_map]
    refine WO_op (x := .bp 1 1) rfl rfl rfl ?_; simp only [putT, st, ev, gt, hp, ofV, constT, intT, List.length_map]
    refine WO_op (x := .c (cI .i64 a2.Kind)) rfl rfl rfl ?_; simp only [putT, st, ev, gt, hp, ofV, constT, intT, List.length_map]
    refine WO_op rfl rfl rfl ?_; simp only [putT, st, ev, gt, hp, ofV, constT, intT, List.length_map]
    refine WO_nil ?_
    refine W_cond rfl (fun hc => ?_) (fun hc => ?_)
    · replace H := tr hc H
      refine W_seq ?_
      refine W_region ?_
      refine WO_op rfl rfl rfl ?_; simp only [putT, st, ev, gt, hp, ofV, constT, intT, List.length_map]
      refine WO_nil ?_
      refine W_ret ?_
      obtain rfl := Option.some.inj H
      exact told3 rfl
    · replace H := fl hc H
      refine W_skip ?_
      refine W_seq ?_
      refine W_seq ?_
      refine W_region ?_
      refine WO_op (x := .bp 0 2) rfl rfl rfl ?_; simp only [putT, st, ev, gt, hp, ofV, constT, intT, List.length_map]
      refine WO_op (x := .c (cI .i64 a1.Goal)) rfl rfl rfl ?_; simp only [putT, st, ev, gt, hp, ofV, constT, intT, List.length_map]
      refine WO_op (x := .bp 1 2) rfl rfl rfl ?_; simp only [putT, st, ev, gt, hp, ofV, constT, intT, List.length_map]
      refine WO_op (x := .c (cI .i64 a2.Goal)) rfl rfl rfl ?_; simp only [putT, st, ev, gt, hp, ofV, constT, intT, List.length_map]
      refine WO_op rfl rfl rfl ?_; simp only [putT, st, ev, gt, hp, ofV, constT, intT, List.length_map]
      refine WO_nil ?_
      refine W_cond rfl (fun hc => ?_) (fun hc => ?_)
      · replace H := tr hc H
        refine W_seq ?_
        refine W_region ?_
        refine WO_op rfl rfl rfl ?_; simp only [putT, st, ev, gt, hp, ofV, constT, intT, List.length_map]
        refine WO_nil ?_
        refine W_ret ?_
        obtain rfl := Option.some.inj H
        exact told3 rfl
      · replace H := fl hc H
        refine W_skip ?_
        refine W_seq ?_
        refine W_region ?_
        refine WO_op rfl rfl rfl ?_; simp only [putT, st, ev, gt, hp, ofV, constT, intT, List.length_map]
        refine WO_nil ?_
        refine W_ret ?_
        obtain rfl := Option.some.inj H
        exact told3 rfl
set_option maxRecDepth 20000 in
set_option maxHeartbeats 1000000 in
theorem laws_eqMetricS_ok {a1 : List Metric} {a2 : List Metric} {r : Bool} (H : laws_eqMetricS a1 a2 = some r) : R 66 [.c (cL enc_Metric a1) none, .c (cL enc_Metric a2) none] = some (.c (cB r) none, []) := by
  unfold laws_eqMetricS at H
  refine Fz_walk 27 rfl rfl Try.func66 rfl (by kernel_rfl) rfl rfl rfl rfl ?_
  simp only [tellVs, tellV, tells, tell, st0, padT, SX.newRow, SX.newBox, List.length_cons, List.length_nil, Nat.reduceAdd, Nat.reduceSub, List.replicate, List.cons_append, List.nil_append, List.foldl_cons, List.foldl_nil]
  refine W_seq ?_
  refine W_region ?_
  refine WO_op rfl rfl rfl ?_; simp only [putT, st, ev, gt, hp, ofV, constT, intT, List.length_map]
  refine WO_nil ?_
  refine W_seq ?_
  refine W_seq ?_
  refine W_region ?_
  iterate 5 (refine WO_op rfl rfl rfl ?_; simp only [putT, st, ev, gt, hp, ofV, constT, intT, List.length_map])
  refine WO_nil ?_
  refine W_cond rfl (fun hc => ?_) (fun hc => ?_)
  · replace H := tr hc H
    refine W_seq ?_
    refine W_region ?_
    refine WO_op rfl rfl rfl ?_; simp only [putT, st, ev, gt, hp, ofV, constT, intT, List.length_map]
    refine WO_nil ?_
    refine W_ret ?_
    obtain rfl := Option.some.inj H
    exact told3 rfl
  · replace H := fl hc H
    refine W_skip ?_
    refine W_seq ?_
    refine W_seq ?_
    refine W_region ?_
    refine WO_op rfl rfl rfl ?_; simp only [putT, st, ev, gt, hp, ofV, constT, intT, List.length_map]
    refine WO_nil ?_
    refine W_block ?_
    obtain ⟨s8, hs8, H⟩ := bnd H
    refine loop_rule (ls := []) 0 (fun t7 : Unit => ⟨[], [], []⟩) (fun t => s8 = .inr t) ⟨[.c (cL enc_Metric a1), .c (cL enc_Metric a2), .no, .no, .no, .c (cI .i64 0)], [], []⟩ (by repeat (first | exact mono_told | refine mono_seq ?_ | refine mono_blk ?_ | refine mono_lp ?_)) (le_intro [] [] (by decide) (by decide) rfl (by simp [leS, leT, leA, gt]) (by simp [leB, leT, leA]) (by simp [leR])) ?_ ?_
    · rintro t7 rfl
      refine W_seq ?_
      refine W_region ?_
      refine WO_op rfl rfl rfl ?_; simp only [putT, st, ev, gt, hp, ofV, constT, intT, List.length_map]
      refine WO_nil ?_
      refine W_ret ?_
      obtain rfl := Option.some.inj H
      exact told3 rfl
    · intro V1 hV1 hW1 hX1
      refine (laws_eqMetricS.l0.partial_correctness a1 a2 (fun v3 s' => s' = s8 → (V1 ⟨[.c (cL enc_Metric a1), .c (cL enc_Metric a2), .no, .no, .no, .c (cI .i64 v3)], [], []⟩)) ?_ _ _ hs8 rfl)
      intro l0 IH1 v3 s' H1 e
      subst e
      refine hV1 _ ?_
      refine W_seq ?_
      refine W_seq ?_
      refine W_region ?_
      iterate 4 (refine WO_op rfl rfl rfl ?_; simp only [putT, st, ev, gt, hp, ofV, constT, intT, List.length_map])
      refine WO_nil ?_
      refine W_cond rfl (fun hc => ?_) (fun hc => ?_)
      · replace H1 := tr hc H1
        refine W_skip ?_
        refine W_seq ?_
        refine W_block ?_
        refine W_seq ?_
        refine W_draw (by kernel_rfl) (by kernel_rfl) ?_
        iterate 2 (refine WO_op rfl rfl rfl ?_; simp only [putT, st, ev, gt, hp, ofV, constT, intT, List.length_map])
        obtain ⟨x4, hx4, H1⟩ := bnd H1
        refine WO_op rfl rfl (ev_ix (en := enc_Metric) hx4 rfl rfl rfl rfl rfl rfl rfl) ?_; simp only [putT, st, ev, gt, hp, ofV, constT, intT, List.length_map]
        refine WO_op (x := .ag [.c (cS x4.Name), .c (cI .i64 x4.Kind), .c (cI .i64 x4.Goal)]) rfl rfl rfl ?_; simp only [putT, st, ev, gt, hp, ofV, constT, intT, List.length_map]
        iterate 2 (refine WO_op rfl rfl rfl ?_; simp only [putT, st, ev, gt, hp, ofV, constT, intT, List.length_map])
        obtain ⟨x5, hx5, H1⟩ := bnd H1
        refine WO_op rfl rfl (ev_ix (en := enc_Metric) hx5 rfl rfl rfl rfl rfl rfl rfl) ?_; simp only [putT, st, ev, gt, hp, ofV, constT, intT, List.length_map]
        refine WO_op (x := .ag [.c (cS x5.Name), .c (cI .i64 x5.Kind), .c (cI .i64 x5.Goal)]) rfl rfl rfl ?_; simp only [putT, st, ev, gt, hp, ofV, constT, intT, List.length_map]
        obtain ⟨x6, hx6, H1⟩ := bnd H1
        refine WO_op (x := .c (cB x6)) (σ' := ⟨[], [], []⟩) rfl rfl (ev_callG (al := [.ag [.c (cS x4.Name), .c (cI .i64 x4.Kind), .c (cI .i64 x4.Goal)], .ag [.c (cS x5.Name), .c (cI .i64 x5.Kind), .c (cI .i64 x5.Goal)]]) (ls := []) (laws_eqMetric_ok hx6) rfl rfl rfl rfl rfl (by decide) rfl rfl rfl rfl rfl rfl) ?_; simp only [putT, st, ev, gt, hp, ofV, constT, intT, List.length_map]
        refine WO_op rfl rfl rfl ?_; simp only [putT, st, ev, gt, hp, ofV, constT, intT, List.length_map]
        refine WO_nil ?_
        refine W_cond rfl (fun hc => ?_) (fun hc => ?_)
        · replace H1 := tr hc H1
          refine W_seq ?_
          refine W_region ?_
          refine WO_op rfl rfl rfl ?_; simp only [putT, st, ev, gt, hp, ofV, constT, intT, List.length_map]
          refine WO_nil ?_
          refine W_ret ?_
          obtain rfl := Option.some.inj H1
          obtain rfl := Option.some.inj H
          exact told3 rfl
        · replace H1 := fl hc H1
          refine W_skip ?_
          refine W_region ?_
          iterate 3 (refine WO_op rfl rfl rfl ?_; simp only [putT, st, ev, gt, hp, ofV, constT, intT, List.length_map])
          refine WO_nil ?_
          exact hW1 _ _ ((IH1 _ _ H1 rfl)) (le_intro [] [] (by decide) (by decide) rfl (by simp [leS, leT, leA, gt]) (by simp [leB, leT, leA]) (by simp [leR]))
      · replace H1 := fl hc H1
        refine W_exit ?_
        obtain rfl := Option.some.inj H1
        exact hX1 () _ rfl (le_intro [] [] (by decide) (by decide) rfl (by simp [leS, leT, leA, gt]) (by simp [leB, leT, leA]) (by simp [leR]))
set_option maxRecDepth 20000 in
set_option maxHeartbeats 1000000 in
theorem laws_eqPace_ok {a1 : Pace} {a2 : Pace} {r : Bool} (H : laws_eqPace a1 a2 = some r) : R 67 [.ag [(cI .i64 a1.Up, none), (cI .i64 a1.Down, none), (cI .i64 a1.UpSpan, none), (cI .i64 a1.DownSpan, none)], .ag [(cI .i64 a2.Up, none), (cI .i64 a2.Down, none), (cI .i64 a2.UpSpan, none), (cI .i64 a2.DownSpan, none)]] = some (.c (cB r) none, []) := by
  unfold laws_eqPace at H
  refine Fz_walk 25 rfl rfl Try.func67 rfl (by kernel_rfl) rfl rfl rfl rfl ?_
  simp only [tellVs, tellV, tells, tell, st0, padT, SX.newRow, SX.newBox, List.length_cons, List.length_nil, Nat.reduceAdd, Nat.reduceSub, List.replicate, List.cons_append, List.nil_append, List.foldl_cons, List.foldl_nil]
  refine W_seq ?_
  refine W_region ?_
  refine WO_op (x := .bp 0 0) (σ' := ⟨[], [some [.c (cI .i64 a1.Up), .c (cI .i64 a1.Down), .c (cI .i64 a1.UpSpan), .c (cI .i64 a1.DownSpan)]], []⟩) rfl rfl rfl ?_; simp only [putT, st, ev, gt, hp, ofV, constT, intT, List.length_map]
  refine WO_op (x := .bp 1 0) (σ' := ⟨[], [some [.c (cI .i64 a1.Up), .c (cI .i64 a1.Down), .c (cI .i64 a1.UpSpan), .c (cI .i64 a1.DownSpan)], some [.c (cI .i64 a2.Up), .c (cI .i64 a2.Down), .c (cI .i64 a2.UpSpan), .c (cI .i64 a2.DownSpan)]], []⟩) rfl rfl rfl ?_; simp only [putT, st, ev, gt, hp, ofV, constT, intT, List.length_map]
  refine WO_op rfl rfl rfl ?_; simp only [putT, st, ev, gt, hp, ofV, constT, intT, List.length_map]
  refine WO_nil ?_
  refine W_seq ?_
  refine W_seq ?_
  refine W_region ?_
  refine WO_op (x := .bp 0 0) rfl rfl rfl ?_; simp only [putT, st, ev, gt, hp, ofV, constT, intT, List.length_map]
  refine WO_op (x := .c (cI .i64 a1.Up)) rfl rfl rfl ?_; simp only [putT, st, ev, gt, hp, ofV, constT, intT, List.length_map]
  refine WO_op (x := .bp 1 0) rfl rfl rfl ?_; simp only [putT, st, ev, gt, hp, ofV, constT, intT, List.length_map]
  refine WO_op (x := .c (cI .i64 a2.Up)) rfl rfl rfl ?_; simp only [putT, st, ev, gt, hp, ofV, constT, intT, List.length_map]
  refine WO_op rfl rfl rfl ?_; simp only [putT, st, ev, gt, hp, ofV, constT, intT, List.length_map]
  refine WO_nil ?_
  refine W_cond rfl (fun hc => ?_) (fun hc => ?_)
  · replace H := tr hc H
    refine W_seq ?_
    refine W_region ?_
    refine WO_op rfl rfl rfl ?_; simp only [putT, st, ev, gt, hp, ofV, constT, intT, List.length_map]
    refine WO_nil ?_
    refine W_ret ?_
    obtain rfl := Option.some.inj H
    exact told3 rfl
  · replace H := fl hc H
    refine W_skip ?_
    refine W_seq ?_
    refine W_seq ?_
    refine W_region ?_
    refine WO_op (x := .bp 0 1) rfl rfl rfl ?_; simp only [putT, st, ev, gt, hp, ofV, constT, intT, List.length_map]
    refine WO_op (x := .c (cI .i64 a1.Down)) rfl rfl rfl ?_; simp only [putT, st, ev, gt, hp, ofV, constT, intT, List.length_map]
    refine WO_op (x := .bp 1 1) rfl rfl rfl ?_; simp only [putT, st, ev, gt, hp, ofV, constT, intT, List.length_map]
    refine WO_op (x := .c (cI .i64 a2.Down)) rfl rfl rfl ?_; simp only [putT, st, ev, gt, hp, ofV, constT, intT, List.length_map]
    refine WO_op rfl rfl rfl ?_; simp only [putT, st, ev, gt, hp, ofV, constT, intT, List.length_map]
    refine WO_nil ?_
    refine W_cond rfl (fun hc => ?_) (fun hc => ?_)
    · replace H := tr hc H
      refine W_seq ?_
      refine W_region ?_
      refine WO_op rfl rfl rfl ?_; simp only [putT, st, ev, gt, hp, ofV, constT, intT, List.length_map]
      refine WO_nil ?_
      refine W_ret ?_
      obtain rfl := Option.some.inj H
      exact told3 rfl
    · replace H := fl hc H
      refine W_skip ?_
      refine W_seq ?_
      refine W_seq ?_
      refine W_region ?_
      refine WO_op (x := .bp 0 2) rfl rfl rfl ?_; simp only [putT, st, ev, gt, hp, ofV, constT, intT, List.length_map]
      refine WO_op (x := .c (cI .i64 a1.UpSpan)) rfl rfl rfl ?_; simp only [putT, st, ev, gt, hp, ofV, constT, intT, List.length_map]
      refine WO_op (x := .bp 1 2) rfl rfl rfl ?_; simp only [putT, st, ev, gt, hp, ofV, constT, intT, List.length_map]
      refine WO_op (x := .c (cI .i64 a2.UpSpan)) rfl rfl rfl ?_; simp only [putT, st, ev, gt, hp, ofV, constT, intT, List.length_map]
      refine WO_op rfl rfl rfl ?_; simp only [putT, st, ev, gt, hp, ofV, constT, intT, List.length_map]
      refine WO_nil ?_
      refine W_cond rfl (fun hc => ?_) (fun hc => ?_)
      · replace H := tr hc H
        refine W_seq ?_
        refine W_region ?_
        refine WO_op rfl rfl rfl ?_; simp only [putT, st, ev, gt, hp, ofV, constT, intT, List.length_map]
        refine WO_nil ?_
        refine W_ret ?_
        obtain rfl := Option.some.inj H
        exact told3 rfl
      · replace H := fl hc H
        refine W_skip ?_
        refine W_seq ?_
        refine W_seq ?_
        refine W_region ?_
        refine WO_op (x := .bp 0 3) rfl rfl rfl ?_; simp only [putT, st, ev, gt, hp, ofV, constT, intT, List.length_map]
        refine WO_op (x := .c (cI .i64 a1.DownSpan)) rfl rfl rfl ?_; simp only [putT, st, ev, gt, hp, ofV, constT, intT, List.length_map]
        refine WO_op (x := .bp 1 3) rfl rfl rfl ?_; simp only [putT, st, ev, gt, hp, ofV, constT, intT, List.length_map]
        refine WO_op (x := .c (cI .i64 a2.DownSpan)) rfl rfl rfl ?_; simp only [putT, st, ev, gt, hp, ofV, constT, intT, List.length_map]
        refine WO_op rfl rfl rfl ?_; simp only [putT, st, ev, gt, hp, ofV, constT, intT, List.length_map]
        refine WO_nil ?_
        refine W_cond rfl (fun hc => ?_) (fun hc => ?_)
        · replace H := tr hc H
          refine W_seq ?_
          refine W_region ?_
          refine WO_op rfl rfl rfl ?_; simp only [putT, st, ev, gt, hp, ofV, constT, intT, List.length_map]
          refine WO_nil ?_
          refine W_ret ?_
          obtain rfl := Option.some.inj H
          exact told3 rfl
        · replace H := fl hc H
          refine W_skip ?_
          refine W_seq ?_
          refine W_region ?_
          refine WO_op rfl rfl rfl ?_; simp only [putT, st, ev, gt, hp, ofV, constT, intT, List.length_map]
          refine WO_nil ?_
          refine W_ret ?_
          obtain rfl := Option.some.inj H
          exact told3 rfl
set_option maxRecDepth 20000 in
set_option maxHeartbeats 1000000 in
theorem laws_eqNote_ok {a1 : Note} {a2 : Note} {r : Bool} (H : laws_eqNote a1 a2 = some r) : R 129 [.ag [(cS a1.Key, none), (cS a1.Text, none)], .ag [(cS a2.Key, none), (cS a2.Text, none)]] = some (.c (cB r) none, []) := by
  unfold laws_eqNote at H
  refine Fz_walk 15 rfl rfl Try.func129 rfl (by kernel_rfl) rfl rfl rfl rfl ?_
  simp only [tellVs, tellV, tells, tell, st0, padT, SX.newRow, SX.newBox, List.length_cons, List.length_nil, Nat.reduceAdd, Nat.reduceSub, List.replicate, List.cons_append, List.nil_append, List.foldl_cons, List.foldl_nil]
  refine W_seq ?_
  refine W_region ?_
  refine WO_op (x := .bp 0 0) (σ' := ⟨[], [some [.c (cS a1.Key), .c (cS a1.Text)]], []⟩) rfl rfl rfl ?_; simp only [putT, st, ev, gt, hp, ofV, constT, intT, List.length_map]
  refine WO_op (x := .bp 1 0) (σ' := ⟨[], [some [.c (cS a1.Key), .c (cS a1.Text)], some [.c (cS a2.Key), .c (cS a2.Text)]], []⟩) rfl rfl rfl ?_; simp only [putT, st, ev, gt, hp, ofV, constT, intT, List.length_map]
  refine WO_op rfl rfl rfl ?_; simp only [putT, st, ev, gt, hp, ofV, constT, intT, List.length_map]
  refine WO_nil ?_
  refine W_seq ?_
  refine W_seq ?_
  refine W_region ?_
  refine WO_op (x := .bp 0 0) rfl rfl rfl ?_; simp only [putT, st, ev, gt, hp, ofV, constT, intT, List.length_map]
  refine WO_op (x := .c (cS a1.Key)) rfl rfl rfl ?_; simp only [putT, st, ev, gt, hp, ofV, constT, intT, List.length_map]
  refine WO_op (x := .bp 1 0) rfl rfl rfl ?_; simp only [putT, st, ev, gt, hp, ofV, constT, intT, List.length_map]
  refine WO_op (x := .c (cS a2.Key)) rfl rfl rfl ?_; simp only [putT, st, ev, gt, hp, ofV, constT, intT, List.length_map]
  refine WO_op rfl rfl (ev_neq_s rfl rfl rfl) ?_; simp only [putT, st, ev, gt, hp, ofV, constT, intT, List.length_map]
  refine WO_nil ?_
  refine W_cond rfl (fun hc => ?_) (fun hc => ?_)
  · replace H := tr hc H
    refine W_seq ?_
    refine W_region ?_
    refine WO_op rfl rfl rfl ?_; simp only [putT, st, ev, gt, hp, ofV, constT, intT, List.length_map]
    refine WO_nil ?_
    refine W_ret ?_
    obtain rfl := Option.some.inj H
    exact told3 rfl
  · replace H := fl hc H
    refine W_skip ?_
    refine W_seq ?_
    refine W_seq ?_
    refine W_region ?_
    refine WO_op (x := .bp 0 1) rfl rfl rfl ?_; simp only [putT, st, ev, gt, hp, ofV, constT, intT, List.length_map]
    refine WO_op (x := .c (cS a1.Text)) rfl rfl rfl ?_; simp only [putT, st, ev, gt, hp, ofV, constT, intT, List.length_map]
    refine WO_op (x := .bp 1 1) rfl rfl rfl ?_; simp only [putT, st, ev, gt, hp, ofV, constT, intT, List.length_map]
    refine WO_op (x := .c (cS a2.Text)) rfl rfl rfl ?_; simp only [putT, st, ev, gt, hp, ofV, constT, intT, List.length_map]
    refine WO_op rfl rfl (ev_neq_s rfl rfl rfl) ?_; simp only [putT, st, ev, gt, hp, ofV, constT, intT, List.length_map]
    refine WO_nil ?_
    refine W_cond rfl (fun hc => ?_) (fun hc => ?_)
    · replace H := tr hc H
      refine W_seq ?_
      refine W_region ?_
      refine WO_op rfl rfl rfl ?_; simp only [putT, st, ev, gt, hp, ofV, constT, intT, List.length_map]
      refine WO_nil ?_
      refine W_ret ?_
      obtain rfl := Option.some.inj H
      exact told3 rfl
    · replace H := fl hc H
      refine W_skip ?_
      refine W_seq ?_
      refine W_region ?_
      refine WO_op rfl rfl rfl ?_; simp only [putT, st, ev, gt, hp, ofV, constT, intT, List.length_map]
      refine WO_nil ?_
      refine W_ret ?_
      obtain rfl := Option.some.inj H
      exact told3 rfl
set_option maxRecDepth 20000 in
set_option maxHeartbeats 1000000 in
theorem laws_eqNoteS_ok {a1 : List Note} {a2 : List Note} {r : Bool} (H : laws_eqNoteS a1 a2 = some r) : R 68 [.c (cL enc_Note a1) none, .c (cL enc_Note a2) none] = some (.c (cB r) none, []) := by
  unfold laws_eqNoteS at H
  refine Fz_walk 27 rfl rfl Try.func68 rfl (by kernel_rfl) rfl rfl rfl rfl ?_
  simp only [tellVs, tellV, tells, tell, st0, padT, SX.newRow, SX.newBox, List.length_cons, List.length_nil, Nat.reduceAdd, Nat.reduceSub, List.replicate, List.cons_append, List.nil_append, List.foldl_cons, List.foldl_nil]
  refine W_seq ?_
  refine W_region ?_
  refine WO_op rfl rfl rfl ?_; simp only [putT, st, ev, gt, hp, ofV, constT, intT, List.length_map]
  refine WO_nil ?_
  refine W_seq ?_
  refine W_seq ?_
  refine W_region ?_
  iterate 5 (refine WO_op rfl rfl rfl ?_; simp only [putT, st, ev, gt, hp, ofV, constT, intT, List.length_map])
  refine WO_nil ?_
  refine W_cond rfl (fun hc => ?_) (fun hc => ?_)
  · replace H := tr hc H
    refine W_seq ?_
    refine W_region ?_
    refine WO_op rfl rfl rfl ?_; simp only [putT, st, ev, gt, hp, ofV, constT, intT, List.length_map]
    refine WO_nil ?_
    refine W_ret ?_
    obtain rfl := Option.some.inj H
    exact told3 rfl
  · replace H := fl hc H
    refine W_skip ?_
    refine W_seq ?_
    refine W_seq ?_
    refine W_region ?_
    refine WO_op rfl rfl rfl ?_; simp only [putT, st, ev, gt, hp, ofV, constT, intT, List.length_map]
    refine WO_nil ?_
    refine W_block ?_
    obtain ⟨s8, hs8, H⟩ := bnd H
    refine loop_rule (ls := []) 0 (fun t7 : Unit => ⟨[], [], []⟩) (fun t => s8 = .inr t) ⟨[.c (cL enc_Note a1), .c (cL enc_Note a2), .no, .no, .no, .c (cI .i64 0)], [], []⟩ (by repeat (first | exact mono_told | refine mono_seq ?_ | refine mono_blk ?_ | refine mono_lp ?_)) (le_intro [] [] (by decide) (by decide) rfl (by simp [leS, leT, leA, gt]) (by simp [leB, leT, leA]) (by simp [leR])) ?_ ?_
    · rintro t7 rfl
      refine W_seq ?_
      refine W_region ?_
      refine WO_op rfl rfl rfl ?_; simp only [putT, st, ev, gt, hp, ofV, constT, intT, List.length_map]
      refine WO_nil ?_
      refine W_ret ?_
      obtain rfl := Option.some.inj H
      exact told3 rfl
    · intro V1 hV1 hW1 hX1
      refine (laws_eqNoteS.l0.partial_correctness a1 a2 (fun v3 s' => s' = s8 → (V1 ⟨[.c (cL enc_Note a1), .c (cL enc_Note a2), .no, .no, .no, .c (cI .i64 v3)], [], []⟩)) ?_ _ _ hs8 rfl)
      intro l0 IH1 v3 s' H1 e
      subst e
      refine hV1 _ ?_
      refine W_seq ?_
      refine W_seq ?_
      refine W_region ?_
      iterate 4 (refine WO_op rfl rfl rfl ?_; simp only [putT, st, ev, gt, hp, ofV, constT, intT, List.length_map])
      refine WO_nil ?_
      refine W_cond rfl (fun hc => ?_) (fun hc => ?_)
      · replace H1 := tr hc H1
        refine W_skip ?_
        refine W_seq ?_
        refine W_block ?_
        refine W_seq ?_
        refine W_draw (by kernel_rfl) (by kernel_rfl) ?_
        iterate 2 (refine WO_op rfl rfl rfl ?_; simp only [putT, st, ev, gt, hp, ofV, constT, intT, List.length_map])
        obtain ⟨x4, hx4, H1⟩ := bnd H1
        refine WO_op rfl rfl (ev_ix (en := enc_Note) hx4 rfl rfl rfl rfl rfl rfl rfl) ?_; simp only [putT, st, ev, gt, hp, ofV, constT, intT, List.length_map]
        refine WO_op (x := .ag [.c (cS x4.Key), .c (cS x4.Text)]) rfl rfl rfl ?_; simp only [putT, st, ev, gt, hp, ofV, constT, intT, List.length_map]
        iterate 2 (refine WO_op rfl rfl rfl ?_; simp only [putT, st, ev, gt, hp, ofV, constT, intT, List.length_map])
        obtain ⟨x5, hx5, H1⟩ := bnd H1
        refine WO_op rfl rfl (ev_ix (en := enc_Note) hx5 rfl rfl rfl rfl rfl rfl rfl) ?_; simp only [putT, st, ev, gt, hp, ofV, constT, intT, List.length_map]
        refine WO_op (x := .ag [.c (cS x5.Key), .c (cS x5.Text)]) rfl rfl rfl ?_; simp only [putT, st, ev, gt, hp, ofV, constT, intT, List.length_map]
        obtain ⟨x6, hx6, H1⟩ := bnd H1
        refine WO_op (x := .c (cB x6)) (σ' := ⟨[], [], []⟩) rfl rfl (ev_callG (al := [.ag [.c (cS x4.Key), .c (cS x4.Text)], .ag [.c (cS x5.Key), .c (cS x5.Text)]]) (ls := []) (laws_eqNote_ok hx6) rfl rfl rfl rfl rfl (by decide) rfl rfl rfl rfl rfl rfl) ?_; simp only [putT, st, ev, gt, hp, ofV, constT, intT, List.length_map]
        refine WO_op rfl rfl rfl ?_; simp only [putT, st, ev, gt, hp, ofV, constT, intT, List.length_map]
        refine WO_nil ?_
        refine W_cond rfl (fun hc => ?_) (fun hc => ?_)
        · replace H1 := tr hc H1
          refine W_seq ?_
          refine W_region ?_
          refine WO_op rfl rfl rfl ?_; simp only [putT, st, ev, gt, hp, ofV, constT, intT, List.length_map]
          refine WO_nil ?_
          refine W_ret ?_
          obtain rfl := Option.some.inj H1
          obtain rfl := Option.some.inj H
          exact told3 rfl
        · replace H1 := fl hc H1
          refine W_skip ?_
          refine W_region ?_
          iterate 3 (refine WO_op rfl rfl rfl ?_; simp only [putT, st, ev, gt, hp, ofV, constT, intT, List.length_map])
          refine WO_nil ?_
          exact hW1 _ _ ((IH1 _ _ H1 rfl)) (le_intro [] [] (by decide) (by decide) rfl (by simp [leS, leT, leA, gt]) (by simp [leB, leT, leA]) (by simp [leR]))
      · replace H1 := fl hc H1
        refine W_exit ?_
        obtain rfl := Option.some.inj H1
        exact hX1 () _ rfl (le_intro [] [] (by decide) (by decide) rfl (by simp [leS, leT, leA, gt]) (by simp [leB, leT, leA]) (by simp [leR]))
set_option maxRecDepth 20000 in
set_option maxHeartbeats 1000000 in
theorem laws_eqOrder_ok {a1 : Order} {a2 : Order} {r : Bool} (H : laws_eqOrder a1 a2 = some r) : R 18 [.ag [(cS a1.Name, none), (cS a1.Target, none), (cI .i64 a1.Low, none), (cI .i64 a1.High, none), (cL enc_Metric a1.Metrics, none), (cI .i64 a1.Pace.Up, none), (cI .i64 a1.Pace.Down, none), (cI .i64 a1.Pace.UpSpan, none), (cI .i64 a1.Pace.DownSpan, none), (cL enc_Note a1.Notes, none)], .ag [(cS a2.Name, none), (cS a2.Target, none), (cI .i64 a2.Low, none), (cI .i64 a2.High, none), (cL enc_Metric a2.Metrics, none), (cI .i64 a2.Pace.Up, none), (cI .i64 a2.Pace.Down, none), (cI .i64 a2.Pace.UpSpan, none), (cI .i64 a2.Pace.DownSpan, none), (cL enc_Note a2.Notes, none)]] = some (.c (cB r) none, []) := by
  unfold laws_eqOrder at H
  refine Fz_walk 43 rfl rfl Try.func18 rfl (by kernel_rfl) rfl rfl rfl rfl ?_
  simp only [tellVs, tellV, tells, tell, st0, padT, SX.newRow, SX.newBox, List.length_cons, List.length_nil, Nat.reduceAdd, Nat.reduceSub, List.replicate, List.cons_append, List.nil_append, List.foldl_cons, List.foldl_nil]
  refine W_seq ?_
  refine W_region ?_
  refine WO_op (x := .bp 0 0) (σ' := ⟨[], [some [.c (cS a1.Name), .c (cS a1.Target), .c (cI .i64 a1.Low), .c (cI .i64 a1.High), .c (cL enc_Metric a1.Metrics), .c (cI .i64 a1.Pace.Up), .c (cI .i64 a1.Pace.Down), .c (cI .i64 a1.Pace.UpSpan), .c (cI .i64 a1.Pace.DownSpan), .c (cL enc_Note a1.Notes)]], []⟩) rfl rfl rfl ?_; simp only [putT, st, ev, gt, hp, ofV, constT, intT, List.length_map]
  refine WO_op (x := .bp 1 0) (σ' := ⟨[], [some [.c (cS a1.Name), .c (cS a1.Target), .c (cI .i64 a1.Low), .c (cI .i64 a1.High), .c (cL enc_Metric a1.Metrics), .c (cI .i64 a1.Pace.Up), .c (cI .i64 a1.Pace.Down), .c (cI .i64 a1.Pace.UpSpan), .c (cI .i64 a1.Pace.DownSpan), .c (cL enc_Note a1.Notes)], some [.c (cS a2.Name), .c (cS a2.Target), .c (cI .i64 a2.Low), .c (cI .i64 a2.High), .c (cL enc_Metric a2.Metrics), .c (cI .i64 a2.Pace.Up), .c (cI .i64 a2.Pace.Down), .c (cI .i64 a2.Pace.UpSpan), .c (cI .i64 a2.Pace.DownSpan), .c (cL enc_Note a2.Notes)]], []⟩) rfl rfl rfl ?_; simp only [putT, st, ev, gt, hp, ofV, constT, intT, List.length_map]
  refine WO_op rfl rfl rfl ?_; simp only [putT, st, ev, gt, hp, ofV, constT, intT, List.length_map]
  refine WO_nil ?_
  refine W_seq ?_
  refine W_seq ?_
  refine W_region ?_
  refine WO_op (x := .bp 0 0) rfl rfl rfl ?_; simp only [putT, st, ev, gt, hp, ofV, constT, intT, List.length_map]
  refine WO_op (x := .c (cS a1.Name)) rfl rfl rfl ?_; simp only [putT, st, ev, gt, hp, ofV, constT, intT, List.length_map]
  refine WO_op (x := .bp 1 0) rfl rfl rfl ?_; simp only [putT, st, ev, gt, hp, ofV, constT, intT, List.length_map]
  refine WO_op (x := .c (cS a2.Name)) rfl rfl rfl ?_; simp only [putT, st, ev, gt, hp, ofV, constT, intT, List.length_map]
  refine WO_op rfl rfl (ev_neq_s rfl rfl rfl) ?_; simp only [putT, st, ev, gt, hp, ofV, constT, intT, List.length_map]
  refine WO_nil ?_
  refine W_cond rfl (fun hc => ?_) (fun hc => ?_)
  · replace H := tr hc H
    refine W_seq ?_
    refine W_region ?_
    refine WO_op rfl rfl rfl ?_; simp only [putT, st, ev, gt, hp, ofV, constT, intT, List.length_map]
    refine WO_nil ?_
    refine W_ret ?_
    obtain rfl := Option.some.inj H
    exact told3 rfl
  · replace H := fl hc H
    refine W_skip ?_
    refine W_seq ?_
    refine W_seq ?_
    refine W_region ?_
    refine WO_op (x := .bp 0 1) rfl rfl rfl ?_; simp only [putT, st, ev, gt, hp, ofV, constT, intT, List.length_map]
    refine WO_op (x := .c (cS a1.Target)) rfl rfl rfl ?_; simp only [putT, st, ev, gt, hp, ofV, constT, intT, List.length_map]
    refine WO_op (x := .bp 1 1) rfl rfl rfl ?_; simp only [putT, st, ev, gt, hp, ofV, constT, intT, List.length_map]
    refine WO_op (x := .c (cS a2.Target)) rfl rfl rfl ?_; simp only [putT, st, ev, gt, hp, ofV, constT, intT, List.length_map]
    refine WO_op rfl rfl (ev_neq_s rfl rfl rfl) ?_; simp only [putT, st, ev, gt, hp, ofV, constT, intT, List.length_map]
    refine WO_nil ?_
    refine W_cond rfl (fun hc => ?_) (fun hc => ?_)
    · replace H := tr hc H
      refine W_seq ?_
      refine W_region ?_
      refine WO_op rfl rfl rfl ?_; simp only [putT, st, ev, gt, hp, ofV, constT, intT, List.length_map]
      refine WO_nil ?_
      refine W_ret ?_
      obtain rfl := Option.some.inj H
      exact told3 rfl
    · replace H := fl hc H
      refine W_skip ?_
      refine W_seq ?_
      refine W_seq ?_
      refine W_region ?_
      refine WO_op (x := .bp 0 2) rfl rfl rfl ?_; simp only [putT, st, ev, gt, hp, ofV, constT, intT, List.length_map]
      refine WO_op (x := .c (cI .i64 a1.Low)) rfl rfl rfl ?_; simp only [putT, st, ev, gt, hp, ofV, constT, intT, List.length_map]
      refine WO_op (x := .bp 1 2) rfl rfl rfl ?_; simp only [putT, st, ev, gt, hp, ofV, constT, intT, List.length_map]
      refine WO_op (x := .c (cI .i64 a2.Low)) rfl rfl rfl ?_; simp only [putT, st, ev, gt, hp, ofV, constT, intT, List.length_map]
      refine WO_op rfl rfl rfl ?_; simp only [putT, st, ev, gt, hp, ofV, constT, intT, List.length_map]
      refine WO_nil ?_
      refine W_cond rfl (fun hc => ?_) (fun hc => ?_)
      · replace H := tr hc H
        refine W_seq ?_
        refine W_region ?_
        refine WO_op rfl rfl rfl ?_; simp only [putT, st, ev, gt, hp, ofV, constT, intT, List.length_map]
        refine WO_nil ?_
        refine W_ret ?_
        obtain rfl := Option.some.inj H
        exact told3 rfl
      · replace H := fl hc H
        refine W_skip ?_
        refine W_seq ?_
        refine W_seq ?_
        refine W_region ?_
        refine WO_op (x := .bp 0 3) rfl rfl rfl ?_; simp only [putT, st, ev, gt, hp, ofV, constT, intT, List.length_map]
        refine WO_op (x := .c (cI .i64 a1.High)) rfl rfl rfl ?_; simp only [putT, st, ev, gt, hp, ofV, constT, intT, List.length_map]
        refine WO_op (x := .bp 1 3) rfl rfl rfl ?_; simp only [putT, st, ev, gt, hp, ofV, constT, intT, List.length_map]
        refine WO_op (x := .c (cI .i64 a2.High)) rfl rfl rfl ?_; simp only [putT, st, ev, gt, hp, ofV, constT, intT, List.length_map]
        refine WO_op rfl rfl rfl ?_; simp only [putT, st, ev, gt, hp, ofV, constT, intT, List.length_map]
        refine WO_nil ?_
        refine W_cond rfl (fun hc => ?_) (fun hc => ?_)
        · replace H := tr hc H
          refine W_seq ?_
          refine W_region ?_
          refine WO_op rfl rfl rfl ?_; simp only [putT, st, ev, gt, hp, ofV, constT, intT, List.length_map]
          refine WO_nil ?_
          refine W_ret ?_
          obtain rfl := Option.some.inj H
          exact told3 rfl
        · replace H := fl hc H
          refine W_skip ?_
          refine W_seq ?_
          refine W_seq ?_
          refine W_region ?_
          refine WO_op (x := .bp 0 4) rfl rfl rfl ?_; simp only [putT, st, ev, gt, hp, ofV, constT, intT, List.length_map]
          refine WO_op (x := .c (cL enc_Metric a1.Metrics)) rfl rfl rfl ?_; simp only [putT, st, ev, gt, hp, ofV, constT, intT, List.length_map]
          refine WO_op (x := .bp 1 4) rfl rfl rfl ?_; simp only [putT, st, ev, gt, hp, ofV, constT, intT, List.length_map]
          refine WO_op (x := .c (cL enc_Metric a2.Metrics)) rfl rfl rfl ?_; simp only [putT, st, ev, gt, hp, ofV, constT, intT, List.length_map]
          obtain ⟨x3, hx3, H⟩ := bnd H
          refine WO_op (x := .c (cB x3)) (σ' := ⟨[], [some [.c (cS a1.Name), .c (cS a1.Target), .c (cI .i64 a1.Low), .c (cI .i64 a1.High), .c (cL enc_Metric a1.Metrics), .c (cI .i64 a1.Pace.Up), .c (cI .i64 a1.Pace.Down), .c (cI .i64 a1.Pace.UpSpan), .c (cI .i64 a1.Pace.DownSpan), .c (cL enc_Note a1.Notes)], some [.c (cS a2.Name), .c (cS a2.Target), .c (cI .i64 a2.Low), .c (cI .i64 a2.High), .c (cL enc_Metric a2.Metrics), .c (cI .i64 a2.Pace.Up), .c (cI .i64 a2.Pace.Down), .c (cI .i64 a2.Pace.UpSpan), .c (cI .i64 a2.Pace.DownSpan), .c (cL enc_Note a2.Notes)]], []⟩) rfl rfl (ev_callG (al := [.c (cL enc_Metric a1.Metrics), .c (cL enc_Metric a2.Metrics)]) (ls := []) (laws_eqMetricS_ok hx3) rfl rfl rfl rfl rfl (by decide) rfl rfl rfl rfl rfl rfl) ?_; simp only [putT, st, ev, gt, hp, ofV, constT, intT, List.length_map]
          refine WO_op rfl rfl rfl ?_; simp only [putT, st, ev, gt, hp, ofV, constT, intT, List.length_map]
          refine WO_nil ?_
          refine W_cond rfl (fun hc => ?_) (fun hc => ?_)
          · replace H := tr hc H
            refine W_seq ?_
            refine W_region ?_
            refine WO_op rfl rfl rfl ?_; simp only [putT, st, ev, gt, hp, ofV, constT, intT, List.length_map]
            refine WO_nil ?_
            refine W_ret ?_
            obtain rfl := Option.some.inj H
            exact told3 rfl
          · replace H := fl hc H
            refine W_skip ?_
            refine W_seq ?_
            refine W_seq ?_
            refine W_region ?_
            refine WO_op (x := .bp 0 5) rfl rfl rfl ?_; simp only [putT, st, ev, gt, hp, ofV, constT, intT, List.length_map]
            refine WO_op (x := .ag [.c (cI .i64 a1.Pace.Up), .c (cI .i64 a1.Pace.Down), .c (cI .i64 a1.Pace.UpSpan), .c (cI .i64 a1.Pace.DownSpan)]) rfl rfl rfl ?_; simp only [putT, st, ev, gt, hp, ofV, constT, intT, List.length_map]
            refine WO_op (x := .bp 1 5) rfl rfl rfl ?_; simp only [putT, st, ev, gt, hp, ofV, constT, intT, List.length_map]
            refine WO_op (x := .ag [.c (cI .i64 a2.Pace.Up), .c (cI .i64 a2.Pace.Down), .c (cI .i64 a2.Pace.UpSpan), .c (cI .i64 a2.Pace.DownSpan)]) rfl rfl rfl ?_; simp only [putT, st, ev, gt, hp, ofV, constT, intT, List.length_map]
            obtain ⟨x4, hx4, H⟩ := bnd H
            refine WO_op (x := .c (cB x4)) (σ' := ⟨[], [some [.c (cS a1.Name), .c (cS a1.Target), .c (cI .i64 a1.Low), .c (cI .i64 a1.High), .c (cL enc_Metric a1.Metrics), .c (cI .i64 a1.Pace.Up), .c (cI .i64 a1.Pace.Down), .c (cI .i64 a1.Pace.UpSpan), .c (cI .i64 a1.Pace.DownSpan), .c (cL enc_Note a1.Notes)], some [.c (cS a2.Name), .c (cS a2.Target), .c (cI .i64 a2.Low), .c (cI .i64 a2.High), .c (cL enc_Metric a2.Metrics), .c (cI .i64 a2.Pace.Up), .c (cI .i64 a2.Pace.Down), .c (cI .i64 a2.Pace.UpSpan), .c (cI .i64 a2.Pace.DownSpan), .c (cL enc_Note a2.Notes)]], []⟩) rfl rfl (ev_callG (al := [.ag [.c (cI .i64 a1.Pace.Up), .c (cI .i64 a1.Pace.Down), .c (cI .i64 a1.Pace.UpSpan), .c (cI .i64 a1.Pace.DownSpan)], .ag [.c (cI .i64 a2.Pace.Up), .c (cI .i64 a2.Pace.Down), .c (cI .i64 a2.Pace.UpSpan), .c (cI .i64 a2.Pace.DownSpan)]]) (ls := []) (laws_eqPace_ok hx4) rfl rfl rfl rfl rfl (by decide) rfl rfl rfl rfl rfl rfl) ?_; simp only [putT, st, ev, gt, hp, ofV, constT, intT, List.length_map]
            refine WO_op rfl rfl rfl ?_; simp only [putT, st, ev, gt, hp, ofV, constT, intT, List.length_map]
            refine WO_nil ?_
            refine W_cond rfl (fun hc => ?_) (fun hc => ?_)
            · replace H := tr hc H
              refine W_seq ?_
              refine W_region ?_
              refine WO_op rfl rfl rfl ?_; simp only [putT, st, ev, gt, hp, ofV, constT, intT, List.length_map]
              refine WO_nil ?_
              refine W_ret ?_
              obtain rfl := Option.some.inj H
              exact told3 rfl
            · replace H := fl hc H
              refine W_skip ?_
              refine W_seq ?_
              refine W_seq ?_
              refine W_region ?_
              refine WO_op (x := .bp 0 9) rfl rfl rfl ?_; simp only [putT, st, ev, gt, hp, ofV, constT, intT, List.length_map]
              refine WO_op (x := .c (cL enc_Note a1.Notes)) rfl rfl rfl ?_; simp only [putT, st, ev, gt, hp, ofV, constT, intT, List.length_map]
              refine WO_op (x := .bp 1 9) rfl rfl rfl ?_; simp only [putT, st, ev, gt, hp, ofV, constT, intT, List.length_map]
              refine WO_op (x := .c (cL enc_Note a2.Notes)) rfl rfl rfl ?_; simp only [putT, st, ev, gt, hp, ofV, constT, intT, List.length_map]
              obtain ⟨x5, hx5, H⟩ := bnd H
              refine WO_op (x := .c (cB x5)) (σ' := ⟨[], [some [.c (cS a1.Name), .c (cS a1.Target), .c (cI .i64 a1.Low), .c (cI .i64 a1.High), .c (cL enc_Metric a1.Metrics), .c (cI .i64 a1.Pace.Up), .c (cI .i64 a1.Pace.Down), .c (cI .i64 a1.Pace.UpSpan), .c (cI .i64 a1.Pace.DownSpan), .c (cL enc_Note a1.Notes)], some [.c (cS a2.Name), .c (cS a2.Target), .c (cI .i64 a2.Low), .c (cI .i64 a2.High), .c (cL enc_Metric a2.Metrics), .c (cI .i64 a2.Pace.Up), .c (cI .i64 a2.Pace.Down), .c (cI .i64 a2.Pace.UpSpan), .c (cI .i64 a2.Pace.DownSpan), .c (cL enc_Note a2.Notes)]], []⟩) rfl rfl (ev_callG (al := [.c (cL enc_Note a1.Notes), .c (cL enc_Note a2.Notes)]) (ls := []) (laws_eqNoteS_ok hx5) rfl rfl rfl rfl rfl (by decide) rfl rfl rfl rfl rfl rfl) ?_; simp only [putT, st, ev, gt, hp, ofV, constT, intT, List.length_map]
              refine WO_op rfl rfl rfl ?_; simp only [putT, st, ev, gt, hp, ofV, constT, intT, List.length_map]
              refine WO_nil ?_
              refine W_cond rfl (fun hc => ?_) (fun hc => ?_)
              · replace H := tr hc H
                refine W_seq ?_
                refine W_region ?_
                refine WO_op rfl rfl rfl ?_; simp only [putT, st, ev, gt, hp, ofV, constT, intT, List.length_map]
                refine WO_nil ?_
                refine W_ret ?_
                obtain rfl := Option.some.inj H
                exact told3 rfl
              · replace H := fl hc H
                refine W_skip ?_
                refine W_seq ?_
                refine W_region ?_
                refine WO_op rfl rfl rfl ?_; simp only [putT, st, ev, gt, hp, ofV, constT, intT, List.length_map]
                refine WO_nil ?_
                refine W_ret ?_
                obtain rfl := Option.some.inj H
                exact told3 rfl
set_option maxRecDepth 20000 in
set_option maxHeartbeats 1000000 in
theorem laws_eqSample_ok {a1 : Sample} {a2 : Sample} {r : Bool} (H : laws_eqSample a1 a2 = some r) : R 69 [.ag [(cS a1.Name, none), (cI .i64 a1.Value, none)], .ag [(cS a2.Name, none), (cI .i64 a2.Value, none)]] = some (.c (cB r) none, []) := by
  unfold laws_eqSample at H
  refine Fz_walk 15 rfl rfl Try.func69 rfl (by kernel_rfl) rfl rfl rfl rfl ?_
  simp only [tellVs, tellV, tells, tell, st0, padT, SX.newRow, SX.newBox, List.length_cons, List.length_nil, Nat.reduceAdd, Nat.reduceSub, List.replicate, List.cons_append, List.nil_append, List.foldl_cons, List.foldl_nil]
  refine W_seq ?_
  refine W_region ?_
  refine WO_op (x := .bp 0 0) (σ' := ⟨[], [some [.c (cS a1.Name), .c (cI .i64 a1.Value)]], []⟩) rfl rfl rfl ?_; simp only [putT, st, ev, gt, hp, ofV, constT, intT, List.length_map]
  refine WO_op (x := .bp 1 0) (σ' := ⟨[], [some [.c (cS a1.Name), .c (cI .i64 a1.Value)], some [.c (cS a2.Name), .c (cI .i64 a2.Value)]], []⟩) rfl rfl rfl ?_; simp only [putT, st, ev, gt, hp, ofV, constT, intT, List.length_map]
  refine WO_op rfl rfl rfl ?_; simp only [putT, st, ev, gt, hp, ofV, constT, intT, List.length_map]
  refine WO_nil ?_
  refine W_seq ?_
  refine W_seq ?_
  refine W_region ?_
  refine WO_op (x := .bp 0 0) rfl rfl rfl ?_; simp only [putT, st, ev, gt, hp, ofV, constT, intT, List.length_map]
  refine WO_op (x := .c (cS a1.Name)) rfl rfl rfl ?_; simp only [putT, st, ev, gt, hp, ofV, constT, intT, List.length_map]
  refine WO_op (x := .bp 1 0) rfl rfl rfl ?_; simp only [putT, st, ev, gt, hp, ofV, constT, intT, List.length_map]
  refine WO_op (x := .c (cS a2.Name)) rfl rfl rfl ?_; simp only [putT, st, ev, gt, hp, ofV, constT, intT, List.length_map]
  refine WO_op rfl rfl (ev_neq_s rfl rfl rfl) ?_; simp only [putT, st, ev, gt, hp, ofV, constT, intT, List.length_map]
  refine WO_nil ?_
  refine W_cond rfl (fun hc => ?_) (fun hc => ?_)
  · replace H := tr hc H
    refine W_seq ?_
    refine W_region ?_
    refine WO_op rfl rfl rfl ?_; simp only [putT, st, ev, gt, hp, ofV, constT, intT, List.length_map]
    refine WO_nil ?_
    refine W_ret ?_
    obtain rfl := Option.some.inj H
    exact told3 rfl
  · replace H := fl hc H
    refine W_skip ?_
    refine W_seq ?_
    refine W_seq ?_
    refine W_region ?_
    refine WO_op (x := .bp 0 1) rfl rfl rfl ?_; simp only [putT, st, ev, gt, hp, ofV, constT, intT, List.length_map]
    refine WO_op (x := .c (cI .i64 a1.Value)) rfl rfl rfl ?_; simp only [putT, st, ev, gt, hp, ofV, constT, intT, List.length_map]
    refine WO_op (x := .bp 1 1) rfl rfl rfl ?_; simp only [putT, st, ev, gt, hp, ofV, constT, intT, List.length_map]
    refine WO_op (x := .c (cI .i64 a2.Value)) rfl rfl rfl ?_; simp only [putT, st, ev, gt, hp, ofV, constT, intT, List.length_map]
    refine WO_op rfl rfl rfl ?_; simp only [putT, st, ev, gt, hp, ofV, constT, intT, List.length_map]
    refine WO_nil ?_
    refine W_cond rfl (fun hc => ?_) (fun hc => ?_)
    · replace H := tr hc H
      refine W_seq ?_
      refine W_region ?_
      refine WO_op rfl rfl rfl ?_; simp only [putT, st, ev, gt, hp, ofV, constT, intT, List.length_map]
      refine WO_nil ?_
      refine W_ret ?_
      obtain rfl := Option.some.inj H
      exact told3 rfl
    · replace H := fl hc H
      refine W_skip ?_
      refine W_seq ?_
      refine W_region ?_
      refine WO_op rfl rfl rfl ?_; simp only [putT, st, ev, gt, hp, ofV, constT, intT, List.length_map]
      refine WO_nil ?_
      refine W_ret ?_
      obtain rfl := Option.some.inj H
      exact told3 rfl
set_option maxRecDepth 20000 in
set_option maxHeartbeats 1000000 in
theorem laws_eqSampleS_ok {a1 : List Sample} {a2 : List Sample} {r : Bool} (H : laws_eqSampleS a1 a2 = some r) : R 19 [.c (cL enc_Sample a1) none, .c (cL enc_Sample a2) none] = some (.c (cB r) none, []) := by
  unfold laws_eqSampleS at H
  refine Fz_walk 27 rfl rfl Try.func19 rfl (by kernel_rfl) rfl rfl rfl rfl ?_
  simp only [tellVs, tellV, tells, tell, st0, padT, SX.newRow, SX.newBox, List.length_cons, List.length_nil, Nat.reduceAdd, Nat.reduceSub, List.replicate, List.cons_append, List.nil_append, List.foldl_cons, List.foldl_nil]
  refine W_seq ?_
  refine W_region ?_
  refine WO_op rfl rfl rfl ?_; simp only [putT, st, ev, gt, hp, ofV, constT, intT, List.length_map]
  refine WO_nil ?_
  refine W_seq ?_
  refine W_seq ?_
  refine W_region ?_
  iterate 5 (refine WO_op rfl rfl rfl ?_; simp only [putT, st, ev, gt, hp, ofV, constT, intT, List.length_map])
  refine WO_nil ?_
  refine W_cond rfl (fun hc => ?_) (fun hc => ?_)
  · replace H := tr hc H
    refine W_seq ?_
    refine W_region ?_
    refine WO_op rfl rfl rfl ?_; simp only [putT, st, ev, gt, hp, ofV, constT, intT, List.length_map]
    refine WO_nil ?_
    refine W_ret ?_
    obtain rfl := Option.some.inj H
    exact told3 rfl
  · replace H := fl hc H
    refine W_skip ?_
    refine W_seq ?_
    refine W_seq ?_
    refine W_region ?_
    refine WO_op rfl rfl rfl ?_; simp only [putT, st, ev, gt, hp, ofV, constT, intT, List.length_map]
    refine WO_nil ?_
    refine W_block ?_
    obtain ⟨s8, hs8, H⟩ := bnd H
    refine loop_rule (ls := []) 0 (fun t7 : Unit => ⟨[], [], []⟩) (fun t => s8 = .inr t) ⟨[.c (cL enc_Sample a1), .c (cL enc_Sample a2), .no, .no, .no, .c (cI .i64 0)], [], []⟩ (by repeat (first | exact mono_told | refine mono_seq ?_ | refine mono_blk ?_ | refine mono_lp ?_)) (le_intro [] [] (by decide) (by decide) rfl (by simp [leS, leT, leA, gt]) (by simp [leB, leT, leA]) (by simp [leR])) ?_ ?_
    · rintro t7 rfl
      refine W_seq ?_
      refine W_region ?_
      refine WO_op rfl rfl rfl ?_; simp only [putT, st, ev, gt, hp, ofV, constT, intT, List.length_map]
      refine WO_nil ?_
      refine W_ret ?_
      obtain rfl := Option.some.inj H
      exact told3 rfl
    · intro V1 hV1 hW1 hX1
      refine (laws_eqSampleS.l0.partial_correctness a1 a2 (fun v3 s' => s' = s8 → (V1 ⟨[.c (cL enc_Sample a1), .c (cL enc_Sample a2), .no, .no, .no, .c (cI .i64 v3)], [], []⟩)) ?_ _ _ hs8 rfl)
      intro l0 IH1 v3 s' H1 e
      subst e
      refine hV1 _ ?_
      refine W_seq ?_
      refine W_seq ?_
      refine W_region ?_
      iterate 4 (refine WO_op rfl rfl rfl ?_; simp only [putT, st, ev, gt, hp, ofV, constT, intT, List.length_map])
      refine WO_nil ?_
      refine W_cond rfl (fun hc => ?_) (fun hc => ?_)
      · replace H1 := tr hc H1
        refine W_skip ?_
        refine W_seq ?_
        refine W_block ?_
        refine W_seq ?_
        refine W_draw (by kernel_rfl) (by kernel_rfl) ?_
        iterate 2 (refine WO_op rfl rfl rfl ?_; simp only [putT, st, ev, gt, hp, ofV, constT, intT, List.length_map])
        obtain ⟨x4, hx4, H1⟩ := bnd H1
        refine WO_op rfl rfl (ev_ix (en := enc_Sample) hx4 rfl rfl rfl rfl rfl rfl rfl) ?_; simp only [putT, st, ev, gt, hp, ofV, constT, intT, List.length_map]
        refine WO_op (x := .ag [.c (cS x4.Name), .c (cI .i64 x4.Value)]) rfl rfl rfl ?_; simp only [putT, st, ev, gt, hp, ofV, constT, intT, List.length_map]
        iterate 2 (refine WO_op rfl rfl rfl ?_; simp only [putT, st, ev, gt, hp, ofV, constT, intT, List.length_map])
        obtain ⟨x5, hx5, H1⟩ := bnd H1
        refine WO_op rfl rfl (ev_ix (en := enc_Sample) hx5 rfl rfl rfl rfl rfl rfl rfl) ?_; simp only [putT, st, ev, gt, hp, ofV, constT, intT, List.length_map]
        refine WO_op (x := .ag [.c (cS x5.Name), .c (cI .i64 x5.Value)]) rfl rfl rfl ?_; simp only [putT, st, ev, gt, hp, ofV, constT, intT, List.length_map]
        obtain ⟨x6, hx6, H1⟩ := bnd H1
        refine WO_op (x := .c (cB x6)) (σ' := ⟨[], [], []⟩) rfl rfl (ev_callG (al := [.ag [.c (cS x4.Name), .c (cI .i64 x4.Value)], .ag [.c (cS x5.Name), .c (cI .i64 x5.Value)]]) (ls := []) (laws_eqSample_ok hx6) rfl rfl rfl rfl rfl (by decide) rfl rfl rfl rfl rfl rfl) ?_; simp only [putT, st, ev, gt, hp, ofV, constT, intT, List.length_map]
        refine WO_op rfl rfl rfl ?_; simp only [putT, st, ev, gt, hp, ofV, constT, intT, List.length_map]
        refine WO_nil ?_
        refine W_cond rfl (fun hc => ?_) (fun hc => ?_)
        · replace H1 := tr hc H1
          refine W_seq ?_
          refine W_region ?_
          refine WO_op rfl rfl rfl ?_; simp only [putT, st, ev, gt, hp, ofV, constT, intT, List.length_map]
          refine WO_nil ?_
          refine W_ret ?_
          obtain rfl := Option.some.inj H1
          obtain rfl := Option.some.inj H
          exact told3 rfl
        · replace H1 := fl hc H1
          refine W_skip ?_
          refine W_region ?_
          iterate 3 (refine WO_op rfl rfl rfl ?_; simp only [putT, st, ev, gt, hp, ofV, constT, intT, List.length_map])
          refine WO_nil ?_
          exact hW1 _ _ ((IH1 _ _ H1 rfl)) (le_intro [] [] (by decide) (by decide) rfl (by simp [leS, leT, leA, gt]) (by simp [leB, leT, leA]) (by simp [leR]))
      · replace H1 := fl hc H1
        refine W_exit ?_
        obtain rfl := Option.some.inj H1
        exact hX1 () _ rfl (le_intro [] [] (by decide) (by decide) rfl (by simp [leS, leT, leA, gt]) (by simp [leB, leT, leA]) (by simp [leR]))
set_option maxRecDepth 20000 in
set_option maxHeartbeats 1000000 in
theorem laws_FnExactByAll_ok {a1 : Order} {a2 : Int} {a3 : List Sample} {r : Bool} (H : laws_FnExactByAll a1 a2 a3 = some r) : R 3 [.ag [(cS a1.Name, none), (cS a1.Target, none), (cI .i64 a1.Low, none), (cI .i64 a1.High, none), (cL enc_Metric a1.Metrics, none), (cI .i64 a1.Pace.Up, none), (cI .i64 a1.Pace.Down, none), (cI .i64 a1.Pace.UpSpan, none), (cI .i64 a1.Pace.DownSpan, none), (cL enc_Note a1.Notes, none)], .c (cI .i64 a2) none, .c (cL enc_Sample a3) none] = some (.c (cB r) none, []) := by
  unfold laws_FnExactByAll at H
  refine Fz_walk 62 rfl rfl Try.func3 rfl (by kernel_rfl) rfl rfl rfl rfl ?_
  simp only [tellVs, tellV, tells, tell, st0, padT, SX.newRow, SX.newBox, List.length_cons, List.length_nil, Nat.reduceAdd, Nat.reduceSub, List.replicate, List.cons_append, List.nil_append, List.foldl_cons, List.foldl_nil]
  refine W_seq ?_
  refine W_region ?_
  refine WO_op (x := .bp 0 0) (σ' := ⟨[], [some [.c (cS a1.Name), .c (cS a1.Target), .c (cI .i64 a1.Low), .c (cI .i64 a1.High), .c (cL enc_Metric a1.Metrics), .c (cI .i64 a1.Pace.Up), .c (cI .i64 a1.Pace.Down), .c (cI .i64 a1.Pace.UpSpan), .c (cI .i64 a1.Pace.DownSpan), .c (cL enc_Note a1.Notes)]], []⟩) rfl rfl rfl ?_; simp only [putT, st, ev, gt, hp, ofV, constT, intT, List.length_map]
  refine WO_op rfl rfl rfl ?_; simp only [putT, st, ev, gt, hp, ofV, constT, intT, List.length_map]
  refine WO_nil ?_
  refine W_seq ?_
  refine W_region ?_
  refine WO_op rfl rfl rfl ?_; simp only [putT, st, ev, gt, hp, ofV, constT, intT, List.length_map]
  refine WO_nil ?_
  refine W_seq ?_
  refine W_region ?_
  refine WO_op (x := .ag [.c (cS a1.Name), .c (cS a1.Target), .c (cI .i64 a1.Low), .c (cI .i64 a1.High), .c (cL enc_Metric a1.Metrics), .c (cI .i64 a1.Pace.Up), .c (cI .i64 a1.Pace.Down), .c (cI .i64 a1.Pace.UpSpan), .c (cI .i64 a1.Pace.DownSpan), .c (cL enc_Note a1.Notes)]) rfl rfl rfl ?_; simp only [putT, st, ev, gt, hp, ofV, constT, intT, List.length_map]
  refine WO_op rfl rfl rfl ?_; simp only [putT, st, ev, gt, hp, ofV, constT, intT, List.length_map]
  obtain ⟨x4, hx4, H⟩ := bnd H
  refine WO_op (x := .c (cI .i64 x4)) (σ' := ⟨[], [some [.c (cS a1.Name), .c (cS a1.Target), .c (cI .i64 a1.Low), .c (cI .i64 a1.High), .c (cL enc_Metric a1.Metrics), .c (cI .i64 a1.Pace.Up), .c (cI .i64 a1.Pace.Down), .c (cI .i64 a1.Pace.UpSpan), .c (cI .i64 a1.Pace.DownSpan), .c (cL enc_Note a1.Notes)]], []⟩) rfl rfl (ev_callG (al := [.ag [.c (cS a1.Name), .c (cS a1.Target), .c (cI .i64 a1.Low), .c (cI .i64 a1.High), .c (cL enc_Metric a1.Metrics), .c (cI .i64 a1.Pace.Up), .c (cI .i64 a1.Pace.Down), .c (cI .i64 a1.Pace.UpSpan), .c (cI .i64 a1.Pace.DownSpan), .c (cL enc_Note a1.Notes)], .c (cI .i64 1048576)]) (ls := []) (laws_szOrder_ok hx4) rfl rfl rfl rfl rfl (by decide) rfl rfl rfl rfl rfl rfl) ?_; simp only [putT, st, ev, gt, hp, ofV, constT, intT, List.length_map]
  refine WO_op rfl rfl rfl ?_; simp only [putT, st, ev, gt, hp, ofV, constT, intT, List.length_map]
  refine WO_nil ?_
  refine W_seq ?_
  refine W_seq ?_
  refine W_region ?_
  iterate 2 (refine WO_op rfl rfl rfl ?_; simp only [putT, st, ev, gt, hp, ofV, constT, intT, List.length_map])
  refine WO_nil ?_
  refine W_cond rfl (fun hc => ?_) (fun hc => ?_)
  · replace H := tr hc H
    refine W_seq ?_
    refine W_region ?_
    refine WO_op rfl rfl rfl ?_; simp only [putT, st, ev, gt, hp, ofV, constT, intT, List.length_map]
    refine WO_nil ?_
    refine W_ret ?_
    obtain rfl := Option.some.inj H
    exact told3 rfl
  · replace H := fl hc H
    refine W_skip ?_
    refine W_seq ?_
    refine W_region ?_
    iterate 2 (refine WO_op rfl rfl rfl ?_; simp only [putT, st, ev, gt, hp, ofV, constT, intT, List.length_map])
    obtain ⟨x5, hx5, H⟩ := bnd H
    refine WO_op (x := .c (cI .i64 x5)) (σ' := ⟨[], [some [.c (cS a1.Name), .c (cS a1.Target), .c (cI .i64 a1.Low), .c (cI .i64 a1.High), .c (cL enc_Metric a1.Metrics), .c (cI .i64 a1.Pace.Up), .c (cI .i64 a1.Pace.Down), .c (cI .i64 a1.Pace.UpSpan), .c (cI .i64 a1.Pace.DownSpan), .c (cL enc_Note a1.Notes)]], []⟩) rfl rfl (ev_callG (al := [.c (cL enc_Sample a3), .c (cI .i64 x4)]) (ls := []) (laws_szSampleS_ok hx5) rfl rfl rfl rfl rfl (by decide) rfl rfl rfl rfl rfl rfl) ?_; simp only [putT, st, ev, gt, hp, ofV, constT, intT, List.length_map]
    refine WO_op rfl rfl rfl ?_; simp only [putT, st, ev, gt, hp, ofV, constT, intT, List.length_map]
    refine WO_nil ?_
    refine W_seq ?_
    refine W_seq ?_
    refine W_region ?_
    iterate 2 (refine WO_op rfl rfl rfl ?_; simp only [putT, st, ev, gt, hp, ofV, constT, intT, List.length_map])
    refine WO_nil ?_
    refine W_cond rfl (fun hc => ?_) (fun hc => ?_)
    · replace H := tr hc H
      refine W_seq ?_
      refine W_region ?_
      refine WO_op rfl rfl rfl ?_; simp only [putT, st, ev, gt, hp, ofV, constT, intT, List.length_map]
      refine WO_nil ?_
      refine W_ret ?_
      obtain rfl := Option.some.inj H
      exact told3 rfl
    · replace H := fl hc H
      refine W_skip ?_
      refine W_seq ?_
      refine W_region ?_
      refine WO_op (x := .ag [.c (cS a1.Name), .c (cS a1.Target), .c (cI .i64 a1.Low), .c (cI .i64 a1.High), .c (cL enc_Metric a1.Metrics), .c (cI .i64 a1.Pace.Up), .c (cI .i64 a1.Pace.Down), .c (cI .i64 a1.Pace.UpSpan), .c (cI .i64 a1.Pace.DownSpan), .c (cL enc_Note a1.Notes)]) rfl rfl rfl ?_; simp only [putT, st, ev, gt, hp, ofV, constT, intT, List.length_map]
      obtain ⟨x6, hx6, H⟩ := bnd H
      refine WO_op (x := .ag [.c (cS x6.Name), .c (cS x6.Target), .c (cI .i64 x6.Low), .c (cI .i64 x6.High), .row 0, .c (cI .i64 x6.Pace.Up), .c (cI .i64 x6.Pace.Down), .c (cI .i64 x6.Pace.UpSpan), .c (cI .i64 x6.Pace.DownSpan), .row 1]) (σ' := ⟨[], [some [.c (cS a1.Name), .c (cS a1.Target), .c (cI .i64 a1.Low), .c (cI .i64 a1.High), .c (cL enc_Metric a1.Metrics), .c (cI .i64 a1.Pace.Up), .c (cI .i64 a1.Pace.Down), .c (cI .i64 a1.Pace.UpSpan), .c (cI .i64 a1.Pace.DownSpan), .c (cL enc_Note a1.Notes)]], [rr 3 enc_Metric x6.Metrics true, rr 2 enc_Note x6.Notes true]⟩) rfl rfl (ev_callG (al := [.ag [.c (cS a1.Name), .c (cS a1.Target), .c (cI .i64 a1.Low), .c (cI .i64 a1.High), .c (cL enc_Metric a1.Metrics), .c (cI .i64 a1.Pace.Up), .c (cI .i64 a1.Pace.Down), .c (cI .i64 a1.Pace.UpSpan), .c (cI .i64 a1.Pace.DownSpan), .c (cL enc_Note a1.Notes)]]) (ls := []) (laws_toOrder_ok hx6) rfl rfl rfl rfl rfl (by decide) rfl rfl (by simp only [flatA, flatV, flatC, List.all_cons, List.all_nil, Option.all_some, Bool.and_self, Bool.or_true, fl_Metric, fl_Note]) rfl rfl rfl) ?_; simp only [putT, st, ev, gt, hp, ofV, constT, intT, List.length_map]
      iterate 2 (refine WO_op rfl rfl rfl ?_; simp only [putT, st, ev, gt, hp, ofV, constT, intT, List.length_map])
      obtain ⟨x7, hx7, H⟩ := bnd H
      refine WO_op (x := .row 2) (σ' := ⟨[], [some [.c (cS a1.Name), .c (cS a1.Target), .c (cI .i64 a1.Low), .c (cI .i64 a1.High), .c (cL enc_Metric a1.Metrics), .c (cI .i64 a1.Pace.Up), .c (cI .i64 a1.Pace.Down), .c (cI .i64 a1.Pace.UpSpan), .c (cI .i64 a1.Pace.DownSpan), .c (cL enc_Note a1.Notes)]], [rr 3 enc_Metric x6.Metrics true, rr 2 enc_Note x6.Notes true, rr 2 enc_Sample x7 true]⟩) rfl rfl (ev_callG (al := [.c (cL enc_Sample a3)]) (ls := []) (laws_toSampleS_ok hx7) rfl rfl rfl rfl rfl (by decide) rfl rfl (by simp only [flatA, flatV, flatC, List.all_cons, List.all_nil, Option.all_some, Bool.and_self, Bool.or_true, fl_Sample]) rfl rfl rfl) ?_; simp only [putT, st, ev, gt, hp, ofV, constT, intT, List.length_map]
      obtain ⟨x8, hx8, H⟩ := bnd H
      refine WO_op (x := .tu [.c (cI .i64 x8.1), .c (cB x8.2)]) (σ' := ⟨[], [some [.c (cS a1.Name), .c (cS a1.Target), .c (cI .i64 a1.Low), .c (cI .i64 a1.High), .c (cL enc_Metric a1.Metrics), .c (cI .i64 a1.Pace.Up), .c (cI .i64 a1.Pace.Down), .c (cI .i64 a1.Pace.UpSpan), .c (cI .i64 a1.Pace.DownSpan), .c (cL enc_Note a1.Notes)]], [rr 3 enc_Metric x6.Metrics true, rr 2 enc_Note x6.Notes true, rr 2 enc_Sample x7 true]⟩) rfl rfl (ev_callG (al := [.ag [.c (cS x6.Name), .c (cS x6.Target), .c (cI .i64 x6.Low), .c (cI .i64 x6.High), .row 0, .c (cI .i64 x6.Pace.Up), .c (cI .i64 x6.Pace.Down), .c (cI .i64 x6.Pace.UpSpan), .c (cI .i64 x6.Pace.DownSpan), .row 1], .c (cI .i64 a2), .row 2]) (ls := []) (spec_ByAll_ok hx8) rfl rfl rfl rfl rfl (by decide) rfl rfl rfl rfl rfl rfl) ?_; simp only [putT, st, ev, gt, hp, ofV, constT, intT, List.length_map]
      refine WO_op rfl rfl rfl ?_; simp only [putT, st, ev, gt, hp, ofV, constT, intT, List.length_map]
      refine WO_op (x := .c (cI .i64 x8.1)) rfl rfl rfl ?_; simp only [putT, st, ev, gt, hp, ofV, constT, intT, List.length_map]
      refine WO_op (x := .c (cB x8.2)) rfl rfl rfl ?_; simp only [putT, st, ev, gt, hp, ofV, constT, intT, List.length_map]
      iterate 2 (refine WO_op rfl rfl rfl ?_; simp only [putT, st, ev, gt, hp, ofV, constT, intT, List.length_map])
      refine WO_nil ?_
      refine W_seq ?_
      refine W_region ?_
      refine WO_op (x := .ag [.c (cS a1.Name), .c (cS a1.Target), .c (cI .i64 a1.Low), .c (cI .i64 a1.High), .c (cL enc_Metric a1.Metrics), .c (cI .i64 a1.Pace.Up), .c (cI .i64 a1.Pace.Down), .c (cI .i64 a1.Pace.UpSpan), .c (cI .i64 a1.Pace.DownSpan), .c (cL enc_Note a1.Notes)]) rfl rfl rfl ?_; simp only [putT, st, ev, gt, hp, ofV, constT, intT, List.length_map]
      obtain ⟨x9, hx9, H⟩ := bnd H
      refine WO_op (x := .ag [.c (cS x9.Name), .c (cS x9.Target), .c (cI .i64 x9.Low), .c (cI .i64 x9.High), .row 3, .c (cI .i64 x9.Pace.Up), .c (cI .i64 x9.Pace.Down), .c (cI .i64 x9.Pace.UpSpan), .c (cI .i64 x9.Pace.DownSpan), .row 4]) (σ' := ⟨[], [some [.c (cS a1.Name), .c (cS a1.Target), .c (cI .i64 a1.Low), .c (cI .i64 a1.High), .c (cL enc_Metric a1.Metrics), .c (cI .i64 a1.Pace.Up), .c (cI .i64 a1.Pace.Down), .c (cI .i64 a1.Pace.UpSpan), .c (cI .i64 a1.Pace.DownSpan), .c (cL enc_Note a1.Notes)]], [rr 3 enc_Metric x6.Metrics true, rr 2 enc_Note x6.Notes true, rr 2 enc_Sample x7 true, rr 3 enc_Metric x9.Metrics true, rr 2 enc_Note x9.Notes true]⟩) rfl rfl (ev_callG (al := [.ag [.c (cS a1.Name), .c (cS a1.Target), .c (cI .i64 a1.Low), .c (cI .i64 a1.High), .c (cL enc_Metric a1.Metrics), .c (cI .i64 a1.Pace.Up), .c (cI .i64 a1.Pace.Down), .c (cI .i64 a1.Pace.UpSpan), .c (cI .i64 a1.Pace.DownSpan), .c (cL enc_Note a1.Notes)]]) (ls := []) (laws_toOrder_ok hx9) rfl rfl rfl rfl rfl (by decide) rfl rfl (by simp only [flatA, flatV, flatC, List.all_cons, List.all_nil, Option.all_some, Bool.and_self, Bool.or_true, fl_Metric, fl_Note]) rfl rfl rfl) ?_; simp only [putT, st, ev, gt, hp, ofV, constT, intT, List.length_map]
      refine WO_op (x := .bp 1 0) (σ' := ⟨[], [some [.c (cS a1.Name), .c (cS a1.Target), .c (cI .i64 a1.Low), .c (cI .i64 a1.High), .c (cL enc_Metric a1.Metrics), .c (cI .i64 a1.Pace.Up), .c (cI .i64 a1.Pace.Down), .c (cI .i64 a1.Pace.UpSpan), .c (cI .i64 a1.Pace.DownSpan), .c (cL enc_Note a1.Notes)], some [.c (cS []), .c (cS []), .c (cI .i64 0), .c (cI .i64 0), .nil, .c (cI .i64 0), .c (cI .i64 0), .c (cI .i64 0), .c (cI .i64 0), .nil]], [rr 3 enc_Metric x6.Metrics true, rr 2 enc_Note x6.Notes true, rr 2 enc_Sample x7 true, rr 3 enc_Metric x9.Metrics true, rr 2 enc_Note x9.Notes true]⟩) rfl rfl rfl ?_; simp only [putT, st, ev, gt, hp, ofV, constT, intT, List.length_map]
      refine WO_op (x := .no) (σ' := ⟨[], [some [.c (cS a1.Name), .c (cS a1.Target), .c (cI .i64 a1.Low), .c (cI .i64 a1.High), .c (cL enc_Metric a1.Metrics), .c (cI .i64 a1.Pace.Up), .c (cI .i64 a1.Pace.Down), .c (cI .i64 a1.Pace.UpSpan), .c (cI .i64 a1.Pace.DownSpan), .c (cL enc_Note a1.Notes)], some [.c (cS x9.Name), .c (cS x9.Target), .c (cI .i64 x9.Low), .c (cI .i64 x9.High), .row 3, .c (cI .i64 x9.Pace.Up), .c (cI .i64 x9.Pace.Down), .c (cI .i64 x9.Pace.UpSpan), .c (cI .i64 x9.Pace.DownSpan), .row 4]], [rr 3 enc_Metric x6.Metrics true, rr 2 enc_Note x6.Notes true, rr 2 enc_Sample x7 true, rr 3 enc_Metric x9.Metrics true, rr 2 enc_Note x9.Notes true]⟩) rfl rfl rfl ?_; simp only [putT, st, ev, gt, hp, ofV, constT, intT, List.length_map]
      refine WO_nil ?_
      refine W_seq ?_
      refine W_region ?_
      refine WO_op rfl rfl rfl ?_; simp only [putT, st, ev, gt, hp, ofV, constT, intT, List.length_map]
      obtain ⟨x10, hx10, H⟩ := bnd H
      refine WO_op (x := .row 5) (σ' := ⟨[], [some [.c (cS a1.Name), .c (cS a1.Target), .c (cI .i64 a1.Low), .c (cI .i64 a1.High), .c (cL enc_Metric a1.Metrics), .c (cI .i64 a1.Pace.Up), .c (cI .i64 a1.Pace.Down), .c (cI .i64 a1.Pace.UpSpan), .c (cI .i64 a1.Pace.DownSpan), .c (cL enc_Note a1.Notes)], some [.c (cS x9.Name), .c (cS x9.Target), .c (cI .i64 x9.Low), .c (cI .i64 x9.High), .row 3, .c (cI .i64 x9.Pace.Up), .c (cI .i64 x9.Pace.Down), .c (cI .i64 x9.Pace.UpSpan), .c (cI .i64 x9.Pace.DownSpan), .row 4]], [rr 3 enc_Metric x6.Metrics true, rr 2 enc_Note x6.Notes true, rr 2 enc_Sample x7 true, rr 3 enc_Metric x9.Metrics true, rr 2 enc_Note x9.Notes true, rr 2 enc_Sample x10 true]⟩) rfl rfl (ev_callG (al := [.c (cL enc_Sample a3)]) (ls := []) (laws_toSampleS_ok hx10) rfl rfl rfl rfl rfl (by decide) rfl rfl (by simp only [flatA, flatV, flatC, List.all_cons, List.all_nil, Option.all_some, Bool.and_self, Bool.or_true, fl_Sample]) rfl rfl rfl) ?_; simp only [putT, st, ev, gt, hp, ofV, constT, intT, List.length_map]
      refine WO_op rfl rfl rfl ?_; simp only [putT, st, ev, gt, hp, ofV, constT, intT, List.length_map]
      refine WO_nil ?_
      refine W_seq ?_
      refine W_region ?_
      refine WO_op (x := .ag [.c (cS x9.Name), .c (cS x9.Target), .c (cI .i64 x9.Low), .c (cI .i64 x9.High), .row 3, .c (cI .i64 x9.Pace.Up), .c (cI .i64 x9.Pace.Down), .c (cI .i64 x9.Pace.UpSpan), .c (cI .i64 x9.Pace.DownSpan), .row 4]) rfl rfl rfl ?_; simp only [putT, st, ev, gt, hp, ofV, constT, intT, List.length_map]
      iterate 2 (refine WO_op rfl rfl rfl ?_; simp only [putT, st, ev, gt, hp, ofV, constT, intT, List.length_map])
      obtain ⟨x11, hx11, H⟩ := bnd H
      refine WO_op (x := .tu [.c (cI .i64 x11.1), .c (cB x11.2)]) (σ' := ⟨[], [some [.c (cS a1.Name), .c (cS a1.Target), .c (cI .i64 a1.Low), .c (cI .i64 a1.High), .c (cL enc_Metric a1.Metrics), .c (cI .i64 a1.Pace.Up), .c (cI .i64 a1.Pace.Down), .c (cI .i64 a1.Pace.UpSpan), .c (cI .i64 a1.Pace.DownSpan), .c (cL enc_Note a1.Notes)], some [.c (cS x9.Name), .c (cS x9.Target), .c (cI .i64 x9.Low), .c (cI .i64 x9.High), .row 3, .c (cI .i64 x9.Pace.Up), .c (cI .i64 x9.Pace.Down), .c (cI .i64 x9.Pace.UpSpan), .c (cI .i64 x9.Pace.DownSpan), .row 4]], [rr 3 enc_Metric x6.Metrics true, rr 2 enc_Note x6.Notes true, rr 2 enc_Sample x7 true, rr 3 enc_Metric x9.Metrics true, rr 2 enc_Note x9.Notes true, rr 2 enc_Sample x10 true]⟩) rfl rfl (ev_callG (al := [.ag [.c (cS x9.Name), .c (cS x9.Target), .c (cI .i64 x9.Low), .c (cI .i64 x9.High), .row 3, .c (cI .i64 x9.Pace.Up), .c (cI .i64 x9.Pace.Down), .c (cI .i64 x9.Pace.UpSpan), .c (cI .i64 x9.Pace.DownSpan), .row 4], .c (cI .i64 a2), .row 5]) (ls := []) (impl_ByAll_ok hx11) rfl rfl rfl rfl rfl (by decide) rfl rfl rfl rfl rfl rfl) ?_; simp only [putT, st, ev, gt, hp, ofV, constT, intT, List.length_map]
      refine WO_op rfl rfl rfl ?_; simp only [putT, st, ev, gt, hp, ofV, constT, intT, List.length_map]
      refine WO_op (x := .c (cI .i64 x11.1)) rfl rfl rfl ?_; simp only [putT, st, ev, gt, hp, ofV, constT, intT, List.length_map]
      refine WO_op (x := .c (cB x11.2)) rfl rfl rfl ?_; simp only [putT, st, ev, gt, hp, ofV, constT, intT, List.length_map]
      iterate 2 (refine WO_op rfl rfl rfl ?_; simp only [putT, st, ev, gt, hp, ofV, constT, intT, List.length_map])
      refine WO_nil ?_
      refine W_seq ?_
      refine W_seq ?_
      refine W_region ?_
      iterate 4 (refine WO_op rfl rfl rfl ?_; simp only [putT, st, ev, gt, hp, ofV, constT, intT, List.length_map])
      refine WO_if rfl rfl rfl (fun hc => ?_) (fun hc => ?_)
      · replace H := tr hc H
        simp only [putT, st, ev, gt, hp, ofV, constT, intT, List.length_map]
        refine WO_skip rfl rfl ?_; simp only [putT, st, ev, gt, hp, ofV, constT, intT, List.length_map]
        refine WO_skip rfl rfl ?_; simp only [putT, st, ev, gt, hp, ofV, constT, intT, List.length_map]
        refine WO_skip rfl rfl ?_; simp only [putT, st, ev, gt, hp, ofV, constT, intT, List.length_map]
        refine WO_op (x := .c (cB true)) rfl rfl rfl ?_; simp only [putT, st, ev, gt, hp, ofV, constT, intT, List.length_map]
        refine WO_nil ?_
        refine W_cond (t := true) rfl (fun _ => ?_) (fun h => by cases h)
        refine W_seq ?_
        refine W_region ?_
        refine WO_op rfl rfl rfl ?_; simp only [putT, st, ev, gt, hp, ofV, constT, intT, List.length_map]
        refine WO_nil ?_
        refine W_ret ?_
        obtain rfl := Option.some.inj H
        exact told3 rfl
      · replace H := fl hc H
        simp only [putT, st, ev, gt, hp, ofV, constT, intT, List.length_map]
        iterate 3 (refine WO_want rfl rfl rfl ?_; simp only [putT, st, ev, gt, hp, ofV, constT, intT, List.length_map])
        refine WO_op (x := .c (cB (x11.2 != x8.2))) rfl rfl rfl ?_; simp only [putT, st, ev, gt, hp, ofV, constT, intT, List.length_map]
        refine WO_nil ?_
        refine W_cond rfl (fun hc => ?_) (fun hc => ?_)
        · replace H := tr hc H
          refine W_seq ?_
          refine W_region ?_
          refine WO_op rfl rfl rfl ?_; simp only [putT, st, ev, gt, hp, ofV, constT, intT, List.length_map]
          refine WO_nil ?_
          refine W_ret ?_
          obtain rfl := Option.some.inj H
          exact told3 rfl
        · replace H := fl hc H
          refine W_skip ?_
          refine W_seq ?_
          refine W_seq ?_
          refine W_drawL (by kernel_rfl) (by decide +kernel) ?_
          refine WL_op (x := .ag [.c (cS x9.Name), .c (cS x9.Target), .c (cI .i64 x9.Low), .c (cI .i64 x9.High), .row 3, .c (cI .i64 x9.Pace.Up), .c (cI .i64 x9.Pace.Down), .c (cI .i64 x9.Pace.UpSpan), .c (cI .i64 x9.Pace.DownSpan), .row 4]) rfl rfl rfl rfl ?_; simp only [putT, st, ev, gt, hp, ofV, constT, intT, List.length_map]
          refine WL_op (x := .ag [.c (cS a1.Name), .c (cS a1.Target), .c (cI .i64 a1.Low), .c (cI .i64 a1.High), .c (cL enc_Metric a1.Metrics), .c (cI .i64 a1.Pace.Up), .c (cI .i64 a1.Pace.Down), .c (cI .i64 a1.Pace.UpSpan), .c (cI .i64 a1.Pace.DownSpan), .c (cL enc_Note a1.Notes)]) rfl rfl rfl rfl ?_; simp only [putT, st, ev, gt, hp, ofV, constT, intT, List.length_map]
          obtain ⟨x12, hx12, H⟩ := bnd H
          refine WL_op (x := .ag [.c (cS x12.Name), .c (cS x12.Target), .c (cI .i64 x12.Low), .c (cI .i64 x12.High), .row 6, .c (cI .i64 x12.Pace.Up), .c (cI .i64 x12.Pace.Down), .c (cI .i64 x12.Pace.UpSpan), .c (cI .i64 x12.Pace.DownSpan), .row 7]) (σ' := ⟨[], [some [.c (cS a1.Name), .c (cS a1.Target), .c (cI .i64 a1.Low), .c (cI .i64 a1.High), .c (cL enc_Metric a1.Metrics), .c (cI .i64 a1.Pace.Up), .c (cI .i64 a1.Pace.Down), .c (cI .i64 a1.Pace.UpSpan), .c (cI .i64 a1.Pace.DownSpan), .c (cL enc_Note a1.Notes)], some [.c (cS x9.Name), .c (cS x9.Target), .c (cI .i64 x9.Low), .c (cI .i64 x9.High), .row 3, .c (cI .i64 x9.Pace.Up), .c (cI .i64 x9.Pace.Down), .c (cI .i64 x9.Pace.UpSpan), .c (cI .i64 x9.Pace.DownSpan), .row 4]], [rr 3 enc_Metric x6.Metrics true, rr 2 enc_Note x6.Notes true, rr 2 enc_Sample x7 true, rr 3 enc_Metric x9.Metrics true, rr 2 enc_Note x9.Notes true, rr 2 enc_Sample x10 true, rr 3 enc_Metric x12.Metrics true, rr 2 enc_Note x12.Notes true]⟩) rfl rfl rfl (ev_callG (al := [.ag [.c (cS a1.Name), .c (cS a1.Target), .c (cI .i64 a1.Low), .c (cI .i64 a1.High), .c (cL enc_Metric a1.Metrics), .c (cI .i64 a1.Pace.Up), .c (cI .i64 a1.Pace.Down), .c (cI .i64 a1.Pace.UpSpan), .c (cI .i64 a1.Pace.DownSpan), .c (cL enc_Note a1.Notes)]]) (ls := []) (laws_toOrder_ok hx12) rfl rfl rfl rfl rfl (by decide) rfl rfl (by simp only [flatA, flatV, flatC, List.all_cons, List.all_nil, Option.all_some, Bool.and_self, Bool.or_true, fl_Metric, fl_Note]) rfl rfl rfl) ?_; simp only [putT, st, ev, gt, hp, ofV, constT, intT, List.length_map]
          obtain ⟨x13, hx13, H⟩ := bnd H
          refine WL_op (x := .c (cB x13)) (σ' := ⟨[], [some [.c (cS a1.Name), .c (cS a1.Target), .c (cI .i64 a1.Low), .c (cI .i64 a1.High), .c (cL enc_Metric a1.Metrics), .c (cI .i64 a1.Pace.Up), .c (cI .i64 a1.Pace.Down), .c (cI .i64 a1.Pace.UpSpan), .c (cI .i64 a1.Pace.DownSpan), .c (cL enc_Note a1.Notes)], some [.c (cS x9.Name), .c (cS x9.Target), .c (cI .i64 x9.Low), .c (cI .i64 x9.High), .row 3, .c (cI .i64 x9.Pace.Up), .c (cI .i64 x9.Pace.Down), .c (cI .i64 x9.Pace.UpSpan), .c (cI .i64 x9.Pace.DownSpan), .row 4]], [rr 3 enc_Metric x6.Metrics true, rr 2 enc_Note x6.Notes true, rr 2 enc_Sample x7 true, rr 3 enc_Metric x9.Metrics true, rr 2 enc_Note x9.Notes true, rr 2 enc_Sample x10 true, rr 3 enc_Metric x12.Metrics true, rr 2 enc_Note x12.Notes true]⟩) rfl rfl rfl (ev_callG (al := [.ag [.c (cS x9.Name), .c (cS x9.Target), .c (cI .i64 x9.Low), .c (cI .i64 x9.High), .row 3, .c (cI .i64 x9.Pace.Up), .c (cI .i64 x9.Pace.Down), .c (cI .i64 x9.Pace.UpSpan), .c (cI .i64 x9.Pace.DownSpan), .row 4], .ag [.c (cS x12.Name), .c (cS x12.Target), .c (cI .i64 x12.Low), .c (cI .i64 x12.High), .row 6, .c (cI .i64 x12.Pace.Up), .c (cI .i64 x12.Pace.Down), .c (cI .i64 x12.Pace.UpSpan), .c (cI .i64 x12.Pace.DownSpan), .row 7]]) (ls := []) (laws_eqOrder_ok hx13) rfl rfl rfl rfl rfl (by decide) rfl rfl rfl rfl rfl rfl) ?_; simp only [putT, st, ev, gt, hp, ofV, constT, intT, List.length_map]
          refine WL_op rfl rfl rfl rfl ?_; simp only [putT, st, ev, gt, hp, ofV, constT, intT, List.length_map]
          refine WL_nil (by kernel_rfl) ?_
          refine W_cond rfl (fun hc => ?_) (fun hc => ?_)
          · replace H := tr hc H
            refine W_seq ?_
            refine W_region ?_
            refine WO_op rfl rfl rfl ?_; simp only [putT, st, ev, gt, hp, ofV, constT, intT, List.length_map]
            refine WO_nil ?_
            refine W_ret ?_
            obtain rfl := Option.some.inj H
            exact told3 rfl
          · replace H := fl hc H
            refine W_skip ?_
            refine W_seq ?_
            refine W_seq ?_
            refine W_region ?_
            iterate 2 (refine WO_op rfl rfl rfl ?_; simp only [putT, st, ev, gt, hp, ofV, constT, intT, List.length_map])
            obtain ⟨x14, hx14, H⟩ := bnd H
            refine WO_op (x := .row 8) (σ' := ⟨[], [some [.c (cS a1.Name), .c (cS a1.Target), .c (cI .i64 a1.Low), .c (cI .i64 a1.High), .c (cL enc_Metric a1.Metrics), .c (cI .i64 a1.Pace.Up), .c (cI .i64 a1.Pace.Down), .c (cI .i64 a1.Pace.UpSpan), .c (cI .i64 a1.Pace.DownSpan), .c (cL enc_Note a1.Notes)], some [.c (cS x9.Name), .c (cS x9.Target), .c (cI .i64 x9.Low), .c (cI .i64 x9.High), .row 3, .c (cI .i64 x9.Pace.Up), .c (cI .i64 x9.Pace.Down), .c (cI .i64 x9.Pace.UpSpan), .c (cI .i64 x9.Pace.DownSpan), .row 4]], [rr 3 enc_Metric x6.Metrics true, rr 2 enc_Note x6.Notes true, rr 2 enc_Sample x7 true, rr 3 enc_Metric x9.Metrics true, rr 2 enc_Note x9.Notes true, rr 2 enc_Sample x10 true, rr 3 enc_Metric x12.Metrics true, rr 2 enc_Note x12.Notes true, rr 2 enc_Sample x14 true]⟩) rfl rfl (ev_callG (al := [.c (cL enc_Sample a3)]) (ls := []) (laws_toSampleS_ok hx14) rfl rfl rfl rfl rfl (by decide) rfl rfl (by simp only [flatA, flatV, flatC, List.all_cons, List.all_nil, Option.all_some, Bool.and_self, Bool.or_true, fl_Sample]) rfl rfl rfl) ?_; simp only [putT, st, ev, gt, hp, ofV, constT, intT, List.length_map]
            obtain ⟨x15, hx15, H⟩ := bnd H
            refine WO_op (x := .c (cB x15)) (σ' := ⟨[], [some [.c (cS a1.Name), .c (cS a1.Target), .c (cI .i64 a1.Low), .c (cI .i64 a1.High), .c (cL enc_Metric a1.Metrics), .c (cI .i64 a1.Pace.Up), .c (cI .i64 a1.Pace.Down), .c (cI .i64 a1.Pace.UpSpan), .c (cI .i64 a1.Pace.DownSpan), .c (cL enc_Note a1.Notes)], some [.c (cS x9.Name), .c (cS x9.Target), .c (cI .i64 x9.Low), .c (cI .i64 x9.High), .row 3, .c (cI .i64 x9.Pace.Up), .c (cI .i64 x9.Pace.Down), .c (cI .i64 x9.Pace.UpSpan), .c (cI .i64 x9.Pace.DownSpan), .row 4]], [rr 3 enc_Metric x6.Metrics true, rr 2 enc_Note x6.Notes true, rr 2 enc_Sample x7 true, rr 3 enc_Metric x9.Metrics true, rr 2 enc_Note x9.Notes true, rr 2 enc_Sample x10 true, rr 3 enc_Metric x12.Metrics true, rr 2 enc_Note x12.Notes true, rr 2 enc_Sample x14 true]⟩) rfl rfl (ev_callG (al := [.row 5, .row 8]) (ls := []) (laws_eqSampleS_ok hx15) rfl rfl rfl rfl rfl (by decide) rfl rfl rfl rfl rfl rfl) ?_; simp only [putT, st, ev, gt, hp, ofV, constT, intT, List.length_map]
            refine WO_op rfl rfl rfl ?_; simp only [putT, st, ev, gt, hp, ofV, constT, intT, List.length_map]
            refine WO_nil ?_
            refine W_cond rfl (fun hc => ?_) (fun hc => ?_)
            · replace H := tr hc H
              refine W_seq ?_
              refine W_region ?_
              refine WO_op rfl rfl rfl ?_; simp only [putT, st, ev, gt, hp, ofV, constT, intT, List.length_map]
              refine WO_nil ?_
              refine W_ret ?_
              obtain rfl := Option.some.inj H
              exact told3 rfl
            · replace H := fl hc H
              refine W_skip ?_
              refine W_seq ?_
              refine W_region ?_
              refine WO_op rfl rfl rfl ?_; simp only [putT, st, ev, gt, hp, ofV, constT, intT, List.length_map]
              refine WO_nil ?_
              refine W_ret ?_
              obtain rfl := Option.some.inj H
              exact told3 rfl
end Go.Pu
