import Derived.Test.YtgeingpadegppaaSamplesOkEn
set_option linter.unusedVariables false
set_option linter.unusedSimpArgs false
namespace Go.Pu
open Go Go.SX Go.Nt Go.Proofs
set_option maxRecDepth 20000 in
set_option maxHeartbeats 1000000 in
theorem laws_szSample_ok {a1 : Sample} {a2 : Int} {r : Int} (H : laws_szSample a1 a2 = some r) : R 69 [.ag [(cS a1.Name, none), (cI .i64 a1.Value, none)], .c (cI .i64 a2) none] = some (.c (cI .i64 r) none, []) := by
  unfold laws_szSample at H
  refine Fz_walk 13 rfl rfl Try.func69 rfl (by kernel_rfl) rfl rfl rfl rfl ?_
  simp only [tellVs, tellV, tells, tell, st0, padT, SX.newRow, SX.newBox, List.length_cons, List.length_nil, Nat.reduceAdd, Nat.reduceSub, List.replicate, List.cons_append, List.nil_append]
  refine W_seq ?_
  refine W_region ?_
  refine WO_op (x := .bp 0 0) (σ' := ⟨[], [some [.c (cS a1.Name), .c (cI .i64 a1.Value)]], []⟩) rfl rfl rfl ?_; simp only [putT, st, ev, gt, hp, ofV, constT, intT, List.length_map]
  refine WO_op rfl rfl rfl ?_; simp only [putT, st, ev, gt, hp, ofV, constT, intT, List.length_map]
  refine WO_nil ?_
  refine W_seq ?_
  refine W_region ?_
  refine WO_op rfl rfl rfl ?_; simp only [putT, st, ev, gt, hp, ofV, constT, intT, List.length_map]
  refine WO_op (x := .bp 0 0) rfl rfl rfl ?_; simp only [putT, st, ev, gt, hp, ofV, constT, intT, List.length_map]
  refine WO_op (x := .c (cS a1.Name)) rfl rfl rfl ?_; simp only [putT, st, ev, gt, hp, ofV, constT, intT, List.length_map]
  refine WO_op (x := .c (cI .i64 (a1.Name.length : Int))) rfl rfl rfl ?_; simp only [putT, st, ev, gt, hp, ofV, constT, intT, List.length_map]
  iterate 2 (refine WO_op rfl rfl rfl ?_; simp only [putT, st, ev, gt, hp, ofV, constT, intT, List.length_map])
  refine WO_nil ?_
  refine W_seq ?_
  refine W_seq ?_
  refine W_region ?_
  iterate 2 (refine WO_op rfl rfl rfl ?_; simp only [putT, st, ev, gt, hp, ofV, constT, intT, List.length_map])
  refine WO_nil ?_
  refine W_cond rfl (fun hc => ?_) (fun hc => ?_)
  · replace H := tr hc H
    refine W_seq ?_
    refine W_region ?_
    refine WO_op rfl rfl rfl ?_; simp only [putT, st, ev, gt, hp, ofV, constT, intT, List.length_map]
    refine WO_nil ?_
    refine W_ret ?_
    obtain rfl := Option.some.inj H
    exact told3 rfl
  · replace H := fl hc H
    refine W_skip ?_
    refine W_seq ?_
    refine W_region ?_
    iterate 2 (refine WO_op rfl rfl rfl ?_; simp only [putT, st, ev, gt, hp, ofV, constT, intT, List.length_map])
    refine WO_nil ?_
    refine W_ret ?_
    obtain rfl := Option.some.inj H
    exact told3 rfl
set_option maxRecDepth 20000 in
set_option maxHeartbeats 1000000 in
theorem laws_szSampleS_ok {a1 : List Sample} {a2 : Int} {r : Int} (H : laws_szSampleS a1 a2 = some r) : R 20 [.c (cL enc_Sample a1) none, .c (cI .i64 a2) none] = some (.c (cI .i64 r) none, []) := by
  unfold laws_szSampleS at H
  refine Fz_walk 27 rfl rfl Try.func20 rfl (by kernel_rfl) rfl rfl rfl rfl ?_
  simp only [tellVs, tellV, tells, tell, st0, padT, SX.newRow, SX.newBox, List.length_cons, List.length_nil, Nat.reduceAdd, Nat.reduceSub, List.replicate, List.cons_append, List.nil_append]
  refine W_seq ?_
  refine W_region ?_
  refine WO_op rfl rfl rfl ?_; simp only [putT, st, ev, gt, hp, ofV, constT, intT, List.length_map]
  refine WO_nil ?_
  refine W_seq ?_
  refine W_region ?_
  iterate 5 (refine WO_op rfl rfl rfl ?_; simp only [putT, st, ev, gt, hp, ofV, constT, intT, List.length_map])
  refine WO_nil ?_
  refine W_seq ?_
  refine W_seq ?_
  refine W_region ?_
  iterate 2 (refine WO_op rfl rfl rfl ?_; simp only [putT, st, ev, gt, hp, ofV, constT, intT, List.length_map])
  refine WO_nil ?_
  refine W_cond rfl (fun hc => ?_) (fun hc => ?_)
  · replace H := tr hc H
    refine W_seq ?_
    refine W_region ?_
    refine WO_op rfl rfl rfl ?_; simp only [putT, st, ev, gt, hp, ofV, constT, intT, List.length_map]
    refine WO_nil ?_
    refine W_ret ?_
    obtain rfl := Option.some.inj H
    exact told3 rfl
  · replace H := fl hc H
    refine W_skip ?_
    refine W_seq ?_
    refine W_seq ?_
    refine W_region ?_
    refine WO_op rfl rfl rfl ?_; simp only [putT, st, ev, gt, hp, ofV, constT, intT, List.length_map]
    refine WO_nil ?_
    refine W_block ?_
    obtain ⟨s8, hs8, H⟩ := bnd H
    refine loop_rule (ls := []) 0 (fun t7 : Int => ⟨[.no, .c (cI .i64 t7)], [], []⟩) (fun t => s8 = .inr t) ⟨[.c (cL enc_Sample a1), .c (cI .i64 (IntKind.i64.wrap (a2 - (a1.length : Int)))), .no, .no, .no, .c (cI .i64 0)], [], []⟩ (by repeat (first | exact mono_told | refine mono_seq ?_ | refine mono_blk ?_ | refine mono_lp ?_)) (le_intro [] [] (by decide) (by decide) rfl (by simp [leS, leT, leA, gt]) (by simp [leB, leT, leA]) (by simp [leR])) ?_ ?_
    · rintro t7 rfl
      refine W_seq ?_
      refine W_region ?_
      iterate 2 (refine WO_op rfl rfl rfl ?_; simp only [putT, st, ev, gt, hp, ofV, constT, intT, List.length_map])
      refine WO_nil ?_
      refine W_ret ?_
      obtain rfl := Option.some.inj H
      exact told3 rfl
    · intro V1 hV1 hW1 hX1
      refine laws_szSampleS.l0.partial_correctness a1 (fun v3 v4 s' => s' = s8 → V1 ⟨[.c (cL enc_Sample a1), .c (cI .i64 v3), .no, .no, .no, .c (cI .i64 v4)], [], []⟩) ?_ _ _ _ hs8 rfl
      intro l0 IH1 v3 v4 s' H1 e
      subst e
      refine hV1 _ ?_
      refine W_seq ?_
      refine W_seq ?_
      refine W_region ?_
      iterate 4 (refine WO_op rfl rfl rfl ?_; simp only [putT, st, ev, gt, hp, ofV, constT, intT, List.length_map])
      refine WO_nil ?_
      refine W_cond rfl (fun hc => ?_) (fun hc => ?_)
      · replace H1 := tr hc H1
        refine W_skip ?_
        refine W_seq ?_
        refine W_block ?_
        refine W_seq ?_
        refine W_region ?_
        iterate 2 (refine WO_op rfl rfl rfl ?_; simp only [putT, st, ev, gt, hp, ofV, constT, intT, List.length_map])
        obtain ⟨x5, hx5, H1⟩ := bnd H1
        refine WO_op rfl rfl (ev_ix (en := enc_Sample) hx5 rfl rfl rfl rfl rfl rfl rfl) ?_; simp only [putT, st, ev, gt, hp, ofV, constT, intT, List.length_map]
        refine WO_op (x := .ag [.c (cS x5.Name), .c (cI .i64 x5.Value)]) rfl rfl rfl ?_; simp only [putT, st, ev, gt, hp, ofV, constT, intT, List.length_map]
        refine WO_op rfl rfl rfl ?_; simp only [putT, st, ev, gt, hp, ofV, constT, intT, List.length_map]
        obtain ⟨x6, hx6, H1⟩ := bnd H1
        refine WO_op (x := .c (cI .i64 x6)) (σ' := ⟨[], [], []⟩) rfl rfl (ev_callG (al := [.ag [.c (cS x5.Name), .c (cI .i64 x5.Value)], .c (cI .i64 v3)]) (ls := []) (laws_szSample_ok hx6) rfl rfl rfl rfl rfl (by decide) rfl rfl rfl rfl rfl rfl) ?_; simp only [putT, st, ev, gt, hp, ofV, constT, intT, List.length_map]
        refine WO_op rfl rfl rfl ?_; simp only [putT, st, ev, gt, hp, ofV, constT, intT, List.length_map]
        refine WO_nil ?_
        refine W_seq ?_
        refine W_region ?_
        iterate 2 (refine WO_op rfl rfl rfl ?_; simp only [putT, st, ev, gt, hp, ofV, constT, intT, List.length_map])
        refine WO_nil ?_
        refine W_cond rfl (fun hc => ?_) (fun hc => ?_)
        · replace H1 := tr hc H1
          refine W_seq ?_
          refine W_region ?_
          refine WO_op rfl rfl rfl ?_; simp only [putT, st, ev, gt, hp, ofV, constT, intT, List.length_map]
          refine WO_nil ?_
          refine W_ret ?_
          obtain rfl := Option.some.inj H1
          obtain rfl := Option.some.inj H
          exact told3 rfl
        · replace H1 := fl hc H1
          refine W_skip ?_
          refine W_region ?_
          iterate 3 (refine WO_op rfl rfl rfl ?_; simp only [putT, st, ev, gt, hp, ofV, constT, intT, List.length_map])
          refine WO_nil ?_
          exact hW1 _ _ (IH1 _ _ _ H1 rfl) (le_intro [] [] (by decide) (by decide) rfl (by simp [leS, leT, leA, gt]) (by simp [leB, leT, leA]) (by simp [leR]))
      · replace H1 := fl hc H1
        refine W_exit ?_
        obtain rfl := Option.some.inj H1
        exact hX1 v3 _ rfl (le_intro [] [] (by decide) (by decide) rfl (by simp [leS, leT, leA, gt]) (by simp [leB, leT, leA]) (by simp [leR]))
set_option maxRecDepth 20000 in
set_option maxHeartbeats 1000000 in
theorem laws_toSample_ok {a1 : Sample} {r : Sample} (H : laws_toSample a1 = some r) : R 70 [.ag [(cS a1.Name, none), (cI .i64 a1.Value, none)]] = some (.ag [(cS r.Name, none), (cI .i64 r.Value, none)], []) := by
  unfold laws_toSample at H
  refine Fz_walk 11 rfl rfl Try.func70 rfl (by kernel_rfl) rfl rfl rfl rfl ?_
  simp only [tellVs, tellV, tells, tell, st0, padT, SX.newRow, SX.newBox, List.length_cons, List.length_nil, Nat.reduceAdd, Nat.reduceSub, List.replicate, List.cons_append, List.nil_append]
  refine W_seq ?_
  refine W_region ?_
  refine WO_op (x := .bp 0 0) (σ' := ⟨[], [some [.c (cS a1.Name), .c (cI .i64 a1.Value)]], []⟩) rfl rfl rfl ?_; simp only [putT, st, ev, gt, hp, ofV, constT, intT, List.length_map]
  refine WO_op (x := .bp 1 0) (σ' := ⟨[], [some [.c (cS a1.Name), .c (cI .i64 a1.Value)], some [.c (cS []), .c (cI .i64 0)]], []⟩) rfl rfl rfl ?_; simp only [putT, st, ev, gt, hp, ofV, constT, intT, List.length_map]
  refine WO_nil ?_
  refine W_seq ?_
  refine W_region ?_
  refine WO_op (x := .bp 2 0) (σ' := ⟨[], [some [.c (cS a1.Name), .c (cI .i64 a1.Value)], some [.c (cS []), .c (cI .i64 0)], some [.c (cS []), .c (cI .i64 0)]], []⟩) rfl rfl rfl ?_; simp only [putT, st, ev, gt, hp, ofV, constT, intT, List.length_map]
  refine WO_nil ?_
  refine W_seq ?_
  refine W_region ?_
  refine WO_op (x := .bp 0 0) rfl rfl rfl ?_; simp only [putT, st, ev, gt, hp, ofV, constT, intT, List.length_map]
  refine WO_op (x := .c (cS a1.Name)) rfl rfl rfl ?_; simp only [putT, st, ev, gt, hp, ofV, constT, intT, List.length_map]
  refine WO_op (x := .bp 2 0) rfl rfl rfl ?_; simp only [putT, st, ev, gt, hp, ofV, constT, intT, List.length_map]
  refine WO_op (x := .no) (σ' := ⟨[], [some [.c (cS a1.Name), .c (cI .i64 a1.Value)], some [.c (cS []), .c (cI .i64 0)], some [.c (cS a1.Name), .c (cI .i64 0)]], []⟩) rfl rfl rfl ?_; simp only [putT, st, ev, gt, hp, ofV, constT, intT, List.length_map]
  refine WO_nil ?_
  refine W_seq ?_
  refine W_region ?_
  refine WO_op (x := .bp 0 1) rfl rfl rfl ?_; simp only [putT, st, ev, gt, hp, ofV, constT, intT, List.length_map]
  refine WO_op (x := .c (cI .i64 a1.Value)) rfl rfl rfl ?_; simp only [putT, st, ev, gt, hp, ofV, constT, intT, List.length_map]
  refine WO_op (x := .bp 2 1) rfl rfl rfl ?_; simp only [putT, st, ev, gt, hp, ofV, constT, intT, List.length_map]
  refine WO_op (x := .no) (σ' := ⟨[], [some [.c (cS a1.Name), .c (cI .i64 a1.Value)], some [.c (cS []), .c (cI .i64 0)], some [.c (cS a1.Name), .c (cI .i64 a1.Value)]], []⟩) rfl rfl rfl ?_; simp only [putT, st, ev, gt, hp, ofV, constT, intT, List.length_map]
  refine WO_nil ?_
  refine W_seq ?_
  refine W_region ?_
  refine WO_op (x := .ag [.c (cS a1.Name), .c (cI .i64 a1.Value)]) rfl rfl rfl ?_; simp only [putT, st, ev, gt, hp, ofV, constT, intT, List.length_map]
  refine WO_op (x := .no) (σ' := ⟨[], [some [.c (cS a1.Name), .c (cI .i64 a1.Value)], some [.c (cS a1.Name), .c (cI .i64 a1.Value)], some [.c (cS a1.Name), .c (cI .i64 a1.Value)]], []⟩) rfl rfl rfl ?_; simp only [putT, st, ev, gt, hp, ofV, constT, intT, List.length_map]
  refine WO_nil ?_
  refine W_ret ?_
  obtain rfl := Option.some.inj H
  exact told3 rfl
set_option maxRecDepth 20000 in
set_option maxHeartbeats 1000000 in
theorem laws_toSampleS_ok {a1 : List Sample} {r : List Sample} (H : laws_toSampleS a1 = some r) : R 22 [.c (cL enc_Sample a1) none] = some (.c (cL enc_Sample r) (some 2), []) := by
  unfold laws_toSampleS at H
  refine Fz_walk 23 rfl rfl Try.func22 rfl (by kernel_rfl) rfl rfl rfl rfl ?_
  simp only [tellVs, tellV, tells, tell, st0, padT, SX.newRow, SX.newBox, List.length_cons, List.length_nil, Nat.reduceAdd, Nat.reduceSub, List.replicate, List.cons_append, List.nil_append]
  refine W_seq ?_
  refine W_region ?_
  refine WO_op rfl rfl rfl ?_; simp only [putT, st, ev, gt, hp, ofV, constT, intT, List.length_map]
  refine WO_nil ?_
  refine W_seq ?_
  refine W_region ?_
  iterate 2 (refine WO_op rfl rfl rfl ?_; simp only [putT, st, ev, gt, hp, ofV, constT, intT, List.length_map])
  obtain ⟨m2, hm2, H⟩ := bnd H
  refine WO_op (x := .row 0) (σ' := ⟨[], [], [rr 2 enc_Sample m2 true]⟩) rfl rfl (ev_mk (en := enc_Sample) hm2 rfl rfl rfl rfl rfl rfl rfl rfl rfl rfl rfl rfl rfl rfl) ?_; simp only [putT, st, ev, gt, hp, ofV, constT, intT, List.length_map]
  refine WO_op rfl rfl rfl ?_; simp only [putT, st, ev, gt, hp, ofV, constT, intT, List.length_map]
  refine WO_nil ?_
  refine W_seq ?_
  refine W_seq ?_
  refine W_region ?_
  refine WO_op rfl rfl rfl ?_; simp only [putT, st, ev, gt, hp, ofV, constT, intT, List.length_map]
  refine WO_nil ?_
  refine W_block ?_
  obtain ⟨t9, ht9, H⟩ := bnd H
  refine loop_rule (ls := []) 0 (fun t9 : List Sample => ⟨[.no, .no, .no, .row 0], [], [rr 2 enc_Sample t9 true]⟩) (fun t => t9 = t) ⟨[.c (cL enc_Sample a1), .no, .no, .row 0, .c (cI .i64 0)], [], [rr 2 enc_Sample m2 true]⟩ (by repeat (first | exact mono_told | refine mono_seq ?_ | refine mono_blk ?_ | refine mono_lp ?_)) (le_intro [] [0] (by decide) (by decide) rfl (by simp [leS, leT, leA, gt]) (by simp [leB, leT, leA]) (by simp [leR])) ?_ ?_
  · intro t1 ht1; subst ht1
    refine W_seq ?_
    refine W_region ?_
    iterate 2 (refine WO_op rfl rfl rfl ?_; simp only [putT, st, ev, gt, hp, ofV, constT, intT, List.length_map])
    refine WO_nil ?_
    refine W_ret ?_
    obtain rfl := Option.some.inj H
    exact told5 rfl rfl rfl rfl (fitAs_nz rfl) rfl
  · intro V1 hV1 hW1 hX1
    refine laws_toSampleS.l0.partial_correctness a1 (fun v3 v4 s' => s' = t9 → V1 ⟨[.c (cL enc_Sample a1), .no, .no, .row 0, .c (cI .i64 v3)], [], [rr 2 enc_Sample v4 true]⟩) ?_ _ _ _ ht9 rfl
    intro l0 IH1 v3 v4 s' H1 e
    subst e
    refine hV1 _ ?_
    refine W_seq ?_
    refine W_seq ?_
    refine W_region ?_
    iterate 4 (refine WO_op rfl rfl rfl ?_; simp only [putT, st, ev, gt, hp, ofV, constT, intT, List.length_map])
    refine WO_nil ?_
    refine W_cond rfl (fun hc => ?_) (fun hc => ?_)
    · replace H1 := tr hc H1
      refine W_skip ?_
      refine W_seq ?_
      refine W_block ?_
      refine W_region ?_
      iterate 4 (refine WO_op rfl rfl rfl ?_; simp only [putT, st, ev, gt, hp, ofV, constT, intT, List.length_map])
      obtain ⟨x5, hx5, H1⟩ := bnd H1
      refine WO_op rfl rfl (ev_ix (en := enc_Sample) hx5 rfl rfl rfl rfl rfl rfl rfl) ?_; simp only [putT, st, ev, gt, hp, ofV, constT, intT, List.length_map]
      refine WO_op (x := .ag [.c (cS x5.Name), .c (cI .i64 x5.Value)]) rfl rfl rfl ?_; simp only [putT, st, ev, gt, hp, ofV, constT, intT, List.length_map]
      obtain ⟨x6, hx6, H1⟩ := bnd H1
      refine WO_op (x := .ag [.c (cS x6.Name), .c (cI .i64 x6.Value)]) (σ' := ⟨[], [], [rr 2 enc_Sample v4 true]⟩) rfl rfl (ev_callG (al := [.ag [.c (cS x5.Name), .c (cI .i64 x5.Value)]]) (ls := []) (laws_toSample_ok hx6) rfl rfl rfl rfl rfl (by decide) rfl rfl rfl rfl rfl rfl) ?_; simp only [putT, st, ev, gt, hp, ofV, constT, intT, List.length_map]
      obtain ⟨x7, hx7, H1⟩ := bnd H1
      refine WO_op rfl rfl (ev_ixR (en := enc_Sample) hx7 rfl rfl rfl rfl rfl rfl rfl) ?_; simp only [putT, st, ev, gt, hp, ofV, constT, intT, List.length_map]
      obtain ⟨m8, hm8, H1⟩ := bnd H1
      refine WO_op (x := .no) (σ' := ⟨[], [], [rr 2 enc_Sample m8 true]⟩) rfl rfl (ev_stR (en := enc_Sample) hm8 hx7 rfl rfl rfl rfl rfl rfl rfl rfl) ?_; simp only [putT, st, ev, gt, hp, ofV, constT, intT, List.length_map]
      refine WO_nil ?_
      refine W_region ?_
      iterate 3 (refine WO_op rfl rfl rfl ?_; simp only [putT, st, ev, gt, hp, ofV, constT, intT, List.length_map])
      refine WO_nil ?_
      exact hW1 _ _ (IH1 _ _ _ H1 rfl) (le_intro [] [0] (by decide) (by decide) rfl (by simp [leS, leT, leA, gt]) (by simp [leB, leT, leA]) (by simp [leR]))
    · replace H1 := fl hc H1
      refine W_exit ?_
      obtain rfl := Option.some.inj H1
      exact hX1 v4 _ rfl (le_intro [] [0] (by decide) (by decide) rfl (by simp [leS, leT, leA, gt]) (by simp [leB, leT, leA]) (by simp [leR]))
set_option maxRecDepth 20000 in
set_option maxHeartbeats 1000000 in
theorem spec_l1In_ok {a1 : Int} {a2 : Int} {a3 : Int} {r : Bool} (H : spec_l1In a1 a2 a3 = some r) : R 64 [.c (cI .i64 a1) none, .c (cI .i64 a2) none, .c (cI .i64 a3) none] = some (.c (cB r) none, []) := by
  unfold spec_l1In at H
  refine Fz_walk 15 rfl rfl Try.func64 rfl (by kernel_rfl) rfl rfl rfl rfl ?_
  simp only [tellVs, tellV, tells, tell, st0, padT, SX.newRow, SX.newBox, List.length_cons, List.length_nil, Nat.reduceAdd, Nat.reduceSub, List.replicate, List.cons_append, List.nil_append]
  refine W_seq ?_
  refine W_region ?_
  refine WO_op rfl rfl rfl ?_; simp only [putT, st, ev, gt, hp, ofV, constT, intT, List.length_map]
  refine WO_nil ?_
  refine W_seq ?_
  refine W_region ?_
  iterate 4 (refine WO_op rfl rfl rfl ?_; simp only [putT, st, ev, gt, hp, ofV, constT, intT, List.length_map])
  refine WO_if rfl rfl rfl (fun hc => ?_) (fun hc => ?_)
  · replace H := tr hc H
    simp only [putT, st, ev, gt, hp, ofV, constT, intT, List.length_map]
    iterate 3 (refine WO_want rfl rfl rfl ?_; simp only [putT, st, ev, gt, hp, ofV, constT, intT, List.length_map])
    refine WO_op (x := .c (cB (decide (a1 ≤ a3)))) rfl rfl rfl ?_; simp only [putT, st, ev, gt, hp, ofV, constT, intT, List.length_map]
    refine WO_op rfl rfl rfl ?_; simp only [putT, st, ev, gt, hp, ofV, constT, intT, List.length_map]
    refine WO_nil ?_
    refine W_ret ?_
    obtain rfl := Option.some.inj H
    exact told3 rfl
  · replace H := fl hc H
    simp only [putT, st, ev, gt, hp, ofV, constT, intT, List.length_map]
    refine WO_skip rfl rfl ?_; simp only [putT, st, ev, gt, hp, ofV, constT, intT, List.length_map]
    refine WO_skip rfl rfl ?_; simp only [putT, st, ev, gt, hp, ofV, constT, intT, List.length_map]
    refine WO_skip rfl rfl ?_; simp only [putT, st, ev, gt, hp, ofV, constT, intT, List.length_map]
    refine WO_op (x := .c (cB false)) rfl rfl rfl ?_; simp only [putT, st, ev, gt, hp, ofV, constT, intT, List.length_map]
    refine WO_op rfl rfl rfl ?_; simp only [putT, st, ev, gt, hp, ofV, constT, intT, List.length_map]
    refine WO_nil ?_
    refine W_ret ?_
    obtain rfl := Option.some.inj H
    exact told3 rfl
set_option maxRecDepth 20000 in
set_option maxHeartbeats 1000000 in
theorem spec_NameOk_ok {a1 : Str} {r : Bool} (H : spec_NameOk a1 = some r) : R 82 [.c (cS a1) none] = some (.c (cB r) none, []) := by
  unfold spec_NameOk at H
  refine Fz_walk 40 rfl rfl Try.func82 rfl (by kernel_rfl) rfl rfl rfl rfl ?_
  simp only [tellVs, tellV, tells, tell, st0, padT, SX.newRow, SX.newBox, List.length_cons, List.length_nil, Nat.reduceAdd, Nat.reduceSub, List.replicate, List.cons_append, List.nil_append]
  refine W_seq ?_
  refine W_region ?_
  refine WO_op rfl rfl rfl ?_; simp only [putT, st, ev, gt, hp, ofV, constT, intT, List.length_map]
  refine WO_nil ?_
  refine W_seq ?_
  refine W_seq ?_
  refine W_region ?_
  refine WO_op rfl rfl rfl ?_; simp only [putT, st, ev, gt, hp, ofV, constT, intT, List.length_map]
  refine WO_nil ?_
  refine W_block ?_
  obtain ⟨s6, hs6, H⟩ := bnd H
  refine loop_rule (ls := []) 0 (fun t4 : Unit => ⟨[.c (cS a1)], [], []⟩) (fun t => s6 = .inr t) ⟨[.c (cS a1), .no, .no, .c (cI .i64 0)], [], []⟩ (by repeat (first | exact mono_told | refine mono_seq ?_ | refine mono_blk ?_ | refine mono_lp ?_)) (le_intro [] [] (by decide) (by decide) rfl (by simp [leS, leT, leA, gt]) (by simp [leB, leT, leA]) (by simp [leR])) ?_ ?_
  · rintro t4 rfl
    refine W_seq ?_
    refine W_region ?_
    refine WO_op rfl rfl rfl ?_; simp only [putT, st, ev, gt, hp, ofV, constT, intT, List.length_map]
    refine WO_op (x := .c (cI .i64 (a1.length : Int))) rfl rfl rfl ?_; simp only [putT, st, ev, gt, hp, ofV, constT, intT, List.length_map]
    obtain ⟨x5, hx5, H⟩ := bnd H
    refine WO_op (x := .c (cB x5)) (σ' := ⟨[], [], []⟩) rfl rfl (ev_callG (al := [.c (cI .i64 (a1.length : Int)), .c (cI .i64 1), .c (cI .i64 20)]) (ls := []) (spec_l1In_ok hx5) rfl rfl rfl rfl rfl (by decide) rfl rfl rfl rfl rfl rfl) ?_; simp only [putT, st, ev, gt, hp, ofV, constT, intT, List.length_map]
    refine WO_op rfl rfl rfl ?_; simp only [putT, st, ev, gt, hp, ofV, constT, intT, List.length_map]
    refine WO_nil ?_
    refine W_ret ?_
    obtain rfl := Option.some.inj H
    exact told3 rfl
  · intro V1 hV1 hW1 hX1
    refine spec_NameOk.l0.partial_correctness a1 (fun v2 s' => s' = s6 → V1 ⟨[.c (cS a1), .no, .no, .c (cI .i64 v2)], [], []⟩) ?_ _ _ hs6 rfl
    intro l0 IH1 v2 s' H1 e
    subst e
    refine hV1 _ ?_
    refine W_seq ?_
    refine W_seq ?_
    refine W_region ?_
    iterate 2 (refine WO_op rfl rfl rfl ?_; simp only [putT, st, ev, gt, hp, ofV, constT, intT, List.length_map])
    refine WO_op (x := .c (cI .i64 (a1.length : Int))) rfl rfl rfl ?_; simp only [putT, st, ev, gt, hp, ofV, constT, intT, List.length_map]
    refine WO_op rfl rfl rfl ?_; simp only [putT, st, ev, gt, hp, ofV, constT, intT, List.length_map]
    refine WO_nil ?_
    refine W_cond rfl (fun hc => ?_) (fun hc => ?_)
    · replace H1 := tr hc H1
      refine W_skip ?_
      refine W_seq ?_
      refine W_block ?_
      refine W_seq ?_
      refine W_region ?_
      iterate 2 (refine WO_op rfl rfl rfl ?_; simp only [putT, st, ev, gt, hp, ofV, constT, intT, List.length_map])
      obtain ⟨c3, hc3, H1⟩ := bnd H1
      refine WO_op rfl rfl (ev_sx hc3 rfl rfl rfl rfl) ?_; simp only [putT, st, ev, gt, hp, ofV, constT, intT, List.length_map]
      refine WO_op rfl rfl rfl ?_; simp only [putT, st, ev, gt, hp, ofV, constT, intT, List.length_map]
      refine WO_nil ?_
      refine W_seq ?_
      refine W_region ?_
      iterate 3 (refine WO_op rfl rfl rfl ?_; simp only [putT, st, ev, gt, hp, ofV, constT, intT, List.length_map])
      refine WO_if rfl rfl rfl (fun hc => ?_) (fun hc => ?_)
      · replace H1 := tr hc H1
        simp only [putT, st, ev, gt, hp, ofV, constT, intT, List.length_map]
        iterate 2 (refine WO_want rfl rfl rfl ?_; simp only [putT, st, ev, gt, hp, ofV, constT, intT, List.length_map])
        refine WO_op (x := .c (cB (decide ((byte c3) ≤ 122)))) rfl rfl rfl ?_; simp only [putT, st, ev, gt, hp, ofV, constT, intT, List.length_map]
        refine WO_op rfl rfl rfl ?_; simp only [putT, st, ev, gt, hp, ofV, constT, intT, List.length_map]
        refine WO_if rfl rfl rfl (fun hc => ?_) (fun hc => ?_)
        · replace H1 := tr hc H1
          simp only [putT, st, ev, gt, hp, ofV, constT, intT, List.length_map]
          refine WO_skip rfl rfl ?_; simp only [putT, st, ev, gt, hp, ofV, constT, intT, List.length_map]
          refine WO_skip rfl rfl ?_; simp only [putT, st, ev, gt, hp, ofV, constT, intT, List.length_map]
          refine WO_skip rfl rfl ?_; simp only [putT, st, ev, gt, hp, ofV, constT, intT, List.length_map]
          refine WO_skip rfl rfl ?_; simp only [putT, st, ev, gt, hp, ofV, constT, intT, List.length_map]
          refine WO_skip rfl rfl ?_; simp only [putT, st, ev, gt, hp, ofV, constT, intT, List.length_map]
          refine WO_skip rfl rfl ?_; simp only [putT, st, ev, gt, hp, ofV, constT, intT, List.length_map]
          refine WO_skip rfl rfl ?_; simp only [putT, st, ev, gt, hp, ofV, constT, intT, List.length_map]
          refine WO_skip rfl rfl ?_; simp only [putT, st, ev, gt, hp, ofV, constT, intT, List.length_map]
          refine WO_skip rfl rfl ?_; simp only [putT, st, ev, gt, hp, ofV, constT, intT, List.length_map]
          refine WO_skip rfl rfl ?_; simp only [putT, st, ev, gt, hp, ofV, constT, intT, List.length_map]
          refine WO_skip rfl rfl ?_; simp only [putT, st, ev, gt, hp, ofV, constT, intT, List.length_map]
          refine WO_skip rfl rfl ?_; simp only [putT, st, ev, gt, hp, ofV, constT, intT, List.length_map]
          refine WO_skip rfl rfl ?_; simp only [putT, st, ev, gt, hp, ofV, constT, intT, List.length_map]
          refine WO_skip rfl rfl ?_; simp only [putT, st, ev, gt, hp, ofV, constT, intT, List.length_map]
          refine WO_op (x := .c (cB true)) rfl rfl rfl ?_; simp only [putT, st, ev, gt, hp, ofV, constT, intT, List.length_map]
          refine WO_op rfl rfl rfl ?_; simp only [putT, st, ev, gt, hp, ofV, constT, intT, List.length_map]
          refine WO_nil ?_
          refine W_cond rfl (fun hc => ?_) (fun hc => ?_)
          · replace H1 := tr hc H1
            refine W_seq ?_
            refine W_region ?_
            refine WO_op rfl rfl rfl ?_; simp only [putT, st, ev, gt, hp, ofV, constT, intT, List.length_map]
            refine WO_nil ?_
            refine W_ret ?_
            obtain rfl := Option.some.inj H1
            obtain rfl := Option.some.inj H
            exact told3 rfl
          · replace H1 := fl hc H1
            refine W_skip ?_
            refine W_region ?_
            iterate 3 (refine WO_op rfl rfl rfl ?_; simp only [putT, st, ev, gt, hp, ofV, constT, intT, List.length_map])
            refine WO_nil ?_
            exact hW1 _ _ (IH1 _ _ H1 rfl) (le_intro [] [] (by decide) (by decide) rfl (by simp [leS, leT, leA, gt]) (by simp [leB, leT, leA]) (by simp [leR]))
        · replace H1 := fl hc H1
          simp only [putT, st, ev, gt, hp, ofV, constT, intT, List.length_map]
          iterate 3 (refine WO_want rfl rfl rfl ?_; simp only [putT, st, ev, gt, hp, ofV, constT, intT, List.length_map])
          refine WO_if rfl rfl rfl (fun hc => ?_) (fun hc => ?_)
          · replace H1 := tr hc H1
            simp only [putT, st, ev, gt, hp, ofV, constT, intT, List.length_map]
            iterate 3 (refine WO_want rfl rfl rfl ?_; simp only [putT, st, ev, gt, hp, ofV, constT, intT, List.length_map])
            refine WO_if rfl rfl rfl (fun hc => ?_) (fun hc => ?_)
            · replace H1 := tr hc H1
              simp only [putT, st, ev, gt, hp, ofV, constT, intT, List.length_map]
              iterate 2 (refine WO_want rfl rfl rfl ?_; simp only [putT, st, ev, gt, hp, ofV, constT, intT, List.length_map])
              refine WO_want (x := .c (cB (decide ((byte c3) ≤ 57)))) rfl rfl rfl ?_; simp only [putT, st, ev, gt, hp, ofV, constT, intT, List.length_map]
              refine WO_want rfl rfl rfl ?_; simp only [putT, st, ev, gt, hp, ofV, constT, intT, List.length_map]
              refine WO_if rfl rfl rfl (fun hc => ?_) (fun hc => ?_)
              · replace H1 := tr hc H1
                simp only [putT, st, ev, gt, hp, ofV, constT, intT, List.length_map]
                refine WO_skip rfl rfl ?_; simp only [putT, st, ev, gt, hp, ofV, constT, intT, List.length_map]
                refine WO_skip rfl rfl ?_; simp only [putT, st, ev, gt, hp, ofV, constT, intT, List.length_map]
                iterate 2 (refine WO_want (x := .c (cB true)) rfl rfl rfl ?_; simp only [putT, st, ev, gt, hp, ofV, constT, intT, List.length_map])
                refine WO_op (x := .c (cB true)) rfl rfl rfl ?_; simp only [putT, st, ev, gt, hp, ofV, constT, intT, List.length_map]
                refine WO_op rfl rfl rfl ?_; simp only [putT, st, ev, gt, hp, ofV, constT, intT, List.length_map]
                refine WO_nil ?_
                refine W_cond rfl (fun hc => ?_) (fun hc => ?_)
                · replace H1 := tr hc H1
                  refine W_seq ?_
                  refine W_region ?_
                  refine WO_op rfl rfl rfl ?_; simp only [putT, st, ev, gt, hp, ofV, constT, intT, List.length_map]
                  refine WO_nil ?_
                  refine W_ret ?_
                  obtain rfl := Option.some.inj H1
                  obtain rfl := Option.some.inj H
                  exact told3 rfl
                · replace H1 := fl hc H1
                  refine W_skip ?_
                  refine W_region ?_
                  iterate 3 (refine WO_op rfl rfl rfl ?_; simp only [putT, st, ev, gt, hp, ofV, constT, intT, List.length_map])
                  refine WO_nil ?_
                  exact hW1 _ _ (IH1 _ _ H1 rfl) (le_intro [] [] (by decide) (by decide) rfl (by simp [leS, leT, leA, gt]) (by simp [leB, leT, leA]) (by simp [leR]))
              · replace H1 := fl hc H1
                simp only [putT, st, ev, gt, hp, ofV, constT, intT, List.length_map]
                iterate 2 (refine WO_want rfl rfl rfl ?_; simp only [putT, st, ev, gt, hp, ofV, constT, intT, List.length_map])
                iterate 2 (refine WO_want (x := .c (cB ((byte c3) == 45))) rfl rfl rfl ?_; simp only [putT, st, ev, gt, hp, ofV, constT, intT, List.length_map])
                refine WO_op (x := .c (cB ((byte c3) == 45))) rfl rfl rfl ?_; simp only [putT, st, ev, gt, hp, ofV, constT, intT, List.length_map]
                refine WO_op rfl rfl rfl ?_; simp only [putT, st, ev, gt, hp, ofV, constT, intT, List.length_map]
                refine WO_nil ?_
                refine W_cond rfl (fun hc => ?_) (fun hc => ?_)
                · replace H1 := tr hc H1
                  refine W_seq ?_
                  refine W_region ?_
                  refine WO_op rfl rfl rfl ?_; simp only [putT, st, ev, gt, hp, ofV, constT, intT, List.length_map]
                  refine WO_nil ?_
                  refine W_ret ?_
                  obtain rfl := Option.some.inj H1
                  obtain rfl := Option.some.inj H
                  exact told3 rfl
                · replace H1 := fl hc H1
                  refine W_skip ?_
                  refine W_region ?_
                  iterate 3 (refine WO_op rfl rfl rfl ?_; simp only [putT, st, ev, gt, hp, ofV, constT, intT, List.length_map])
                  refine WO_nil ?_
                  exact hW1 _ _ (IH1 _ _ H1 rfl) (le_intro [] [] (by decide) (by decide) rfl (by simp [leS, leT, leA, gt]) (by simp [leB, leT, leA]) (by simp [leR]))
            · replace H1 := fl hc H1
              simp only [putT, st, ev, gt, hp, ofV, constT, intT, List.length_map]
              refine WO_skip rfl rfl ?_; simp only [putT, st, ev, gt, hp, ofV, constT, intT, List.length_map]
              refine WO_skip rfl rfl ?_; simp only [putT, st, ev, gt, hp, ofV, constT, intT, List.length_map]
              refine WO_want (x := .c (cB false)) rfl rfl rfl ?_; simp only [putT, st, ev, gt, hp, ofV, constT, intT, List.length_map]
              iterate 3 (refine WO_want rfl rfl rfl ?_; simp only [putT, st, ev, gt, hp, ofV, constT, intT, List.length_map])
              iterate 2 (refine WO_want (x := .c (cB ((byte c3) == 45))) rfl rfl rfl ?_; simp only [putT, st, ev, gt, hp, ofV, constT, intT, List.length_map])
              refine WO_op (x := .c (cB ((byte c3) == 45))) rfl rfl rfl ?_; simp only [putT, st, ev, gt, hp, ofV, constT, intT, List.length_map]
              refine WO_op rfl rfl rfl ?_; simp only [putT, st, ev, gt, hp, ofV, constT, intT, List.length_map]
              refine WO_nil ?_
              refine W_cond rfl (fun hc => ?_) (fun hc => ?_)
              · replace H1 := tr hc H1
                refine W_seq ?_
                refine W_region ?_
                refine WO_op rfl rfl rfl ?_; simp only [putT, st, ev, gt, hp, ofV, constT, intT, List.length_map]
                refine WO_nil ?_
                refine W_ret ?_
                obtain rfl := Option.some.inj H1
                obtain rfl := Option.some.inj H
                exact told3 rfl
              · replace H1 := fl hc H1
                refine W_skip ?_
                refine W_region ?_
                iterate 3 (refine WO_op rfl rfl rfl ?_; simp only [putT, st, ev, gt, hp, ofV, constT, intT, List.length_map])
                refine WO_nil ?_
                exact hW1 _ _ (IH1 _ _ H1 rfl) (le_intro [] [] (by decide) (by decide) rfl (by simp [leS, leT, leA, gt]) (by simp [leB, leT, leA]) (by simp [leR]))
          · replace H1 := fl hc H1
            simp only [putT, st, ev, gt, hp, ofV, constT, intT, List.length_map]
            refine WO_skip rfl rfl ?_; simp only [putT, st, ev, gt, hp, ofV, constT, intT, List.length_map]
            refine WO_skip rfl rfl ?_; simp only [putT, st, ev, gt, hp, ofV, constT, intT, List.length_map]
            refine WO_skip rfl rfl ?_; simp only [putT, st, ev, gt, hp, ofV, constT, intT, List.length_map]
            refine WO_skip rfl rfl ?_; simp only [putT, st, ev, gt, hp, ofV, constT, intT, List.length_map]
            refine WO_skip rfl rfl ?_; simp only [putT, st, ev, gt, hp, ofV, constT, intT, List.length_map]
            refine WO_skip rfl rfl ?_; simp only [putT, st, ev, gt, hp, ofV, constT, intT, List.length_map]
            refine WO_skip rfl rfl ?_; simp only [putT, st, ev, gt, hp, ofV, constT, intT, List.length_map]
            refine WO_skip rfl rfl ?_; simp only [putT, st, ev, gt, hp, ofV, constT, intT, List.length_map]
            refine WO_skip rfl rfl ?_; simp only [putT, st, ev, gt, hp, ofV, constT, intT, List.length_map]
            refine WO_skip rfl rfl ?_; simp only [putT, st, ev, gt, hp, ofV, constT, intT, List.length_map]
            refine WO_want (x := .c (cB false)) rfl rfl rfl ?_; simp only [putT, st, ev, gt, hp, ofV, constT, intT, List.length_map]
            refine WO_op (x := .c (cB false)) rfl rfl rfl ?_; simp only [putT, st, ev, gt, hp, ofV, constT, intT, List.length_map]
            refine WO_op rfl rfl rfl ?_; simp only [putT, st, ev, gt, hp, ofV, constT, intT, List.length_map]
            refine WO_nil ?_
            refine W_cond rfl (fun hc => ?_) (fun hc => ?_)
            · replace H1 := tr hc H1
              refine W_seq ?_
              refine W_region ?_
              refine WO_op rfl rfl rfl ?_; simp only [putT, st, ev, gt, hp, ofV, constT, intT, List.length_map]
              refine WO_nil ?_
              refine W_ret ?_
              obtain rfl := Option.some.inj H1
              obtain rfl := Option.some.inj H
              exact told3 rfl
            · replace H1 := fl hc H1
              refine W_skip ?_
              refine W_region ?_
              iterate 3 (refine WO_op rfl rfl rfl ?_; simp only [putT, st, ev, gt, hp, ofV, constT, intT, List.length_map])
              refine WO_nil ?_
              exact hW1 _ _ (IH1 _ _ H1 rfl) (le_intro [] [] (by decide) (by decide) rfl (by simp [leS, leT, leA, gt]) (by simp [leB, leT, leA]) (by simp [leR]))
      · replace H1 := fl hc H1
        simp only [putT, st, ev, gt, hp, ofV, constT, intT, List.length_map]
        refine WO_skip rfl rfl ?_; simp only [putT, st, ev, gt, hp, ofV, constT, intT, List.length_map]
        refine WO_skip rfl rfl ?_; simp only [putT, st, ev, gt, hp, ofV, constT, intT, List.length_map]
        refine WO_op (x := .c (cB false)) rfl rfl rfl ?_; simp only [putT, st, ev, gt, hp, ofV, constT, intT, List.length_map]
        refine WO_op rfl rfl rfl ?_; simp only [putT, st, ev, gt, hp, ofV, constT, intT, List.length_map]
        iterate 3 (refine WO_want rfl rfl rfl ?_; simp only [putT, st, ev, gt, hp, ofV, constT, intT, List.length_map])
        refine WO_if rfl rfl rfl (fun hc => ?_) (fun hc => ?_)
        · replace H1 := tr hc H1
          simp only [putT, st, ev, gt, hp, ofV, constT, intT, List.length_map]
          iterate 3 (refine WO_want rfl rfl rfl ?_; simp only [putT, st, ev, gt, hp, ofV, constT, intT, List.length_map])
          refine WO_if rfl rfl rfl (fun hc => ?_) (fun hc => ?_)
          · replace H1 := tr hc H1
            simp only [putT, st, ev, gt, hp, ofV, constT, intT, List.length_map]
            iterate 2 (refine WO_want rfl rfl rfl ?_; simp only [putT, st, ev, gt, hp, ofV, constT, intT, List.length_map])
            refine WO_want (x := .c (cB (decide ((byte c3) ≤ 57)))) rfl rfl rfl ?_; simp only [putT, st, ev, gt, hp, ofV, constT, intT, List.length_map]
            refine WO_want rfl rfl rfl ?_; simp only [putT, st, ev, gt, hp, ofV, constT, intT, List.length_map]
            refine WO_if rfl rfl rfl (fun hc => ?_) (fun hc => ?_)
            · replace H1 := tr hc H1
              simp only [putT, st, ev, gt, hp, ofV, constT, intT, List.length_map]
              refine WO_skip rfl rfl ?_; simp only [putT, st, ev, gt, hp, ofV, constT, intT, List.length_map]
              refine WO_skip rfl rfl ?_; simp only [putT, st, ev, gt, hp, ofV, constT, intT, List.length_map]
              iterate 2 (refine WO_want (x := .c (cB true)) rfl rfl rfl ?_; simp only [putT, st, ev, gt, hp, ofV, constT, intT, List.length_map])
              refine WO_op (x := .c (cB true)) rfl rfl rfl ?_; simp only [putT, st, ev, gt, hp, ofV, constT, intT, List.length_map]
              refine WO_op rfl rfl rfl ?_; simp only [putT, st, ev, gt, hp, ofV, constT, intT, List.length_map]
              refine WO_nil ?_
              refine W_cond rfl (fun hc => ?_) (fun hc => ?_)
              · replace H1 := tr hc H1
                refine W_seq ?_
                refine W_region ?_
                refine WO_op rfl rfl rfl ?_; simp only [putT, st, ev, gt, hp, ofV, constT, intT, List.length_map]
                refine WO_nil ?_
                refine W_ret ?_
                obtain rfl := Option.some.inj H1
                obtain rfl := Option.some.inj H
                exact told3 rfl
              · replace H1 := fl hc H1
                refine W_skip ?_
                refine W_region ?_
                iterate 3 (refine WO_op rfl rfl rfl ?_; simp only [putT, st, ev, gt, hp, ofV, constT, intT, List.length_map])
                refine WO_nil ?_
                exact hW1 _ _ (IH1 _ _ H1 rfl) (le_intro [] [] (by decide) (by decide) rfl (by simp [leS, leT, leA, gt]) (by simp [leB, leT, leA]) (by simp [leR]))
            · replace H1 := fl hc H1
              simp only [putT, st, ev, gt, hp, ofV, constT, intT, List.length_map]
              iterate 2 (refine WO_want rfl rfl rfl ?_; simp only [putT, st, ev, gt, hp, ofV, constT, intT, List.length_map])
              iterate 2 (refine WO_want (x := .c (cB ((byte c3) == 45))) rfl rfl rfl ?_; simp only [putT, st, ev, gt, hp, ofV, constT, intT, List.length_map])
              refine WO_op (x := .c (cB ((byte c3) == 45))) rfl rfl rfl ?_; simp only [putT, st, ev, gt, hp, ofV, constT, intT, List.length_map]
              refine WO_op rfl rfl rfl ?_; simp only [putT, st, ev, gt, hp, ofV, constT, intT, List.length_map]
              refine WO_nil ?_
              refine W_cond rfl (fun hc => ?_) (fun hc => ?_)
              · replace H1 := tr hc H1
                refine W_seq ?_
                refine W_region ?_
                refine WO_op rfl rfl rfl ?_; simp only [putT, st, ev, gt, hp, ofV, constT, intT, List.length_map]
                refine WO_nil ?_
                refine W_ret ?_
                obtain rfl := Option.some.inj H1
                obtain rfl := Option.some.inj H
                exact told3 rfl
              · replace H1 := fl hc H1
                refine W_skip ?_
                refine W_region ?_
                iterate 3 (refine WO_op rfl rfl rfl ?_; simp only [putT, st, ev, gt, hp, ofV, constT, intT, List.length_map])
                refine WO_nil ?_
                exact hW1 _ _ (IH1 _ _ H1 rfl) (le_intro [] [] (by decide) (by decide) rfl (by simp [leS, leT, leA, gt]) (by simp [leB, leT, leA]) (by simp [leR]))
          · replace H1 := fl hc H1
            simp only [putT, st, ev, gt, hp, ofV, constT, intT, List.length_map]
            refine WO_skip rfl rfl ?_; simp only [putT, st, ev, gt, hp, ofV, constT, intT, List.length_map]
            refine WO_skip rfl rfl ?_; simp only [putT, st, ev, gt, hp, ofV, constT, intT, List.length_map]
            refine WO_want (x := .c (cB false)) rfl rfl rfl ?_; simp only [putT, st, ev, gt, hp, ofV, constT, intT, List.length_map]
            iterate 3 (refine WO_want rfl rfl rfl ?_; simp only [putT, st, ev, gt, hp, ofV, constT, intT, List.length_map])
            iterate 2 (refine WO_want (x := .c (cB ((byte c3) == 45))) rfl rfl rfl ?_; simp only [putT, st, ev, gt, hp, ofV, constT, intT, List.length_map])
            refine WO_op (x := .c (cB ((byte c3) == 45))) rfl rfl rfl ?_; simp only [putT, st, ev, gt, hp, ofV, constT, intT, List.length_map]
            refine WO_op rfl rfl rfl ?_; simp only [putT, st, ev, gt, hp, ofV, constT, intT, List.length_map]
            refine WO_nil ?_
            refine W_cond rfl (fun hc => ?_) (fun hc => ?_)
            · replace H1 := tr hc H1
              refine W_seq ?_
              refine W_region ?_
              refine WO_op rfl rfl rfl ?_; simp only [putT, st, ev, gt, hp, ofV, constT, intT, List.length_map]
              refine WO_nil ?_
              refine W_ret ?_
              obtain rfl := Option.some.inj H1
              obtain rfl := Option.some.inj H
              exact told3 rfl
            · replace H1 := fl hc H1
              refine W_skip ?_
              refine W_region ?_
              iterate 3 (refine WO_op rfl rfl rfl ?_; simp only [putT, st, ev, gt, hp, ofV, constT, intT, List.length_map])
              refine WO_nil ?_
              exact hW1 _ _ (IH1 _ _ H1 rfl) (le_intro [] [] (by decide) (by decide) rfl (by simp [leS, leT, leA, gt]) (by simp [leB, leT, leA]) (by simp [leR]))
        · replace H1 := fl hc H1
          simp only [putT, st, ev, gt, hp, ofV, constT, intT, List.length_map]
          refine WO_skip rfl rfl ?_; simp only [putT, st, ev, gt, hp, ofV, constT, intT, List.length_map]
          refine WO_skip rfl rfl ?_; simp only [putT, st, ev, gt, hp, ofV, constT, intT, List.length_map]
          refine WO_skip rfl rfl ?_; simp only [putT, st, ev, gt, hp, ofV, constT, intT, List.length_map]
          refine WO_skip rfl rfl ?_; simp only [putT, st, ev, gt, hp, ofV, constT, intT, List.length_map]
          refine WO_skip rfl rfl ?_; simp only [putT, st, ev, gt, hp, ofV, constT, intT, List.length_map]
          refine WO_skip rfl rfl ?_; simp only [putT, st, ev, gt, hp, ofV, constT, intT, List.length_map]
          refine WO_skip rfl rfl ?_; simp only [putT, st, ev, gt, hp, ofV, constT, intT, List.length_map]
          refine WO_skip rfl rfl ?_; simp only [putT, st, ev, gt, hp, ofV, constT, intT, List.length_map]
          refine WO_skip rfl rfl ?_; simp only [putT, st, ev, gt, hp, ofV, constT, intT, List.length_map]
          refine WO_skip rfl rfl ?_; simp only [putT, st, ev, gt, hp, ofV, constT, intT, List.length_map]
          refine WO_want (x := .c (cB false)) rfl rfl rfl ?_; simp only [putT, st, ev, gt, hp, ofV, constT, intT, List.length_map]
          refine WO_op (x := .c (cB false)) rfl rfl rfl ?_; simp only [putT, st, ev, gt, hp, ofV, constT, intT, List.length_map]
          refine WO_op rfl rfl rfl ?_; simp only [putT, st, ev, gt, hp, ofV, constT, intT, List.length_map]
          refine WO_nil ?_
          refine W_cond rfl (fun hc => ?_) (fun hc => ?_)
          · replace H1 := tr hc H1
            refine W_seq ?_
            refine W_region ?_
            refine WO_op rfl rfl rfl ?_; simp only [putT, st, ev, gt, hp, ofV, constT, intT, List.length_map]
            refine WO_nil ?_
            refine W_ret ?_
            obtain rfl := Option.some.inj H1
            obtain rfl := Option.some.inj H
            exact told3 rfl
          · replace H1 := fl hc H1
            refine W_skip ?_
            refine W_region ?_
            iterate 3 (refine WO_op rfl rfl rfl ?_; simp only [putT, st, ev, gt, hp, ofV, constT, intT, List.length_map])
            refine WO_nil ?_
            exact hW1 _ _ (IH1 _ _ H1 rfl) (le_intro [] [] (by decide) (by decide) rfl (by simp [leS, leT, leA, gt]) (by simp [leB, leT, leA]) (by simp [leR]))
    · replace H1 := fl hc H1
      refine W_exit ?_
      obtain rfl := Option.some.inj H1
      exact hX1 () _ rfl (le_intro [] [] (by decide) (by decide) rfl (by simp [leS, leT, leA, gt]) (by simp [leB, leT, leA]) (by simp [leR]))
set_option maxRecDepth 20000 in
set_option maxHeartbeats 1000000 in
theorem spec_SamplesOk_ok {a1 : List Sample} {r : Bool} (H : spec_SamplesOk a1 = some r) : R 34 [.c (cL enc_Sample a1) none] = some (.c (cB r) none, []) := by
  unfold spec_SamplesOk at H
  refine Fz_walk 47 rfl rfl Try.func34 rfl (by kernel_rfl) rfl rfl rfl rfl ?_
  simp only [tellVs, tellV, tells, tell, st0, padT, SX.newRow, SX.newBox, List.length_cons, List.length_nil, Nat.reduceAdd, Nat.reduceSub, List.replicate, List.cons_append, List.nil_append]
  refine W_seq ?_
  refine W_region ?_
  refine WO_op rfl rfl rfl ?_; simp only [putT, st, ev, gt, hp, ofV, constT, intT, List.length_map]
  refine WO_nil ?_
  refine W_seq ?_
  refine W_seq ?_
  refine W_region ?_
  refine WO_op rfl rfl rfl ?_; simp only [putT, st, ev, gt, hp, ofV, constT, intT, List.length_map]
  refine WO_nil ?_
  refine W_block ?_
  obtain ⟨s10, hs10, H⟩ := bnd H
  refine loop_rule (ls := []) 0 (fun t9 : Unit => ⟨[.c (cL enc_Sample a1)], [], []⟩) (fun t => s10 = .inr t) ⟨[.c (cL enc_Sample a1), .no, .no, .c (cI .i64 0)], [], []⟩ (by repeat (first | exact mono_told | refine mono_seq ?_ | refine mono_blk ?_ | refine mono_lp ?_)) (le_intro [] [] (by decide) (by decide) rfl (by simp [leS, leT, leA, gt]) (by simp [leB, leT, leA]) (by simp [leR])) ?_ ?_
  · rintro t9 rfl
    refine W_seq ?_
    refine W_region ?_
    iterate 4 (refine WO_op rfl rfl rfl ?_; simp only [putT, st, ev, gt, hp, ofV, constT, intT, List.length_map])
    refine WO_nil ?_
    refine W_ret ?_
    obtain rfl := Option.some.inj H
    exact told3 rfl
  · intro V1 hV1 hW1 hX1
    refine spec_SamplesOk.l0.partial_correctness a1 (fun v2 s' => s' = s10 → V1 ⟨[.c (cL enc_Sample a1), .no, .no, .c (cI .i64 v2)], [], []⟩) ?_ _ _ hs10 rfl
    intro l0 IH1 v2 s' H1 e
    subst e
    refine hV1 _ ?_
    refine W_seq ?_
    refine W_seq ?_
    refine W_region ?_
    iterate 4 (refine WO_op rfl rfl rfl ?_; simp only [putT, st, ev, gt, hp, ofV, constT, intT, List.length_map])
    refine WO_nil ?_
    refine W_cond rfl (fun hc => ?_) (fun hc => ?_)
    · replace H1 := tr hc H1
      refine W_skip ?_
      refine W_seq ?_
      refine W_block ?_
      refine W_seq ?_
      refine W_draw (by kernel_rfl) (by kernel_rfl) ?_
      iterate 2 (refine WO_op rfl rfl rfl ?_; simp only [putT, st, ev, gt, hp, ofV, constT, intT, List.length_map])
      obtain ⟨x3, hx3, H1⟩ := bnd H1
      refine WO_op rfl rfl (ev_ix (en := enc_Sample) hx3 rfl rfl rfl rfl rfl rfl rfl) ?_; simp only [putT, st, ev, gt, hp, ofV, constT, intT, List.length_map]
      refine WO_op (x := .cp (enc_Sample x3) 0) rfl rfl rfl ?_; simp only [putT, st, ev, gt, hp, ofV, constT, intT, List.length_map]
      refine WO_op (x := .c (cS x3.Name)) rfl rfl rfl ?_; simp only [putT, st, ev, gt, hp, ofV, constT, intT, List.length_map]
      obtain ⟨x4, hx4, H1⟩ := bnd H1
      refine WO_op (x := .c (cB x4)) (σ' := ⟨[], [], []⟩) rfl rfl (ev_callG (al := [.c (cS x3.Name)]) (ls := []) (spec_NameOk_ok hx4) rfl rfl rfl rfl rfl (by decide) rfl rfl rfl rfl rfl rfl) ?_; simp only [putT, st, ev, gt, hp, ofV, constT, intT, List.length_map]
      iterate 2 (refine WO_op rfl rfl rfl ?_; simp only [putT, st, ev, gt, hp, ofV, constT, intT, List.length_map])
      refine WO_if rfl rfl rfl (fun hc => ?_) (fun hc => ?_)
      · replace H1 := tr hc H1
        simp only [putT, st, ev, gt, hp, ofV, constT, intT, List.length_map]
        refine WO_skip rfl rfl ?_; simp only [putT, st, ev, gt, hp, ofV, constT, intT, List.length_map]
        refine WO_skip rfl rfl ?_; simp only [putT, st, ev, gt, hp, ofV, constT, intT, List.length_map]
        refine WO_skip rfl rfl ?_; simp only [putT, st, ev, gt, hp, ofV, constT, intT, List.length_map]
        refine WO_skip rfl rfl ?_; simp only [putT, st, ev, gt, hp, ofV, constT, intT, List.length_map]
        refine WO_skip rfl rfl ?_; simp only [putT, st, ev, gt, hp, ofV, constT, intT, List.length_map]
        refine WO_skip rfl rfl ?_; simp only [putT, st, ev, gt, hp, ofV, constT, intT, List.length_map]
        refine WO_skip rfl rfl ?_; simp only [putT, st, ev, gt, hp, ofV, constT, intT, List.length_map]
        refine WO_op (x := .c (cB true)) rfl rfl rfl ?_; simp only [putT, st, ev, gt, hp, ofV, constT, intT, List.length_map]
        refine WO_op rfl rfl rfl ?_; simp only [putT, st, ev, gt, hp, ofV, constT, intT, List.length_map]
        refine WO_skip rfl rfl ?_; simp only [putT, st, ev, gt, hp, ofV, constT, intT, List.length_map]
        refine WO_skip rfl rfl ?_; simp only [putT, st, ev, gt, hp, ofV, constT, intT, List.length_map]
        refine WO_skip rfl rfl ?_; simp only [putT, st, ev, gt, hp, ofV, constT, intT, List.length_map]
        refine WO_skip rfl rfl ?_; simp only [putT, st, ev, gt, hp, ofV, constT, intT, List.length_map]
        refine WO_skip rfl rfl ?_; simp only [putT, st, ev, gt, hp, ofV, constT, intT, List.length_map]
        refine WO_skip rfl rfl ?_; simp only [putT, st, ev, gt, hp, ofV, constT, intT, List.length_map]
        refine WO_skip rfl rfl ?_; simp only [putT, st, ev, gt, hp, ofV, constT, intT, List.length_map]
        refine WO_skip rfl rfl ?_; simp only [putT, st, ev, gt, hp, ofV, constT, intT, List.length_map]
        refine WO_skip rfl rfl ?_; simp only [putT, st, ev, gt, hp, ofV, constT, intT, List.length_map]
        refine WO_skip rfl rfl ?_; simp only [putT, st, ev, gt, hp, ofV, constT, intT, List.length_map]
        refine WO_skip rfl rfl ?_; simp only [putT, st, ev, gt, hp, ofV, constT, intT, List.length_map]
        refine WO_skip rfl rfl ?_; simp only [putT, st, ev, gt, hp, ofV, constT, intT, List.length_map]
        refine WO_skip rfl rfl ?_; simp only [putT, st, ev, gt, hp, ofV, constT, intT, List.length_map]
        refine WO_skip rfl rfl ?_; simp only [putT, st, ev, gt, hp, ofV, constT, intT, List.length_map]
        refine WO_skip rfl rfl ?_; simp only [putT, st, ev, gt, hp, ofV, constT, intT, List.length_map]
        refine WO_skip rfl rfl ?_; simp only [putT, st, ev, gt, hp, ofV, constT, intT, List.length_map]
        refine WO_op (x := .c (cB true)) rfl rfl rfl ?_; simp only [putT, st, ev, gt, hp, ofV, constT, intT, List.length_map]
        refine WO_nil ?_
        refine W_cond (t := true) rfl (fun _ => ?_) (fun h => by cases h)
        refine W_seq ?_
        refine W_region ?_
        refine WO_op rfl rfl rfl ?_; simp only [putT, st, ev, gt, hp, ofV, constT, intT, List.length_map]
        refine WO_nil ?_
        refine W_ret ?_
        obtain rfl := Option.some.inj H1
        obtain rfl := Option.some.inj H
        exact told3 rfl
      · replace H1 := fl hc H1
        simp only [putT, st, ev, gt, hp, ofV, constT, intT, List.length_map]
        iterate 2 (refine WO_want rfl rfl rfl ?_; simp only [putT, st, ev, gt, hp, ofV, constT, intT, List.length_map])
        obtain ⟨x5, hx5, H1⟩ := bnd H1
        refine WO_want rfl rfl (ev_ix (en := enc_Sample) hx5 rfl rfl rfl rfl rfl rfl rfl) ?_; simp only [putT, st, ev, gt, hp, ofV, constT, intT, List.length_map]
        refine WO_want (x := .cp (enc_Sample x5) 1) rfl rfl rfl ?_; simp only [putT, st, ev, gt, hp, ofV, constT, intT, List.length_map]
        refine WO_want (x := .c (cI .i64 x5.Value)) rfl rfl rfl ?_; simp only [putT, st, ev, gt, hp, ofV, constT, intT, List.length_map]
        obtain ⟨x6, hx6, H1⟩ := bnd H1
        refine WO_want (x := .c (cB x6)) (σ' := ⟨[], [], []⟩) rfl rfl (ev_callG (al := [.c (cI .i64 x5.Value), .c (cI .i64 0), .c (cI .i64 1000000)]) (ls := []) (spec_l1In_ok hx6) rfl rfl rfl rfl rfl (by decide) rfl rfl rfl rfl rfl rfl) ?_; simp only [putT, st, ev, gt, hp, ofV, constT, intT, List.length_map]
        refine WO_want rfl rfl rfl ?_; simp only [putT, st, ev, gt, hp, ofV, constT, intT, List.length_map]
        refine WO_op (x := .c (cB (!x6))) rfl rfl rfl ?_; simp only [putT, st, ev, gt, hp, ofV, constT, intT, List.length_map]
        refine WO_op rfl rfl rfl ?_; simp only [putT, st, ev, gt, hp, ofV, constT, intT, List.length_map]
        refine WO_if rfl rfl rfl (fun hc => ?_) (fun hc => ?_)
        · replace H1 := tr hc H1
          simp only [putT, st, ev, gt, hp, ofV, constT, intT, List.length_map]
          refine WO_skip rfl rfl ?_; simp only [putT, st, ev, gt, hp, ofV, constT, intT, List.length_map]
          refine WO_skip rfl rfl ?_; simp only [putT, st, ev, gt, hp, ofV, constT, intT, List.length_map]
          refine WO_skip rfl rfl ?_; simp only [putT, st, ev, gt, hp, ofV, constT, intT, List.length_map]
          refine WO_skip rfl rfl ?_; simp only [putT, st, ev, gt, hp, ofV, constT, intT, List.length_map]
          refine WO_skip rfl rfl ?_; simp only [putT, st, ev, gt, hp, ofV, constT, intT, List.length_map]
          refine WO_skip rfl rfl ?_; simp only [putT, st, ev, gt, hp, ofV, constT, intT, List.length_map]
          refine WO_skip rfl rfl ?_; simp only [putT, st, ev, gt, hp, ofV, constT, intT, List.length_map]
          refine WO_skip rfl rfl ?_; simp only [putT, st, ev, gt, hp, ofV, constT, intT, List.length_map]
          refine WO_skip rfl rfl ?_; simp only [putT, st, ev, gt, hp, ofV, constT, intT, List.length_map]
          refine WO_skip rfl rfl ?_; simp only [putT, st, ev, gt, hp, ofV, constT, intT, List.length_map]
          refine WO_skip rfl rfl ?_; simp only [putT, st, ev, gt, hp, ofV, constT, intT, List.length_map]
          refine WO_skip rfl rfl ?_; simp only [putT, st, ev, gt, hp, ofV, constT, intT, List.length_map]
          refine WO_skip rfl rfl ?_; simp only [putT, st, ev, gt, hp, ofV, constT, intT, List.length_map]
          refine WO_skip rfl rfl ?_; simp only [putT, st, ev, gt, hp, ofV, constT, intT, List.length_map]
          refine WO_skip rfl rfl ?_; simp only [putT, st, ev, gt, hp, ofV, constT, intT, List.length_map]
          refine WO_skip rfl rfl ?_; simp only [putT, st, ev, gt, hp, ofV, constT, intT, List.length_map]
          refine WO_op (x := .c (cB true)) rfl rfl rfl ?_; simp only [putT, st, ev, gt, hp, ofV, constT, intT, List.length_map]
          refine WO_nil ?_
          refine W_cond (t := true) rfl (fun _ => ?_) (fun h => by cases h)
          refine W_seq ?_
          refine W_region ?_
          refine WO_op rfl rfl rfl ?_; simp only [putT, st, ev, gt, hp, ofV, constT, intT, List.length_map]
          refine WO_nil ?_
          refine W_ret ?_
          obtain rfl := Option.some.inj H1
          obtain rfl := Option.some.inj H
          exact told3 rfl
        · replace H1 := fl hc H1
          simp only [putT, st, ev, gt, hp, ofV, constT, intT, List.length_map]
          iterate 3 (refine WO_want rfl rfl rfl ?_; simp only [putT, st, ev, gt, hp, ofV, constT, intT, List.length_map])
          refine WO_if rfl rfl rfl (fun hc => ?_) (fun hc => ?_)
          · replace H1 := tr hc H1
            simp only [putT, st, ev, gt, hp, ofV, constT, intT, List.length_map]
            iterate 3 (refine WO_want rfl rfl rfl ?_; simp only [putT, st, ev, gt, hp, ofV, constT, intT, List.length_map])
            obtain ⟨x7, hx7, H1⟩ := bnd H1
            refine WO_want rfl rfl (ev_ix (en := enc_Sample) hx7 rfl rfl rfl rfl rfl rfl rfl) ?_; simp only [putT, st, ev, gt, hp, ofV, constT, intT, List.length_map]
            refine WO_want (x := .cp (enc_Sample x7) 0) rfl rfl rfl ?_; simp only [putT, st, ev, gt, hp, ofV, constT, intT, List.length_map]
            refine WO_want (x := .c (cS x7.Name)) rfl rfl rfl ?_; simp only [putT, st, ev, gt, hp, ofV, constT, intT, List.length_map]
            iterate 2 (refine WO_want rfl rfl rfl ?_; simp only [putT, st, ev, gt, hp, ofV, constT, intT, List.length_map])
            obtain ⟨x8, hx8, H1⟩ := bnd H1
            refine WO_want rfl rfl (ev_ix (en := enc_Sample) hx8 rfl rfl rfl rfl rfl rfl rfl) ?_; simp only [putT, st, ev, gt, hp, ofV, constT, intT, List.length_map]
            refine WO_want (x := .cp (enc_Sample x8) 0) rfl rfl rfl ?_; simp only [putT, st, ev, gt, hp, ofV, constT, intT, List.length_map]
            refine WO_want (x := .c (cS x8.Name)) rfl rfl rfl ?_; simp only [putT, st, ev, gt, hp, ofV, constT, intT, List.length_map]
            refine WO_want rfl rfl (ev_geq_s rfl rfl rfl) ?_; simp only [putT, st, ev, gt, hp, ofV, constT, intT, List.length_map]
            refine WO_want (x := .c (cB (!(slt x7.Name x8.Name)))) rfl rfl rfl ?_; simp only [putT, st, ev, gt, hp, ofV, constT, intT, List.length_map]
            refine WO_op (x := .c (cB (!(slt x7.Name x8.Name)))) rfl rfl rfl ?_; simp only [putT, st, ev, gt, hp, ofV, constT, intT, List.length_map]
            refine WO_nil ?_
            refine W_cond rfl (fun hc => ?_) (fun hc => ?_)
            · replace H1 := tr hc H1
              refine W_seq ?_
              refine W_region ?_
              refine WO_op rfl rfl rfl ?_; simp only [putT, st, ev, gt, hp, ofV, constT, intT, List.length_map]
              refine WO_nil ?_
              refine W_ret ?_
              obtain rfl := Option.some.inj H1
              obtain rfl := Option.some.inj H
              exact told3 rfl
            · replace H1 := fl hc H1
              refine W_skip ?_
              refine W_region ?_
              iterate 3 (refine WO_op rfl rfl rfl ?_; simp only [putT, st, ev, gt, hp, ofV, constT, intT, List.length_map])
              refine WO_nil ?_
              exact hW1 _ _ (IH1 _ _ H1 rfl) (le_intro [] [] (by decide) (by decide) rfl (by simp [leS, leT, leA, gt]) (by simp [leB, leT, leA]) (by simp [leR]))
          · replace H1 := fl hc H1
            simp only [putT, st, ev, gt, hp, ofV, constT, intT, List.length_map]
            refine WO_skip rfl rfl ?_; simp only [putT, st, ev, gt, hp, ofV, constT, intT, List.length_map]
            refine WO_skip rfl rfl ?_; simp only [putT, st, ev, gt, hp, ofV, constT, intT, List.length_map]
            refine WO_skip rfl rfl ?_; simp only [putT, st, ev, gt, hp, ofV, constT, intT, List.length_map]
            refine WO_skip rfl rfl ?_; simp only [putT, st, ev, gt, hp, ofV, constT, intT, List.length_map]
            refine WO_skip rfl rfl ?_; simp only [putT, st, ev, gt, hp, ofV, constT, intT, List.length_map]
            refine WO_skip rfl rfl ?_; simp only [putT, st, ev, gt, hp, ofV, constT, intT, List.length_map]
            refine WO_skip rfl rfl ?_; simp only [putT, st, ev, gt, hp, ofV, constT, intT, List.length_map]
            refine WO_skip rfl rfl ?_; simp only [putT, st, ev, gt, hp, ofV, constT, intT, List.length_map]
            refine WO_skip rfl rfl ?_; simp only [putT, st, ev, gt, hp, ofV, constT, intT, List.length_map]
            refine WO_skip rfl rfl ?_; simp only [putT, st, ev, gt, hp, ofV, constT, intT, List.length_map]
            refine WO_skip rfl rfl ?_; simp only [putT, st, ev, gt, hp, ofV, constT, intT, List.length_map]
            refine WO_skip rfl rfl ?_; simp only [putT, st, ev, gt, hp, ofV, constT, intT, List.length_map]
            refine WO_want (x := .c (cB false)) rfl rfl rfl ?_; simp only [putT, st, ev, gt, hp, ofV, constT, intT, List.length_map]
            refine WO_op (x := .c (cB false)) rfl rfl rfl ?_; simp only [putT, st, ev, gt, hp, ofV, constT, intT, List.length_map]
            refine WO_nil ?_
            refine W_cond (t := false) rfl (fun h => by cases h) (fun _ => ?_)
            refine W_skip ?_
            refine W_region ?_
            iterate 3 (refine WO_op rfl rfl rfl ?_; simp only [putT, st, ev, gt, hp, ofV, constT, intT, List.length_map])
            refine WO_nil ?_
            exact hW1 _ _ (IH1 _ _ H1 rfl) (le_intro [] [] (by decide) (by decide) rfl (by simp [leS, leT, leA, gt]) (by simp [leB, leT, leA]) (by simp [leR]))
    · replace H1 := fl hc H1
      refine W_exit ?_
      obtain rfl := Option.some.inj H1
      exact hX1 () _ rfl (le_intro [] [] (by decide) (by decide) rfl (by simp [leS, leT, leA, gt]) (by simp [leB, leT, leA]) (by simp [leR]))
set_option maxRecDepth 20000 in
set_option maxHeartbeats 1000000 in
theorem impl_isDigit_ok {a1 : Int} {r : Bool} (H : impl_isDigit a1 = some r) : R 94 [.c (cI .u8 a1) none] = some (.c (cB r) none, []) := by
  unfold impl_isDigit at H
  refine Fz_walk 9 rfl rfl Try.func94 rfl (by kernel_rfl) rfl rfl rfl rfl ?_
  simp only [tellVs, tellV, tells, tell, st0, padT, SX.newRow, SX.newBox, List.length_cons, List.length_nil, Nat.reduceAdd, Nat.reduceSub, List.replicate, List.cons_append, List.nil_append]
  refine W_seq ?_
  refine W_region ?_
  refine WO_op rfl rfl rfl ?_; simp only [putT, st, ev, gt, hp, ofV, constT, intT, List.length_map]
  refine WO_nil ?_
  refine W_seq ?_
  refine W_region ?_
  iterate 3 (refine WO_op rfl rfl rfl ?_; simp only [putT, st, ev, gt, hp, ofV, constT, intT, List.length_map])
  refine WO_if rfl rfl rfl (fun hc => ?_) (fun hc => ?_)
  · replace H := tr hc H
    simp only [putT, st, ev, gt, hp, ofV, constT, intT, List.length_map]
    iterate 2 (refine WO_want rfl rfl rfl ?_; simp only [putT, st, ev, gt, hp, ofV, constT, intT, List.length_map])
    refine WO_op (x := .c (cB (decide (a1 ≤ 57)))) rfl rfl rfl ?_; simp only [putT, st, ev, gt, hp, ofV, constT, intT, List.length_map]
    refine WO_op rfl rfl rfl ?_; simp only [putT, st, ev, gt, hp, ofV, constT, intT, List.length_map]
    refine WO_nil ?_
    refine W_ret ?_
    obtain rfl := Option.some.inj H
    exact told3 rfl
  · replace H := fl hc H
    simp only [putT, st, ev, gt, hp, ofV, constT, intT, List.length_map]
    refine WO_skip rfl rfl ?_; simp only [putT, st, ev, gt, hp, ofV, constT, intT, List.length_map]
    refine WO_skip rfl rfl ?_; simp only [putT, st, ev, gt, hp, ofV, constT, intT, List.length_map]
    refine WO_op (x := .c (cB false)) rfl rfl rfl ?_; simp only [putT, st, ev, gt, hp, ofV, constT, intT, List.length_map]
    refine WO_op rfl rfl rfl ?_; simp only [putT, st, ev, gt, hp, ofV, constT, intT, List.length_map]
    refine WO_nil ?_
    refine W_ret ?_
    obtain rfl := Option.some.inj H
    exact told3 rfl
set_option maxRecDepth 20000 in
set_option maxHeartbeats 1000000 in
theorem impl_from_ok {a1 : Int} {a2 : Int} {a3 : Int} {r : Bool} (H : impl_from a1 a2 a3 = some r) : R 76 [.c (cI .i64 a1) none, .c (cI .i64 a2) none, .c (cI .i64 a3) none] = some (.c (cB r) none, []) := by
  unfold impl_from at H
  refine Fz_walk 15 rfl rfl Try.func76 rfl (by kernel_rfl) rfl rfl rfl rfl ?_
  simp only [tellVs, tellV, tells, tell, st0, padT, SX.newRow, SX.newBox, List.length_cons, List.length_nil, Nat.reduceAdd, Nat.reduceSub, List.replicate, List.cons_append, List.nil_append]
  refine W_seq ?_
  refine W_region ?_
  refine WO_op rfl rfl rfl ?_; simp only [putT, st, ev, gt, hp, ofV, constT, intT, List.length_map]
  refine WO_nil ?_
  refine W_seq ?_
  refine W_region ?_
  iterate 4 (refine WO_op rfl rfl rfl ?_; simp only [putT, st, ev, gt, hp, ofV, constT, intT, List.length_map])
  refine WO_if rfl rfl rfl (fun hc => ?_) (fun hc => ?_)
  · replace H := tr hc H
    simp only [putT, st, ev, gt, hp, ofV, constT, intT, List.length_map]
    iterate 3 (refine WO_want rfl rfl rfl ?_; simp only [putT, st, ev, gt, hp, ofV, constT, intT, List.length_map])
    refine WO_op (x := .c (cB (decide (a1 ≤ a3)))) rfl rfl rfl ?_; simp only [putT, st, ev, gt, hp, ofV, constT, intT, List.length_map]
    refine WO_op rfl rfl rfl ?_; simp only [putT, st, ev, gt, hp, ofV, constT, intT, List.length_map]
    refine WO_nil ?_
    refine W_ret ?_
    obtain rfl := Option.some.inj H
    exact told3 rfl
  · replace H := fl hc H
    simp only [putT, st, ev, gt, hp, ofV, constT, intT, List.length_map]
    refine WO_skip rfl rfl ?_; simp only [putT, st, ev, gt, hp, ofV, constT, intT, List.length_map]
    refine WO_skip rfl rfl ?_; simp only [putT, st, ev, gt, hp, ofV, constT, intT, List.length_map]
    refine WO_skip rfl rfl ?_; simp only [putT, st, ev, gt, hp, ofV, constT, intT, List.length_map]
    refine WO_op (x := .c (cB false)) rfl rfl rfl ?_; simp only [putT, st, ev, gt, hp, ofV, constT, intT, List.length_map]
    refine WO_op rfl rfl rfl ?_; simp only [putT, st, ev, gt, hp, ofV, constT, intT, List.length_map]
    refine WO_nil ?_
    refine W_ret ?_
    obtain rfl := Option.some.inj H
    exact told3 rfl
set_option maxRecDepth 20000 in
set_option maxHeartbeats 1000000 in
theorem impl_NameOk_ok {a1 : Str} {r : Bool} (H : impl_NameOk a1 = some r) : R 83 [.c (cS a1) none] = some (.c (cB r) none, []) := by
  unfold impl_NameOk at H
  refine Fz_walk 43 rfl rfl Try.func83 rfl (by kernel_rfl) rfl rfl rfl rfl ?_
  simp only [tellVs, tellV, tells, tell, st0, padT, SX.newRow, SX.newBox, List.length_cons, List.length_nil, Nat.reduceAdd, Nat.reduceSub, List.replicate, List.cons_append, List.nil_append]
  refine W_seq ?_
  refine W_region ?_
  refine WO_op rfl rfl rfl ?_; simp only [putT, st, ev, gt, hp, ofV, constT, intT, List.length_map]
  refine WO_nil ?_
  refine W_seq ?_
  refine W_seq ?_
  refine W_region ?_
  refine WO_op rfl rfl rfl ?_; simp only [putT, st, ev, gt, hp, ofV, constT, intT, List.length_map]
  refine WO_op (x := .c (cI .i64 (a1.length : Int))) rfl rfl rfl ?_; simp only [putT, st, ev, gt, hp, ofV, constT, intT, List.length_map]
  refine WO_op rfl rfl rfl ?_; simp only [putT, st, ev, gt, hp, ofV, constT, intT, List.length_map]
  refine WO_nil ?_
  refine W_block ?_
  obtain ⟨s13, hs13, H⟩ := bnd H
  refine loop_rule (ls := []) 0 (fun t11 : Unit => ⟨[.c (cS a1)], [], []⟩) (fun t => s13 = .inr t) ⟨[.c (cS a1), .no, .no, .no, .no, .no, .c (cI .i64 (a1.length : Int)), .c (cI .i64 0)], [], []⟩ (by repeat (first | exact mono_told | refine mono_seq ?_ | refine mono_blk ?_ | refine mono_lp ?_)) (le_intro [] [] (by decide) (by decide) rfl (by simp [leS, leT, leA, gt]) (by simp [leB, leT, leA]) (by simp [leR])) ?_ ?_
  · rintro t11 rfl
    refine W_seq ?_
    refine W_region ?_
    refine WO_op rfl rfl rfl ?_; simp only [putT, st, ev, gt, hp, ofV, constT, intT, List.length_map]
    refine WO_op (x := .c (cI .i64 (a1.length : Int))) rfl rfl rfl ?_; simp only [putT, st, ev, gt, hp, ofV, constT, intT, List.length_map]
    obtain ⟨x12, hx12, H⟩ := bnd H
    refine WO_op (x := .c (cB x12)) (σ' := ⟨[], [], []⟩) rfl rfl (ev_callG (al := [.c (cI .i64 (a1.length : Int)), .c (cI .i64 1), .c (cI .i64 20)]) (ls := []) (impl_from_ok hx12) rfl rfl rfl rfl rfl (by decide) rfl rfl rfl rfl rfl rfl) ?_; simp only [putT, st, ev, gt, hp, ofV, constT, intT, List.length_map]
    refine WO_op rfl rfl rfl ?_; simp only [putT, st, ev, gt, hp, ofV, constT, intT, List.length_map]
    refine WO_nil ?_
    refine W_ret ?_
    obtain rfl := Option.some.inj H
    exact told3 rfl
  · intro V1 hV1 hW1 hX1
    refine impl_NameOk.l0.partial_correctness a1 (fun v2 s' => s' = s13 → V1 ⟨[.c (cS a1), .no, .no, .no, .no, .no, .c (cI .i64 (a1.length : Int)), .c (cI .i64 v2)], [], []⟩) ?_ _ _ hs13 rfl
    intro l0 IH1 v2 s' H1 e
    subst e
    refine hV1 _ ?_
    refine W_seq ?_
    refine W_region ?_
    refine WO_op rfl rfl rfl ?_; simp only [putT, st, ev, gt, hp, ofV, constT, intT, List.length_map]
    refine WO_nil ?_
    refine W_seq ?_
    refine W_cond rfl (fun hc => ?_) (fun hc => ?_)
    · replace H1 := tr hc H1
      refine W_skip ?_
      refine W_seq ?_
      refine W_block ?_
      refine W_seq ?_
      refine W_region ?_
      iterate 2 (refine WO_op rfl rfl rfl ?_; simp only [putT, st, ev, gt, hp, ofV, constT, intT, List.length_map])
      refine WO_nil ?_
      refine W_seq ?_
      refine W_region ?_
      iterate 2 (refine WO_op rfl rfl rfl ?_; simp only [putT, st, ev, gt, hp, ofV, constT, intT, List.length_map])
      obtain ⟨c3, hc3, H1⟩ := bnd H1
      refine WO_op rfl rfl (ev_sx hc3 rfl rfl rfl rfl) ?_; simp only [putT, st, ev, gt, hp, ofV, constT, intT, List.length_map]
      iterate 2 (refine WO_op rfl rfl rfl ?_; simp only [putT, st, ev, gt, hp, ofV, constT, intT, List.length_map])
      refine WO_if rfl rfl rfl (fun hc => ?_) (fun hc => ?_)
      · replace H1 := tr hc H1
        simp only [putT, st, ev, gt, hp, ofV, constT, intT, List.length_map]
        iterate 2 (refine WO_want rfl rfl rfl ?_; simp only [putT, st, ev, gt, hp, ofV, constT, intT, List.length_map])
        obtain ⟨c4, hc4, H1⟩ := bnd H1
        refine WO_want rfl rfl (ev_sx hc4 rfl rfl rfl rfl) ?_; simp only [putT, st, ev, gt, hp, ofV, constT, intT, List.length_map]
        refine WO_want rfl rfl rfl ?_; simp only [putT, st, ev, gt, hp, ofV, constT, intT, List.length_map]
        refine WO_op (x := .c (cB (decide ((byte c4) ≤ 122)))) rfl rfl rfl ?_; simp only [putT, st, ev, gt, hp, ofV, constT, intT, List.length_map]
        refine WO_op rfl rfl rfl ?_; simp only [putT, st, ev, gt, hp, ofV, constT, intT, List.length_map]
        refine WO_nil ?_
        refine W_seq ?_
        refine W_region ?_
        iterate 3 (refine WO_op rfl rfl rfl ?_; simp only [putT, st, ev, gt, hp, ofV, constT, intT, List.length_map])
        refine WO_if rfl rfl rfl (fun hc => ?_) (fun hc => ?_)
        · replace H1 := tr hc H1
          simp only [putT, st, ev, gt, hp, ofV, constT, intT, List.length_map]
          iterate 3 (refine WO_want rfl rfl rfl ?_; simp only [putT, st, ev, gt, hp, ofV, constT, intT, List.length_map])
          refine WO_if rfl rfl rfl (fun hc => ?_) (fun hc => ?_)
          · replace H1 := tr hc H1
            simp only [putT, st, ev, gt, hp, ofV, constT, intT, List.length_map]
            refine WO_skip rfl rfl ?_; simp only [putT, st, ev, gt, hp, ofV, constT, intT, List.length_map]
            refine WO_skip rfl rfl ?_; simp only [putT, st, ev, gt, hp, ofV, constT, intT, List.length_map]
            refine WO_skip rfl rfl ?_; simp only [putT, st, ev, gt, hp, ofV, constT, intT, List.length_map]
            refine WO_skip rfl rfl ?_; simp only [putT, st, ev, gt, hp, ofV, constT, intT, List.length_map]
            refine WO_skip rfl rfl ?_; simp only [putT, st, ev, gt, hp, ofV, constT, intT, List.length_map]
            refine WO_skip rfl rfl ?_; simp only [putT, st, ev, gt, hp, ofV, constT, intT, List.length_map]
            refine WO_skip rfl rfl ?_; simp only [putT, st, ev, gt, hp, ofV, constT, intT, List.length_map]
            refine WO_skip rfl rfl ?_; simp only [putT, st, ev, gt, hp, ofV, constT, intT, List.length_map]
            refine WO_skip rfl rfl ?_; simp only [putT, st, ev, gt, hp, ofV, constT, intT, List.length_map]
            refine WO_skip rfl rfl ?_; simp only [putT, st, ev, gt, hp, ofV, constT, intT, List.length_map]
            refine WO_skip rfl rfl ?_; simp only [putT, st, ev, gt, hp, ofV, constT, intT, List.length_map]
            refine WO_want (x := .c (cB true)) rfl rfl rfl ?_; simp only [putT, st, ev, gt, hp, ofV, constT, intT, List.length_map]
            refine WO_op (x := .c (cB true)) rfl rfl rfl ?_; simp only [putT, st, ev, gt, hp, ofV, constT, intT, List.length_map]
            refine WO_nil ?_
            refine W_cond (t := true) rfl (fun _ => ?_) (fun h => by cases h)
            refine W_seq ?_
            refine W_region ?_
            refine WO_op rfl rfl rfl ?_; simp only [putT, st, ev, gt, hp, ofV, constT, intT, List.length_map]
            refine WO_nil ?_
            refine W_ret ?_
            obtain rfl := Option.some.inj H1
            obtain rfl := Option.some.inj H
            exact told3 rfl
          · replace H1 := fl hc H1
            simp only [putT, st, ev, gt, hp, ofV, constT, intT, List.length_map]
            iterate 2 (refine WO_want rfl rfl rfl ?_; simp only [putT, st, ev, gt, hp, ofV, constT, intT, List.length_map])
            obtain ⟨c5, hc5, H1⟩ := bnd H1
            refine WO_want rfl rfl (ev_sx hc5 rfl rfl rfl rfl) ?_; simp only [putT, st, ev, gt, hp, ofV, constT, intT, List.length_map]
            obtain ⟨x6, hx6, H1⟩ := bnd H1
            refine WO_want (x := .c (cB x6)) (σ' := ⟨[], [], []⟩) rfl rfl (ev_callG (al := [.c (cI .u8 (byte c5))]) (ls := []) (impl_isDigit_ok hx6) rfl rfl rfl rfl rfl (by decide) rfl rfl rfl rfl rfl rfl) ?_; simp only [putT, st, ev, gt, hp, ofV, constT, intT, List.length_map]
            iterate 2 (refine WO_want rfl rfl rfl ?_; simp only [putT, st, ev, gt, hp, ofV, constT, intT, List.length_map])
            refine WO_if rfl rfl rfl (fun hc => ?_) (fun hc => ?_)
            · replace H1 := tr hc H1
              simp only [putT, st, ev, gt, hp, ofV, constT, intT, List.length_map]
              iterate 2 (refine WO_want rfl rfl rfl ?_; simp only [putT, st, ev, gt, hp, ofV, constT, intT, List.length_map])
              obtain ⟨c7, hc7, H1⟩ := bnd H1
              refine WO_want rfl rfl (ev_sx hc7 rfl rfl rfl rfl) ?_; simp only [putT, st, ev, gt, hp, ofV, constT, intT, List.length_map]
              refine WO_want rfl rfl rfl ?_; simp only [putT, st, ev, gt, hp, ofV, constT, intT, List.length_map]
              iterate 2 (refine WO_want (x := .c (cB ((byte c7) != 45))) rfl rfl rfl ?_; simp only [putT, st, ev, gt, hp, ofV, constT, intT, List.length_map])
              refine WO_op (x := .c (cB ((byte c7) != 45))) rfl rfl rfl ?_; simp only [putT, st, ev, gt, hp, ofV, constT, intT, List.length_map]
              refine WO_nil ?_
              refine W_cond rfl (fun hc => ?_) (fun hc => ?_)
              · replace H1 := tr hc H1
                refine W_seq ?_
                refine W_region ?_
                refine WO_op rfl rfl rfl ?_; simp only [putT, st, ev, gt, hp, ofV, constT, intT, List.length_map]
                refine WO_nil ?_
                refine W_ret ?_
                obtain rfl := Option.some.inj H1
                obtain rfl := Option.some.inj H
                exact told3 rfl
              · replace H1 := fl hc H1
                refine W_skip ?_
                refine W_region ?_
                iterate 2 (refine WO_op rfl rfl rfl ?_; simp only [putT, st, ev, gt, hp, ofV, constT, intT, List.length_map])
                refine WO_nil ?_
                exact hW1 _ _ (IH1 _ _ H1 rfl) (le_intro [] [] (by decide) (by decide) rfl (by simp [leS, leT, leA, gt]) (by simp [leB, leT, leA]) (by simp [leR]))
            · replace H1 := fl hc H1
              simp only [putT, st, ev, gt, hp, ofV, constT, intT, List.length_map]
              refine WO_skip rfl rfl ?_; simp only [putT, st, ev, gt, hp, ofV, constT, intT, List.length_map]
              refine WO_skip rfl rfl ?_; simp only [putT, st, ev, gt, hp, ofV, constT, intT, List.length_map]
              refine WO_skip rfl rfl ?_; simp only [putT, st, ev, gt, hp, ofV, constT, intT, List.length_map]
              refine WO_skip rfl rfl ?_; simp only [putT, st, ev, gt, hp, ofV, constT, intT, List.length_map]
              iterate 2 (refine WO_want (x := .c (cB false)) rfl rfl rfl ?_; simp only [putT, st, ev, gt, hp, ofV, constT, intT, List.length_map])
              refine WO_op (x := .c (cB false)) rfl rfl rfl ?_; simp only [putT, st, ev, gt, hp, ofV, constT, intT, List.length_map]
              refine WO_nil ?_
              refine W_cond (t := false) rfl (fun h => by cases h) (fun _ => ?_)
              refine W_skip ?_
              refine W_region ?_
              iterate 2 (refine WO_op rfl rfl rfl ?_; simp only [putT, st, ev, gt, hp, ofV, constT, intT, List.length_map])
              refine WO_nil ?_
              exact hW1 _ _ (IH1 _ _ H1 rfl) (le_intro [] [] (by decide) (by decide) rfl (by simp [leS, leT, leA, gt]) (by simp [leB, leT, leA]) (by simp [leR]))
        · replace H1 := fl hc H1
          simp only [putT, st, ev, gt, hp, ofV, constT, intT, List.length_map]
          refine WO_skip rfl rfl ?_; simp only [putT, st, ev, gt, hp, ofV, constT, intT, List.length_map]
          refine WO_skip rfl rfl ?_; simp only [putT, st, ev, gt, hp, ofV, constT, intT, List.length_map]
          refine WO_skip rfl rfl ?_; simp only [putT, st, ev, gt, hp, ofV, constT, intT, List.length_map]
          refine WO_skip rfl rfl ?_; simp only [putT, st, ev, gt, hp, ofV, constT, intT, List.length_map]
          refine WO_skip rfl rfl ?_; simp only [putT, st, ev, gt, hp, ofV, constT, intT, List.length_map]
          refine WO_skip rfl rfl ?_; simp only [putT, st, ev, gt, hp, ofV, constT, intT, List.length_map]
          refine WO_skip rfl rfl ?_; simp only [putT, st, ev, gt, hp, ofV, constT, intT, List.length_map]
          refine WO_skip rfl rfl ?_; simp only [putT, st, ev, gt, hp, ofV, constT, intT, List.length_map]
          refine WO_skip rfl rfl ?_; simp only [putT, st, ev, gt, hp, ofV, constT, intT, List.length_map]
          refine WO_skip rfl rfl ?_; simp only [putT, st, ev, gt, hp, ofV, constT, intT, List.length_map]
          refine WO_skip rfl rfl ?_; simp only [putT, st, ev, gt, hp, ofV, constT, intT, List.length_map]
          refine WO_skip rfl rfl ?_; simp only [putT, st, ev, gt, hp, ofV, constT, intT, List.length_map]
          refine WO_skip rfl rfl ?_; simp only [putT, st, ev, gt, hp, ofV, constT, intT, List.length_map]
          refine WO_skip rfl rfl ?_; simp only [putT, st, ev, gt, hp, ofV, constT, intT, List.length_map]
          refine WO_skip rfl rfl ?_; simp only [putT, st, ev, gt, hp, ofV, constT, intT, List.length_map]
          refine WO_op (x := .c (cB false)) rfl rfl rfl ?_; simp only [putT, st, ev, gt, hp, ofV, constT, intT, List.length_map]
          refine WO_nil ?_
          refine W_cond (t := false) rfl (fun h => by cases h) (fun _ => ?_)
          refine W_skip ?_
          refine W_region ?_
          iterate 2 (refine WO_op rfl rfl rfl ?_; simp only [putT, st, ev, gt, hp, ofV, constT, intT, List.length_map])
          refine WO_nil ?_
          exact hW1 _ _ (IH1 _ _ H1 rfl) (le_intro [] [] (by decide) (by decide) rfl (by simp [leS, leT, leA, gt]) (by simp [leB, leT, leA]) (by simp [leR]))
      · replace H1 := fl hc H1
        simp only [putT, st, ev, gt, hp, ofV, constT, intT, List.length_map]
        refine WO_skip rfl rfl ?_; simp only [putT, st, ev, gt, hp, ofV, constT, intT, List.length_map]
        refine WO_skip rfl rfl ?_; simp only [putT, st, ev, gt, hp, ofV, constT, intT, List.length_map]
        refine WO_skip rfl rfl ?_; simp only [putT, st, ev, gt, hp, ofV, constT, intT, List.length_map]
        refine WO_skip rfl rfl ?_; simp only [putT, st, ev, gt, hp, ofV, constT, intT, List.length_map]
        refine WO_op (x := .c (cB false)) rfl rfl rfl ?_; simp only [putT, st, ev, gt, hp, ofV, constT, intT, List.length_map]
        refine WO_op rfl rfl rfl ?_; simp only [putT, st, ev, gt, hp, ofV, constT, intT, List.length_map]
        refine WO_nil ?_
        refine W_seq ?_
        refine W_region ?_
        iterate 3 (refine WO_op rfl rfl rfl ?_; simp only [putT, st, ev, gt, hp, ofV, constT, intT, List.length_map])
        refine WO_if rfl rfl rfl (fun hc => ?_) (fun hc => ?_)
        · replace H1 := tr hc H1
          simp only [putT, st, ev, gt, hp, ofV, constT, intT, List.length_map]
          iterate 3 (refine WO_want rfl rfl rfl ?_; simp only [putT, st, ev, gt, hp, ofV, constT, intT, List.length_map])
          refine WO_if rfl rfl rfl (fun hc => ?_) (fun hc => ?_)
          · replace H1 := tr hc H1
            simp only [putT, st, ev, gt, hp, ofV, constT, intT, List.length_map]
            refine WO_skip rfl rfl ?_; simp only [putT, st, ev, gt, hp, ofV, constT, intT, List.length_map]
            refine WO_skip rfl rfl ?_; simp only [putT, st, ev, gt, hp, ofV, constT, intT, List.length_map]
            refine WO_skip rfl rfl ?_; simp only [putT, st, ev, gt, hp, ofV, constT, intT, List.length_map]
            refine WO_skip rfl rfl ?_; simp only [putT, st, ev, gt, hp, ofV, constT, intT, List.length_map]
            refine WO_skip rfl rfl ?_; simp only [putT, st, ev, gt, hp, ofV, constT, intT, List.length_map]
            refine WO_skip rfl rfl ?_; simp only [putT, st, ev, gt, hp, ofV, constT, intT, List.length_map]
            refine WO_skip rfl rfl ?_; simp only [putT, st, ev, gt, hp, ofV, constT, intT, List.length_map]
            refine WO_skip rfl rfl ?_; simp only [putT, st, ev, gt, hp, ofV, constT, intT, List.length_map]
            refine WO_skip rfl rfl ?_; simp only [putT, st, ev, gt, hp, ofV, constT, intT, List.length_map]
            refine WO_skip rfl rfl ?_; simp only [putT, st, ev, gt, hp, ofV, constT, intT, List.length_map]
            refine WO_skip rfl rfl ?_; simp only [putT, st, ev, gt, hp, ofV, constT, intT, List.length_map]
            refine WO_want (x := .c (cB true)) rfl rfl rfl ?_; simp only [putT, st, ev, gt, hp, ofV, constT, intT, List.length_map]
            refine WO_op (x := .c (cB true)) rfl rfl rfl ?_; simp only [putT, st, ev, gt, hp, ofV, constT, intT, List.length_map]
            refine WO_nil ?_
            refine W_cond (t := true) rfl (fun _ => ?_) (fun h => by cases h)
            refine W_seq ?_
            refine W_region ?_
            refine WO_op rfl rfl rfl ?_; simp only [putT, st, ev, gt, hp, ofV, constT, intT, List.length_map]
            refine WO_nil ?_
            refine W_ret ?_
            obtain rfl := Option.some.inj H1
            obtain rfl := Option.some.inj H
            exact told3 rfl
          · replace H1 := fl hc H1
            simp only [putT, st, ev, gt, hp, ofV, constT, intT, List.length_map]
            iterate 2 (refine WO_want rfl rfl rfl ?_; simp only [putT, st, ev, gt, hp, ofV, constT, intT, List.length_map])
            obtain ⟨c8, hc8, H1⟩ := bnd H1
            refine WO_want rfl rfl (ev_sx hc8 rfl rfl rfl rfl) ?_; simp only [putT, st, ev, gt, hp, ofV, constT, intT, List.length_map]
            obtain ⟨x9, hx9, H1⟩ := bnd H1
            refine WO_want (x := .c (cB x9)) (σ' := ⟨[], [], []⟩) rfl rfl (ev_callG (al := [.c (cI .u8 (byte c8))]) (ls := []) (impl_isDigit_ok hx9) rfl rfl rfl rfl rfl (by decide) rfl rfl rfl rfl rfl rfl) ?_; simp only [putT, st, ev, gt, hp, ofV, constT, intT, List.length_map]
            iterate 2 (refine WO_want rfl rfl rfl ?_; simp only [putT, st, ev, gt, hp, ofV, constT, intT, List.length_map])
            refine WO_if rfl rfl rfl (fun hc => ?_) (fun hc => ?_)
            · replace H1 := tr hc H1
              simp only [putT, st, ev, gt, hp, ofV, constT, intT, List.length_map]
              iterate 2 (refine WO_want rfl rfl rfl ?_; simp only [putT, st, ev, gt, hp, ofV, constT, intT, List.length_map])
              obtain ⟨c10, hc10, H1⟩ := bnd H1
              refine WO_want rfl rfl (ev_sx hc10 rfl rfl rfl rfl) ?_; simp only [putT, st, ev, gt, hp, ofV, constT, intT, List.length_map]
              refine WO_want rfl rfl rfl ?_; simp only [putT, st, ev, gt, hp, ofV, constT, intT, List.length_map]
              iterate 2 (refine WO_want (x := .c (cB ((byte c10) != 45))) rfl rfl rfl ?_; simp only [putT, st, ev, gt, hp, ofV, constT, intT, List.length_map])
              refine WO_op (x := .c (cB ((byte c10) != 45))) rfl rfl rfl ?_; simp only [putT, st, ev, gt, hp, ofV, constT, intT, List.length_map]
              refine WO_nil ?_
              refine W_cond rfl (fun hc => ?_) (fun hc => ?_)
              · replace H1 := tr hc H1
                refine W_seq ?_
                refine W_region ?_
                refine WO_op rfl rfl rfl ?_; simp only [putT, st, ev, gt, hp, ofV, constT, intT, List.length_map]
                refine WO_nil ?_
                refine W_ret ?_
                obtain rfl := Option.some.inj H1
                obtain rfl := Option.some.inj H
                exact told3 rfl
              · replace H1 := fl hc H1
                refine W_skip ?_
                refine W_region ?_
                iterate 2 (refine WO_op rfl rfl rfl ?_; simp only [putT, st, ev, gt, hp, ofV, constT, intT, List.length_map])
                refine WO_nil ?_
                exact hW1 _ _ (IH1 _ _ H1 rfl) (le_intro [] [] (by decide) (by decide) rfl (by simp [leS, leT, leA, gt]) (by simp [leB, leT, leA]) (by simp [leR]))
            · replace H1 := fl hc H1
              simp only [putT, st, ev, gt, hp, ofV, constT, intT, List.length_map]
              refine WO_skip rfl rfl ?_; simp only [putT, st, ev, gt, hp, ofV, constT, intT, List.length_map]
              refine WO_skip rfl rfl ?_; simp only [putT, st, ev, gt, hp, ofV, constT, intT, List.length_map]
              refine WO_skip rfl rfl ?_; simp only [putT, st, ev, gt, hp, ofV, constT, intT, List.length_map]
              refine WO_skip rfl rfl ?_; simp only [putT, st, ev, gt, hp, ofV, constT, intT, List.length_map]
              iterate 2 (refine WO_want (x := .c (cB false)) rfl rfl rfl ?_; simp only [putT, st, ev, gt, hp, ofV, constT, intT, List.length_map])
              refine WO_op (x := .c (cB false)) rfl rfl rfl ?_; simp only [putT, st, ev, gt, hp, ofV, constT, intT, List.length_map]
              refine WO_nil ?_
              refine W_cond (t := false) rfl (fun h => by cases h) (fun _ => ?_)
              refine W_skip ?_
              refine W_region ?_
              iterate 2 (refine WO_op rfl rfl rfl ?_; simp only [putT, st, ev, gt, hp, ofV, constT, intT, List.length_map])
              refine WO_nil ?_
              exact hW1 _ _ (IH1 _ _ H1 rfl) (le_intro [] [] (by decide) (by decide) rfl (by simp [leS, leT, leA, gt]) (by simp [leB, leT, leA]) (by simp [leR]))
        · replace H1 := fl hc H1
          simp only [putT, st, ev, gt, hp, ofV, constT, intT, List.length_map]
          refine WO_skip rfl rfl ?_; simp only [putT, st, ev, gt, hp, ofV, constT, intT, List.length_map]
          refine WO_skip rfl rfl ?_; simp only [putT, st, ev, gt, hp, ofV, constT, intT, List.length_map]
          refine WO_skip rfl rfl ?_; simp only [putT, st, ev, gt, hp, ofV, constT, intT, List.length_map]
          refine WO_skip rfl rfl ?_; simp only [putT, st, ev, gt, hp, ofV, constT, intT, List.length_map]
          refine WO_skip rfl rfl ?_; simp only [putT, st, ev, gt, hp, ofV, constT, intT, List.length_map]
          refine WO_skip rfl rfl ?_; simp only [putT, st, ev, gt, hp, ofV, constT, intT, List.length_map]
          refine WO_skip rfl rfl ?_; simp only [putT, st, ev, gt, hp, ofV, constT, intT, List.length_map]
          refine WO_skip rfl rfl ?_; simp only [putT, st, ev, gt, hp, ofV, constT, intT, List.length_map]
          refine WO_skip rfl rfl ?_; simp only [putT, st, ev, gt, hp, ofV, constT, intT, List.length_map]
          refine WO_skip rfl rfl ?_; simp only [putT, st, ev, gt, hp, ofV, constT, intT, List.length_map]
          refine WO_skip rfl rfl ?_; simp only [putT, st, ev, gt, hp, ofV, constT, intT, List.length_map]
          refine WO_skip rfl rfl ?_; simp only [putT, st, ev, gt, hp, ofV, constT, intT, List.length_map]
          refine WO_skip rfl rfl ?_; simp only [putT, st, ev, gt, hp, ofV, constT, intT, List.length_map]
          refine WO_skip rfl rfl ?_; simp only [putT, st, ev, gt, hp, ofV, constT, intT, List.length_map]
          refine WO_skip rfl rfl ?_; simp only [putT, st, ev, gt, hp, ofV, constT, intT, List.length_map]
          refine WO_op (x := .c (cB false)) rfl rfl rfl ?_; simp only [putT, st, ev, gt, hp, ofV, constT, intT, List.length_map]
          refine WO_nil ?_
          refine W_cond (t := false) rfl (fun h => by cases h) (fun _ => ?_)
          refine W_skip ?_
          refine W_region ?_
          iterate 2 (refine WO_op rfl rfl rfl ?_; simp only [putT, st, ev, gt, hp, ofV, constT, intT, List.length_map])
          refine WO_nil ?_
          exact hW1 _ _ (IH1 _ _ H1 rfl) (le_intro [] [] (by decide) (by decide) rfl (by simp [leS, leT, leA, gt]) (by simp [leB, leT, leA]) (by simp [leR]))
    · replace H1 := fl hc H1
      refine W_exit ?_
      obtain rfl := Option.some.inj H1
      exact hX1 () _ rfl (le_intro [] [] (by decide) (by decide) rfl (by simp [leS, leT, leA, gt]) (by simp [leB, leT, leA]) (by simp [leR]))
set_option maxRecDepth 20000 in
set_option maxHeartbeats 1000000 in
theorem impl_isValue_ok {a1 : Int} {r : Bool} (H : impl_isValue a1 = some r) : R 80 [.c (cI .i64 a1) none] = some (.c (cB r) none, []) := by
  unfold impl_isValue at H
  refine Fz_walk 5 rfl rfl Try.func80 rfl (by kernel_rfl) rfl rfl rfl rfl ?_
  simp only [tellVs, tellV, tells, tell, st0, padT, SX.newRow, SX.newBox, List.length_cons, List.length_nil, Nat.reduceAdd, Nat.reduceSub, List.replicate, List.cons_append, List.nil_append]
  refine W_seq ?_
  refine W_region ?_
  refine WO_op rfl rfl rfl ?_; simp only [putT, st, ev, gt, hp, ofV, constT, intT, List.length_map]
  refine WO_nil ?_
  refine W_seq ?_
  refine W_region ?_
  refine WO_op rfl rfl rfl ?_; simp only [putT, st, ev, gt, hp, ofV, constT, intT, List.length_map]
  obtain ⟨x2, hx2, H⟩ := bnd H
  refine WO_op (x := .c (cB x2)) (σ' := ⟨[], [], []⟩) rfl rfl (ev_callG (al := [.c (cI .i64 a1), .c (cI .i64 0), .c (cI .i64 1000000)]) (ls := []) (impl_from_ok hx2) rfl rfl rfl rfl rfl (by decide) rfl rfl rfl rfl rfl rfl) ?_; simp only [putT, st, ev, gt, hp, ofV, constT, intT, List.length_map]
  refine WO_op rfl rfl rfl ?_; simp only [putT, st, ev, gt, hp, ofV, constT, intT, List.length_map]
  refine WO_nil ?_
  refine W_ret ?_
  obtain rfl := Option.some.inj H
  exact told3 rfl
set_option maxRecDepth 20000 in
set_option maxHeartbeats 1000000 in
theorem impl_SamplesOk_ok {a1 : List Sample} {r : Bool} (H : impl_SamplesOk a1 = some r) : R 35 [.c (cL enc_Sample a1) none] = some (.c (cB r) none, []) := by
  unfold impl_SamplesOk at H
  refine Fz_walk 41 rfl rfl Try.func35 rfl (by kernel_rfl) rfl rfl rfl rfl ?_
  simp only [tellVs, tellV, tells, tell, st0, padT, SX.newRow, SX.newBox, List.length_cons, List.length_nil, Nat.reduceAdd, Nat.reduceSub, List.replicate, List.cons_append, List.nil_append]
  refine W_seq ?_
  refine W_region ?_
  refine WO_op rfl rfl rfl ?_; simp only [putT, st, ev, gt, hp, ofV, constT, intT, List.length_map]
  refine WO_nil ?_
  refine W_seq ?_
  refine W_seq ?_
  refine W_region ?_
  iterate 3 (refine WO_op rfl rfl rfl ?_; simp only [putT, st, ev, gt, hp, ofV, constT, intT, List.length_map])
  refine WO_nil ?_
  refine W_block ?_
  obtain ⟨s8, hs8, H⟩ := bnd H
  refine loop_rule (ls := []) 0 (fun t7 : Unit => ⟨[.c (cL enc_Sample a1)], [], []⟩) (fun t => s8 = .inr t) ⟨[.c (cL enc_Sample a1), .no, .no, .no, .no, .c (cL enc_Sample a1), .c (cI .i64 (a1.length : Int)), .c (cI .i64 0)], [], []⟩ (by repeat (first | exact mono_told | refine mono_seq ?_ | refine mono_blk ?_ | refine mono_lp ?_)) (le_intro [] [] (by decide) (by decide) rfl (by simp [leS, leT, leA, gt]) (by simp [leB, leT, leA]) (by simp [leR])) ?_ ?_
  · rintro t7 rfl
    refine W_seq ?_
    refine W_region ?_
    iterate 4 (refine WO_op rfl rfl rfl ?_; simp only [putT, st, ev, gt, hp, ofV, constT, intT, List.length_map])
    refine WO_nil ?_
    refine W_ret ?_
    obtain rfl := Option.some.inj H
    exact told3 rfl
  · intro V1 hV1 hW1 hX1
    refine impl_SamplesOk.l0.partial_correctness a1 (fun v2 s' => s' = s8 → V1 ⟨[.c (cL enc_Sample a1), .no, .no, .no, .no, .c (cL enc_Sample a1), .c (cI .i64 (a1.length : Int)), .c (cI .i64 v2)], [], []⟩) ?_ _ _ hs8 rfl
    intro l0 IH1 v2 s' H1 e
    subst e
    refine hV1 _ ?_
    refine W_seq ?_
    refine W_region ?_
    refine WO_op rfl rfl rfl ?_; simp only [putT, st, ev, gt, hp, ofV, constT, intT, List.length_map]
    refine WO_nil ?_
    refine W_seq ?_
    refine W_cond rfl (fun hc => ?_) (fun hc => ?_)
    · replace H1 := tr hc H1
      refine W_skip ?_
      refine W_seq ?_
      refine W_block ?_
      refine W_seq ?_
      refine W_region ?_
      refine WO_op rfl rfl rfl ?_; simp only [putT, st, ev, gt, hp, ofV, constT, intT, List.length_map]
      obtain ⟨x3, hx3, H1⟩ := bnd H1
      refine WO_op rfl rfl (ev_ix (en := enc_Sample) hx3 rfl rfl rfl rfl rfl rfl rfl) ?_; simp only [putT, st, ev, gt, hp, ofV, constT, intT, List.length_map]
      refine WO_op (x := .ag [.c (cS x3.Name), .c (cI .i64 x3.Value)]) rfl rfl rfl ?_; simp only [putT, st, ev, gt, hp, ofV, constT, intT, List.length_map]
      refine WO_op (x := .bp 0 0) (σ' := ⟨[], [some [.c (cS []), .c (cI .i64 0)]], []⟩) rfl rfl rfl ?_; simp only [putT, st, ev, gt, hp, ofV, constT, intT, List.length_map]
      refine WO_op rfl rfl rfl ?_; simp only [putT, st, ev, gt, hp, ofV, constT, intT, List.length_map]
      refine WO_op (x := .no) (σ' := ⟨[], [some [.c (cS x3.Name), .c (cI .i64 x3.Value)]], []⟩) rfl rfl rfl ?_; simp only [putT, st, ev, gt, hp, ofV, constT, intT, List.length_map]
      refine WO_nil ?_
      refine W_seq ?_
      refine W_draw (by kernel_rfl) (by kernel_rfl) ?_
      refine WO_op (x := .bp 0 0) rfl rfl rfl ?_; simp only [putT, st, ev, gt, hp, ofV, constT, intT, List.length_map]
      refine WO_op (x := .c (cS x3.Name)) rfl rfl rfl ?_; simp only [putT, st, ev, gt, hp, ofV, constT, intT, List.length_map]
      obtain ⟨x4, hx4, H1⟩ := bnd H1
      refine WO_op (x := .c (cB x4)) (σ' := ⟨[], [some [.c (cS x3.Name), .c (cI .i64 x3.Value)]], []⟩) rfl rfl (ev_callG (al := [.c (cS x3.Name)]) (ls := []) (impl_NameOk_ok hx4) rfl rfl rfl rfl rfl (by decide) rfl rfl rfl rfl rfl rfl) ?_; simp only [putT, st, ev, gt, hp, ofV, constT, intT, List.length_map]
      iterate 2 (refine WO_op rfl rfl rfl ?_; simp only [putT, st, ev, gt, hp, ofV, constT, intT, List.length_map])
      refine WO_if rfl rfl rfl (fun hc => ?_) (fun hc => ?_)
      · replace H1 := tr hc H1
        simp only [putT, st, ev, gt, hp, ofV, constT, intT, List.length_map]
        refine WO_skip rfl rfl ?_; simp only [putT, st, ev, gt, hp, ofV, constT, intT, List.length_map]
        refine WO_skip rfl rfl ?_; simp only [putT, st, ev, gt, hp, ofV, constT, intT, List.length_map]
        refine WO_skip rfl rfl ?_; simp only [putT, st, ev, gt, hp, ofV, constT, intT, List.length_map]
        refine WO_skip rfl rfl ?_; simp only [putT, st, ev, gt, hp, ofV, constT, intT, List.length_map]
        refine WO_op (x := .c (cB true)) rfl rfl rfl ?_; simp only [putT, st, ev, gt, hp, ofV, constT, intT, List.length_map]
        refine WO_op rfl rfl rfl ?_; simp only [putT, st, ev, gt, hp, ofV, constT, intT, List.length_map]
        refine WO_skip rfl rfl ?_; simp only [putT, st, ev, gt, hp, ofV, constT, intT, List.length_map]
        refine WO_skip rfl rfl ?_; simp only [putT, st, ev, gt, hp, ofV, constT, intT, List.length_map]
        refine WO_skip rfl rfl ?_; simp only [putT, st, ev, gt, hp, ofV, constT, intT, List.length_map]
        refine WO_skip rfl rfl ?_; simp only [putT, st, ev, gt, hp, ofV, constT, intT, List.length_map]
        refine WO_skip rfl rfl ?_; simp only [putT, st, ev, gt, hp, ofV, constT, intT, List.length_map]
        refine WO_skip rfl rfl ?_; simp only [putT, st, ev, gt, hp, ofV, constT, intT, List.length_map]
        refine WO_skip rfl rfl ?_; simp only [putT, st, ev, gt, hp, ofV, constT, intT, List.length_map]
        refine WO_skip rfl rfl ?_; simp only [putT, st, ev, gt, hp, ofV, constT, intT, List.length_map]
        refine WO_skip rfl rfl ?_; simp only [putT, st, ev, gt, hp, ofV, constT, intT, List.length_map]
        refine WO_skip rfl rfl ?_; simp only [putT, st, ev, gt, hp, ofV, constT, intT, List.length_map]
        refine WO_skip rfl rfl ?_; simp only [putT, st, ev, gt, hp, ofV, constT, intT, List.length_map]
        refine WO_skip rfl rfl ?_; simp only [putT, st, ev, gt, hp, ofV, constT, intT, List.length_map]
        refine WO_skip rfl rfl ?_; simp only [putT, st, ev, gt, hp, ofV, constT, intT, List.length_map]
        refine WO_op (x := .c (cB true)) rfl rfl rfl ?_; simp only [putT, st, ev, gt, hp, ofV, constT, intT, List.length_map]
        refine WO_nil ?_
        refine W_cond (t := true) rfl (fun _ => ?_) (fun h => by cases h)
        refine W_seq ?_
        refine W_region ?_
        refine WO_op rfl rfl rfl ?_; simp only [putT, st, ev, gt, hp, ofV, constT, intT, List.length_map]
        refine WO_nil ?_
        refine W_ret ?_
        obtain rfl := Option.some.inj H1
        obtain rfl := Option.some.inj H
        exact told3 rfl
      · replace H1 := fl hc H1
        simp only [putT, st, ev, gt, hp, ofV, constT, intT, List.length_map]
        refine WO_want (x := .bp 0 1) rfl rfl rfl ?_; simp only [putT, st, ev, gt, hp, ofV, constT, intT, List.length_map]
        refine WO_want (x := .c (cI .i64 x3.Value)) rfl rfl rfl ?_; simp only [putT, st, ev, gt, hp, ofV, constT, intT, List.length_map]
        obtain ⟨x5, hx5, H1⟩ := bnd H1
        refine WO_want (x := .c (cB x5)) (σ' := ⟨[], [some [.c (cS x3.Name), .c (cI .i64 x3.Value)]], []⟩) rfl rfl (ev_callG (al := [.c (cI .i64 x3.Value)]) (ls := []) (impl_isValue_ok hx5) rfl rfl rfl rfl rfl (by decide) rfl rfl rfl rfl rfl rfl) ?_; simp only [putT, st, ev, gt, hp, ofV, constT, intT, List.length_map]
        refine WO_want rfl rfl rfl ?_; simp only [putT, st, ev, gt, hp, ofV, constT, intT, List.length_map]
        refine WO_op (x := .c (cB (!x5))) rfl rfl rfl ?_; simp only [putT, st, ev, gt, hp, ofV, constT, intT, List.length_map]
        refine WO_op rfl rfl rfl ?_; simp only [putT, st, ev, gt, hp, ofV, constT, intT, List.length_map]
        refine WO_if rfl rfl rfl (fun hc => ?_) (fun hc => ?_)
        · replace H1 := tr hc H1
          simp only [putT, st, ev, gt, hp, ofV, constT, intT, List.length_map]
          refine WO_skip rfl rfl ?_; simp only [putT, st, ev, gt, hp, ofV, constT, intT, List.length_map]
          refine WO_skip rfl rfl ?_; simp only [putT, st, ev, gt, hp, ofV, constT, intT, List.length_map]
          refine WO_skip rfl rfl ?_; simp only [putT, st, ev, gt, hp, ofV, constT, intT, List.length_map]
          refine WO_skip rfl rfl ?_; simp only [putT, st, ev, gt, hp, ofV, constT, intT, List.length_map]
          refine WO_skip rfl rfl ?_; simp only [putT, st, ev, gt, hp, ofV, constT, intT, List.length_map]
          refine WO_skip rfl rfl ?_; simp only [putT, st, ev, gt, hp, ofV, constT, intT, List.length_map]
          refine WO_skip rfl rfl ?_; simp only [putT, st, ev, gt, hp, ofV, constT, intT, List.length_map]
          refine WO_skip rfl rfl ?_; simp only [putT, st, ev, gt, hp, ofV, constT, intT, List.length_map]
          refine WO_skip rfl rfl ?_; simp only [putT, st, ev, gt, hp, ofV, constT, intT, List.length_map]
          refine WO_skip rfl rfl ?_; simp only [putT, st, ev, gt, hp, ofV, constT, intT, List.length_map]
          refine WO_skip rfl rfl ?_; simp only [putT, st, ev, gt, hp, ofV, constT, intT, List.length_map]
          refine WO_skip rfl rfl ?_; simp only [putT, st, ev, gt, hp, ofV, constT, intT, List.length_map]
          refine WO_skip rfl rfl ?_; simp only [putT, st, ev, gt, hp, ofV, constT, intT, List.length_map]
          refine WO_op (x := .c (cB true)) rfl rfl rfl ?_; simp only [putT, st, ev, gt, hp, ofV, constT, intT, List.length_map]
          refine WO_nil ?_
          refine W_cond (t := true) rfl (fun _ => ?_) (fun h => by cases h)
          refine W_seq ?_
          refine W_region ?_
          refine WO_op rfl rfl rfl ?_; simp only [putT, st, ev, gt, hp, ofV, constT, intT, List.length_map]
          refine WO_nil ?_
          refine W_ret ?_
          obtain rfl := Option.some.inj H1
          obtain rfl := Option.some.inj H
          exact told3 rfl
        · replace H1 := fl hc H1
          simp only [putT, st, ev, gt, hp, ofV, constT, intT, List.length_map]
          iterate 3 (refine WO_want rfl rfl rfl ?_; simp only [putT, st, ev, gt, hp, ofV, constT, intT, List.length_map])
          refine WO_if rfl rfl rfl (fun hc => ?_) (fun hc => ?_)
          · replace H1 := tr hc H1
            simp only [putT, st, ev, gt, hp, ofV, constT, intT, List.length_map]
            iterate 3 (refine WO_want rfl rfl rfl ?_; simp only [putT, st, ev, gt, hp, ofV, constT, intT, List.length_map])
            obtain ⟨x6, hx6, H1⟩ := bnd H1
            refine WO_want rfl rfl (ev_ix (en := enc_Sample) hx6 rfl rfl rfl rfl rfl rfl rfl) ?_; simp only [putT, st, ev, gt, hp, ofV, constT, intT, List.length_map]
            refine WO_want (x := .cp (enc_Sample x6) 0) rfl rfl rfl ?_; simp only [putT, st, ev, gt, hp, ofV, constT, intT, List.length_map]
            refine WO_want (x := .c (cS x6.Name)) rfl rfl rfl ?_; simp only [putT, st, ev, gt, hp, ofV, constT, intT, List.length_map]
            refine WO_want (x := .bp 0 0) rfl rfl rfl ?_; simp only [putT, st, ev, gt, hp, ofV, constT, intT, List.length_map]
            refine WO_want (x := .c (cS x3.Name)) rfl rfl rfl ?_; simp only [putT, st, ev, gt, hp, ofV, constT, intT, List.length_map]
            refine WO_want rfl rfl (ev_geq_s rfl rfl rfl) ?_; simp only [putT, st, ev, gt, hp, ofV, constT, intT, List.length_map]
            refine WO_want (x := .c (cB (!(slt x6.Name x3.Name)))) rfl rfl rfl ?_; simp only [putT, st, ev, gt, hp, ofV, constT, intT, List.length_map]
            refine WO_op (x := .c (cB (!(slt x6.Name x3.Name)))) rfl rfl rfl ?_; simp only [putT, st, ev, gt, hp, ofV, constT, intT, List.length_map]
            refine WO_nil ?_
            refine W_cond rfl (fun hc => ?_) (fun hc => ?_)
            · replace H1 := tr hc H1
              refine W_seq ?_
              refine W_region ?_
              refine WO_op rfl rfl rfl ?_; simp only [putT, st, ev, gt, hp, ofV, constT, intT, List.length_map]
              refine WO_nil ?_
              refine W_ret ?_
              obtain rfl := Option.some.inj H1
              obtain rfl := Option.some.inj H
              exact told3 rfl
            · replace H1 := fl hc H1
              refine W_skip ?_
              refine W_region ?_
              iterate 2 (refine WO_op rfl rfl rfl ?_; simp only [putT, st, ev, gt, hp, ofV, constT, intT, List.length_map])
              refine WO_nil ?_
              exact hW1 _ _ (IH1 _ _ H1 rfl) (le_intro [] [] (by decide) (by decide) rfl (by simp [leS, leT, leA, gt]) (by simp [leB, leT, leA]) (by simp [leR]))
          · replace H1 := fl hc H1
            simp only [putT, st, ev, gt, hp, ofV, constT, intT, List.length_map]
            refine WO_skip rfl rfl ?_; simp only [putT, st, ev, gt, hp, ofV, constT, intT, List.length_map]
            refine WO_skip rfl rfl ?_; simp only [putT, st, ev, gt, hp, ofV, constT, intT, List.length_map]
            refine WO_skip rfl rfl ?_; simp only [putT, st, ev, gt, hp, ofV, constT, intT, List.length_map]
            refine WO_skip rfl rfl ?_; simp only [putT, st, ev, gt, hp, ofV, constT, intT, List.length_map]
            refine WO_skip rfl rfl ?_; simp only [putT, st, ev, gt, hp, ofV, constT, intT, List.length_map]
            refine WO_skip rfl rfl ?_; simp only [putT, st, ev, gt, hp, ofV, constT, intT, List.length_map]
            refine WO_skip rfl rfl ?_; simp only [putT, st, ev, gt, hp, ofV, constT, intT, List.length_map]
            refine WO_skip rfl rfl ?_; simp only [putT, st, ev, gt, hp, ofV, constT, intT, List.length_map]
            refine WO_skip rfl rfl ?_; simp only [putT, st, ev, gt, hp, ofV, constT, intT, List.length_map]
            refine WO_want (x := .c (cB false)) rfl rfl rfl ?_; simp only [putT, st, ev, gt, hp, ofV, constT, intT, List.length_map]
            refine WO_op (x := .c (cB false)) rfl rfl rfl ?_; simp only [putT, st, ev, gt, hp, ofV, constT, intT, List.length_map]
            refine WO_nil ?_
            refine W_cond (t := false) rfl (fun h => by cases h) (fun _ => ?_)
            refine W_skip ?_
            refine W_region ?_
            iterate 2 (refine WO_op rfl rfl rfl ?_; simp only [putT, st, ev, gt, hp, ofV, constT, intT, List.length_map])
            refine WO_nil ?_
            exact hW1 _ _ (IH1 _ _ H1 rfl) (le_intro [] [] (by decide) (by decide) rfl (by simp [leS, leT, leA, gt]) (by simp [leB, leT, leA]) (by simp [leR]))
    · replace H1 := fl hc H1
      refine W_exit ?_
      obtain rfl := Option.some.inj H1
      exact hX1 () _ rfl (le_intro [] [] (by decide) (by decide) rfl (by simp [leS, leT, leA, gt]) (by simp [leB, leT, leA]) (by simp [leR]))
set_option maxRecDepth 20000 in
set_option maxHeartbeats 1000000 in
theorem laws_eqSample_ok {a1 : Sample} {a2 : Sample} {r : Bool} (H : laws_eqSample a1 a2 = some r) : R 71 [.ag [(cS a1.Name, none), (cI .i64 a1.Value, none)], .ag [(cS a2.Name, none), (cI .i64 a2.Value, none)]] = some (.c (cB r) none, []) := by
  unfold laws_eqSample at H
  refine Fz_walk 15 rfl rfl Try.func71 rfl (by kernel_rfl) rfl rfl rfl rfl ?_
  simp only [tellVs, tellV, tells, tell, st0, padT, SX.newRow, SX.newBox, List.length_cons, List.length_nil, Nat.reduceAdd, Nat.reduceSub, List.replicate, List.cons_append, List.nil_append]
  refine W_seq ?_
  refine W_region ?_
  refine WO_op (x := .bp 0 0) (σ' := ⟨[], [some [.c (cS a1.Name), .c (cI .i64 a1.Value)]], []⟩) rfl rfl rfl ?_; simp only [putT, st, ev, gt, hp, ofV, constT, intT, List.length_map]
  refine WO_op (x := .bp 1 0) (σ' := ⟨[], [some [.c (cS a1.Name), .c (cI .i64 a1.Value)], some [.c (cS a2.Name), .c (cI .i64 a2.Value)]], []⟩) rfl rfl rfl ?_; simp only [putT, st, ev, gt, hp, ofV, constT, intT, List.length_map]
  refine WO_op rfl rfl rfl ?_; simp only [putT, st, ev, gt, hp, ofV, constT, intT, List.length_map]
  refine WO_nil ?_
  refine W_seq ?_
  refine W_seq ?_
  refine W_region ?_
  refine WO_op (x := .bp 0 0) rfl rfl rfl ?_; simp only [putT, st, ev, gt, hp, ofV, constT, intT, List.length_map]
  refine WO_op (x := .c (cS a1.Name)) rfl rfl rfl ?_; simp only [putT, st, ev, gt, hp, ofV, constT, intT, List.length_map]
  refine WO_op (x := .bp 1 0) rfl rfl rfl ?_; simp only [putT, st, ev, gt, hp, ofV, constT, intT, List.length_map]
  refine WO_op (x := .c (cS a2.Name)) rfl rfl rfl ?_; simp only [putT, st, ev, gt, hp, ofV, constT, intT, List.length_map]
  refine WO_op rfl rfl (ev_neq_s rfl rfl rfl) ?_; simp only [putT, st, ev, gt, hp, ofV, constT, intT, List.length_map]
  refine WO_nil ?_
  refine W_cond rfl (fun hc => ?_) (fun hc => ?_)
  · replace H := tr hc H
    refine W_seq ?_
    refine W_region ?_
    refine WO_op rfl rfl rfl ?_; simp only [putT, st, ev, gt, hp, ofV, constT, intT, List.length_map]
    refine WO_nil ?_
    refine W_ret ?_
    obtain rfl := Option.some.inj H
    exact told3 rfl
  · replace H := fl hc H
    refine W_skip ?_
    refine W_seq ?_
    refine W_seq ?_
    refine W_region ?_
    refine WO_op (x := .bp 0 1) rfl rfl rfl ?_; simp only [putT, st, ev, gt, hp, ofV, constT, intT, List.length_map]
    refine WO_op (x := .c (cI .i64 a1.Value)) rfl rfl rfl ?_; simp only [putT, st, ev, gt, hp, ofV, constT, intT, List.length_map]
    refine WO_op (x := .bp 1 1) rfl rfl rfl ?_; simp only [putT, st, ev, gt, hp, ofV, constT, intT, List.length_map]
    refine WO_op (x := .c (cI .i64 a2.Value)) rfl rfl rfl ?_; simp only [putT, st, ev, gt, hp, ofV, constT, intT, List.length_map]
    refine WO_op rfl rfl rfl ?_; simp only [putT, st, ev, gt, hp, ofV, constT, intT, List.length_map]
    refine WO_nil ?_
    refine W_cond rfl (fun hc => ?_) (fun hc => ?_)
    · replace H := tr hc H
      refine W_seq ?_
      refine W_region ?_
      refine WO_op rfl rfl rfl ?_; simp only [putT, st, ev, gt, hp, ofV, constT, intT, List.length_map]
      refine WO_nil ?_
      refine W_ret ?_
      obtain rfl := Option.some.inj H
      exact told3 rfl
    · replace H := fl hc H
      refine W_skip ?_
      refine W_seq ?_
      refine W_region ?_
      refine WO_op rfl rfl rfl ?_; simp only [putT, st, ev, gt, hp, ofV, constT, intT, List.length_map]
      refine WO_nil ?_
      refine W_ret ?_
      obtain rfl := Option.some.inj H
      exact told3 rfl
set_option maxRecDepth 20000 in
set_option maxHeartbeats 1000000 in
theorem laws_eqSampleS_ok {a1 : List Sample} {a2 : List Sample} {r : Bool} (H : laws_eqSampleS a1 a2 = some r) : R 24 [.c (cL enc_Sample a1) none, .c (cL enc_Sample a2) none] = some (.c (cB r) none, []) := by
  unfold laws_eqSampleS at H
  refine Fz_walk 27 rfl rfl Try.func24 rfl (by kernel_rfl) rfl rfl rfl rfl ?_
  simp only [tellVs, tellV, tells, tell, st0, padT, SX.newRow, SX.newBox, List.length_cons, List.length_nil, Nat.reduceAdd, Nat.reduceSub, List.replicate, List.cons_append, List.nil_append]
  refine W_seq ?_
  refine W_region ?_
  refine WO_op rfl rfl rfl ?_; simp only [putT, st, ev, gt, hp, ofV, constT, intT, List.length_map]
  refine WO_nil ?_
  refine W_seq ?_
  refine W_seq ?_
  refine W_region ?_
  iterate 5 (refine WO_op rfl rfl rfl ?_; simp only [putT, st, ev, gt, hp, ofV, constT, intT, List.length_map])
  refine WO_nil ?_
  refine W_cond rfl (fun hc => ?_) (fun hc => ?_)
  · replace H := tr hc H
    refine W_seq ?_
    refine W_region ?_
    refine WO_op rfl rfl rfl ?_; simp only [putT, st, ev, gt, hp, ofV, constT, intT, List.length_map]
    refine WO_nil ?_
    refine W_ret ?_
    obtain rfl := Option.some.inj H
    exact told3 rfl
  · replace H := fl hc H
    refine W_skip ?_
    refine W_seq ?_
    refine W_seq ?_
    refine W_region ?_
    refine WO_op rfl rfl rfl ?_; simp only [putT, st, ev, gt, hp, ofV, constT, intT, List.length_map]
    refine WO_nil ?_
    refine W_block ?_
    obtain ⟨s8, hs8, H⟩ := bnd H
    refine loop_rule (ls := []) 0 (fun t7 : Unit => ⟨[], [], []⟩) (fun t => s8 = .inr t) ⟨[.c (cL enc_Sample a1), .c (cL enc_Sample a2), .no, .no, .no, .c (cI .i64 0)], [], []⟩ (by repeat (first | exact mono_told | refine mono_seq ?_ | refine mono_blk ?_ | refine mono_lp ?_)) (le_intro [] [] (by decide) (by decide) rfl (by simp [leS, leT, leA, gt]) (by simp [leB, leT, leA]) (by simp [leR])) ?_ ?_
    · rintro t7 rfl
      refine W_seq ?_
      refine W_region ?_
      refine WO_op rfl rfl rfl ?_; simp only [putT, st, ev, gt, hp, ofV, constT, intT, List.length_map]
      refine WO_nil ?_
      refine W_ret ?_
      obtain rfl := Option.some.inj H
      exact told3 rfl
    · intro V1 hV1 hW1 hX1
      refine laws_eqSampleS.l0.partial_correctness a1 a2 (fun v3 s' => s' = s8 → V1 ⟨[.c (cL enc_Sample a1), .c (cL enc_Sample a2), .no, .no, .no, .c (cI .i64 v3)], [], []⟩) ?_ _ _ hs8 rfl
      intro l0 IH1 v3 s' H1 e
      subst e
      refine hV1 _ ?_
      refine W_seq ?_
      refine W_seq ?_
      refine W_region ?_
      iterate 4 (refine WO_op rfl rfl rfl ?_; simp only [putT, st, ev, gt, hp, ofV, constT, intT, List.length_map])
      refine WO_nil ?_
      refine W_cond rfl (fun hc => ?_) (fun hc => ?_)
      · replace H1 := tr hc H1
        refine W_skip ?_
        refine W_seq ?_
        refine W_block ?_
        refine W_seq ?_
        refine W_draw (by kernel_rfl) (by kernel_rfl) ?_
        iterate 2 (refine WO_op rfl rfl rfl ?_; simp only [putT, st, ev, gt, hp, ofV, constT, intT, List.length_map])
        obtain ⟨x4, hx4, H1⟩ := bnd H1
        refine WO_op rfl rfl (ev_ix (en := enc_Sample) hx4 rfl rfl rfl rfl rfl rfl rfl) ?_; simp only [putT, st, ev, gt, hp, ofV, constT, intT, List.length_map]
        refine WO_op (x := .ag [.c (cS x4.Name), .c (cI .i64 x4.Value)]) rfl rfl rfl ?_; simp only [putT, st, ev, gt, hp, ofV, constT, intT, List.length_map]
        iterate 2 (refine WO_op rfl rfl rfl ?_; simp only [putT, st, ev, gt, hp, ofV, constT, intT, List.length_map])
        obtain ⟨x5, hx5, H1⟩ := bnd H1
        refine WO_op rfl rfl (ev_ix (en := enc_Sample) hx5 rfl rfl rfl rfl rfl rfl rfl) ?_; simp only [putT, st, ev, gt, hp, ofV, constT, intT, List.length_map]
        refine WO_op (x := .ag [.c (cS x5.Name), .c (cI .i64 x5.Value)]) rfl rfl rfl ?_; simp only [putT, st, ev, gt, hp, ofV, constT, intT, List.length_map]
        obtain ⟨x6, hx6, H1⟩ := bnd H1
        refine WO_op (x := .c (cB x6)) (σ' := ⟨[], [], []⟩) rfl rfl (ev_callG (al := [.ag [.c (cS x4.Name), .c (cI .i64 x4.Value)], .ag [.c (cS x5.Name), .c (cI .i64 x5.Value)]]) (ls := []) (laws_eqSample_ok hx6) rfl rfl rfl rfl rfl (by decide) rfl rfl rfl rfl rfl rfl) ?_; simp only [putT, st, ev, gt, hp, ofV, constT, intT, List.length_map]
        refine WO_op rfl rfl rfl ?_; simp only [putT, st, ev, gt, hp, ofV, constT, intT, List.length_map]
        refine WO_nil ?_
        refine W_cond rfl (fun hc => ?_) (fun hc => ?_)
        · replace H1 := tr hc H1
          refine W_seq ?_
          refine W_region ?_
          refine WO_op rfl rfl rfl ?_; simp only [putT, st, ev, gt, hp, ofV, constT, intT, List.length_map]
          refine WO_nil ?_
          refine W_ret ?_
          obtain rfl := Option.some.inj H1
          obtain rfl := Option.some.inj H
          exact told3 rfl
        · replace H1 := fl hc H1
          refine W_skip ?_
          refine W_region ?_
          iterate 3 (refine WO_op rfl rfl rfl ?_; simp only [putT, st, ev, gt, hp, ofV, constT, intT, List.length_map])
          refine WO_nil ?_
          exact hW1 _ _ (IH1 _ _ H1 rfl) (le_intro [] [] (by decide) (by decide) rfl (by simp [leS, leT, leA, gt]) (by simp [leB, leT, leA]) (by simp [leR]))
      · replace H1 := fl hc H1
        refine W_exit ?_
        obtain rfl := Option.some.inj H1
        exact hX1 () _ rfl (le_intro [] [] (by decide) (by decide) rfl (by simp [leS, leT, leA, gt]) (by simp [leB, leT, leA]) (by simp [leR]))
set_option maxRecDepth 20000 in
set_option maxHeartbeats 1000000 in
theorem laws_FnExactSamplesOk_ok {a1 : List Sample} {r : Bool} (H : laws_FnExactSamplesOk a1 = some r) : R 7 [.c (cL enc_Sample a1) none] = some (.c (cB r) none, []) := by
  unfold laws_FnExactSamplesOk at H
  refine Fz_walk 27 rfl rfl Try.func7 rfl (by kernel_rfl) rfl rfl rfl rfl ?_
  simp only [tellVs, tellV, tells, tell, st0, padT, SX.newRow, SX.newBox, List.length_cons, List.length_nil, Nat.reduceAdd, Nat.reduceSub, List.replicate, List.cons_append, List.nil_append]
  refine W_seq ?_
  refine W_region ?_
  refine WO_op rfl rfl rfl ?_; simp only [putT, st, ev, gt, hp, ofV, constT, intT, List.length_map]
  refine WO_nil ?_
  refine W_seq ?_
  refine W_region ?_
  refine WO_op rfl rfl rfl ?_; simp only [putT, st, ev, gt, hp, ofV, constT, intT, List.length_map]
  refine WO_nil ?_
  refine W_seq ?_
  refine W_region ?_
  iterate 2 (refine WO_op rfl rfl rfl ?_; simp only [putT, st, ev, gt, hp, ofV, constT, intT, List.length_map])
  obtain ⟨x2, hx2, H⟩ := bnd H
  refine WO_op (x := .c (cI .i64 x2)) (σ' := ⟨[], [], []⟩) rfl rfl (ev_callG (al := [.c (cL enc_Sample a1), .c (cI .i64 1048576)]) (ls := []) (laws_szSampleS_ok hx2) rfl rfl rfl rfl rfl (by decide) rfl rfl rfl rfl rfl rfl) ?_; simp only [putT, st, ev, gt, hp, ofV, constT, intT, List.length_map]
  refine WO_op rfl rfl rfl ?_; simp only [putT, st, ev, gt, hp, ofV, constT, intT, List.length_map]
  refine WO_nil ?_
  refine W_seq ?_
  refine W_seq ?_
  refine W_region ?_
  iterate 2 (refine WO_op rfl rfl rfl ?_; simp only [putT, st, ev, gt, hp, ofV, constT, intT, List.length_map])
  refine WO_nil ?_
  refine W_cond rfl (fun hc => ?_) (fun hc => ?_)
  · replace H := tr hc H
    refine W_seq ?_
    refine W_region ?_
    refine WO_op rfl rfl rfl ?_; simp only [putT, st, ev, gt, hp, ofV, constT, intT, List.length_map]
    refine WO_nil ?_
    refine W_ret ?_
    obtain rfl := Option.some.inj H
    exact told3 rfl
  · replace H := fl hc H
    refine W_skip ?_
    refine W_seq ?_
    refine W_region ?_
    refine WO_op rfl rfl rfl ?_; simp only [putT, st, ev, gt, hp, ofV, constT, intT, List.length_map]
    obtain ⟨x3, hx3, H⟩ := bnd H
    refine WO_op (x := .row 0) (σ' := ⟨[], [], [rr 2 enc_Sample x3 true]⟩) rfl rfl (ev_callG (al := [.c (cL enc_Sample a1)]) (ls := []) (laws_toSampleS_ok hx3) rfl rfl rfl rfl rfl (by decide) rfl rfl (by simp only [flatA, flatV, flatC, List.all_cons, List.all_nil, Option.all_some, Bool.and_self, Bool.or_true, fl_Sample]) rfl rfl rfl) ?_; simp only [putT, st, ev, gt, hp, ofV, constT, intT, List.length_map]
    obtain ⟨x4, hx4, H⟩ := bnd H
    refine WO_op (x := .c (cB x4)) (σ' := ⟨[], [], [rr 2 enc_Sample x3 true]⟩) rfl rfl (ev_callG (al := [.row 0]) (ls := []) (spec_SamplesOk_ok hx4) rfl rfl rfl rfl rfl (by decide) rfl rfl rfl rfl rfl rfl) ?_; simp only [putT, st, ev, gt, hp, ofV, constT, intT, List.length_map]
    refine WO_op rfl rfl rfl ?_; simp only [putT, st, ev, gt, hp, ofV, constT, intT, List.length_map]
    refine WO_nil ?_
    refine W_seq ?_
    refine W_region ?_
    refine WO_op rfl rfl rfl ?_; simp only [putT, st, ev, gt, hp, ofV, constT, intT, List.length_map]
    obtain ⟨x5, hx5, H⟩ := bnd H
    refine WO_op (x := .row 1) (σ' := ⟨[], [], [rr 2 enc_Sample x3 true, rr 2 enc_Sample x5 true]⟩) rfl rfl (ev_callG (al := [.c (cL enc_Sample a1)]) (ls := []) (laws_toSampleS_ok hx5) rfl rfl rfl rfl rfl (by decide) rfl rfl (by simp only [flatA, flatV, flatC, List.all_cons, List.all_nil, Option.all_some, Bool.and_self, Bool.or_true, fl_Sample]) rfl rfl rfl) ?_; simp only [putT, st, ev, gt, hp, ofV, constT, intT, List.length_map]
    refine WO_op rfl rfl rfl ?_; simp only [putT, st, ev, gt, hp, ofV, constT, intT, List.length_map]
    refine WO_nil ?_
    refine W_seq ?_
    refine W_region ?_
    refine WO_op rfl rfl rfl ?_; simp only [putT, st, ev, gt, hp, ofV, constT, intT, List.length_map]
    obtain ⟨x6, hx6, H⟩ := bnd H
    refine WO_op (x := .c (cB x6)) (σ' := ⟨[], [], [rr 2 enc_Sample x3 true, rr 2 enc_Sample x5 true]⟩) rfl rfl (ev_callG (al := [.row 1]) (ls := []) (impl_SamplesOk_ok hx6) rfl rfl rfl rfl rfl (by decide) rfl rfl rfl rfl rfl rfl) ?_; simp only [putT, st, ev, gt, hp, ofV, constT, intT, List.length_map]
    refine WO_op rfl rfl rfl ?_; simp only [putT, st, ev, gt, hp, ofV, constT, intT, List.length_map]
    refine WO_nil ?_
    refine W_seq ?_
    refine W_seq ?_
    refine W_region ?_
    iterate 3 (refine WO_op rfl rfl rfl ?_; simp only [putT, st, ev, gt, hp, ofV, constT, intT, List.length_map])
    refine WO_nil ?_
    refine W_cond rfl (fun hc => ?_) (fun hc => ?_)
    · replace H := tr hc H
      refine W_seq ?_
      refine W_region ?_
      refine WO_op rfl rfl rfl ?_; simp only [putT, st, ev, gt, hp, ofV, constT, intT, List.length_map]
      refine WO_nil ?_
      refine W_ret ?_
      obtain rfl := Option.some.inj H
      exact told3 rfl
    · replace H := fl hc H
      refine W_skip ?_
      refine W_seq ?_
      refine W_seq ?_
      refine W_region ?_
      iterate 2 (refine WO_op rfl rfl rfl ?_; simp only [putT, st, ev, gt, hp, ofV, constT, intT, List.length_map])
      obtain ⟨x7, hx7, H⟩ := bnd H
      refine WO_op (x := .row 2) (σ' := ⟨[], [], [rr 2 enc_Sample x3 true, rr 2 enc_Sample x5 true, rr 2 enc_Sample x7 true]⟩) rfl rfl (ev_callG (al := [.c (cL enc_Sample a1)]) (ls := []) (laws_toSampleS_ok hx7) rfl rfl rfl rfl rfl (by decide) rfl rfl (by simp only [flatA, flatV, flatC, List.all_cons, List.all_nil, Option.all_some, Bool.and_self, Bool.or_true, fl_Sample]) rfl rfl rfl) ?_; simp only [putT, st, ev, gt, hp, ofV, constT, intT, List.length_map]
      obtain ⟨x8, hx8, H⟩ := bnd H
      refine WO_op (x := .c (cB x8)) (σ' := ⟨[], [], [rr 2 enc_Sample x3 true, rr 2 enc_Sample x5 true, rr 2 enc_Sample x7 true]⟩) rfl rfl (ev_callG (al := [.row 1, .row 2]) (ls := []) (laws_eqSampleS_ok hx8) rfl rfl rfl rfl rfl (by decide) rfl rfl rfl rfl rfl rfl) ?_; simp only [putT, st, ev, gt, hp, ofV, constT, intT, List.length_map]
      refine WO_op rfl rfl rfl ?_; simp only [putT, st, ev, gt, hp, ofV, constT, intT, List.length_map]
      refine WO_nil ?_
      refine W_cond rfl (fun hc => ?_) (fun hc => ?_)
      · replace H := tr hc H
        refine W_seq ?_
        refine W_region ?_
        refine WO_op rfl rfl rfl ?_; simp only [putT, st, ev, gt, hp, ofV, constT, intT, List.length_map]
        refine WO_nil ?_
        refine W_ret ?_
        obtain rfl := Option.some.inj H
        exact told3 rfl
      · replace H := fl hc H
        refine W_skip ?_
        refine W_seq ?_
        refine W_region ?_
        refine WO_op rfl rfl rfl ?_; simp only [putT, st, ev, gt, hp, ofV, constT, intT, List.length_map]
        refine WO_nil ?_
        refine W_ret ?_
        obtain rfl := Option.some.inj H
        exact told3 rfl
end Go.Pu
