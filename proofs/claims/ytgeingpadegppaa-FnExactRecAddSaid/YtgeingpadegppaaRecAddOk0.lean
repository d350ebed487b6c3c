import Derived.Test.YtgeingpadegppaaRecAddEn
set_option linter.unusedVariables false
set_option linter.unusedSimpArgs false
namespace Go.Pu
open Go Go.SX Go.Nt Go.Proofs
set_option maxRecDepth 20000 in
set_option maxHeartbeats 1000000 in
theorem laws_szRecS_ok {a1 : List Rec} {a2 : Int} {r : Int} (H : laws_szRecS a1 a2 = some r) : R 15 [.c (cL enc_Rec a1) none, .c (cI .i64 a2) none] = some (.c (cI .i64 r) none, []) := by
  unfold laws_szRecS at H
  refine Fz_walk 12 rfl rfl Try.func15 rfl (by kernel_rfl) rfl rfl rfl rfl ?_
  simp only [tellVs, tellV, tells, tell, st0, padT, SX.newRow, SX.newBox, List.length_cons, List.length_nil, Nat.reduceAdd, Nat.reduceSub, List.replicate, List.cons_append, List.nil_append, List.foldl_cons, List.foldl_nil]
  refine W_seq ?_
  refine W_region ?_
  refine WO_op rfl rfl rfl ?_; simp only [putT, st, ev, gt, hp, ofV, constT, intT, List.length_map]
  refine WO_nil ?_
  refine W_seq ?_
  refine W_region ?_
  iterate 5 (refine WO_op rfl rfl rfl ?_; simp only [putT, st, ev, gt, hp, ofV, constT, intT, List.length_map])
  refine WO_nil ?_
  refine W_seq ?_
  refine W_seq ?_
  refine W_region ?_
  iterate 2 (refine WO_op rfl rfl rfl ?_; simp only [putT, st, ev, gt, hp, ofV, constT, intT, List.length_map])
  refine WO_nil ?_
  refine W_cond rfl (fun hc => ?_) (fun hc => ?_)
  · replace H := tr hc H
    refine W_seq ?_
    refine W_region ?_
    refine WO_op rfl rfl rfl ?_; simp only [putT, st, ev, gt, hp, ofV, constT, intT, List.length_map]
    refine WO_nil ?_
    refine W_ret ?_
    obtain rfl := Option.some.inj H
    exact told3 rfl
  · replace H := fl hc H
    refine W_skip ?_
    refine W_seq ?_
    refine W_region ?_
    iterate 2 (refine WO_op rfl rfl rfl ?_; simp only [putT, st, ev, gt, hp, ofV, constT, intT, List.length_map])
    refine WO_nil ?_
    refine W_ret ?_
    obtain rfl := Option.some.inj H
    exact told3 rfl
set_option maxRecDepth 20000 in
set_option maxHeartbeats 1000000 in
theorem laws_toRec_ok {a1 : Rec} {r : Rec} (H : laws_toRec a1 = some r) : R 65 [.ag [(cI .i64 a1.Time, none), (cI .i64 a1.N, none)]] = some (.ag [(cI .i64 r.Time, none), (cI .i64 r.N, none)], []) := by
  unfold laws_toRec at H
  refine Fz_walk 11 rfl rfl Try.func65 rfl (by kernel_rfl) rfl rfl rfl rfl ?_
  simp only [tellVs, tellV, tells, tell, st0, padT, SX.newRow, SX.newBox, List.length_cons, List.length_nil, Nat.reduceAdd, Nat.reduceSub, List.replicate, List.cons_append, List.nil_append, List.foldl_cons, List.foldl_nil]
  refine W_seq ?_
  refine W_region ?_
  refine WO_op (x := .bp 0 0) (σ' := ⟨[], [some [.c (cI .i64 a1.Time), .c (cI .i64 a1.N)]], []⟩) rfl rfl rfl ?_; simp only [putT, st, ev, gt, hp, ofV, constT, intT, List.length_map]
  refine WO_op (x := .bp 1 0) (σ' := ⟨[], [some [.c (cI .i64 a1.Time), .c (cI .i64 a1.N)], some [.c (cI .i64 0), .c (cI .i64 0)]], []⟩) rfl rfl rfl ?_; simp only [putT, st, ev, gt, hp, ofV, constT, intT, List.length_map]
  refine WO_nil ?_
  refine W_seq ?_
  refine W_region ?_
  refine WO_op (x := .bp 2 0) (σ' := ⟨[], [some [.c (cI .i64 a1.Time), .c (cI .i64 a1.N)], some [.c (cI .i64 0), .c (cI .i64 0)], some [.c (cI .i64 0), .c (cI .i64 0)]], []⟩) rfl rfl rfl ?_; simp only [putT, st, ev, gt, hp, ofV, constT, intT, List.length_map]
  refine WO_nil ?_
  refine W_seq ?_
  refine W_region ?_
  refine WO_op (x := .bp 0 0) rfl rfl rfl ?_; simp only [putT, st, ev, gt, hp, ofV, constT, intT, List.length_map]
  refine WO_op (x := .c (cI .i64 a1.Time)) rfl rfl rfl ?_; simp only [putT, st, ev, gt, hp, ofV, constT, intT, List.length_map]
  refine WO_op (x := .bp 2 0) rfl rfl rfl ?_; simp only [putT, st, ev, gt, hp, ofV, constT, intT, List.length_map]
  refine WO_op (x := .no) (σ' := ⟨[], [some [.c (cI .i64 a1.Time), .c (cI .i64 a1.N)], some [.c (cI .i64 0), .c (cI .i64 0)], some [.c (cI .i64 a1.Time), .c (cI .i64 0)]], []⟩) rfl rfl rfl ?_; simp only [putT, st, ev, gt, hp, ofV, constT, intT, List.length_map]
  refine WO_nil ?_
  refine W_seq ?_
  refine W_region ?_
  refine WO_op (x := .bp 0 1) rfl rfl rfl ?_; simp only [putT, st, ev, gt, hp, ofV, constT, intT, List.length_map]
  refine WO_op (x := .c (cI .i64 a1.N)) rfl rfl rfl ?_; simp only [putT, st, ev, gt, hp, ofV, constT, intT, List.length_map]
  refine WO_op (x := .bp 2 1) rfl rfl rfl ?_; simp only [putT, st, ev, gt, hp, ofV, constT, intT, List.length_map]
  refine WO_op (x := .no) (σ' := ⟨[], [some [.c (cI .i64 a1.Time), .c (cI .i64 a1.N)], some [.c (cI .i64 0), .c (cI .i64 0)], some [.c (cI .i64 a1.Time), .c (cI .i64 a1.N)]], []⟩) rfl rfl rfl ?_; simp only [putT, st, ev, gt, hp, ofV, constT, intT, List.length_map]
  refine WO_nil ?_
  refine W_seq ?_
  refine W_region ?_
  refine WO_op (x := .ag [.c (cI .i64 a1.Time), .c (cI .i64 a1.N)]) rfl rfl rfl ?_; simp only [putT, st, ev, gt, hp, ofV, constT, intT, List.length_map]
  refine WO_op (x := .no) (σ' := ⟨[], [some [.c (cI .i64 a1.Time), .c (cI .i64 a1.N)], some [.c (cI .i64 a1.Time), .c (cI .i64 a1.N)], some [.c (cI .i64 a1.Time), .c (cI .i64 a1.N)]], []⟩) rfl rfl rfl ?_; simp only [putT, st, ev, gt, hp, ofV, constT, intT, List.length_map]
  refine WO_nil ?_
  refine W_ret ?_
  obtain rfl := Option.some.inj H
  exact told3 rfl
set_option maxRecDepth 20000 in
set_option maxHeartbeats 1000000 in
theorem laws_toRecS_ok {a1 : List Rec} {r : List Rec} (H : laws_toRecS a1 = some r) : R 17 [.c (cL enc_Rec a1) none] = some (.c (cL enc_Rec r) (some 2), []) := by
  unfold laws_toRecS at H
  refine Fz_walk 23 rfl rfl Try.func17 rfl (by kernel_rfl) rfl rfl rfl rfl ?_
  simp only [tellVs, tellV, tells, tell, st0, padT, SX.newRow, SX.newBox, List.length_cons, List.length_nil, Nat.reduceAdd, Nat.reduceSub, List.replicate, List.cons_append, List.nil_append, List.foldl_cons, List.foldl_nil]
  refine W_seq ?_
  refine W_region ?_
  refine WO_op rfl rfl rfl ?_; simp only [putT, st, ev, gt, hp, ofV, constT, intT, List.length_map]
  refine WO_nil ?_
  refine W_seq ?_
  refine W_region ?_
  iterate 2 (refine WO_op rfl rfl rfl ?_; simp only [putT, st, ev, gt, hp, ofV, constT, intT, List.length_map])
  obtain ⟨m2, hm2, H⟩ := bnd H
  refine WO_op (x := .row 0) (σ' := ⟨[], [], [rr 2 enc_Rec m2 true]⟩) rfl rfl (ev_mk (en := enc_Rec) hm2 rfl rfl rfl rfl rfl rfl rfl rfl rfl rfl rfl rfl rfl rfl) ?_; simp only [putT, st, ev, gt, hp, ofV, constT, intT, List.length_map]
  refine WO_op rfl rfl rfl ?_; simp only [putT, st, ev, gt, hp, ofV, constT, intT, List.length_map]
  refine WO_nil ?_
  refine W_seq ?_
  refine W_seq ?_
  refine W_region ?_
  refine WO_op rfl rfl rfl ?_; simp only [putT, st, ev, gt, hp, ofV, constT, intT, List.length_map]
  refine WO_nil ?_
  refine W_block ?_
  obtain ⟨t9, ht9, H⟩ := bnd H
  refine loop_rule (ls := []) 0 (fun t9 : List Rec => ⟨[.no, .no, .no, .row 0], [], [rr 2 enc_Rec t9 true]⟩) (fun t => t9 = t) ⟨[.c (cL enc_Rec a1), .no, .no, .row 0, .c (cI .i64 0)], [], [rr 2 enc_Rec m2 true]⟩ (by repeat (first | exact mono_told | refine mono_seq ?_ | refine mono_blk ?_ | refine mono_lp ?_)) (le_intro [] [0] (by decide) (by decide) rfl (by simp [leS, leT, leA, gt]) (by simp [leB, leT, leA]) (by simp [leR])) ?_ ?_
  · rintro t1 rfl
    refine W_seq ?_
    refine W_region ?_
    iterate 2 (refine WO_op rfl rfl rfl ?_; simp only [putT, st, ev, gt, hp, ofV, constT, intT, List.length_map])
    refine WO_nil ?_
    refine W_ret ?_
    obtain rfl := Option.some.inj H
    exact told5 rfl rfl rfl rfl (fitAs_nz rfl) rfl
  · intro V1 hV1 hW1 hX1
    refine (laws_toRecS.l0.partial_correctness a1 (fun v3 v4 s' => s' = t9 → (V1 ⟨[.c (cL enc_Rec a1), .no, .no, .row 0, .c (cI .i64 v3)], [], [rr 2 enc_Rec v4 true]⟩)) ?_ _ _ _ ht9 rfl)
    intro l0 IH1 v3 v4 s' H1 e
    subst e
    refine hV1 _ ?_
    refine W_seq ?_
    refine W_seq ?_
    refine W_region ?_
    iterate 4 (refine WO_op rfl rfl rfl ?_; simp only [putT, st, ev, gt, hp, ofV, constT, intT, List.length_map])
    refine WO_nil ?_
    refine W_cond rfl (fun hc => ?_) (fun hc => ?_)
    · replace H1 := tr hc H1
      refine W_skip ?_
      refine W_seq ?_
      refine W_block ?_
      refine W_region ?_
      iterate 4 (refine WO_op rfl rfl rfl ?_; simp only [putT, st, ev, gt, hp, ofV, constT, intT, List.length_map])
      obtain ⟨x5, hx5, H1⟩ := bnd H1
      refine WO_op rfl rfl (ev_ix (en := enc_Rec) hx5 rfl rfl rfl rfl rfl rfl rfl) ?_; simp only [putT, st, ev, gt, hp, ofV, constT, intT, List.length_map]
      refine WO_op (x := .ag [.c (cI .i64 x5.Time), .c (cI .i64 x5.N)]) rfl rfl rfl ?_; simp only [putT, st, ev, gt, hp, ofV, constT, intT, List.length_map]
      obtain ⟨x6, hx6, H1⟩ := bnd H1
      refine WO_op (x := .ag [.c (cI .i64 x6.Time), .c (cI .i64 x6.N)]) (σ' := ⟨[], [], [rr 2 enc_Rec v4 true]⟩) rfl rfl (ev_callG (al := [.ag [.c (cI .i64 x5.Time), .c (cI .i64 x5.N)]]) (ls := []) (laws_toRec_ok hx6) rfl rfl rfl rfl rfl (by decide) rfl rfl rfl rfl rfl rfl) ?_; simp only [putT, st, ev, gt, hp, ofV, constT, intT, List.length_map]
      obtain ⟨x7, hx7, H1⟩ := bnd H1
      refine WO_op rfl rfl (ev_ixR (en := enc_Rec) hx7 rfl rfl rfl rfl rfl rfl rfl) ?_; simp only [putT, st, ev, gt, hp, ofV, constT, intT, List.length_map]
      obtain ⟨m8, hm8, H1⟩ := bnd H1
      refine WO_op (x := .no) (σ' := ⟨[], [], [rr 2 enc_Rec m8 true]⟩) rfl rfl (ev_stR (en := enc_Rec) hm8 hx7 rfl rfl rfl rfl rfl rfl rfl rfl) ?_; simp only [putT, st, ev, gt, hp, ofV, constT, intT, List.length_map]
      refine WO_nil ?_
      refine W_region ?_
      iterate 3 (refine WO_op rfl rfl rfl ?_; simp only [putT, st, ev, gt, hp, ofV, constT, intT, List.length_map])
      refine WO_nil ?_
      exact hW1 _ _ ((IH1 _ _ _ H1 rfl)) (le_intro [] [0] (by decide) (by decide) rfl (by simp [leS, leT, leA, gt]) (by simp [leB, leT, leA]) (by simp [leR]))
    · replace H1 := fl hc H1
      refine W_exit ?_
      obtain rfl := Option.some.inj H1
      exact hX1 v4 _ rfl (le_intro [] [0] (by decide) (by decide) rfl (by simp [leS, leT, leA, gt]) (by simp [leB, leT, leA]) (by simp [leR]))
set_option maxRecDepth 20000 in
set_option maxHeartbeats 1000000 in
theorem spec_l1In_ok {a1 : Int} {a2 : Int} {a3 : Int} {r : Bool} (H : spec_l1In a1 a2 a3 = some r) : R 64 [.c (cI .i64 a1) none, .c (cI .i64 a2) none, .c (cI .i64 a3) none] = some (.c (cB r) none, []) := by
  unfold spec_l1In at H
  refine Fz_walk 15 rfl rfl Try.func64 rfl (by kernel_rfl) rfl rfl rfl rfl ?_
  simp only [tellVs, tellV, tells, tell, st0, padT, SX.newRow, SX.newBox, List.length_cons, List.length_nil, Nat.reduceAdd, Nat.reduceSub, List.replicate, List.cons_append, List.nil_append, List.foldl_cons, List.foldl_nil]
  refine W_seq ?_
  refine W_region ?_
  refine WO_op rfl rfl rfl ?_; simp only [putT, st, ev, gt, hp, ofV, constT, intT, List.length_map]
  refine WO_nil ?_
  refine W_seq ?_
  refine W_region ?_
  iterate 4 (refine WO_op rfl rfl rfl ?_; simp only [putT, st, ev, gt, hp, ofV, constT, intT, List.length_map])
  refine WO_if rfl rfl rfl (fun hc => ?_) (fun hc => ?_)
  · replace H := tr hc H
    simp only [putT, st, ev, gt, hp, ofV, constT, intT, List.length_map]
    iterate 3 (refine WO_want rfl rfl rfl ?_; simp only [putT, st, ev, gt, hp, ofV, constT, intT, List.length_map])
    refine WO_op (x := .c (cB (decide (a1 ≤ a3)))) rfl rfl rfl ?_; simp only [putT, st, ev, gt, hp, ofV, constT, intT, List.length_map]
    refine WO_op rfl rfl rfl ?_; simp only [putT, st, ev, gt, hp, ofV, constT, intT, List.length_map]
    refine WO_nil ?_
    refine W_ret ?_
    obtain rfl := Option.some.inj H
    exact told3 rfl
  · replace H := fl hc H
    simp only [putT, st, ev, gt, hp, ofV, constT, intT, List.length_map]
    refine WO_skip rfl rfl ?_; simp only [putT, st, ev, gt, hp, ofV, constT, intT, List.length_map]
    refine WO_skip rfl rfl ?_; simp only [putT, st, ev, gt, hp, ofV, constT, intT, List.length_map]
    refine WO_skip rfl rfl ?_; simp only [putT, st, ev, gt, hp, ofV, constT, intT, List.length_map]
    refine WO_op (x := .c (cB false)) rfl rfl rfl ?_; simp only [putT, st, ev, gt, hp, ofV, constT, intT, List.length_map]
    refine WO_op rfl rfl rfl ?_; simp only [putT, st, ev, gt, hp, ofV, constT, intT, List.length_map]
    refine WO_nil ?_
    refine W_ret ?_
    obtain rfl := Option.some.inj H
    exact told3 rfl
set_option maxRecDepth 20000 in
set_option maxHeartbeats 1000000 in
theorem spec_RecsOk_ok {a1 : List Rec} {r : Bool} (H : spec_RecsOk a1 = some r) : R 16 [.c (cL enc_Rec a1) none] = some (.c (cB r) none, []) := by
  unfold spec_RecsOk at H
  refine Fz_walk 47 rfl rfl Try.func16 rfl (by kernel_rfl) rfl rfl rfl rfl ?_
  simp only [tellVs, tellV, tells, tell, st0, padT, SX.newRow, SX.newBox, List.length_cons, List.length_nil, Nat.reduceAdd, Nat.reduceSub, List.replicate, List.cons_append, List.nil_append, List.foldl_cons, List.foldl_nil]
  refine W_seq ?_
  refine W_region ?_
  refine WO_op rfl rfl rfl ?_; simp only [putT, st, ev, gt, hp, ofV, constT, intT, List.length_map]
  refine WO_nil ?_
  refine W_seq ?_
  refine W_seq ?_
  refine W_region ?_
  refine WO_op rfl rfl rfl ?_; simp only [putT, st, ev, gt, hp, ofV, constT, intT, List.length_map]
  refine WO_nil ?_
  refine W_block ?_
  obtain ⟨s10, hs10, H⟩ := bnd H
  refine loop_rule (ls := []) 0 (fun t9 : Unit => ⟨[.c (cL enc_Rec a1)], [], []⟩) (fun t => s10 = .inr t) ⟨[.c (cL enc_Rec a1), .no, .no, .c (cI .i64 0)], [], []⟩ (by repeat (first | exact mono_told | refine mono_seq ?_ | refine mono_blk ?_ | refine mono_lp ?_)) (le_intro [] [] (by decide) (by decide) rfl (by simp [leS, leT, leA, gt]) (by simp [leB, leT, leA]) (by simp [leR])) ?_ ?_
  · rintro t9 rfl
    refine W_seq ?_
    refine W_region ?_
    iterate 4 (refine WO_op rfl rfl rfl ?_; simp only [putT, st, ev, gt, hp, ofV, constT, intT, List.length_map])
    refine WO_nil ?_
    refine W_ret ?_
    obtain rfl := Option.some.inj H
    exact told3 rfl
  · intro V1 hV1 hW1 hX1
    refine (spec_RecsOk.l0.partial_correctness a1 (fun v2 s' => s' = s10 → (V1 ⟨[.c (cL enc_Rec a1), .no, .no, .c (cI .i64 v2)], [], []⟩)) ?_ _ _ hs10 rfl)
    intro l0 IH1 v2 s' H1 e
    subst e
    refine hV1 _ ?_
    refine W_seq ?_
    refine W_seq ?_
    refine W_region ?_
    iterate 4 (refine WO_op rfl rfl rfl ?_; simp only [putT, st, ev, gt, hp, ofV, constT, intT, List.length_map])
    refine WO_nil ?_
    refine W_cond rfl (fun hc => ?_) (fun hc => ?_)
    · replace H1 := tr hc H1
      refine W_skip ?_
      refine W_seq ?_
      refine W_block ?_
      refine W_seq ?_
      refine W_draw (by kernel_rfl) (by kernel_rfl) ?_
      iterate 2 (refine WO_op rfl rfl rfl ?_; simp only [putT, st, ev, gt, hp, ofV, constT, intT, List.length_map])
      obtain ⟨x3, hx3, H1⟩ := bnd H1
      refine WO_op rfl rfl (ev_ix (en := enc_Rec) hx3 rfl rfl rfl rfl rfl rfl rfl) ?_; simp only [putT, st, ev, gt, hp, ofV, constT, intT, List.length_map]
      refine WO_op (x := .cp (enc_Rec x3) 0) rfl rfl rfl ?_; simp only [putT, st, ev, gt, hp, ofV, constT, intT, List.length_map]
      refine WO_op (x := .c (cI .i64 x3.Time)) rfl rfl rfl ?_; simp only [putT, st, ev, gt, hp, ofV, constT, intT, List.length_map]
      obtain ⟨x4, hx4, H1⟩ := bnd H1
      refine WO_op (x := .c (cB x4)) (σ' := ⟨[], [], []⟩) rfl rfl (ev_callG (al := [.c (cI .i64 x3.Time), .c (cI .i64 0), .c (cI .i64 1000000)]) (ls := []) (spec_l1In_ok hx4) rfl rfl rfl rfl rfl (by decide) rfl rfl rfl rfl rfl rfl) ?_; simp only [putT, st, ev, gt, hp, ofV, constT, intT, List.length_map]
      iterate 2 (refine WO_op rfl rfl rfl ?_; simp only [putT, st, ev, gt, hp, ofV, constT, intT, List.length_map])
      refine WO_if rfl rfl rfl (fun hc => ?_) (fun hc => ?_)
      · replace H1 := tr hc H1
        simp only [putT, st, ev, gt, hp, ofV, constT, intT, List.length_map]
        refine WO_skip rfl rfl ?_; simp only [putT, st, ev, gt, hp, ofV, constT, intT, List.length_map]
        refine WO_skip rfl rfl ?_; simp only [putT, st, ev, gt, hp, ofV, constT, intT, List.length_map]
        refine WO_skip rfl rfl ?_; simp only [putT, st, ev, gt, hp, ofV, constT, intT, List.length_map]
        refine WO_skip rfl rfl ?_; simp only [putT, st, ev, gt, hp, ofV, constT, intT, List.length_map]
        refine WO_skip rfl rfl ?_; simp only [putT, st, ev, gt, hp, ofV, constT, intT, List.length_map]
        refine WO_skip rfl rfl ?_; simp only [putT, st, ev, gt, hp, ofV, constT, intT, List.length_map]
        refine WO_skip rfl rfl ?_; simp only [putT, st, ev, gt, hp, ofV, constT, intT, List.length_map]
        refine WO_op (x := .c (cB true)) rfl rfl rfl ?_; simp only [putT, st, ev, gt, hp, ofV, constT, intT, List.length_map]
        refine WO_op rfl rfl rfl ?_; simp only [putT, st, ev, gt, hp, ofV, constT, intT, List.length_map]
        refine WO_skip rfl rfl ?_; simp only [putT, st, ev, gt, hp, ofV, constT, intT, List.length_map]
        refine WO_skip rfl rfl ?_; simp only [putT, st, ev, gt, hp, ofV, constT, intT, List.length_map]
        refine WO_skip rfl rfl ?_; simp only [putT, st, ev, gt, hp, ofV, constT, intT, List.length_map]
        refine WO_skip rfl rfl ?_; simp only [putT, st, ev, gt, hp, ofV, constT, intT, List.length_map]
        refine WO_skip rfl rfl ?_; simp only [putT, st, ev, gt, hp, ofV, constT, intT, List.length_map]
        refine WO_skip rfl rfl ?_; simp only [putT, st, ev, gt, hp, ofV, constT, intT, List.length_map]
        refine WO_skip rfl rfl ?_; simp only [putT, st, ev, gt, hp, ofV, constT, intT, List.length_map]
        refine WO_skip rfl rfl ?_; simp only [putT, st, ev, gt, hp, ofV, constT, intT, List.length_map]
        refine WO_skip rfl rfl ?_; simp only [putT, st, ev, gt, hp, ofV, constT, intT, List.length_map]
        refine WO_skip rfl rfl ?_; simp only [putT, st, ev, gt, hp, ofV, constT, intT, List.length_map]
        refine WO_skip rfl rfl ?_; simp only [putT, st, ev, gt, hp, ofV, constT, intT, List.length_map]
        refine WO_skip rfl rfl ?_; simp only [putT, st, ev, gt, hp, ofV, constT, intT, List.length_map]
        refine WO_skip rfl rfl ?_; simp only [putT, st, ev, gt, hp, ofV, constT, intT, List.length_map]
        refine WO_skip rfl rfl ?_; simp only [putT, st, ev, gt, hp, ofV, constT, intT, List.length_map]
        refine WO_skip rfl rfl ?_; simp only [putT, st, ev, gt, hp, ofV, constT, intT, List.length_map]
        refine WO_skip rfl rfl ?_; simp only [putT, st, ev, gt, hp, ofV, constT, intT, List.length_map]
        refine WO_op (x := .c (cB true)) rfl rfl rfl ?_; simp only [putT, st, ev, gt, hp, ofV, constT, intT, List.length_map]
        refine WO_nil ?_
        refine W_cond (t := true) rfl (fun _ => ?_) (fun h => by cases h)
        refine W_seq ?_
        refine W_region ?_
        refine WO_op rfl rfl rfl ?_; simp only [putT, st, ev, gt, hp, ofV, constT, intT, List.length_map]
        refine WO_nil ?_
        refine W_ret ?_
        obtain rfl := Option.some.inj H1
        obtain rfl := Option.some.inj H
        exact told3 rfl
      · replace H1 := fl hc H1
        simp only [putT, st, ev, gt, hp, ofV, constT, intT, List.length_map]
        iterate 2 (refine WO_want rfl rfl rfl ?_; simp only [putT, st, ev, gt, hp, ofV, constT, intT, List.length_map])
        obtain ⟨x5, hx5, H1⟩ := bnd H1
        refine WO_want rfl rfl (ev_ix (en := enc_Rec) hx5 rfl rfl rfl rfl rfl rfl rfl) ?_; simp only [putT, st, ev, gt, hp, ofV, constT, intT, List.length_map]
        refine WO_want (x := .cp (enc_Rec x5) 1) rfl rfl rfl ?_; simp only [putT, st, ev, gt, hp, ofV, constT, intT, List.length_map]
        refine WO_want (x := .c (cI .i64 x5.N)) rfl rfl rfl ?_; simp only [putT, st, ev, gt, hp, ofV, constT, intT, List.length_map]
        obtain ⟨x6, hx6, H1⟩ := bnd H1
        refine WO_want (x := .c (cB x6)) (σ' := ⟨[], [], []⟩) rfl rfl (ev_callG (al := [.c (cI .i64 x5.N), .c (cI .i64 0), .c (cI .i64 1000)]) (ls := []) (spec_l1In_ok hx6) rfl rfl rfl rfl rfl (by decide) rfl rfl rfl rfl rfl rfl) ?_; simp only [putT, st, ev, gt, hp, ofV, constT, intT, List.length_map]
        refine WO_want rfl rfl rfl ?_; simp only [putT, st, ev, gt, hp, ofV, constT, intT, List.length_map]
        refine WO_op (x := .c (cB (!x6))) rfl rfl rfl ?_; simp only [putT, st, ev, gt, hp, ofV, constT, intT, List.length_map]
        refine WO_op rfl rfl rfl ?_; simp only [putT, st, ev, gt, hp, ofV, constT, intT, List.length_map]
        refine WO_if rfl rfl rfl (fun hc => ?_) (fun hc => ?_)
        · replace H1 := tr hc H1
          simp only [putT, st, ev, gt, hp, ofV, constT, intT, List.length_map]
          refine WO_skip rfl rfl ?_; simp only [putT, st, ev, gt, hp, ofV, constT, intT, List.length_map]
          refine WO_skip rfl rfl ?_; simp only [putT, st, ev, gt, hp, ofV, constT, intT, List.length_map]
          refine WO_skip rfl rfl ?_; simp only [putT, st, ev, gt, hp, ofV, constT, intT, List.length_map]
          refine WO_skip rfl rfl ?_; simp only [putT, st, ev, gt, hp, ofV, constT, intT, List.length_map]
          refine WO_skip rfl rfl ?_; simp only [putT, st, ev, gt, hp, ofV, constT, intT, List.length_map]
          refine WO_skip rfl rfl ?_; simp only [putT, st, ev, gt, hp, ofV, constT, intT, List.length_map]
          refine WO_skip rfl rfl ?_; simp only [putT, st, ev, gt, hp, ofV, constT, intT, List.length_map]
          refine WO_skip rfl rfl ?_; simp only [putT, st, ev, gt, hp, ofV, constT, intT, List.length_map]
          refine WO_skip rfl rfl ?_; simp only [putT, st, ev, gt, hp, ofV, constT, intT, List.length_map]
          refine WO_skip rfl rfl ?_; simp only [putT, st, ev, gt, hp, ofV, constT, intT, List.length_map]
          refine WO_skip rfl rfl ?_; simp only [putT, st, ev, gt, hp, ofV, constT, intT, List.length_map]
          refine WO_skip rfl rfl ?_; simp only [putT, st, ev, gt, hp, ofV, constT, intT, List.length_map]
          refine WO_skip rfl rfl ?_; simp only [putT, st, ev, gt, hp, ofV, constT, intT, List.length_map]
          refine WO_skip rfl rfl ?_; simp only [putT, st, ev, gt, hp, ofV, constT, intT, List.length_map]
          refine WO_skip rfl rfl ?_; simp only [putT, st, ev, gt, hp, ofV, constT, intT, List.length_map]
          refine WO_skip rfl rfl ?_; simp only [putT, st, ev, gt, hp, ofV, constT, intT, List.length_map]
          refine WO_op (x := .c (cB true)) rfl rfl rfl ?_; simp only [putT, st, ev, gt, hp, ofV, constT, intT, List.length_map]
          refine WO_nil ?_
          refine W_cond (t := true) rfl (fun _ => ?_) (fun h => by cases h)
          refine W_seq ?_
          refine W_region ?_
          refine WO_op rfl rfl rfl ?_; simp only [putT, st, ev, gt, hp, ofV, constT, intT, List.length_map]
          refine WO_nil ?_
          refine W_ret ?_
          obtain rfl := Option.some.inj H1
          obtain rfl := Option.some.inj H
          exact told3 rfl
        · replace H1 := fl hc H1
          simp only [putT, st, ev, gt, hp, ofV, constT, intT, List.length_map]
          iterate 3 (refine WO_want rfl rfl rfl ?_; simp only [putT, st, ev, gt, hp, ofV, constT, intT, List.length_map])
          refine WO_if rfl rfl rfl (fun hc => ?_) (fun hc => ?_)
          · replace H1 := tr hc H1
            simp only [putT, st, ev, gt, hp, ofV, constT, intT, List.length_map]
            iterate 3 (refine WO_want rfl rfl rfl ?_; simp only [putT, st, ev, gt, hp, ofV, constT, intT, List.length_map])
            obtain ⟨x7, hx7, H1⟩ := bnd H1
            refine WO_want rfl rfl (ev_ix (en := enc_Rec) hx7 rfl rfl rfl rfl rfl rfl rfl) ?_; simp only [putT, st, ev, gt, hp, ofV, constT, intT, List.length_map]
            refine WO_want (x := .cp (enc_Rec x7) 0) rfl rfl rfl ?_; simp only [putT, st, ev, gt, hp, ofV, constT, intT, List.length_map]
            refine WO_want (x := .c (cI .i64 x7.Time)) rfl rfl rfl ?_; simp only [putT, st, ev, gt, hp, ofV, constT, intT, List.length_map]
            iterate 2 (refine WO_want rfl rfl rfl ?_; simp only [putT, st, ev, gt, hp, ofV, constT, intT, List.length_map])
            obtain ⟨x8, hx8, H1⟩ := bnd H1
            refine WO_want rfl rfl (ev_ix (en := enc_Rec) hx8 rfl rfl rfl rfl rfl rfl rfl) ?_; simp only [putT, st, ev, gt, hp, ofV, constT, intT, List.length_map]
            refine WO_want (x := .cp (enc_Rec x8) 0) rfl rfl rfl ?_; simp only [putT, st, ev, gt, hp, ofV, constT, intT, List.length_map]
            refine WO_want (x := .c (cI .i64 x8.Time)) rfl rfl rfl ?_; simp only [putT, st, ev, gt, hp, ofV, constT, intT, List.length_map]
            refine WO_want rfl rfl rfl ?_; simp only [putT, st, ev, gt, hp, ofV, constT, intT, List.length_map]
            refine WO_want (x := .c (cB (decide (x7.Time > x8.Time)))) rfl rfl rfl ?_; simp only [putT, st, ev, gt, hp, ofV, constT, intT, List.length_map]
            refine WO_op (x := .c (cB (decide (x7.Time > x8.Time)))) rfl rfl rfl ?_; simp only [putT, st, ev, gt, hp, ofV, constT, intT, List.length_map]
            refine WO_nil ?_
            refine W_cond rfl (fun hc => ?_) (fun hc => ?_)
            · replace H1 := tr hc H1
              refine W_seq ?_
              refine W_region ?_
              refine WO_op rfl rfl rfl ?_; simp only [putT, st, ev, gt, hp, ofV, constT, intT, List.length_map]
              refine WO_nil ?_
              refine W_ret ?_
              obtain rfl := Option.some.inj H1
              obtain rfl := Option.some.inj H
              exact told3 rfl
            · replace H1 := fl hc H1
              refine W_skip ?_
              refine W_region ?_
              iterate 3 (refine WO_op rfl rfl rfl ?_; simp only [putT, st, ev, gt, hp, ofV, constT, intT, List.length_map])
              refine WO_nil ?_
              exact hW1 _ _ ((IH1 _ _ H1 rfl)) (le_intro [] [] (by decide) (by decide) rfl (by simp [leS, leT, leA, gt]) (by simp [leB, leT, leA]) (by simp [leR]))
          · replace H1 := fl hc H1
            simp only [putT, st, ev, gt, hp, ofV, constT, intT, List.length_map]
            refine WO_skip rfl rfl ?_; simp only [putT, st, ev, gt, hp, ofV, constT, intT, List.length_map]
            refine WO_skip rfl rfl ?_; simp only [putT, st, ev, gt, hp, ofV, constT, intT, List.length_map]
            refine WO_skip rfl rfl ?_; simp only [putT, st, ev, gt, hp, ofV, constT, intT, List.length_map]
            refine WO_skip rfl rfl ?_; simp only [putT, st, ev, gt, hp, ofV, constT, intT, List.length_map]
            refine WO_skip rfl rfl ?_; simp only [putT, st, ev, gt, hp, ofV, constT, intT, List.length_map]
            refine WO_skip rfl rfl ?_; simp only [putT, st, ev, gt, hp, ofV, constT, intT, List.length_map]
            refine WO_skip rfl rfl ?_; simp only [putT, st, ev, gt, hp, ofV, constT, intT, List.length_map]
            refine WO_skip rfl rfl ?_; simp only [putT, st, ev, gt, hp, ofV, constT, intT, List.length_map]
            refine WO_skip rfl rfl ?_; simp only [putT, st, ev, gt, hp, ofV, constT, intT, List.length_map]
            refine WO_skip rfl rfl ?_; simp only [putT, st, ev, gt, hp, ofV, constT, intT, List.length_map]
            refine WO_skip rfl rfl ?_; simp only [putT, st, ev, gt, hp, ofV, constT, intT, List.length_map]
            refine WO_skip rfl rfl ?_; simp only [putT, st, ev, gt, hp, ofV, constT, intT, List.length_map]
            refine WO_want (x := .c (cB false)) rfl rfl rfl ?_; simp only [putT, st, ev, gt, hp, ofV, constT, intT, List.length_map]
            refine WO_op (x := .c (cB false)) rfl rfl rfl ?_; simp only [putT, st, ev, gt, hp, ofV, constT, intT, List.length_map]
            refine WO_nil ?_
            refine W_cond (t := false) rfl (fun h => by cases h) (fun _ => ?_)
            refine W_skip ?_
            refine W_region ?_
            iterate 3 (refine WO_op rfl rfl rfl ?_; simp only [putT, st, ev, gt, hp, ofV, constT, intT, List.length_map])
            refine WO_nil ?_
            exact hW1 _ _ ((IH1 _ _ H1 rfl)) (le_intro [] [] (by decide) (by decide) rfl (by simp [leS, leT, leA, gt]) (by simp [leB, leT, leA]) (by simp [leR]))
    · replace H1 := fl hc H1
      refine W_exit ?_
      obtain rfl := Option.some.inj H1
      exact hX1 () _ rfl (le_intro [] [] (by decide) (by decide) rfl (by simp [leS, leT, leA, gt]) (by simp [leB, leT, leA]) (by simp [leR]))
set_option maxRecDepth 20000 in
set_option maxHeartbeats 1000000 in
theorem spec_RecAdd_ok {a1 : List Rec} {a2 : Int} {a3 : Int} {r : List Rec} (H : spec_RecAdd a1 a2 a3 = some r) : R 42 [.c (cL enc_Rec a1) none, .c (cI .i64 a2) none, .c (cI .i64 a3) none] = some (.c (cL enc_Rec r) (some 2), []) := by
  unfold spec_RecAdd at H
  refine Fz_walk 31 rfl rfl Try.func42 rfl (by kernel_rfl) rfl rfl rfl rfl ?_
  simp only [tellVs, tellV, tells, tell, st0, padT, SX.newRow, SX.newBox, List.length_cons, List.length_nil, Nat.reduceAdd, Nat.reduceSub, List.replicate, List.cons_append, List.nil_append, List.foldl_cons, List.foldl_nil]
  refine W_seq ?_
  refine W_region ?_
  refine WO_op rfl rfl rfl ?_; simp only [putT, st, ev, gt, hp, ofV, constT, intT, List.length_map]
  refine WO_nil ?_
  refine W_seq ?_
  refine W_region ?_
  refine WO_op (x := .row 0) (σ' := ⟨[], [], [rr 2 enc_Rec ([] : List Rec) true]⟩) rfl rfl (ev_bs ([] : List Rec) enc_Rec rfl rfl rfl rfl) ?_; simp only [putT, st, ev, gt, hp, ofV, constT, intT, List.length_map]
  refine WO_op rfl rfl rfl ?_; simp only [putT, st, ev, gt, hp, ofV, constT, intT, List.length_map]
  obtain ⟨m4, hm4, H⟩ := bnd H
  refine WO_op (x := .row 1) (σ' := ⟨[], [], [none, rr 2 enc_Rec m4 true]⟩) rfl rfl (ev_app (en := enc_Rec) hm4 rfl rfl rfl rfl (Or.inl rfl) rfl rfl rfl rfl rfl rfl rfl rfl rfl rfl rfl (fun _ => rfl) rfl (Or.inr rfl) rfl) ?_; simp only [putT, st, ev, gt, hp, ofV, constT, intT, List.length_map]
  refine WO_op rfl rfl rfl ?_; simp only [putT, st, ev, gt, hp, ofV, constT, intT, List.length_map]
  refine WO_nil ?_
  refine W_seq ?_
  refine W_region ?_
  iterate 3 (refine WO_op rfl rfl rfl ?_; simp only [putT, st, ev, gt, hp, ofV, constT, intT, List.length_map])
  refine WO_op (x := .ag [.c (cI .i64 a2), .c (cI .i64 a3)]) rfl rfl rfl ?_; simp only [putT, st, ev, gt, hp, ofV, constT, intT, List.length_map]
  refine WO_op (x := .row 2) (σ' := ⟨[], [], [none, rr 2 enc_Rec m4 true, rr 2 enc_Rec ([(Rec.mk a2 a3)] : List Rec) true]⟩) rfl rfl (ev_bs ([(Rec.mk a2 a3)] : List Rec) enc_Rec rfl rfl rfl rfl) ?_; simp only [putT, st, ev, gt, hp, ofV, constT, intT, List.length_map]
  obtain ⟨m5, hm5, H⟩ := bnd H
  refine WO_op (x := .row 3) (σ' := ⟨[], [], [none, none, rr 2 enc_Rec ([(Rec.mk a2 a3)] : List Rec) true, rr 2 enc_Rec m5 true]⟩) rfl rfl (ev_app (en := enc_Rec) hm5 rfl rfl rfl rfl (Or.inl rfl) rfl rfl rfl rfl rfl rfl rfl rfl rfl rfl rfl (fun _ => rfl) rfl (Or.inr rfl) rfl) ?_; simp only [putT, st, ev, gt, hp, ofV, constT, intT, List.length_map]
  refine WO_op rfl rfl rfl ?_; simp only [putT, st, ev, gt, hp, ofV, constT, intT, List.length_map]
  refine WO_nil ?_
  refine W_seq ?_
  refine W_seq ?_
  refine W_region ?_
  iterate 3 (refine WO_op rfl rfl rfl ?_; simp only [putT, st, ev, gt, hp, ofV, constT, intT, List.length_map])
  refine WO_nil ?_
  refine W_cond rfl (fun hc => ?_) (fun hc => ?_)
  · replace H := tr hc H
    refine W_region ?_
    refine WO_op (x := .row 4) (σ' := ⟨[], [], [none, none, rr 2 enc_Rec ([(Rec.mk a2 a3)] : List Rec) true, rr 2 enc_Rec m5 true, rr 2 enc_Rec ([] : List Rec) true]⟩) rfl rfl (ev_bs ([] : List Rec) enc_Rec rfl rfl rfl rfl) ?_; simp only [putT, st, ev, gt, hp, ofV, constT, intT, List.length_map]
    refine WO_op rfl rfl rfl ?_; simp only [putT, st, ev, gt, hp, ofV, constT, intT, List.length_map]
    obtain ⟨s6, hs6, H⟩ := bnd H
    refine WO_op rfl rfl (ev_slR (en := enc_Rec) hs6 rfl rfl rfl rfl rfl ⟨_, rfl⟩ rfl) ?_; simp only [putT, st, ev, gt, hp, ofV, constT, intT, List.length_map]
    obtain ⟨m7, hm7, H⟩ := bnd H
    refine WO_op (x := .row 5) (σ' := ⟨[], [], [none, none, rr 2 enc_Rec ([(Rec.mk a2 a3)] : List Rec) true, rr 2 enc_Rec m5 true, none, rr 2 enc_Rec m7 true]⟩) rfl rfl (ev_app (en := enc_Rec) hm7 rfl rfl rfl rfl (Or.inl rfl) rfl rfl rfl rfl rfl rfl (el_sl (en := enc_Rec) hs6 rfl rfl rfl) rfl rfl rfl rfl (fun _ => rfl) rfl (Or.inr rfl) rfl) ?_; simp only [putT, st, ev, gt, hp, ofV, constT, intT, List.length_map]
    refine WO_op rfl rfl rfl ?_; simp only [putT, st, ev, gt, hp, ofV, constT, intT, List.length_map]
    refine WO_nil ?_
    refine W_seq ?_
    refine W_seq ?_
    refine W_region ?_
    refine WO_op rfl rfl rfl ?_; simp only [putT, st, ev, gt, hp, ofV, constT, intT, List.length_map]
    obtain ⟨x8, hx8, H⟩ := bnd H
    refine WO_op (x := .c (cB x8)) (σ' := ⟨[], [], [none, none, rr 2 enc_Rec ([(Rec.mk a2 a3)] : List Rec) true, rr 2 enc_Rec m5 true, none, rr 2 enc_Rec m7 true]⟩) rfl rfl (ev_callG (al := [.row 5]) (ls := []) (spec_RecsOk_ok hx8) rfl rfl rfl rfl rfl (by decide) rfl rfl rfl rfl rfl rfl) ?_; simp only [putT, st, ev, gt, hp, ofV, constT, intT, List.length_map]
    refine WO_op rfl rfl rfl ?_; simp only [putT, st, ev, gt, hp, ofV, constT, intT, List.length_map]
    refine WO_nil ?_
    refine W_cond rfl (fun hc => ?_) (fun hc => ?_)
    · replace H := tr hc H
      refine W_seq ?_
      refine W_region ?_
      refine WO_op (x := .row 6) (σ' := ⟨[], [], [none, none, rr 2 enc_Rec ([(Rec.mk a2 a3)] : List Rec) true, rr 2 enc_Rec m5 true, none, rr 2 enc_Rec m7 true, rr 2 enc_Rec ([] : List Rec) true]⟩) rfl rfl (ev_bs ([] : List Rec) enc_Rec rfl rfl rfl rfl) ?_; simp only [putT, st, ev, gt, hp, ofV, constT, intT, List.length_map]
      refine WO_op rfl rfl rfl ?_; simp only [putT, st, ev, gt, hp, ofV, constT, intT, List.length_map]
      obtain ⟨m9, hm9, H⟩ := bnd H
      refine WO_op (x := .row 7) (σ' := ⟨[], [], [none, none, rr 2 enc_Rec ([(Rec.mk a2 a3)] : List Rec) true, rr 2 enc_Rec m5 true, none, rr 2 enc_Rec m7 true, none, rr 2 enc_Rec m9 true]⟩) rfl rfl (ev_app (en := enc_Rec) hm9 rfl rfl rfl rfl (Or.inl rfl) rfl rfl rfl rfl rfl rfl rfl rfl rfl rfl rfl (fun _ => rfl) rfl (Or.inr rfl) rfl) ?_; simp only [putT, st, ev, gt, hp, ofV, constT, intT, List.length_map]
      refine WO_op rfl rfl rfl ?_; simp only [putT, st, ev, gt, hp, ofV, constT, intT, List.length_map]
      refine WO_nil ?_
      refine W_ret ?_
      obtain rfl := Option.some.inj H
      exact told5 rfl rfl rfl rfl (fitAs_nz rfl) rfl
    · replace H := fl hc H
      refine W_skip ?_
      refine W_seq ?_
      refine W_region ?_
      iterate 2 (refine WO_op rfl rfl rfl ?_; simp only [putT, st, ev, gt, hp, ofV, constT, intT, List.length_map])
      refine WO_nil ?_
      refine W_ret ?_
      obtain rfl := Option.some.inj H
      exact told5 rfl rfl rfl rfl (fitAs_nz rfl) rfl
  · replace H := fl hc H
    refine W_skip ?_
    refine W_seq ?_
    refine W_seq ?_
    refine W_region ?_
    refine WO_op rfl rfl rfl ?_; simp only [putT, st, ev, gt, hp, ofV, constT, intT, List.length_map]
    obtain ⟨x10, hx10, H⟩ := bnd H
    refine WO_op (x := .c (cB x10)) (σ' := ⟨[], [], [none, none, rr 2 enc_Rec ([(Rec.mk a2 a3)] : List Rec) true, rr 2 enc_Rec m5 true]⟩) rfl rfl (ev_callG (al := [.row 3]) (ls := []) (spec_RecsOk_ok hx10) rfl rfl rfl rfl rfl (by decide) rfl rfl rfl rfl rfl rfl) ?_; simp only [putT, st, ev, gt, hp, ofV, constT, intT, List.length_map]
    refine WO_op rfl rfl rfl ?_; simp only [putT, st, ev, gt, hp, ofV, constT, intT, List.length_map]
    refine WO_nil ?_
    refine W_cond rfl (fun hc => ?_) (fun hc => ?_)
    · replace H := tr hc H
      refine W_seq ?_
      refine W_region ?_
      refine WO_op (x := .row 4) (σ' := ⟨[], [], [none, none, rr 2 enc_Rec ([(Rec.mk a2 a3)] : List Rec) true, rr 2 enc_Rec m5 true, rr 2 enc_Rec ([] : List Rec) true]⟩) rfl rfl (ev_bs ([] : List Rec) enc_Rec rfl rfl rfl rfl) ?_; simp only [putT, st, ev, gt, hp, ofV, constT, intT, List.length_map]
      refine WO_op rfl rfl rfl ?_; simp only [putT, st, ev, gt, hp, ofV, constT, intT, List.length_map]
      obtain ⟨m11, hm11, H⟩ := bnd H
      refine WO_op (x := .row 5) (σ' := ⟨[], [], [none, none, rr 2 enc_Rec ([(Rec.mk a2 a3)] : List Rec) true, rr 2 enc_Rec m5 true, none, rr 2 enc_Rec m11 true]⟩) rfl rfl (ev_app (en := enc_Rec) hm11 rfl rfl rfl rfl (Or.inl rfl) rfl rfl rfl rfl rfl rfl rfl rfl rfl rfl rfl (fun _ => rfl) rfl (Or.inr rfl) rfl) ?_; simp only [putT, st, ev, gt, hp, ofV, constT, intT, List.length_map]
      refine WO_op rfl rfl rfl ?_; simp only [putT, st, ev, gt, hp, ofV, constT, intT, List.length_map]
      refine WO_nil ?_
      refine W_ret ?_
      obtain rfl := Option.some.inj H
      exact told5 rfl rfl rfl rfl (fitAs_nz rfl) rfl
    · replace H := fl hc H
      refine W_skip ?_
      refine W_seq ?_
      refine W_region ?_
      iterate 2 (refine WO_op rfl rfl rfl ?_; simp only [putT, st, ev, gt, hp, ofV, constT, intT, List.length_map])
      refine WO_nil ?_
      refine W_ret ?_
      obtain rfl := Option.some.inj H
      exact told5 rfl rfl rfl rfl (fitAs_nz rfl) rfl
theorem slices_Clone_Simpl_Rec_impl_Rec_ok {a1 r : List Rec} (H : slices_Clone_Simpl_Rec_impl_Rec a1 = some r) : R 84 [.c (cL enc_Rec a1) none] = some (.c (cL enc_Rec r) (some 2), []) := by
  unfold slices_Clone_Simpl_Rec_impl_Rec Nt.clone at H
  split at H
  · rename_i h
    obtain rfl := Option.some.inj H
    exact Fz_pr rfl (by simp only [cloneF]; rw [if_pos ⟨wide_map (en := enc_Rec) (fun _ => rfl) a1, by simpa using h⟩])
  · simp at H
set_option maxRecDepth 20000 in
set_option maxHeartbeats 1000000 in
theorem impl_from_ok {a1 : Int} {a2 : Int} {a3 : Int} {r : Bool} (H : impl_from a1 a2 a3 = some r) : R 76 [.c (cI .i64 a1) none, .c (cI .i64 a2) none, .c (cI .i64 a3) none] = some (.c (cB r) none, []) := by
  unfold impl_from at H
  refine Fz_walk 15 rfl rfl Try.func76 rfl (by kernel_rfl) rfl rfl rfl rfl ?_
  simp only [tellVs, tellV, tells, tell, st0, padT, SX.newRow, SX.newBox, List.length_cons, List.length_nil, Nat.reduceAdd, Nat.reduceSub, List.replicate, List.cons_append, List.nil_append, List.foldl_cons, List.foldl_nil]
  refine W_seq ?_
  refine W_region ?_
  refine WO_op rfl rfl rfl ?_; simp only [putT, st, ev, gt, hp, ofV, constT, intT, List.length_map]
  refine WO_nil ?_
  refine W_seq ?_
  refine W_region ?_
  iterate 4 (refine WO_op rfl rfl rfl ?_; simp only [putT, st, ev, gt, hp, ofV, constT, intT, List.length_map])
  refine WO_if rfl rfl rfl (fun hc => ?_) (fun hc => ?_)
  · replace H := tr hc H
    simp only [putT, st, ev, gt, hp, ofV, constT, intT, List.length_map]
    iterate 3 (refine WO_want rfl rfl rfl ?_; simp only [putT, st, ev, gt, hp, ofV, constT, intT, List.length_map])
    refine WO_op (x := .c (cB (decide (a1 ≤ a3)))) rfl rfl rfl ?_; simp only [putT, st, ev, gt, hp, ofV, constT, intT, List.length_map]
    refine WO_op rfl rfl rfl ?_; simp only [putT, st, ev, gt, hp, ofV, constT, intT, List.length_map]
    refine WO_nil ?_
    refine W_ret ?_
    obtain rfl := Option.some.inj H
    exact told3 rfl
  · replace H := fl hc H
    simp only [putT, st, ev, gt, hp, ofV, constT, intT, List.length_map]
    refine WO_skip rfl rfl ?_; simp only [putT, st, ev, gt, hp, ofV, constT, intT, List.length_map]
    refine WO_skip rfl rfl ?_; simp only [putT, st, ev, gt, hp, ofV, constT, intT, List.length_map]
    refine WO_skip rfl rfl ?_; simp only [putT, st, ev, gt, hp, ofV, constT, intT, List.length_map]
    refine WO_op (x := .c (cB false)) rfl rfl rfl ?_; simp only [putT, st, ev, gt, hp, ofV, constT, intT, List.length_map]
    refine WO_op rfl rfl rfl ?_; simp only [putT, st, ev, gt, hp, ofV, constT, intT, List.length_map]
    refine WO_nil ?_
    refine W_ret ?_
    obtain rfl := Option.some.inj H
    exact told3 rfl
set_option maxRecDepth 20000 in
set_option maxHeartbeats 1000000 in
theorem impl_isTime_ok {a1 : Int} {r : Bool} (H : impl_isTime a1 = some r) : R 66 [.c (cI .i64 a1) none] = some (.c (cB r) none, []) := by
  unfold impl_isTime at H
  refine Fz_walk 5 rfl rfl Try.func66 rfl (by kernel_rfl) rfl rfl rfl rfl ?_
  simp only [tellVs, tellV, tells, tell, st0, padT, SX.newRow, SX.newBox, List.length_cons, List.length_nil, Nat.reduceAdd, Nat.reduceSub, List.replicate, List.cons_append, List.nil_append, List.foldl_cons, List.foldl_nil]
  refine W_seq ?_
  refine W_region ?_
  refine WO_op rfl rfl rfl ?_; simp only [putT, st, ev, gt, hp, ofV, constT, intT, List.length_map]
  refine WO_nil ?_
  refine W_seq ?_
  refine W_region ?_
  refine WO_op rfl rfl rfl ?_; simp only [putT, st, ev, gt, hp, ofV, constT, intT, List.length_map]
  obtain ⟨x2, hx2, H⟩ := bnd H
  refine WO_op (x := .c (cB x2)) (σ' := ⟨[], [], []⟩) rfl rfl (ev_callG (al := [.c (cI .i64 a1), .c (cI .i64 0), .c (cI .i64 1000000)]) (ls := []) (impl_from_ok hx2) rfl rfl rfl rfl rfl (by decide) rfl rfl rfl rfl rfl rfl) ?_; simp only [putT, st, ev, gt, hp, ofV, constT, intT, List.length_map]
  refine WO_op rfl rfl rfl ?_; simp only [putT, st, ev, gt, hp, ofV, constT, intT, List.length_map]
  refine WO_nil ?_
  refine W_ret ?_
  obtain rfl := Option.some.inj H
  exact told3 rfl
set_option maxRecDepth 20000 in
set_option maxHeartbeats 1000000 in
theorem impl_isMany_ok {a1 : Int} {r : Bool} (H : impl_isMany a1 = some r) : R 67 [.c (cI .i64 a1) none] = some (.c (cB r) none, []) := by
  unfold impl_isMany at H
  refine Fz_walk 5 rfl rfl Try.func67 rfl (by kernel_rfl) rfl rfl rfl rfl ?_
  simp only [tellVs, tellV, tells, tell, st0, padT, SX.newRow, SX.newBox, List.length_cons, List.length_nil, Nat.reduceAdd, Nat.reduceSub, List.replicate, List.cons_append, List.nil_append, List.foldl_cons, List.foldl_nil]
  refine W_seq ?_
  refine W_region ?_
  refine WO_op rfl rfl rfl ?_; simp only [putT, st, ev, gt, hp, ofV, constT, intT, List.length_map]
  refine WO_nil ?_
  refine W_seq ?_
  refine W_region ?_
  refine WO_op rfl rfl rfl ?_; simp only [putT, st, ev, gt, hp, ofV, constT, intT, List.length_map]
  obtain ⟨x2, hx2, H⟩ := bnd H
  refine WO_op (x := .c (cB x2)) (σ' := ⟨[], [], []⟩) rfl rfl (ev_callG (al := [.c (cI .i64 a1), .c (cI .i64 0), .c (cI .i64 1000)]) (ls := []) (impl_from_ok hx2) rfl rfl rfl rfl rfl (by decide) rfl rfl rfl rfl rfl rfl) ?_; simp only [putT, st, ev, gt, hp, ofV, constT, intT, List.length_map]
  refine WO_op rfl rfl rfl ?_; simp only [putT, st, ev, gt, hp, ofV, constT, intT, List.length_map]
  refine WO_nil ?_
  refine W_ret ?_
  obtain rfl := Option.some.inj H
  exact told3 rfl
set_option maxRecDepth 20000 in
set_option maxHeartbeats 1000000 in
theorem impl_RecsOk_ok {a1 : List Rec} {r : Bool} (H : impl_RecsOk a1 = some r) : R 18 [.c (cL enc_Rec a1) none] = some (.c (cB r) none, []) := by
  unfold impl_RecsOk at H
  refine Fz_walk 41 rfl rfl Try.func18 rfl (by kernel_rfl) rfl rfl rfl rfl ?_
  simp only [tellVs, tellV, tells, tell, st0, padT, SX.newRow, SX.newBox, List.length_cons, List.length_nil, Nat.reduceAdd, Nat.reduceSub, List.replicate, List.cons_append, List.nil_append, List.foldl_cons, List.foldl_nil]
  refine W_seq ?_
  refine W_region ?_
  refine WO_op rfl rfl rfl ?_; simp only [putT, st, ev, gt, hp, ofV, constT, intT, List.length_map]
  refine WO_nil ?_
  refine W_seq ?_
  refine W_seq ?_
  refine W_region ?_
  iterate 3 (refine WO_op rfl rfl rfl ?_; simp only [putT, st, ev, gt, hp, ofV, constT, intT, List.length_map])
  refine WO_nil ?_
  refine W_block ?_
  obtain ⟨s8, hs8, H⟩ := bnd H
  refine loop_rule (ls := []) 0 (fun t7 : Unit => ⟨[.c (cL enc_Rec a1)], [], []⟩) (fun t => s8 = .inr t) ⟨[.c (cL enc_Rec a1), .no, .no, .no, .no, .c (cL enc_Rec a1), .c (cI .i64 (a1.length : Int)), .c (cI .i64 0)], [], []⟩ (by repeat (first | exact mono_told | refine mono_seq ?_ | refine mono_blk ?_ | refine mono_lp ?_)) (le_intro [] [] (by decide) (by decide) rfl (by simp [leS, leT, leA, gt]) (by simp [leB, leT, leA]) (by simp [leR])) ?_ ?_
  · rintro t7 rfl
    refine W_seq ?_
    refine W_region ?_
    iterate 4 (refine WO_op rfl rfl rfl ?_; simp only [putT, st, ev, gt, hp, ofV, constT, intT, List.length_map])
    refine WO_nil ?_
    refine W_ret ?_
    obtain rfl := Option.some.inj H
    exact told3 rfl
  · intro V1 hV1 hW1 hX1
    refine (impl_RecsOk.l0.partial_correctness a1 (fun v2 s' => s' = s8 → (V1 ⟨[.c (cL enc_Rec a1), .no, .no, .no, .no, .c (cL enc_Rec a1), .c (cI .i64 (a1.length : Int)), .c (cI .i64 v2)], [], []⟩)) ?_ _ _ hs8 rfl)
    intro l0 IH1 v2 s' H1 e
    subst e
    refine hV1 _ ?_
    refine W_seq ?_
    refine W_region ?_
    refine WO_op rfl rfl rfl ?_; simp only [putT, st, ev, gt, hp, ofV, constT, intT, List.length_map]
    refine WO_nil ?_
    refine W_seq ?_
    refine W_cond rfl (fun hc => ?_) (fun hc => ?_)
    · replace H1 := tr hc H1
      refine W_skip ?_
      refine W_seq ?_
      refine W_block ?_
      refine W_seq ?_
      refine W_region ?_
      refine WO_op rfl rfl rfl ?_; simp only [putT, st, ev, gt, hp, ofV, constT, intT, List.length_map]
      obtain ⟨x3, hx3, H1⟩ := bnd H1
      refine WO_op rfl rfl (ev_ix (en := enc_Rec) hx3 rfl rfl rfl rfl rfl rfl rfl) ?_; simp only [putT, st, ev, gt, hp, ofV, constT, intT, List.length_map]
      refine WO_op (x := .ag [.c (cI .i64 x3.Time), .c (cI .i64 x3.N)]) rfl rfl rfl ?_; simp only [putT, st, ev, gt, hp, ofV, constT, intT, List.length_map]
      refine WO_op (x := .bp 0 0) (σ' := ⟨[], [some [.c (cI .i64 0), .c (cI .i64 0)]], []⟩) rfl rfl rfl ?_; simp only [putT, st, ev, gt, hp, ofV, constT, intT, List.length_map]
      refine WO_op rfl rfl rfl ?_; simp only [putT, st, ev, gt, hp, ofV, constT, intT, List.length_map]
      refine WO_op (x := .no) (σ' := ⟨[], [some [.c (cI .i64 x3.Time), .c (cI .i64 x3.N)]], []⟩) rfl rfl rfl ?_; simp only [putT, st, ev, gt, hp, ofV, constT, intT, List.length_map]
      refine WO_nil ?_
      refine W_seq ?_
      refine W_draw (by kernel_rfl) (by kernel_rfl) ?_
      refine WO_op (x := .bp 0 0) rfl rfl rfl ?_; simp only [putT, st, ev, gt, hp, ofV, constT, intT, List.length_map]
      refine WO_op (x := .c (cI .i64 x3.Time)) rfl rfl rfl ?_; simp only [putT, st, ev, gt, hp, ofV, constT, intT, List.length_map]
      obtain ⟨x4, hx4, H1⟩ := bnd H1
      refine WO_op (x := .c (cB x4)) (σ' := ⟨[], [some [.c (cI .i64 x3.Time), .c (cI .i64 x3.N)]], []⟩) rfl rfl (ev_callG (al := [.c (cI .i64 x3.Time)]) (ls := []) (impl_isTime_ok hx4) rfl rfl rfl rfl rfl (by decide) rfl rfl rfl rfl rfl rfl) ?_; simp only [putT, st, ev, gt, hp, ofV, constT, intT, List.length_map]
      iterate 2 (refine WO_op rfl rfl rfl ?_; simp only [putT, st, ev, gt, hp, ofV, constT, intT, List.length_map])
      refine WO_if rfl rfl rfl (fun hc => ?_) (fun hc => ?_)
      · replace H1 := tr hc H1
        simp only [putT, st, ev, gt, hp, ofV, constT, intT, List.length_map]
        refine WO_skip rfl rfl ?_; simp only [putT, st, ev, gt, hp, ofV, constT, intT, List.length_map]
        refine WO_skip rfl rfl ?_; simp only [putT, st, ev, gt, hp, ofV, constT, intT, List.length_map]
        refine WO_skip rfl rfl ?_; simp only [putT, st, ev, gt, hp, ofV, constT, intT, List.length_map]
        refine WO_skip rfl rfl ?_; simp only [putT, st, ev, gt, hp, ofV, constT, intT, List.length_map]
        refine WO_op (x := .c (cB true)) rfl rfl rfl ?_; simp only [putT, st, ev, gt, hp, ofV, constT, intT, List.length_map]
        refine WO_op rfl rfl rfl ?_; simp only [putT, st, ev, gt, hp, ofV, constT, intT, List.length_map]
        refine WO_skip rfl rfl ?_; simp only [putT, st, ev, gt, hp, ofV, constT, intT, List.length_map]
        refine WO_skip rfl rfl ?_; simp only [putT, st, ev, gt, hp, ofV, constT, intT, List.length_map]
        refine WO_skip rfl rfl ?_; simp only [putT, st, ev, gt, hp, ofV, constT, intT, List.length_map]
        refine WO_skip rfl rfl ?_; simp only [putT, st, ev, gt, hp, ofV, constT, intT, List.length_map]
        refine WO_skip rfl rfl ?_; simp only [putT, st, ev, gt, hp, ofV, constT, intT, List.length_map]
        refine WO_skip rfl rfl ?_; simp only [putT, st, ev, gt, hp, ofV, constT, intT, List.length_map]
        refine WO_skip rfl rfl ?_; simp only [putT, st, ev, gt, hp, ofV, constT, intT, List.length_map]
        refine WO_skip rfl rfl ?_; simp only [putT, st, ev, gt, hp, ofV, constT, intT, List.length_map]
        refine WO_skip rfl rfl ?_; simp only [putT, st, ev, gt, hp, ofV, constT, intT, List.length_map]
        refine WO_skip rfl rfl ?_; simp only [putT, st, ev, gt, hp, ofV, constT, intT, List.length_map]
        refine WO_skip rfl rfl ?_; simp only [putT, st, ev, gt, hp, ofV, constT, intT, List.length_map]
        refine WO_skip rfl rfl ?_; simp only [putT, st, ev, gt, hp, ofV, constT, intT, List.length_map]
        refine WO_skip rfl rfl ?_; simp only [putT, st, ev, gt, hp, ofV, constT, intT, List.length_map]
        refine WO_op (x := .c (cB true)) rfl rfl rfl ?_; simp only [putT, st, ev, gt, hp, ofV, constT, intT, List.length_map]
        refine WO_nil ?_
        refine W_cond (t := true) rfl (fun _ => ?_) (fun h => by cases h)
        refine W_seq ?_
        refine W_region ?_
        refine WO_op rfl rfl rfl ?_; simp only [putT, st, ev, gt, hp, ofV, constT, intT, List.length_map]
        refine WO_nil ?_
        refine W_ret ?_
        obtain rfl := Option.some.inj H1
        obtain rfl := Option.some.inj H
        exact told3 rfl
      · replace H1 := fl hc H1
        simp only [putT, st, ev, gt, hp, ofV, constT, intT, List.length_map]
        refine WO_want (x := .bp 0 1) rfl rfl rfl ?_; simp only [putT, st, ev, gt, hp, ofV, constT, intT, List.length_map]
        refine WO_want (x := .c (cI .i64 x3.N)) rfl rfl rfl ?_; simp only [putT, st, ev, gt, hp, ofV, constT, intT, List.length_map]
        obtain ⟨x5, hx5, H1⟩ := bnd H1
        refine WO_want (x := .c (cB x5)) (σ' := ⟨[], [some [.c (cI .i64 x3.Time), .c (cI .i64 x3.N)]], []⟩) rfl rfl (ev_callG (al := [.c (cI .i64 x3.N)]) (ls := []) (impl_isMany_ok hx5) rfl rfl rfl rfl rfl (by decide) rfl rfl rfl rfl rfl rfl) ?_; simp only [putT, st, ev, gt, hp, ofV, constT, intT, List.length_map]
        refine WO_want rfl rfl rfl ?_; simp only [putT, st, ev, gt, hp, ofV, constT, intT, List.length_map]
        refine WO_op (x := .c (cB (!x5))) rfl rfl rfl ?_; simp only [putT, st, ev, gt, hp, ofV, constT, intT, List.length_map]
        refine WO_op rfl rfl rfl ?_; simp only [putT, st, ev, gt, hp, ofV, constT, intT, List.length_map]
        refine WO_if rfl rfl rfl (fun hc => ?_) (fun hc => ?_)
        · replace H1 := tr hc H1
          simp only [putT, st, ev, gt, hp, ofV, constT, intT, List.length_map]
          refine WO_skip rfl rfl ?_; simp only [putT, st, ev, gt, hp, ofV, constT, intT, List.length_map]
          refine WO_skip rfl rfl ?_; simp only [putT, st, ev, gt, hp, ofV, constT, intT, List.length_map]
          refine WO_skip rfl rfl ?_; simp only [putT, st, ev, gt, hp, ofV, constT, intT, List.length_map]
          refine WO_skip rfl rfl ?_; simp only [putT, st, ev, gt, hp, ofV, constT, intT, List.length_map]
          refine WO_skip rfl rfl ?_; simp only [putT, st, ev, gt, hp, ofV, constT, intT, List.length_map]
          refine WO_skip rfl rfl ?_; simp only [putT, st, ev, gt, hp, ofV, constT, intT, List.length_map]
          refine WO_skip rfl rfl ?_; simp only [putT, st, ev, gt, hp, ofV, constT, intT, List.length_map]
          refine WO_skip rfl rfl ?_; simp only [putT, st, ev, gt, hp, ofV, constT, intT, List.length_map]
          refine WO_skip rfl rfl ?_; simp only [putT, st, ev, gt, hp, ofV, constT, intT, List.length_map]
          refine WO_skip rfl rfl ?_; simp only [putT, st, ev, gt, hp, ofV, constT, intT, List.length_map]
          refine WO_skip rfl rfl ?_; simp only [putT, st, ev, gt, hp, ofV, constT, intT, List.length_map]
          refine WO_skip rfl rfl ?_; simp only [putT, st, ev, gt, hp, ofV, constT, intT, List.length_map]
          refine WO_skip rfl rfl ?_; simp only [putT, st, ev, gt, hp, ofV, constT, intT, List.length_map]
          refine WO_op (x := .c (cB true)) rfl rfl rfl ?_; simp only [putT, st, ev, gt, hp, ofV, constT, intT, List.length_map]
          refine WO_nil ?_
          refine W_cond (t := true) rfl (fun _ => ?_) (fun h => by cases h)
          refine W_seq ?_
          refine W_region ?_
          refine WO_op rfl rfl rfl ?_; simp only [putT, st, ev, gt, hp, ofV, constT, intT, List.length_map]
          refine WO_nil ?_
          refine W_ret ?_
          obtain rfl := Option.some.inj H1
          obtain rfl := Option.some.inj H
          exact told3 rfl
        · replace H1 := fl hc H1
          simp only [putT, st, ev, gt, hp, ofV, constT, intT, List.length_map]
          iterate 3 (refine WO_want rfl rfl rfl ?_; simp only [putT, st, ev, gt, hp, ofV, constT, intT, List.length_map])
          refine WO_if rfl rfl rfl (fun hc => ?_) (fun hc => ?_)
          · replace H1 := tr hc H1
            simp only [putT, st, ev, gt, hp, ofV, constT, intT, List.length_map]
            iterate 3 (refine WO_want rfl rfl rfl ?_; simp only [putT, st, ev, gt, hp, ofV, constT, intT, List.length_map])
            obtain ⟨x6, hx6, H1⟩ := bnd H1
            refine WO_want rfl rfl (ev_ix (en := enc_Rec) hx6 rfl rfl rfl rfl rfl rfl rfl) ?_; simp only [putT, st, ev, gt, hp, ofV, constT, intT, List.length_map]
            refine WO_want (x := .cp (enc_Rec x6) 0) rfl rfl rfl ?_; simp only [putT, st, ev, gt, hp, ofV, constT, intT, List.length_map]
            refine WO_want (x := .c (cI .i64 x6.Time)) rfl rfl rfl ?_; simp only [putT, st, ev, gt, hp, ofV, constT, intT, List.length_map]
            refine WO_want (x := .bp 0 0) rfl rfl rfl ?_; simp only [putT, st, ev, gt, hp, ofV, constT, intT, List.length_map]
            refine WO_want (x := .c (cI .i64 x3.Time)) rfl rfl rfl ?_; simp only [putT, st, ev, gt, hp, ofV, constT, intT, List.length_map]
            refine WO_want rfl rfl rfl ?_; simp only [putT, st, ev, gt, hp, ofV, constT, intT, List.length_map]
            refine WO_want (x := .c (cB (decide (x6.Time > x3.Time)))) rfl rfl rfl ?_; simp only [putT, st, ev, gt, hp, ofV, constT, intT, List.length_map]
            refine WO_op (x := .c (cB (decide (x6.Time > x3.Time)))) rfl rfl rfl ?_; simp only [putT, st, ev, gt, hp, ofV, constT, intT, List.length_map]
            refine WO_nil ?_
            refine W_cond rfl (fun hc => ?_) (fun hc => ?_)
            · replace H1 := tr hc H1
              refine W_seq ?_
              refine W_region ?_
              refine WO_op rfl rfl rfl ?_; simp only [putT, st, ev, gt, hp, ofV, constT, intT, List.length_map]
              refine WO_nil ?_
              refine W_ret ?_
              obtain rfl := Option.some.inj H1
              obtain rfl := Option.some.inj H
              exact told3 rfl
            · replace H1 := fl hc H1
              refine W_skip ?_
              refine W_region ?_
              iterate 2 (refine WO_op rfl rfl rfl ?_; simp only [putT, st, ev, gt, hp, ofV, constT, intT, List.length_map])
              refine WO_nil ?_
              exact hW1 _ _ ((IH1 _ _ H1 rfl)) (le_intro [] [] (by decide) (by decide) rfl (by simp [leS, leT, leA, gt]) (by simp [leB, leT, leA]) (by simp [leR]))
          · replace H1 := fl hc H1
            simp only [putT, st, ev, gt, hp, ofV, constT, intT, List.length_map]
            refine WO_skip rfl rfl ?_; simp only [putT, st, ev, gt, hp, ofV, constT, intT, List.length_map]
            refine WO_skip rfl rfl ?_; simp only [putT, st, ev, gt, hp, ofV, constT, intT, List.length_map]
            refine WO_skip rfl rfl ?_; simp only [putT, st, ev, gt, hp, ofV, constT, intT, List.length_map]
            refine WO_skip rfl rfl ?_; simp only [putT, st, ev, gt, hp, ofV, constT, intT, List.length_map]
            refine WO_skip rfl rfl ?_; simp only [putT, st, ev, gt, hp, ofV, constT, intT, List.length_map]
            refine WO_skip rfl rfl ?_; simp only [putT, st, ev, gt, hp, ofV, constT, intT, List.length_map]
            refine WO_skip rfl rfl ?_; simp only [putT, st, ev, gt, hp, ofV, constT, intT, List.length_map]
            refine WO_skip rfl rfl ?_; simp only [putT, st, ev, gt, hp, ofV, constT, intT, List.length_map]
            refine WO_skip rfl rfl ?_; simp only [putT, st, ev, gt, hp, ofV, constT, intT, List.length_map]
            refine WO_want (x := .c (cB false)) rfl rfl rfl ?_; simp only [putT, st, ev, gt, hp, ofV, constT, intT, List.length_map]
            refine WO_op (x := .c (cB false)) rfl rfl rfl ?_; simp only [putT, st, ev, gt, hp, ofV, constT, intT, List.length_map]
            refine WO_nil ?_
            refine W_cond (t := false) rfl (fun h => by cases h) (fun _ => ?_)
            refine W_skip ?_
            refine W_region ?_
            iterate 2 (refine WO_op rfl rfl rfl ?_; simp only [putT, st, ev, gt, hp, ofV, constT, intT, List.length_map])
            refine WO_nil ?_
            exact hW1 _ _ ((IH1 _ _ H1 rfl)) (le_intro [] [] (by decide) (by decide) rfl (by simp [leS, leT, leA, gt]) (by simp [leB, leT, leA]) (by simp [leR]))
    · replace H1 := fl hc H1
      refine W_exit ?_
      obtain rfl := Option.some.inj H1
      exact hX1 () _ rfl (le_intro [] [] (by decide) (by decide) rfl (by simp [leS, leT, leA, gt]) (by simp [leB, leT, leA]) (by simp [leR]))
set_option maxRecDepth 20000 in
set_option maxHeartbeats 1000000 in
theorem impl_RecAdd_ok {a1 : List Rec} {a2 : Int} {a3 : Int} {r : List Rec} (H : impl_RecAdd a1 a2 a3 = some r) : R 43 [.c (cL enc_Rec a1) none, .c (cI .i64 a2) none, .c (cI .i64 a3) none] = some (.c (cL enc_Rec r) (some 2), []) := by
  unfold impl_RecAdd at H
  refine Fz_walk 26 rfl rfl Try.func43 rfl (by kernel_rfl) rfl rfl rfl rfl ?_
  simp only [tellVs, tellV, tells, tell, st0, padT, SX.newRow, SX.newBox, List.length_cons, List.length_nil, Nat.reduceAdd, Nat.reduceSub, List.replicate, List.cons_append, List.nil_append, List.foldl_cons, List.foldl_nil]
  refine W_seq ?_
  refine W_region ?_
  refine WO_op rfl rfl rfl ?_; simp only [putT, st, ev, gt, hp, ofV, constT, intT, List.length_map]
  refine WO_nil ?_
  refine W_seq ?_
  refine W_region ?_
  refine WO_op rfl rfl rfl ?_; simp only [putT, st, ev, gt, hp, ofV, constT, intT, List.length_map]
  obtain ⟨x4, hx4, H⟩ := bnd H
  refine WO_op (x := .row 0) (σ' := ⟨[], [], [rr 2 enc_Rec x4 true]⟩) rfl rfl (ev_callG (al := [.c (cL enc_Rec a1)]) (ls := []) (slices_Clone_Simpl_Rec_impl_Rec_ok hx4) rfl rfl rfl rfl rfl (by decide) rfl rfl (by simp only [flatA, flatV, flatC, List.all_cons, List.all_nil, Option.all_some, Bool.and_self, Bool.or_true, fl_Rec]) rfl rfl rfl) ?_; simp only [putT, st, ev, gt, hp, ofV, constT, intT, List.length_map]
  iterate 2 (refine WO_op rfl rfl rfl ?_; simp only [putT, st, ev, gt, hp, ofV, constT, intT, List.length_map])
  refine WO_op (x := .ag [.c (cI .i64 a2), .c (cI .i64 a3)]) rfl rfl rfl ?_; simp only [putT, st, ev, gt, hp, ofV, constT, intT, List.length_map]
  refine WO_op (x := .row 1) (σ' := ⟨[], [], [rr 2 enc_Rec x4 true, rr 2 enc_Rec ([(Rec.mk a2 a3)] : List Rec) true]⟩) rfl rfl (ev_bs ([(Rec.mk a2 a3)] : List Rec) enc_Rec rfl rfl rfl rfl) ?_; simp only [putT, st, ev, gt, hp, ofV, constT, intT, List.length_map]
  obtain ⟨m5, hm5, H⟩ := bnd H
  refine WO_op (x := .row 2) (σ' := ⟨[], [], [none, rr 2 enc_Rec ([(Rec.mk a2 a3)] : List Rec) true, rr 2 enc_Rec m5 true]⟩) rfl rfl (ev_app (en := enc_Rec) hm5 rfl rfl rfl rfl (Or.inl rfl) rfl rfl rfl rfl rfl rfl rfl rfl rfl rfl rfl (fun _ => rfl) rfl (Or.inr rfl) rfl) ?_; simp only [putT, st, ev, gt, hp, ofV, constT, intT, List.length_map]
  refine WO_op rfl rfl rfl ?_; simp only [putT, st, ev, gt, hp, ofV, constT, intT, List.length_map]
  refine WO_nil ?_
  refine W_seq ?_
  refine W_seq ?_
  refine W_region ?_
  iterate 3 (refine WO_op rfl rfl rfl ?_; simp only [putT, st, ev, gt, hp, ofV, constT, intT, List.length_map])
  refine WO_nil ?_
  refine W_cond rfl (fun hc => ?_) (fun hc => ?_)
  · replace H := tr hc H
    refine W_region ?_
    refine WO_op rfl rfl rfl ?_; simp only [putT, st, ev, gt, hp, ofV, constT, intT, List.length_map]
    obtain ⟨s6, hs6, H⟩ := bnd H
    refine WO_op rfl rfl (ev_slR (en := enc_Rec) hs6 rfl rfl rfl rfl rfl ⟨_, rfl⟩ rfl) ?_; simp only [putT, st, ev, gt, hp, ofV, constT, intT, List.length_map]
    refine WO_op rfl rfl rfl ?_; simp only [putT, st, ev, gt, hp, ofV, constT, intT, List.length_map]
    refine WO_nil ?_
    refine W_seq ?_
    refine W_seq ?_
    refine W_region ?_
    refine WO_op rfl rfl rfl ?_; simp only [putT, st, ev, gt, hp, ofV, constT, intT, List.length_map]
    obtain ⟨x7, hx7, H⟩ := bnd H
    refine WO_op (x := .c (cB x7)) (σ' := ⟨[], [], [none, rr 2 enc_Rec ([(Rec.mk a2 a3)] : List Rec) true, rr 2 enc_Rec m5 true]⟩) rfl rfl (ev_callG (al := [.sl 2 (1 : Int).toNat ((m5.length : Int) : Int).toNat]) (ls := []) (impl_RecsOk_ok hx7) rfl rfl rfl rfl rfl (by decide) rfl (by simp only [argsA, view, views, elems, hp, SX.rowAt, List.getElem?_cons_zero, List.getElem?_cons_succ, Option.join_some, Option.map_some, Option.bind_some, cut_map]; rw [← (slc_some hs6).2.2.2]; try rfl) rfl rfl rfl rfl) ?_; simp only [putT, st, ev, gt, hp, ofV, constT, intT, List.length_map]
    refine WO_op rfl rfl rfl ?_; simp only [putT, st, ev, gt, hp, ofV, constT, intT, List.length_map]
    refine WO_nil ?_
    refine W_cond rfl (fun hc => ?_) (fun hc => ?_)
    · replace H := tr hc H
      refine W_seq ?_
      refine W_region ?_
      refine WO_op rfl rfl rfl ?_; simp only [putT, st, ev, gt, hp, ofV, constT, intT, List.length_map]
      obtain ⟨x8, hx8, H⟩ := bnd H
      refine WO_op (x := .row 3) (σ' := ⟨[], [], [none, rr 2 enc_Rec ([(Rec.mk a2 a3)] : List Rec) true, rr 2 enc_Rec m5 true, rr 2 enc_Rec x8 true]⟩) rfl rfl (ev_callG (al := [.c (cL enc_Rec a1)]) (ls := []) (slices_Clone_Simpl_Rec_impl_Rec_ok hx8) rfl rfl rfl rfl rfl (by decide) rfl rfl (by simp only [flatA, flatV, flatC, List.all_cons, List.all_nil, Option.all_some, Bool.and_self, Bool.or_true, fl_Rec]) rfl rfl rfl) ?_; simp only [putT, st, ev, gt, hp, ofV, constT, intT, List.length_map]
      refine WO_op rfl rfl rfl ?_; simp only [putT, st, ev, gt, hp, ofV, constT, intT, List.length_map]
      refine WO_nil ?_
      refine W_ret ?_
      obtain rfl := Option.some.inj H
      exact told5 rfl rfl rfl rfl (fitAs_nz rfl) rfl
    · replace H := fl hc H
      refine W_skip ?_
      refine W_seq ?_
      refine W_region ?_
      iterate 2 (refine WO_op rfl rfl rfl ?_; simp only [putT, st, ev, gt, hp, ofV, constT, intT, List.length_map])
      refine WO_nil ?_
      refine W_ret ?_
      obtain rfl := Option.some.inj H
      exact told5 rfl rfl rfl rfl (fitAs_nz rfl) (by simp only [outA, cut_map]; rw [← (slc_some hs6).2.2.2]; try rfl)
  · replace H := fl hc H
    refine W_skip ?_
    refine W_seq ?_
    refine W_seq ?_
    refine W_region ?_
    refine WO_op rfl rfl rfl ?_; simp only [putT, st, ev, gt, hp, ofV, constT, intT, List.length_map]
    obtain ⟨x9, hx9, H⟩ := bnd H
    refine WO_op (x := .c (cB x9)) (σ' := ⟨[], [], [none, rr 2 enc_Rec ([(Rec.mk a2 a3)] : List Rec) true, rr 2 enc_Rec m5 true]⟩) rfl rfl (ev_callG (al := [.row 2]) (ls := []) (impl_RecsOk_ok hx9) rfl rfl rfl rfl rfl (by decide) rfl rfl rfl rfl rfl rfl) ?_; simp only [putT, st, ev, gt, hp, ofV, constT, intT, List.length_map]
    refine WO_op rfl rfl rfl ?_; simp only [putT, st, ev, gt, hp, ofV, constT, intT, List.length_map]
    refine WO_nil ?_
    refine W_cond rfl (fun hc => ?_) (fun hc => ?_)
    · replace H := tr hc H
      refine W_seq ?_
      refine W_region ?_
      refine WO_op rfl rfl rfl ?_; simp only [putT, st, ev, gt, hp, ofV, constT, intT, List.length_map]
      obtain ⟨x10, hx10, H⟩ := bnd H
      refine WO_op (x := .row 3) (σ' := ⟨[], [], [none, rr 2 enc_Rec ([(Rec.mk a2 a3)] : List Rec) true, rr 2 enc_Rec m5 true, rr 2 enc_Rec x10 true]⟩) rfl rfl (ev_callG (al := [.c (cL enc_Rec a1)]) (ls := []) (slices_Clone_Simpl_Rec_impl_Rec_ok hx10) rfl rfl rfl rfl rfl (by decide) rfl rfl (by simp only [flatA, flatV, flatC, List.all_cons, List.all_nil, Option.all_some, Bool.and_self, Bool.or_true, fl_Rec]) rfl rfl rfl) ?_; simp only [putT, st, ev, gt, hp, ofV, constT, intT, List.length_map]
      refine WO_op rfl rfl rfl ?_; simp only [putT, st, ev, gt, hp, ofV, constT, intT, List.length_map]
      refine WO_nil ?_
      refine W_ret ?_
      obtain rfl := Option.some.inj H
      exact told5 rfl rfl rfl rfl (fitAs_nz rfl) rfl
    · replace H := fl hc H
      refine W_skip ?_
      refine W_seq ?_
      refine W_region ?_
      iterate 2 (refine WO_op rfl rfl rfl ?_; simp only [putT, st, ev, gt, hp, ofV, constT, intT, List.length_map])
      refine WO_nil ?_
      refine W_ret ?_
      obtain rfl := Option.some.inj H
      exact told5 rfl rfl rfl rfl (fitAs_nz rfl) rfl
set_option maxRecDepth 20000 in
set_option maxHeartbeats 1000000 in
theorem laws_eqRec_ok {a1 : Rec} {a2 : Rec} {r : Bool} (H : laws_eqRec a1 a2 = some r) : R 68 [.ag [(cI .i64 a1.Time, none), (cI .i64 a1.N, none)], .ag [(cI .i64 a2.Time, none), (cI .i64 a2.N, none)]] = some (.c (cB r) none, []) := by
  unfold laws_eqRec at H
  refine Fz_walk 15 rfl rfl Try.func68 rfl (by kernel_rfl) rfl rfl rfl rfl ?_
  simp only [tellVs, tellV, tells, tell, st0, padT, SX.newRow, SX.newBox, List.length_cons, List.length_nil, Nat.reduceAdd, Nat.reduceSub, List.replicate, List.cons_append, List.nil_append, List.foldl_cons, List.foldl_nil]
  refine W_seq ?_
  refine W_region ?_
  refine WO_op (x := .bp 0 0) (σ' := ⟨[], [some [.c (cI .i64 a1.Time), .c (cI .i64 a1.N)]], []⟩) rfl rfl rfl ?_; simp only [putT, st, ev, gt, hp, ofV, constT, intT, List.length_map]
  refine WO_op (x := .bp 1 0) (σ' := ⟨[], [some [.c (cI .i64 a1.Time), .c (cI .i64 a1.N)], some [.c (cI .i64 a2.Time), .c (cI .i64 a2.N)]], []⟩) rfl rfl rfl ?_; simp only [putT, st, ev, gt, hp, ofV, constT, intT, List.length_map]
  refine WO_op rfl rfl rfl ?_; simp only [putT, st, ev, gt, hp, ofV, constT, intT, List.length_map]
  refine WO_nil ?_
  refine W_seq ?_
  refine W_seq ?_
  refine W_region ?_
  refine WO_op (x := .bp 0 0) rfl rfl rfl ?_; simp only [putT, st, ev, gt, hp, ofV, constT, intT, List.length_map]
  refine WO_op (x := .c (cI .i64 a1.Time)) rfl rfl rfl ?_; simp only [putT, st, ev, gt, hp, ofV, constT, intT, List.length_map]
  refine WO_op (x := .bp 1 0) rfl rfl rfl ?_; simp only [putT, st, ev, gt, hp, ofV, constT, intT, List.length_map]
  refine WO_op (x := .c (cI .i64 a2.Time)) rfl rfl rfl ?_; simp only [putT, st, ev, gt, hp, ofV, constT, intT, List.length_map]
  refine WO_op rfl rfl rfl ?_; simp only [putT, st, ev, gt, hp, ofV, constT, intT, List.length_map]
  refine WO_nil ?_
  refine W_cond rfl (fun hc => ?_) (fun hc => ?_)
  · replace H := tr hc H
    refine W_seq ?_
    refine W_region ?_
    refine WO_op rfl rfl rfl ?_; simp only [putT, st, ev, gt, hp, ofV, constT, intT, List.length_map]
    refine WO_nil ?_
    refine W_ret ?_
    obtain rfl := Option.some.inj H
    exact told3 rfl
  · replace H := fl hc H
    refine W_skip ?_
    refine W_seq ?_
    refine W_seq ?_
    refine W_region ?_
    refine WO_op (x := .bp 0 1) rfl rfl rfl ?_; simp only [putT, st, ev, gt, hp, ofV, constT, intT, List.length_map]
    refine WO_op (x := .c (cI .i64 a1.N)) rfl rfl rfl ?_; simp only [putT, st, ev, gt, hp, ofV, constT, intT, List.length_map]
    refine WO_op (x := .bp 1 1) rfl rfl rfl ?_; simp only [putT, st, ev, gt, hp, ofV, constT, intT, List.length_map]
    refine WO_op (x := .c (cI .i64 a2.N)) rfl rfl rfl ?_; simp only [putT, st, ev, gt, hp, ofV, constT, intT, List.length_map]
    refine WO_op rfl rfl rfl ?_; simp only [putT, st, ev, gt, hp, ofV, constT, intT, List.length_map]
    refine WO_nil ?_
    refine W_cond rfl (fun hc => ?_) (fun hc => ?_)
    · replace H := tr hc H
      refine W_seq ?_
      refine W_region ?_
      refine WO_op rfl rfl rfl ?_; simp only [putT, st, ev, gt, hp, ofV, constT, intT, List.length_map]
      refine WO_nil ?_
      refine W_ret ?_
      obtain rfl := Option.some.inj H
      exact told3 rfl
    · replace H := fl hc H
      refine W_skip ?_
      refine W_seq ?_
      refine W_region ?_
      refine WO_op rfl rfl rfl ?_; simp only [putT, st, ev, gt, hp, ofV, constT, intT, List.length_map]
      refine WO_nil ?_
      refine W_ret ?_
      obtain rfl := Option.some.inj H
      exact told3 rfl
set_option maxRecDepth 20000 in
set_option maxHeartbeats 1000000 in
theorem laws_eqRecS_ok {a1 : List Rec} {a2 : List Rec} {r : Bool} (H : laws_eqRecS a1 a2 = some r) : R 19 [.c (cL enc_Rec a1) none, .c (cL enc_Rec a2) none] = some (.c (cB r) none, []) := by
  unfold laws_eqRecS at H
  refine Fz_walk 27 rfl rfl Try.func19 rfl (by kernel_rfl) rfl rfl rfl rfl ?_
  simp only [tellVs, tellV, tells, tell, st0, padT, SX.newRow, SX.newBox, List.length_cons, List.length_nil, Nat.reduceAdd, Nat.reduceSub, List.replicate, List.cons_append, List.nil_append, List.foldl_cons, List.foldl_nil]
  refine W_seq ?_
  refine W_region ?_
  refine WO_op rfl rfl rfl ?_; simp only [putT, st, ev, gt, hp, ofV, constT, intT, List.length_map]
  refine WO_nil ?_
  refine W_seq ?_
  refine W_seq ?_
  refine W_region ?_
  iterate 5 (refine WO_op rfl rfl rfl ?_; simp only [putT, st, ev, gt, hp, ofV, constT, intT, List.length_map])
  refine WO_nil ?_
  refine W_cond rfl (fun hc => ?_) (fun hc => ?_)
  · replace H := tr hc H
    refine W_seq ?_
    refine W_region ?_
    refine WO_op rfl rfl rfl ?_; simp only [putT, st, ev, gt, hp, ofV, constT, intT, List.length_map]
    refine WO_nil ?_
    refine W_ret ?_
    obtain rfl := Option.some.inj H
    exact told3 rfl
  · replace H := fl hc H
    refine W_skip ?_
    refine W_seq ?_
    refine W_seq ?_
    refine W_region ?_
    refine WO_op rfl rfl rfl ?_; simp only [putT, st, ev, gt, hp, ofV, constT, intT, List.length_map]
    refine WO_nil ?_
    refine W_block ?_
    obtain ⟨s8, hs8, H⟩ := bnd H
    refine loop_rule (ls := []) 0 (fun t7 : Unit => ⟨[], [], []⟩) (fun t => s8 = .inr t) ⟨[.c (cL enc_Rec a1), .c (cL enc_Rec a2), .no, .no, .no, .c (cI .i64 0)], [], []⟩ (by repeat (first | exact mono_told | refine mono_seq ?_ | refine mono_blk ?_ | refine mono_lp ?_)) (le_intro [] [] (by decide) (by decide) rfl (by simp [leS, leT, leA, gt]) (by simp [leB, leT, leA]) (by simp [leR])) ?_ ?_
    · rintro t7 rfl
      refine W_seq ?_
      refine W_region ?_
      refine WO_op rfl rfl rfl ?_; simp only [putT, st, ev, gt, hp, ofV, constT, intT, List.length_map]
      refine WO_nil ?_
      refine W_ret ?_
      obtain rfl := Option.some.inj H
      exact told3 rfl
    · intro V1 hV1 hW1 hX1
      refine (laws_eqRecS.l0.partial_correctness a1 a2 (fun v3 s' => s' = s8 → (V1 ⟨[.c (cL enc_Rec a1), .c (cL enc_Rec a2), .no, .no, .no, .c (cI .i64 v3)], [], []⟩)) ?_ _ _ hs8 rfl)
      intro l0 IH1 v3 s' H1 e
      subst e
      refine hV1 _ ?_
      refine W_seq ?_
      refine W_seq ?_
      refine W_region ?_
      iterate 4 (refine WO_op rfl rfl rfl ?_; simp only [putT, st, ev, gt, hp, ofV, constT, intT, List.length_map])
      refine WO_nil ?_
      refine W_cond rfl (fun hc => ?_) (fun hc => ?_)
      · replace H1 := tr hc H1
        refine W_skip ?_
        refine W_seq ?_
        refine W_block ?_
        refine W_seq ?_
        refine W_draw (by kernel_rfl) (by kernel_rfl) ?_
        iterate 2 (refine WO_op rfl rfl rfl ?_; simp only [putT, st, ev, gt, hp, ofV, constT, intT, List.length_map])
        obtain ⟨x4, hx4, H1⟩ := bnd H1
        refine WO_op rfl rfl (ev_ix (en := enc_Rec) hx4 rfl rfl rfl rfl rfl rfl rfl) ?_; simp only [putT, st, ev, gt, hp, ofV, constT, intT, List.length_map]
        refine WO_op (x := .ag [.c (cI .i64 x4.Time), .c (cI .i64 x4.N)]) rfl rfl rfl ?_; simp only [putT, st, ev, gt, hp, ofV, constT, intT, List.length_map]
        iterate 2 (refine WO_op rfl rfl rfl ?_; simp only [putT, st, ev, gt, hp, ofV, constT, intT, List.length_map])
        obtain ⟨x5, hx5, H1⟩ := bnd H1
        refine WO_op rfl rfl (ev_ix (en := enc_Rec) hx5 rfl rfl rfl rfl rfl rfl rfl) ?_; simp only [putT, st, ev, gt, hp, ofV, constT, intT, List.length_map]
        refine WO_op (x := .ag [.c (cI .i64 x5.Time), .c (cI .i64 x5.N)]) rfl rfl rfl ?_; simp only [putT, st, ev, gt, hp, ofV, constT, intT, List.length_map]
        obtain ⟨x6, hx6, H1⟩ := bnd H1
        refine WO_op (x := .c (cB x6)) (σ' := ⟨[], [], []⟩) rfl rfl (ev_callG (al := [.ag [.c (cI .i64 x4.Time), .c (cI .i64 x4.N)], .ag [.c (cI .i64 x5.Time), .c (cI .i64 x5.N)]]) (ls := []) (laws_eqRec_ok hx6) rfl rfl rfl rfl rfl (by decide) rfl rfl rfl rfl rfl rfl) ?_; simp only [putT, st, ev, gt, hp, ofV, constT, intT, List.length_map]
        refine WO_op rfl rfl rfl ?_; simp only [putT, st, ev, gt, hp, ofV, constT, intT, List.length_map]
        refine WO_nil ?_
        refine W_cond rfl (fun hc => ?_) (fun hc => ?_)
        · replace H1 := tr hc H1
          refine W_seq ?_
          refine W_region ?_
          refine WO_op rfl rfl rfl ?_; simp only [putT, st, ev, gt, hp, ofV, constT, intT, List.length_map]
          refine WO_nil ?_
          refine W_ret ?_
          obtain rfl := Option.some.inj H1
          obtain rfl := Option.some.inj H
          exact told3 rfl
        · replace H1 := fl hc H1
          refine W_skip ?_
          refine W_region ?_
          iterate 3 (refine WO_op rfl rfl rfl ?_; simp only [putT, st, ev, gt, hp, ofV, constT, intT, List.length_map])
          refine WO_nil ?_
          exact hW1 _ _ ((IH1 _ _ H1 rfl)) (le_intro [] [] (by decide) (by decide) rfl (by simp [leS, leT, leA, gt]) (by simp [leB, leT, leA]) (by simp [leR]))
      · replace H1 := fl hc H1
        refine W_exit ?_
        obtain rfl := Option.some.inj H1
        exact hX1 () _ rfl (le_intro [] [] (by decide) (by decide) rfl (by simp [leS, leT, leA, gt]) (by simp [leB, leT, leA]) (by simp [leR]))
set_option maxRecDepth 20000 in
set_option maxHeartbeats 1000000 in
theorem laws_markRecS_ok {a1 : List Rec} {a2 : Int} {r : Int × List Rec} (H : laws_markRecS a1 a2 = some r) : R 39 [.c (cL enc_Rec a1) (some 2), .c (cI .i64 a2) none] = some (.c (cI .i64 r.1) none, [some [(cL enc_Rec r.2, some 2)]]) := by
  unfold laws_markRecS at H
  refine Fz_walk 27 rfl rfl Try.func39 rfl (by kernel_rfl) rfl rfl rfl rfl ?_
  simp only [tellVs, tellV, tells, tell, st0, padT, SX.newRow, SX.newBox, List.length_cons, List.length_nil, Nat.reduceAdd, Nat.reduceSub, List.replicate, List.cons_append, List.nil_append, List.foldl_cons, List.foldl_nil]
  refine W_seq ?_
  refine W_region ?_
  refine WO_op rfl rfl rfl ?_; simp only [putT, st, ev, gt, hp, ofV, constT, intT, List.length_map]
  refine WO_nil ?_
  refine W_seq ?_
  refine W_seq ?_
  refine W_region ?_
  refine WO_op rfl rfl rfl ?_; simp only [putT, st, ev, gt, hp, ofV, constT, intT, List.length_map]
  refine WO_nil ?_
  refine W_block ?_
  obtain ⟨t10, ht10, H⟩ := bnd H
  refine loop_rule (ls := [.r 0]) 0 (fun t10 : Int × List Rec => ⟨[.no, .c (cI .i64 t10.1)], [], [rr 2 enc_Rec t10.2 true]⟩) (fun t => t10 = t) ⟨[.row 0, .c (cI .i64 a2), .no, .no, .no, .c (cI .i64 0)], [], [rr 2 enc_Rec a1 true]⟩ (by repeat (first | exact mono_told | refine mono_seq ?_ | refine mono_blk ?_ | refine mono_lp ?_)) (le_intro [] [0] (by decide) (by decide) rfl (by simp [leS, leT, leA, gt]) (by simp [leB, leT, leA]) (by simp [leR])) ?_ ?_
  · rintro t1 rfl
    refine W_seq ?_
    refine W_region ?_
    iterate 2 (refine WO_op rfl rfl rfl ?_; simp only [putT, st, ev, gt, hp, ofV, constT, intT, List.length_map])
    refine WO_nil ?_
    refine W_ret ?_
    obtain rfl := Option.some.inj H
    exact told3 rfl
  · intro V1 hV1 hW1 hX1
    refine (laws_markRecS.l0.partial_correctness (fun v3 v4 v5 s' => s' = t10 → (V1 ⟨[.row 0, .c (cI .i64 v3), .no, .no, .no, .c (cI .i64 v4)], [], [rr 2 enc_Rec v5 true]⟩)) ?_ _ _ _ _ ht10 rfl)
    intro l0 IH1 v3 v4 v5 s' H1 e
    subst e
    refine hV1 _ ?_
    refine W_seq ?_
    refine W_seq ?_
    refine W_region ?_
    iterate 4 (refine WO_op rfl rfl rfl ?_; simp only [putT, st, ev, gt, hp, ofV, constT, intT, List.length_map])
    refine WO_nil ?_
    refine W_cond rfl (fun hc => ?_) (fun hc => ?_)
    · replace H1 := tr hc H1
      refine W_skip ?_
      refine W_seq ?_
      refine W_block ?_
      refine W_seq ?_
      refine W_region ?_
      iterate 3 (refine WO_op rfl rfl rfl ?_; simp only [putT, st, ev, gt, hp, ofV, constT, intT, List.length_map])
      obtain ⟨x6, hx6, H1⟩ := bnd H1
      refine WO_op rfl rfl (ev_ixR (en := enc_Rec) hx6 rfl rfl rfl rfl rfl rfl rfl) ?_; simp only [putT, st, ev, gt, hp, ofV, constT, intT, List.length_map]
      refine WO_op (x := .rp 0 (v4 : Int).toNat 0) rfl rfl rfl ?_; simp only [putT, st, ev, gt, hp, ofV, constT, intT, List.length_map]
      obtain ⟨m7, hm7, H1⟩ := bnd H1
      refine WO_op (x := .no) (σ' := ⟨[], [], [rr 2 enc_Rec m7 true]⟩) rfl rfl (ev_stR (en := enc_Rec) hm7 hx6 rfl rfl rfl rfl rfl rfl rfl rfl) ?_; simp only [putT, st, ev, gt, hp, ofV, constT, intT, List.length_map]
      refine WO_nil ?_
      refine W_seq ?_
      refine W_region ?_
      iterate 3 (refine WO_op rfl rfl rfl ?_; simp only [putT, st, ev, gt, hp, ofV, constT, intT, List.length_map])
      refine WO_nil ?_
      refine W_seq ?_
      refine W_region ?_
      iterate 3 (refine WO_op rfl rfl rfl ?_; simp only [putT, st, ev, gt, hp, ofV, constT, intT, List.length_map])
      obtain ⟨x8, hx8, H1⟩ := bnd H1
      refine WO_op rfl rfl (ev_ixR (en := enc_Rec) hx8 rfl rfl rfl rfl rfl rfl rfl) ?_; simp only [putT, st, ev, gt, hp, ofV, constT, intT, List.length_map]
      refine WO_op (x := .rp 0 (v4 : Int).toNat 1) rfl rfl rfl ?_; simp only [putT, st, ev, gt, hp, ofV, constT, intT, List.length_map]
      obtain ⟨m9, hm9, H1⟩ := bnd H1
      refine WO_op (x := .no) (σ' := ⟨[], [], [rr 2 enc_Rec m9 true]⟩) rfl rfl (ev_stR (en := enc_Rec) hm9 hx8 rfl rfl rfl rfl rfl rfl rfl rfl) ?_; simp only [putT, st, ev, gt, hp, ofV, constT, intT, List.length_map]
      refine WO_nil ?_
      refine W_region ?_
      iterate 3 (refine WO_op rfl rfl rfl ?_; simp only [putT, st, ev, gt, hp, ofV, constT, intT, List.length_map])
      refine WO_nil ?_
      refine W_region ?_
      iterate 3 (refine WO_op rfl rfl rfl ?_; simp only [putT, st, ev, gt, hp, ofV, constT, intT, List.length_map])
      refine WO_nil ?_
      exact hW1 _ _ ((IH1 _ _ _ _ H1 rfl)) (le_intro [] [0] (by decide) (by decide) rfl (by simp [leS, leT, leA, gt]) (by simp [leB, leT, leA]) (by simp [leR]))
    · replace H1 := fl hc H1
      refine W_exit ?_
      obtain rfl := Option.some.inj H1
      exact hX1 (v3, v5) _ rfl (le_intro [] [0] (by decide) (by decide) rfl (by simp [leS, leT, leA, gt]) (by simp [leB, leT, leA]) (by simp [leR]))
set_option maxRecDepth 20000 in
set_option maxHeartbeats 1000000 in
theorem laws_heldRecS_ok {a1 : List Rec} {a2 : Int} {r : Int} (H : laws_heldRecS a1 a2 = some r) : R 44 [.c (cL enc_Rec a1) none, .c (cI .i64 a2) none] = some (.c (cI .i64 r) none, []) := by
  unfold laws_heldRecS at H
  refine Fz_walk 31 rfl rfl Try.func44 rfl (by kernel_rfl) rfl rfl rfl rfl ?_
  simp only [tellVs, tellV, tells, tell, st0, padT, SX.newRow, SX.newBox, List.length_cons, List.length_nil, Nat.reduceAdd, Nat.reduceSub, List.replicate, List.cons_append, List.nil_append, List.foldl_cons, List.foldl_nil]
  refine W_seq ?_
  refine W_region ?_
  refine WO_op rfl rfl rfl ?_; simp only [putT, st, ev, gt, hp, ofV, constT, intT, List.length_map]
  refine WO_nil ?_
  refine W_seq ?_
  refine W_seq ?_
  refine W_region ?_
  refine WO_op rfl rfl rfl ?_; simp only [putT, st, ev, gt, hp, ofV, constT, intT, List.length_map]
  refine WO_nil ?_
  refine W_block ?_
  obtain ⟨s8, hs8, H⟩ := bnd H
  refine loop_rule (ls := []) 0 (fun t7 : Int => ⟨[.no, .c (cI .i64 t7)], [], []⟩) (fun t => s8 = .inr t) ⟨[.c (cL enc_Rec a1), .c (cI .i64 a2), .no, .no, .no, .c (cI .i64 0)], [], []⟩ (by repeat (first | exact mono_told | refine mono_seq ?_ | refine mono_blk ?_ | refine mono_lp ?_)) (le_intro [] [] (by decide) (by decide) rfl (by simp [leS, leT, leA, gt]) (by simp [leB, leT, leA]) (by simp [leR])) ?_ ?_
  · rintro t7 rfl
    refine W_seq ?_
    refine W_region ?_
    iterate 2 (refine WO_op rfl rfl rfl ?_; simp only [putT, st, ev, gt, hp, ofV, constT, intT, List.length_map])
    refine WO_nil ?_
    refine W_ret ?_
    obtain rfl := Option.some.inj H
    exact told3 rfl
  · intro V1 hV1 hW1 hX1
    refine (laws_heldRecS.l0.partial_correctness a1 (fun v3 v4 s' => s' = s8 → (V1 ⟨[.c (cL enc_Rec a1), .c (cI .i64 v3), .no, .no, .no, .c (cI .i64 v4)], [], []⟩)) ?_ _ _ _ hs8 rfl)
    intro l0 IH1 v3 v4 s' H1 e
    subst e
    refine hV1 _ ?_
    refine W_seq ?_
    refine W_seq ?_
    refine W_region ?_
    iterate 4 (refine WO_op rfl rfl rfl ?_; simp only [putT, st, ev, gt, hp, ofV, constT, intT, List.length_map])
    refine WO_nil ?_
    refine W_cond rfl (fun hc => ?_) (fun hc => ?_)
    · replace H1 := tr hc H1
      refine W_skip ?_
      refine W_seq ?_
      refine W_block ?_
      refine W_seq ?_
      refine W_seq ?_
      refine W_region ?_
      iterate 2 (refine WO_op rfl rfl rfl ?_; simp only [putT, st, ev, gt, hp, ofV, constT, intT, List.length_map])
      obtain ⟨x5, hx5, H1⟩ := bnd H1
      refine WO_op rfl rfl (ev_ix (en := enc_Rec) hx5 rfl rfl rfl rfl rfl rfl rfl) ?_; simp only [putT, st, ev, gt, hp, ofV, constT, intT, List.length_map]
      refine WO_op (x := .cp (enc_Rec x5) 0) rfl rfl rfl ?_; simp only [putT, st, ev, gt, hp, ofV, constT, intT, List.length_map]
      refine WO_op (x := .c (cI .i64 x5.Time)) rfl rfl rfl ?_; simp only [putT, st, ev, gt, hp, ofV, constT, intT, List.length_map]
      iterate 2 (refine WO_op rfl rfl rfl ?_; simp only [putT, st, ev, gt, hp, ofV, constT, intT, List.length_map])
      refine WO_nil ?_
      refine W_cond rfl (fun hc => ?_) (fun hc => ?_)
      · replace H1 := tr hc H1
        refine W_seq ?_
        refine W_region ?_
        refine WO_op rfl rfl rfl ?_; simp only [putT, st, ev, gt, hp, ofV, constT, intT, List.length_map]
        refine WO_nil ?_
        refine W_ret ?_
        obtain rfl := Option.some.inj H1
        obtain rfl := Option.some.inj H
        exact told3 rfl
      · replace H1 := fl hc H1
        refine W_skip ?_
        refine W_seq ?_
        refine W_region ?_
        iterate 3 (refine WO_op rfl rfl rfl ?_; simp only [putT, st, ev, gt, hp, ofV, constT, intT, List.length_map])
        refine WO_nil ?_
        refine W_seq ?_
        refine W_seq ?_
        refine W_region ?_
        iterate 2 (refine WO_op rfl rfl rfl ?_; simp only [putT, st, ev, gt, hp, ofV, constT, intT, List.length_map])
        obtain ⟨x6, hx6, H1⟩ := bnd H1
        refine WO_op rfl rfl (ev_ix (en := enc_Rec) hx6 rfl rfl rfl rfl rfl rfl rfl) ?_; simp only [putT, st, ev, gt, hp, ofV, constT, intT, List.length_map]
        refine WO_op (x := .cp (enc_Rec x6) 1) rfl rfl rfl ?_; simp only [putT, st, ev, gt, hp, ofV, constT, intT, List.length_map]
        refine WO_op (x := .c (cI .i64 x6.N)) rfl rfl rfl ?_; simp only [putT, st, ev, gt, hp, ofV, constT, intT, List.length_map]
        iterate 2 (refine WO_op rfl rfl rfl ?_; simp only [putT, st, ev, gt, hp, ofV, constT, intT, List.length_map])
        refine WO_nil ?_
        refine W_cond rfl (fun hc => ?_) (fun hc => ?_)
        · replace H1 := tr hc H1
          refine W_seq ?_
          refine W_region ?_
          refine WO_op rfl rfl rfl ?_; simp only [putT, st, ev, gt, hp, ofV, constT, intT, List.length_map]
          refine WO_nil ?_
          refine W_ret ?_
          obtain rfl := Option.some.inj H1
          obtain rfl := Option.some.inj H
          exact told3 rfl
        · replace H1 := fl hc H1
          refine W_skip ?_
          refine W_region ?_
          iterate 3 (refine WO_op rfl rfl rfl ?_; simp only [putT, st, ev, gt, hp, ofV, constT, intT, List.length_map])
          refine WO_nil ?_
          refine W_region ?_
          iterate 3 (refine WO_op rfl rfl rfl ?_; simp only [putT, st, ev, gt, hp, ofV, constT, intT, List.length_map])
          refine WO_nil ?_
          exact hW1 _ _ ((IH1 _ _ _ H1 rfl)) (le_intro [] [] (by decide) (by decide) rfl (by simp [leS, leT, leA, gt]) (by simp [leB, leT, leA]) (by simp [leR]))
    · replace H1 := fl hc H1
      refine W_exit ?_
      obtain rfl := Option.some.inj H1
      exact hX1 v3 _ rfl (le_intro [] [] (by decide) (by decide) rfl (by simp [leS, leT, leA, gt]) (by simp [leB, leT, leA]) (by simp [leR]))
set_option maxRecDepth 20000 in
set_option maxHeartbeats 1000000 in
theorem laws_FnExactRecAdd_ok {a1 : List Rec} {a2 : Int} {a3 : Int} {r : Bool} (H : laws_FnExactRecAdd a1 a2 a3 = some r) : R 9 [.c (cL enc_Rec a1) none, .c (cI .i64 a2) none, .c (cI .i64 a3) none] = some (.c (cB r) none, []) := by
  unfold laws_FnExactRecAdd at H
  refine Fz_walk 79 rfl rfl Try.func9 rfl (by kernel_rfl) rfl rfl rfl rfl ?_
  simp only [tellVs, tellV, tells, tell, st0, padT, SX.newRow, SX.newBox, List.length_cons, List.length_nil, Nat.reduceAdd, Nat.reduceSub, List.replicate, List.cons_append, List.nil_append, List.foldl_cons, List.foldl_nil]
  refine W_seq ?_
  refine W_region ?_
  refine WO_op rfl rfl rfl ?_; simp only [putT, st, ev, gt, hp, ofV, constT, intT, List.length_map]
  refine WO_nil ?_
  refine W_seq ?_
  refine W_region ?_
  refine WO_op rfl rfl rfl ?_; simp only [putT, st, ev, gt, hp, ofV, constT, intT, List.length_map]
  refine WO_nil ?_
  refine W_seq ?_
  refine W_region ?_
  iterate 2 (refine WO_op rfl rfl rfl ?_; simp only [putT, st, ev, gt, hp, ofV, constT, intT, List.length_map])
  obtain ⟨x4, hx4, H⟩ := bnd H
  refine WO_op (x := .c (cI .i64 x4)) (σ' := ⟨[], [], []⟩) rfl rfl (ev_callG (al := [.c (cL enc_Rec a1), .c (cI .i64 1048576)]) (ls := []) (laws_szRecS_ok hx4) rfl rfl rfl rfl rfl (by decide) rfl rfl rfl rfl rfl rfl) ?_; simp only [putT, st, ev, gt, hp, ofV, constT, intT, List.length_map]
  refine WO_op rfl rfl rfl ?_; simp only [putT, st, ev, gt, hp, ofV, constT, intT, List.length_map]
  refine WO_nil ?_
  refine W_seq ?_
  refine W_seq ?_
  refine W_region ?_
  iterate 2 (refine WO_op rfl rfl rfl ?_; simp only [putT, st, ev, gt, hp, ofV, constT, intT, List.length_map])
  refine WO_nil ?_
  refine W_cond rfl (fun hc => ?_) (fun hc => ?_)
  · replace H := tr hc H
    refine W_seq ?_
    refine W_region ?_
    refine WO_op rfl rfl rfl ?_; simp only [putT, st, ev, gt, hp, ofV, constT, intT, List.length_map]
    refine WO_nil ?_
    refine W_ret ?_
    obtain rfl := Option.some.inj H
    exact told3 rfl
  · replace H := fl hc H
    refine W_skip ?_
    refine W_seq ?_
    refine W_region ?_
    refine WO_op rfl rfl rfl ?_; simp only [putT, st, ev, gt, hp, ofV, constT, intT, List.length_map]
    obtain ⟨x5, hx5, H⟩ := bnd H
    refine WO_op (x := .row 0) (σ' := ⟨[], [], [rr 2 enc_Rec x5 true]⟩) rfl rfl (ev_callG (al := [.c (cL enc_Rec a1)]) (ls := []) (laws_toRecS_ok hx5) rfl rfl rfl rfl rfl (by decide) rfl rfl (by simp only [flatA, flatV, flatC, List.all_cons, List.all_nil, Option.all_some, Bool.and_self, Bool.or_true, fl_Rec]) rfl rfl rfl) ?_; simp only [putT, st, ev, gt, hp, ofV, constT, intT, List.length_map]
    iterate 2 (refine WO_op rfl rfl rfl ?_; simp only [putT, st, ev, gt, hp, ofV, constT, intT, List.length_map])
    obtain ⟨x6, hx6, H⟩ := bnd H
    refine WO_op (x := .row 1) (σ' := ⟨[], [], [rr 2 enc_Rec x5 true, rr 2 enc_Rec x6 true]⟩) rfl rfl (ev_callG (al := [.row 0, .c (cI .i64 a2), .c (cI .i64 a3)]) (ls := []) (spec_RecAdd_ok hx6) rfl rfl rfl rfl rfl (by decide) rfl rfl (by simp only [flatA, flatV, flatC, List.all_cons, List.all_nil, Option.all_some, Bool.and_self, Bool.or_true, fl_Rec]) rfl rfl rfl) ?_; simp only [putT, st, ev, gt, hp, ofV, constT, intT, List.length_map]
    refine WO_op rfl rfl rfl ?_; simp only [putT, st, ev, gt, hp, ofV, constT, intT, List.length_map]
    refine WO_nil ?_
    refine W_seq ?_
    refine W_region ?_
    refine WO_op rfl rfl rfl ?_; simp only [putT, st, ev, gt, hp, ofV, constT, intT, List.length_map]
    obtain ⟨x7, hx7, H⟩ := bnd H
    refine WO_op (x := .row 2) (σ' := ⟨[], [], [rr 2 enc_Rec x5 true, rr 2 enc_Rec x6 true, rr 2 enc_Rec x7 true]⟩) rfl rfl (ev_callG (al := [.c (cL enc_Rec a1)]) (ls := []) (laws_toRecS_ok hx7) rfl rfl rfl rfl rfl (by decide) rfl rfl (by simp only [flatA, flatV, flatC, List.all_cons, List.all_nil, Option.all_some, Bool.and_self, Bool.or_true, fl_Rec]) rfl rfl rfl) ?_; simp only [putT, st, ev, gt, hp, ofV, constT, intT, List.length_map]
    refine WO_op rfl rfl rfl ?_; simp only [putT, st, ev, gt, hp, ofV, constT, intT, List.length_map]
    refine WO_nil ?_
    refine W_seq ?_
    refine W_region ?_
    iterate 3 (refine WO_op rfl rfl rfl ?_; simp only [putT, st, ev, gt, hp, ofV, constT, intT, List.length_map])
    obtain ⟨x8, hx8, H⟩ := bnd H
    refine WO_op (x := .row 3) (σ' := ⟨[], [], [rr 2 enc_Rec x5 true, rr 2 enc_Rec x6 true, rr 2 enc_Rec x7 true, rr 2 enc_Rec x8 true]⟩) rfl rfl (ev_callG (al := [.row 2, .c (cI .i64 a2), .c (cI .i64 a3)]) (ls := []) (impl_RecAdd_ok hx8) rfl rfl rfl rfl rfl (by decide) rfl rfl (by simp only [flatA, flatV, flatC, List.all_cons, List.all_nil, Option.all_some, Bool.and_self, Bool.or_true, fl_Rec]) rfl rfl rfl) ?_; simp only [putT, st, ev, gt, hp, ofV, constT, intT, List.length_map]
    refine WO_op rfl rfl rfl ?_; simp only [putT, st, ev, gt, hp, ofV, constT, intT, List.length_map]
    refine WO_nil ?_
    refine W_seq ?_
    refine W_seq ?_
    refine W_region ?_
    iterate 2 (refine WO_op rfl rfl rfl ?_; simp only [putT, st, ev, gt, hp, ofV, constT, intT, List.length_map])
    obtain ⟨x9, hx9, H⟩ := bnd H
    refine WO_op (x := .c (cB x9)) (σ' := ⟨[], [], [rr 2 enc_Rec x5 true, rr 2 enc_Rec x6 true, rr 2 enc_Rec x7 true, rr 2 enc_Rec x8 true]⟩) rfl rfl (ev_callG (al := [.row 3, .row 1]) (ls := []) (laws_eqRecS_ok hx9) rfl rfl rfl rfl rfl (by decide) rfl rfl rfl rfl rfl rfl) ?_; simp only [putT, st, ev, gt, hp, ofV, constT, intT, List.length_map]
    refine WO_op rfl rfl rfl ?_; simp only [putT, st, ev, gt, hp, ofV, constT, intT, List.length_map]
    refine WO_nil ?_
    refine W_cond rfl (fun hc => ?_) (fun hc => ?_)
    · replace H := tr hc H
      refine W_seq ?_
      refine W_region ?_
      refine WO_op rfl rfl rfl ?_; simp only [putT, st, ev, gt, hp, ofV, constT, intT, List.length_map]
      refine WO_nil ?_
      refine W_ret ?_
      obtain rfl := Option.some.inj H
      exact told3 rfl
    · replace H := fl hc H
      refine W_skip ?_
      refine W_seq ?_
      refine W_seq ?_
      refine W_region ?_
      iterate 2 (refine WO_op rfl rfl rfl ?_; simp only [putT, st, ev, gt, hp, ofV, constT, intT, List.length_map])
      obtain ⟨x10, hx10, H⟩ := bnd H
      refine WO_op (x := .row 4) (σ' := ⟨[], [], [rr 2 enc_Rec x5 true, rr 2 enc_Rec x6 true, rr 2 enc_Rec x7 true, rr 2 enc_Rec x8 true, rr 2 enc_Rec x10 true]⟩) rfl rfl (ev_callG (al := [.c (cL enc_Rec a1)]) (ls := []) (laws_toRecS_ok hx10) rfl rfl rfl rfl rfl (by decide) rfl rfl (by simp only [flatA, flatV, flatC, List.all_cons, List.all_nil, Option.all_some, Bool.and_self, Bool.or_true, fl_Rec]) rfl rfl rfl) ?_; simp only [putT, st, ev, gt, hp, ofV, constT, intT, List.length_map]
      obtain ⟨x11, hx11, H⟩ := bnd H
      refine WO_op (x := .c (cB x11)) (σ' := ⟨[], [], [rr 2 enc_Rec x5 true, rr 2 enc_Rec x6 true, rr 2 enc_Rec x7 true, rr 2 enc_Rec x8 true, rr 2 enc_Rec x10 true]⟩) rfl rfl (ev_callG (al := [.row 2, .row 4]) (ls := []) (laws_eqRecS_ok hx11) rfl rfl rfl rfl rfl (by decide) rfl rfl rfl rfl rfl rfl) ?_; simp only [putT, st, ev, gt, hp, ofV, constT, intT, List.length_map]
      refine WO_op rfl rfl rfl ?_; simp only [putT, st, ev, gt, hp, ofV, constT, intT, List.length_map]
      refine WO_nil ?_
      refine W_cond rfl (fun hc => ?_) (fun hc => ?_)
      · replace H := tr hc H
        refine W_seq ?_
        refine W_region ?_
        refine WO_op rfl rfl rfl ?_; simp only [putT, st, ev, gt, hp, ofV, constT, intT, List.length_map]
        refine WO_nil ?_
        refine W_ret ?_
        obtain rfl := Option.some.inj H
        exact told3 rfl
      · replace H := fl hc H
        refine W_skip ?_
        refine W_seq ?_
        refine W_region ?_
        refine WO_op rfl rfl rfl ?_; simp only [putT, st, ev, gt, hp, ofV, constT, intT, List.length_map]
        refine WO_nil ?_
        refine W_seq ?_
        refine W_region ?_
        iterate 2 (refine WO_op rfl rfl rfl ?_; simp only [putT, st, ev, gt, hp, ofV, constT, intT, List.length_map])
        obtain ⟨x12, hx12, H⟩ := bnd H
        refine WO_op (x := .c (cI .i64 x12.1)) (σ' := ⟨[], [], [rr 2 enc_Rec x5 true, rr 2 enc_Rec x6 true, rr 2 enc_Rec x12.2 true, rr 2 enc_Rec x8 true, rr 2 enc_Rec x10 true]⟩) rfl rfl (ev_callG (al := [.row 2, .c (cI .i64 1)]) (ls := [.r 2]) (laws_markRecS_ok hx12) rfl rfl rfl rfl rfl (by decide) rfl rfl (by simp only [flatA, flatV, flatC, List.all_cons, List.all_nil, Option.all_some, Bool.and_self, Bool.or_true, fl_Rec]) rfl rfl rfl) ?_; simp only [putT, st, ev, gt, hp, ofV, constT, intT, List.length_map]
        refine WO_op rfl rfl rfl ?_; simp only [putT, st, ev, gt, hp, ofV, constT, intT, List.length_map]
        refine WO_nil ?_
        refine W_seq ?_
        refine W_seq ?_
        refine W_region ?_
        iterate 3 (refine WO_op rfl rfl rfl ?_; simp only [putT, st, ev, gt, hp, ofV, constT, intT, List.length_map])
        refine WO_if rfl rfl rfl (fun hc => ?_) (fun hc => ?_)
        · replace H := tr hc H
          simp only [putT, st, ev, gt, hp, ofV, constT, intT, List.length_map]
          refine WO_skip rfl rfl ?_; simp only [putT, st, ev, gt, hp, ofV, constT, intT, List.length_map]
          refine WO_skip rfl rfl ?_; simp only [putT, st, ev, gt, hp, ofV, constT, intT, List.length_map]
          refine WO_skip rfl rfl ?_; simp only [putT, st, ev, gt, hp, ofV, constT, intT, List.length_map]
          refine WO_skip rfl rfl ?_; simp only [putT, st, ev, gt, hp, ofV, constT, intT, List.length_map]
          refine WO_op (x := .c (cB true)) rfl rfl rfl ?_; simp only [putT, st, ev, gt, hp, ofV, constT, intT, List.length_map]
          refine WO_nil ?_
          refine W_cond (t := true) rfl (fun _ => ?_) (fun h => by cases h)
          refine W_seq ?_
          refine W_region ?_
          refine WO_op rfl rfl rfl ?_; simp only [putT, st, ev, gt, hp, ofV, constT, intT, List.length_map]
          refine WO_nil ?_
          refine W_ret ?_
          obtain rfl := Option.some.inj H
          exact told3 rfl
        · replace H := fl hc H
          simp only [putT, st, ev, gt, hp, ofV, constT, intT, List.length_map]
          iterate 2 (refine WO_want rfl rfl rfl ?_; simp only [putT, st, ev, gt, hp, ofV, constT, intT, List.length_map])
          obtain ⟨x13, hx13, H⟩ := bnd H
          refine WO_want (x := .c (cB x13)) (σ' := ⟨[], [], [rr 2 enc_Rec x5 true, rr 2 enc_Rec x6 true, rr 2 enc_Rec x12.2 true, rr 2 enc_Rec x8 true, rr 2 enc_Rec x10 true]⟩) rfl rfl (ev_callG (al := [.row 3, .row 1]) (ls := []) (laws_eqRecS_ok hx13) rfl rfl rfl rfl rfl (by decide) rfl rfl rfl rfl rfl rfl) ?_; simp only [putT, st, ev, gt, hp, ofV, constT, intT, List.length_map]
          refine WO_want rfl rfl rfl ?_; simp only [putT, st, ev, gt, hp, ofV, constT, intT, List.length_map]
          refine WO_op (x := .c (cB (!x13))) rfl rfl rfl ?_; simp only [putT, st, ev, gt, hp, ofV, constT, intT, List.length_map]
          refine WO_nil ?_
          refine W_cond rfl (fun hc => ?_) (fun hc => ?_)
          · replace H := tr hc H
            refine W_seq ?_
            refine W_region ?_
            refine WO_op rfl rfl rfl ?_; simp only [putT, st, ev, gt, hp, ofV, constT, intT, List.length_map]
            refine WO_nil ?_
            refine W_ret ?_
            obtain rfl := Option.some.inj H
            exact told3 rfl
          · replace H := fl hc H
            refine W_skip ?_
            refine W_seq ?_
            refine W_region ?_
            refine WO_op rfl rfl rfl ?_; simp only [putT, st, ev, gt, hp, ofV, constT, intT, List.length_map]
            refine WO_nil ?_
            refine W_seq ?_
            refine W_region ?_
            iterate 2 (refine WO_op rfl rfl rfl ?_; simp only [putT, st, ev, gt, hp, ofV, constT, intT, List.length_map])
            obtain ⟨x14, hx14, H⟩ := bnd H
            refine WO_op (x := .c (cI .i64 x14.1)) (σ' := ⟨[], [], [rr 2 enc_Rec x5 true, rr 2 enc_Rec x6 true, rr 2 enc_Rec x12.2 true, rr 2 enc_Rec x14.2 true, rr 2 enc_Rec x10 true]⟩) rfl rfl (ev_callG (al := [.row 3, .c (cI .i64 1)]) (ls := [.r 3]) (laws_markRecS_ok hx14) rfl rfl rfl rfl rfl (by decide) rfl rfl (by simp only [flatA, flatV, flatC, List.all_cons, List.all_nil, Option.all_some, Bool.and_self, Bool.or_true, fl_Rec]) rfl rfl rfl) ?_; simp only [putT, st, ev, gt, hp, ofV, constT, intT, List.length_map]
            refine WO_op rfl rfl rfl ?_; simp only [putT, st, ev, gt, hp, ofV, constT, intT, List.length_map]
            refine WO_nil ?_
            refine W_seq ?_
            refine W_region ?_
            refine WO_op rfl rfl rfl ?_; simp only [putT, st, ev, gt, hp, ofV, constT, intT, List.length_map]
            refine WO_nil ?_
            refine W_seq ?_
            refine W_region ?_
            iterate 2 (refine WO_op rfl rfl rfl ?_; simp only [putT, st, ev, gt, hp, ofV, constT, intT, List.length_map])
            obtain ⟨x15, hx15, H⟩ := bnd H
            refine WO_op (x := .c (cI .i64 x15)) (σ' := ⟨[], [], [rr 2 enc_Rec x5 true, rr 2 enc_Rec x6 true, rr 2 enc_Rec x12.2 true, rr 2 enc_Rec x14.2 true, rr 2 enc_Rec x10 true]⟩) rfl rfl (ev_callG (al := [.row 3, .c (cI .i64 1)]) (ls := []) (laws_heldRecS_ok hx15) rfl rfl rfl rfl rfl (by decide) rfl rfl rfl rfl rfl rfl) ?_; simp only [putT, st, ev, gt, hp, ofV, constT, intT, List.length_map]
            refine WO_op rfl rfl rfl ?_; simp only [putT, st, ev, gt, hp, ofV, constT, intT, List.length_map]
            refine WO_nil ?_
            refine W_seq ?_
            refine W_seq ?_
            refine W_region ?_
            iterate 2 (refine WO_op rfl rfl rfl ?_; simp only [putT, st, ev, gt, hp, ofV, constT, intT, List.length_map])
            refine WO_nil ?_
            refine W_cond rfl (fun hc => ?_) (fun hc => ?_)
            · replace H := tr hc H
              refine W_seq ?_
              refine W_region ?_
              refine WO_op rfl rfl rfl ?_; simp only [putT, st, ev, gt, hp, ofV, constT, intT, List.length_map]
              refine WO_nil ?_
              refine W_ret ?_
              obtain rfl := Option.some.inj H
              exact told3 rfl
            · replace H := fl hc H
              refine W_skip ?_
              refine W_seq ?_
              refine W_seq ?_
              refine W_region ?_
              iterate 3 (refine WO_op rfl rfl rfl ?_; simp only [putT, st, ev, gt, hp, ofV, constT, intT, List.length_map])
              refine WO_nil ?_
              refine W_cond rfl (fun hc => ?_) (fun hc => ?_)
              · replace H := tr hc H
                refine W_seq ?_
                refine W_region ?_
                refine WO_op rfl rfl rfl ?_; simp only [putT, st, ev, gt, hp, ofV, constT, intT, List.length_map]
                refine WO_nil ?_
                refine W_ret ?_
                obtain rfl := Option.some.inj H
                exact told3 rfl
              · replace H := fl hc H
                refine W_skip ?_
                refine W_seq ?_
                refine W_region ?_
                refine WO_op rfl rfl rfl ?_; simp only [putT, st, ev, gt, hp, ofV, constT, intT, List.length_map]
                obtain ⟨x16, hx16, H⟩ := bnd H
                refine WO_op (x := .row 5) (σ' := ⟨[], [], [rr 2 enc_Rec x5 true, rr 2 enc_Rec x6 true, rr 2 enc_Rec x12.2 true, rr 2 enc_Rec x14.2 true, rr 2 enc_Rec x10 true, rr 2 enc_Rec x16 true]⟩) rfl rfl (ev_callG (al := [.c (cL enc_Rec a1)]) (ls := []) (laws_toRecS_ok hx16) rfl rfl rfl rfl rfl (by decide) rfl rfl (by simp only [flatA, flatV, flatC, List.all_cons, List.all_nil, Option.all_some, Bool.and_self, Bool.or_true, fl_Rec]) rfl rfl rfl) ?_; simp only [putT, st, ev, gt, hp, ofV, constT, intT, List.length_map]
                iterate 2 (refine WO_op rfl rfl rfl ?_; simp only [putT, st, ev, gt, hp, ofV, constT, intT, List.length_map])
                obtain ⟨x17, hx17, H⟩ := bnd H
                refine WO_op (x := .row 6) (σ' := ⟨[], [], [rr 2 enc_Rec x5 true, rr 2 enc_Rec x6 true, rr 2 enc_Rec x12.2 true, rr 2 enc_Rec x14.2 true, rr 2 enc_Rec x10 true, rr 2 enc_Rec x16 true, rr 2 enc_Rec x17 true]⟩) rfl rfl (ev_callG (al := [.row 5, .c (cI .i64 a2), .c (cI .i64 a3)]) (ls := []) (impl_RecAdd_ok hx17) rfl rfl rfl rfl rfl (by decide) rfl rfl (by simp only [flatA, flatV, flatC, List.all_cons, List.all_nil, Option.all_some, Bool.and_self, Bool.or_true, fl_Rec]) rfl rfl rfl) ?_; simp only [putT, st, ev, gt, hp, ofV, constT, intT, List.length_map]
                refine WO_op rfl rfl rfl ?_; simp only [putT, st, ev, gt, hp, ofV, constT, intT, List.length_map]
                refine WO_nil ?_
                refine W_seq ?_
                refine W_seq ?_
                refine W_region ?_
                iterate 2 (refine WO_op rfl rfl rfl ?_; simp only [putT, st, ev, gt, hp, ofV, constT, intT, List.length_map])
                obtain ⟨x18, hx18, H⟩ := bnd H
                refine WO_op (x := .c (cB x18)) (σ' := ⟨[], [], [rr 2 enc_Rec x5 true, rr 2 enc_Rec x6 true, rr 2 enc_Rec x12.2 true, rr 2 enc_Rec x14.2 true, rr 2 enc_Rec x10 true, rr 2 enc_Rec x16 true, rr 2 enc_Rec x17 true]⟩) rfl rfl (ev_callG (al := [.row 6, .row 1]) (ls := []) (laws_eqRecS_ok hx18) rfl rfl rfl rfl rfl (by decide) rfl rfl rfl rfl rfl rfl) ?_; simp only [putT, st, ev, gt, hp, ofV, constT, intT, List.length_map]
                refine WO_op rfl rfl rfl ?_; simp only [putT, st, ev, gt, hp, ofV, constT, intT, List.length_map]
                refine WO_nil ?_
                refine W_cond rfl (fun hc => ?_) (fun hc => ?_)
                · replace H := tr hc H
                  refine W_seq ?_
                  refine W_region ?_
                  refine WO_op rfl rfl rfl ?_; simp only [putT, st, ev, gt, hp, ofV, constT, intT, List.length_map]
                  refine WO_nil ?_
                  refine W_ret ?_
                  obtain rfl := Option.some.inj H
                  exact told3 rfl
                · replace H := fl hc H
                  refine W_skip ?_
                  refine W_seq ?_
                  refine W_region ?_
                  refine WO_op rfl rfl rfl ?_; simp only [putT, st, ev, gt, hp, ofV, constT, intT, List.length_map]
                  refine WO_nil ?_
                  refine W_seq ?_
                  refine W_region ?_
                  iterate 2 (refine WO_op rfl rfl rfl ?_; simp only [putT, st, ev, gt, hp, ofV, constT, intT, List.length_map])
                  obtain ⟨x19, hx19, H⟩ := bnd H
                  refine WO_op (x := .c (cI .i64 x19)) (σ' := ⟨[], [], [rr 2 enc_Rec x5 true, rr 2 enc_Rec x6 true, rr 2 enc_Rec x12.2 true, rr 2 enc_Rec x14.2 true, rr 2 enc_Rec x10 true, rr 2 enc_Rec x16 true, rr 2 enc_Rec x17 true]⟩) rfl rfl (ev_callG (al := [.row 3, .c (cI .i64 1)]) (ls := []) (laws_heldRecS_ok hx19) rfl rfl rfl rfl rfl (by decide) rfl rfl rfl rfl rfl rfl) ?_; simp only [putT, st, ev, gt, hp, ofV, constT, intT, List.length_map]
                  refine WO_op rfl rfl rfl ?_; simp only [putT, st, ev, gt, hp, ofV, constT, intT, List.length_map]
                  refine WO_nil ?_
                  refine W_seq ?_
                  refine W_seq ?_
                  refine W_region ?_
                  iterate 2 (refine WO_op rfl rfl rfl ?_; simp only [putT, st, ev, gt, hp, ofV, constT, intT, List.length_map])
                  refine WO_nil ?_
                  refine W_cond rfl (fun hc => ?_) (fun hc => ?_)
                  · replace H := tr hc H
                    refine W_seq ?_
                    refine W_region ?_
                    refine WO_op rfl rfl rfl ?_; simp only [putT, st, ev, gt, hp, ofV, constT, intT, List.length_map]
                    refine WO_nil ?_
                    refine W_ret ?_
                    obtain rfl := Option.some.inj H
                    exact told3 rfl
                  · replace H := fl hc H
                    refine W_skip ?_
                    refine W_seq ?_
                    refine W_seq ?_
                    refine W_region ?_
                    iterate 3 (refine WO_op rfl rfl rfl ?_; simp only [putT, st, ev, gt, hp, ofV, constT, intT, List.length_map])
                    refine WO_nil ?_
                    refine W_cond rfl (fun hc => ?_) (fun hc => ?_)
                    · replace H := tr hc H
                      refine W_seq ?_
                      refine W_region ?_
                      refine WO_op rfl rfl rfl ?_; simp only [putT, st, ev, gt, hp, ofV, constT, intT, List.length_map]
                      refine WO_nil ?_
                      refine W_ret ?_
                      obtain rfl := Option.some.inj H
                      exact told3 rfl
                    · replace H := fl hc H
                      refine W_skip ?_
                      refine W_seq ?_
                      refine W_region ?_
                      refine WO_op rfl rfl rfl ?_; simp only [putT, st, ev, gt, hp, ofV, constT, intT, List.length_map]
                      refine WO_nil ?_
                      refine W_ret ?_
                      obtain rfl := Option.some.inj H
                      exact told3 rfl
end Go.Pu
