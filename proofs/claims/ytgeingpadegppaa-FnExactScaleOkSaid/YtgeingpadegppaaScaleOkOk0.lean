import Derived.Test.YtgeingpadegppaaScaleOkEn
set_option linter.unusedVariables false
set_option linter.unusedSimpArgs false
namespace Go.Pu
open Go Go.SX Go.Nt Go.Proofs
set_option maxRecDepth 20000 in
set_option maxHeartbeats 1000000 in
theorem laws_szRecS_ok {a1 : List Rec} {a2 : Int} {r : Int} (H : laws_szRecS a1 a2 = some r) : R 15 [.c (cL enc_Rec a1) none, .c (cI .i64 a2) none] = some (.c (cI .i64 r) none, []) := by
  unfold laws_szRecS at H
  refine Fz_walk 12 rfl rfl Try.func15 rfl (by kernel_rfl) rfl rfl rfl rfl ?_
  simp only [tellVs, tellV, tells, tell, st0, padT, SX.newRow, SX.newBox, List.length_cons, List.length_nil, Nat.reduceAdd, Nat.reduceSub, List.replicate, List.cons_append, List.nil_append]
  refine W_seq ?_
  refine W_region ?_
  refine WO_op rfl rfl rfl ?_; simp only [putT, st, ev, gt, hp, ofV, constT, intT, List.length_map]
  refine WO_nil ?_
  refine W_seq ?_
  refine W_region ?_
  iterate 5 (refine WO_op rfl rfl rfl ?_; simp only [putT, st, ev, gt, hp, ofV, constT, intT, List.length_map])
  refine WO_nil ?_
  refine W_seq ?_
  refine W_seq ?_
  refine W_region ?_
  iterate 2 (refine WO_op rfl rfl rfl ?_; simp only [putT, st, ev, gt, hp, ofV, constT, intT, List.length_map])
  refine WO_nil ?_
  refine W_cond rfl (fun hc => ?_) (fun hc => ?_)
  · replace H := tr hc H
    refine W_seq ?_
    refine W_region ?_
    refine WO_op rfl rfl rfl ?_; simp only [putT, st, ev, gt, hp, ofV, constT, intT, List.length_map]
    refine WO_nil ?_
    refine W_ret ?_
    obtain rfl := Option.some.inj H
    exact told3 rfl
  · replace H := fl hc H
    refine W_skip ?_
    refine W_seq ?_
    refine W_region ?_
    iterate 2 (refine WO_op rfl rfl rfl ?_; simp only [putT, st, ev, gt, hp, ofV, constT, intT, List.length_map])
    refine WO_nil ?_
    refine W_ret ?_
    obtain rfl := Option.some.inj H
    exact told3 rfl
set_option maxRecDepth 20000 in
set_option maxHeartbeats 1000000 in
theorem laws_szScale_ok {a1 : Scale} {a2 : Int} {r : Int} (H : laws_szScale a1 a2 = some r) : R 45 [.ag [(cS a1.Name, none), (cI .i64 a1.Now, none), (cL enc_Rec a1.Recs, none)], .c (cI .i64 a2) none] = some (.c (cI .i64 r) none, []) := by
  unfold laws_szScale at H
  refine Fz_walk 19 rfl rfl Try.func45 rfl (by kernel_rfl) rfl rfl rfl rfl ?_
  simp only [tellVs, tellV, tells, tell, st0, padT, SX.newRow, SX.newBox, List.length_cons, List.length_nil, Nat.reduceAdd, Nat.reduceSub, List.replicate, List.cons_append, List.nil_append]
  refine W_seq ?_
  refine W_region ?_
  refine WO_op (x := .bp 0 0) (σ' := ⟨[], [some [.c (cS a1.Name), .c (cI .i64 a1.Now), .c (cL enc_Rec a1.Recs)]], []⟩) rfl rfl rfl ?_; simp only [putT, st, ev, gt, hp, ofV, constT, intT, List.length_map]
  refine WO_op rfl rfl rfl ?_; simp only [putT, st, ev, gt, hp, ofV, constT, intT, List.length_map]
  refine WO_nil ?_
  refine W_seq ?_
  refine W_region ?_
  refine WO_op rfl rfl rfl ?_; simp only [putT, st, ev, gt, hp, ofV, constT, intT, List.length_map]
  refine WO_op (x := .bp 0 0) rfl rfl rfl ?_; simp only [putT, st, ev, gt, hp, ofV, constT, intT, List.length_map]
  refine WO_op (x := .c (cS a1.Name)) rfl rfl rfl ?_; simp only [putT, st, ev, gt, hp, ofV, constT, intT, List.length_map]
  refine WO_op (x := .c (cI .i64 (a1.Name.length : Int))) rfl rfl rfl ?_; simp only [putT, st, ev, gt, hp, ofV, constT, intT, List.length_map]
  iterate 2 (refine WO_op rfl rfl rfl ?_; simp only [putT, st, ev, gt, hp, ofV, constT, intT, List.length_map])
  refine WO_nil ?_
  refine W_seq ?_
  refine W_seq ?_
  refine W_region ?_
  iterate 2 (refine WO_op rfl rfl rfl ?_; simp only [putT, st, ev, gt, hp, ofV, constT, intT, List.length_map])
  refine WO_nil ?_
  refine W_cond rfl (fun hc => ?_) (fun hc => ?_)
  · replace H := tr hc H
    refine W_seq ?_
    refine W_region ?_
    refine WO_op rfl rfl rfl ?_; simp only [putT, st, ev, gt, hp, ofV, constT, intT, List.length_map]
    refine WO_nil ?_
    refine W_ret ?_
    obtain rfl := Option.some.inj H
    exact told3 rfl
  · replace H := fl hc H
    refine W_skip ?_
    refine W_seq ?_
    refine W_region ?_
    refine WO_op (x := .bp 0 2) rfl rfl rfl ?_; simp only [putT, st, ev, gt, hp, ofV, constT, intT, List.length_map]
    refine WO_op (x := .c (cL enc_Rec a1.Recs)) rfl rfl rfl ?_; simp only [putT, st, ev, gt, hp, ofV, constT, intT, List.length_map]
    refine WO_op rfl rfl rfl ?_; simp only [putT, st, ev, gt, hp, ofV, constT, intT, List.length_map]
    obtain ⟨x3, hx3, H⟩ := bnd H
    refine WO_op (x := .c (cI .i64 x3)) (σ' := ⟨[], [some [.c (cS a1.Name), .c (cI .i64 a1.Now), .c (cL enc_Rec a1.Recs)]], []⟩) rfl rfl (ev_callG (al := [.c (cL enc_Rec a1.Recs), .c (cI .i64 (IntKind.i64.wrap (a2 - (a1.Name.length : Int))))]) (ls := []) (laws_szRecS_ok hx3) rfl rfl rfl rfl rfl (by decide) rfl rfl rfl rfl rfl rfl) ?_; simp only [putT, st, ev, gt, hp, ofV, constT, intT, List.length_map]
    refine WO_op rfl rfl rfl ?_; simp only [putT, st, ev, gt, hp, ofV, constT, intT, List.length_map]
    refine WO_nil ?_
    refine W_seq ?_
    refine W_seq ?_
    refine W_region ?_
    iterate 2 (refine WO_op rfl rfl rfl ?_; simp only [putT, st, ev, gt, hp, ofV, constT, intT, List.length_map])
    refine WO_nil ?_
    refine W_cond rfl (fun hc => ?_) (fun hc => ?_)
    · replace H := tr hc H
      refine W_seq ?_
      refine W_region ?_
      refine WO_op rfl rfl rfl ?_; simp only [putT, st, ev, gt, hp, ofV, constT, intT, List.length_map]
      refine WO_nil ?_
      refine W_ret ?_
      obtain rfl := Option.some.inj H
      exact told3 rfl
    · replace H := fl hc H
      refine W_skip ?_
      refine W_seq ?_
      refine W_region ?_
      iterate 2 (refine WO_op rfl rfl rfl ?_; simp only [putT, st, ev, gt, hp, ofV, constT, intT, List.length_map])
      refine WO_nil ?_
      refine W_ret ?_
      obtain rfl := Option.some.inj H
      exact told3 rfl
set_option maxRecDepth 20000 in
set_option maxHeartbeats 1000000 in
theorem laws_toRec_ok {a1 : Rec} {r : Rec} (H : laws_toRec a1 = some r) : R 65 [.ag [(cI .i64 a1.Time, none), (cI .i64 a1.N, none)]] = some (.ag [(cI .i64 r.Time, none), (cI .i64 r.N, none)], []) := by
  unfold laws_toRec at H
  refine Fz_walk 11 rfl rfl Try.func65 rfl (by kernel_rfl) rfl rfl rfl rfl ?_
  simp only [tellVs, tellV, tells, tell, st0, padT, SX.newRow, SX.newBox, List.length_cons, List.length_nil, Nat.reduceAdd, Nat.reduceSub, List.replicate, List.cons_append, List.nil_append]
  refine W_seq ?_
  refine W_region ?_
  refine WO_op (x := .bp 0 0) (σ' := ⟨[], [some [.c (cI .i64 a1.Time), .c (cI .i64 a1.N)]], []⟩) rfl rfl rfl ?_; simp only [putT, st, ev, gt, hp, ofV, constT, intT, List.length_map]
  refine WO_op (x := .bp 1 0) (σ' := ⟨[], [some [.c (cI .i64 a1.Time), .c (cI .i64 a1.N)], some [.c (cI .i64 0), .c (cI .i64 0)]], []⟩) rfl rfl rfl ?_; simp only [putT, st, ev, gt, hp, ofV, constT, intT, List.length_map]
  refine WO_nil ?_
  refine W_seq ?_
  refine W_region ?_
  refine WO_op (x := .bp 2 0) (σ' := ⟨[], [some [.c (cI .i64 a1.Time), .c (cI .i64 a1.N)], some [.c (cI .i64 0), .c (cI .i64 0)], some [.c (cI .i64 0), .c (cI .i64 0)]], []⟩) rfl rfl rfl ?_; simp only [putT, st, ev, gt, hp, ofV, constT, intT, List.length_map]
  refine WO_nil ?_
  refine W_seq ?_
  refine W_region ?_
  refine WO_op (x := .bp 0 0) rfl rfl rfl ?_; simp only [putT, st, ev, gt, hp, ofV, constT, intT, List.length_map]
  refine WO_op (x := .c (cI .i64 a1.Time)) rfl rfl rfl ?_; simp only [putT, st, ev, gt, hp, ofV, constT, intT, List.length_map]
  refine WO_op (x := .bp 2 0) rfl rfl rfl ?_; simp only [putT, st, ev, gt, hp, ofV, constT, intT, List.length_map]
  refine WO_op (x := .no) (σ' := ⟨[], [some [.c (cI .i64 a1.Time), .c (cI .i64 a1.N)], some [.c (cI .i64 0), .c (cI .i64 0)], some [.c (cI .i64 a1.Time), .c (cI .i64 0)]], []⟩) rfl rfl rfl ?_; simp only [putT, st, ev, gt, hp, ofV, constT, intT, List.length_map]
  refine WO_nil ?_
  refine W_seq ?_
  refine W_region ?_
  refine WO_op (x := .bp 0 1) rfl rfl rfl ?_; simp only [putT, st, ev, gt, hp, ofV, constT, intT, List.length_map]
  refine WO_op (x := .c (cI .i64 a1.N)) rfl rfl rfl ?_; simp only [putT, st, ev, gt, hp, ofV, constT, intT, List.length_map]
  refine WO_op (x := .bp 2 1) rfl rfl rfl ?_; simp only [putT, st, ev, gt, hp, ofV, constT, intT, List.length_map]
  refine WO_op (x := .no) (σ' := ⟨[], [some [.c (cI .i64 a1.Time), .c (cI .i64 a1.N)], some [.c (cI .i64 0), .c (cI .i64 0)], some [.c (cI .i64 a1.Time), .c (cI .i64 a1.N)]], []⟩) rfl rfl rfl ?_; simp only [putT, st, ev, gt, hp, ofV, constT, intT, List.length_map]
  refine WO_nil ?_
  refine W_seq ?_
  refine W_region ?_
  refine WO_op (x := .ag [.c (cI .i64 a1.Time), .c (cI .i64 a1.N)]) rfl rfl rfl ?_; simp only [putT, st, ev, gt, hp, ofV, constT, intT, List.length_map]
  refine WO_op (x := .no) (σ' := ⟨[], [some [.c (cI .i64 a1.Time), .c (cI .i64 a1.N)], some [.c (cI .i64 a1.Time), .c (cI .i64 a1.N)], some [.c (cI .i64 a1.Time), .c (cI .i64 a1.N)]], []⟩) rfl rfl rfl ?_; simp only [putT, st, ev, gt, hp, ofV, constT, intT, List.length_map]
  refine WO_nil ?_
  refine W_ret ?_
  obtain rfl := Option.some.inj H
  exact told3 rfl
set_option maxRecDepth 20000 in
set_option maxHeartbeats 1000000 in
theorem laws_toRecS_ok {a1 : List Rec} {r : List Rec} (H : laws_toRecS a1 = some r) : R 17 [.c (cL enc_Rec a1) none] = some (.c (cL enc_Rec r) (some 2), []) := by
  unfold laws_toRecS at H
  refine Fz_walk 23 rfl rfl Try.func17 rfl (by kernel_rfl) rfl rfl rfl rfl ?_
  simp only [tellVs, tellV, tells, tell, st0, padT, SX.newRow, SX.newBox, List.length_cons, List.length_nil, Nat.reduceAdd, Nat.reduceSub, List.replicate, List.cons_append, List.nil_append]
  refine W_seq ?_
  refine W_region ?_
  refine WO_op rfl rfl rfl ?_; simp only [putT, st, ev, gt, hp, ofV, constT, intT, List.length_map]
  refine WO_nil ?_
  refine W_seq ?_
  refine W_region ?_
  iterate 2 (refine WO_op rfl rfl rfl ?_; simp only [putT, st, ev, gt, hp, ofV, constT, intT, List.length_map])
  obtain ⟨m2, hm2, H⟩ := bnd H
  refine WO_op (x := .row 0) (σ' := ⟨[], [], [rr 2 enc_Rec m2 true]⟩) rfl rfl (ev_mk (en := enc_Rec) hm2 rfl rfl rfl rfl rfl rfl rfl rfl rfl rfl rfl rfl rfl rfl) ?_; simp only [putT, st, ev, gt, hp, ofV, constT, intT, List.length_map]
  refine WO_op rfl rfl rfl ?_; simp only [putT, st, ev, gt, hp, ofV, constT, intT, List.length_map]
  refine WO_nil ?_
  refine W_seq ?_
  refine W_seq ?_
  refine W_region ?_
  refine WO_op rfl rfl rfl ?_; simp only [putT, st, ev, gt, hp, ofV, constT, intT, List.length_map]
  refine WO_nil ?_
  refine W_block ?_
  obtain ⟨t9, ht9, H⟩ := bnd H
  refine loop_rule (ls := []) 0 (fun t9 : List Rec => ⟨[.no, .no, .no, .row 0], [], [rr 2 enc_Rec t9 true]⟩) (fun t => t9 = t) ⟨[.c (cL enc_Rec a1), .no, .no, .row 0, .c (cI .i64 0)], [], [rr 2 enc_Rec m2 true]⟩ (by repeat (first | exact mono_told | refine mono_seq ?_ | refine mono_blk ?_ | refine mono_lp ?_)) (le_intro [] [0] (by decide) (by decide) rfl (by simp [leS, leT, leA, gt]) (by simp [leB, leT, leA]) (by simp [leR])) ?_ ?_
  · intro t1 ht1; subst ht1
    refine W_seq ?_
    refine W_region ?_
    iterate 2 (refine WO_op rfl rfl rfl ?_; simp only [putT, st, ev, gt, hp, ofV, constT, intT, List.length_map])
    refine WO_nil ?_
    refine W_ret ?_
    obtain rfl := Option.some.inj H
    exact told5 rfl rfl rfl rfl (fitAs_nz rfl) rfl
  · intro V1 hV1 hW1 hX1
    refine laws_toRecS.l0.partial_correctness a1 (fun v3 v4 s' => s' = t9 → V1 ⟨[.c (cL enc_Rec a1), .no, .no, .row 0, .c (cI .i64 v3)], [], [rr 2 enc_Rec v4 true]⟩) ?_ _ _ _ ht9 rfl
    intro l0 IH1 v3 v4 s' H1 e
    subst e
    refine hV1 _ ?_
    refine W_seq ?_
    refine W_seq ?_
    refine W_region ?_
    iterate 4 (refine WO_op rfl rfl rfl ?_; simp only [putT, st, ev, gt, hp, ofV, constT, intT, List.length_map])
    refine WO_nil ?_
    refine W_cond rfl (fun hc => ?_) (fun hc => ?_)
    · replace H1 := tr hc H1
      refine W_skip ?_
      refine W_seq ?_
      refine W_block ?_
      refine W_region ?_
      iterate 4 (refine WO_op rfl rfl rfl ?_; simp only [putT, st, ev, gt, hp, ofV, constT, intT, List.length_map])
      obtain ⟨x5, hx5, H1⟩ := bnd H1
      refine WO_op rfl rfl (ev_ix (en := enc_Rec) hx5 rfl rfl rfl rfl rfl rfl rfl) ?_; simp only [putT, st, ev, gt, hp, ofV, constT, intT, List.length_map]
      refine WO_op (x := .ag [.c (cI .i64 x5.Time), .c (cI .i64 x5.N)]) rfl rfl rfl ?_; simp only [putT, st, ev, gt, hp, ofV, constT, intT, List.length_map]
      obtain ⟨x6, hx6, H1⟩ := bnd H1
      refine WO_op (x := .ag [.c (cI .i64 x6.Time), .c (cI .i64 x6.N)]) (σ' := ⟨[], [], [rr 2 enc_Rec v4 true]⟩) rfl rfl (ev_callG (al := [.ag [.c (cI .i64 x5.Time), .c (cI .i64 x5.N)]]) (ls := []) (laws_toRec_ok hx6) rfl rfl rfl rfl rfl (by decide) rfl rfl rfl rfl rfl rfl) ?_; simp only [putT, st, ev, gt, hp, ofV, constT, intT, List.length_map]
      obtain ⟨x7, hx7, H1⟩ := bnd H1
      refine WO_op rfl rfl (ev_ixR (en := enc_Rec) hx7 rfl rfl rfl rfl rfl rfl rfl) ?_; simp only [putT, st, ev, gt, hp, ofV, constT, intT, List.length_map]
      obtain ⟨m8, hm8, H1⟩ := bnd H1
      refine WO_op (x := .no) (σ' := ⟨[], [], [rr 2 enc_Rec m8 true]⟩) rfl rfl (ev_stR (en := enc_Rec) hm8 hx7 rfl rfl rfl rfl rfl rfl rfl rfl) ?_; simp only [putT, st, ev, gt, hp, ofV, constT, intT, List.length_map]
      refine WO_nil ?_
      refine W_region ?_
      iterate 3 (refine WO_op rfl rfl rfl ?_; simp only [putT, st, ev, gt, hp, ofV, constT, intT, List.length_map])
      refine WO_nil ?_
      exact hW1 _ _ (IH1 _ _ _ H1 rfl) (le_intro [] [0] (by decide) (by decide) rfl (by simp [leS, leT, leA, gt]) (by simp [leB, leT, leA]) (by simp [leR]))
    · replace H1 := fl hc H1
      refine W_exit ?_
      obtain rfl := Option.some.inj H1
      exact hX1 v4 _ rfl (le_intro [] [0] (by decide) (by decide) rfl (by simp [leS, leT, leA, gt]) (by simp [leB, leT, leA]) (by simp [leR]))
set_option maxRecDepth 20000 in
set_option maxHeartbeats 1000000 in
theorem laws_toScale_ok {a1 : Scale} {r : Scale} (H : laws_toScale a1 = some r) : R 47 [.ag [(cS a1.Name, none), (cI .i64 a1.Now, none), (cL enc_Rec a1.Recs, none)]] = some (.ag [(cS r.Name, none), (cI .i64 r.Now, none), (cL enc_Rec r.Recs, some 2)], []) := by
  unfold laws_toScale at H
  refine Fz_walk 15 rfl rfl Try.func47 rfl (by kernel_rfl) rfl rfl rfl rfl ?_
  simp only [tellVs, tellV, tells, tell, st0, padT, SX.newRow, SX.newBox, List.length_cons, List.length_nil, Nat.reduceAdd, Nat.reduceSub, List.replicate, List.cons_append, List.nil_append]
  refine W_seq ?_
  refine W_region ?_
  refine WO_op (x := .bp 0 0) (σ' := ⟨[], [some [.c (cS a1.Name), .c (cI .i64 a1.Now), .c (cL enc_Rec a1.Recs)]], []⟩) rfl rfl rfl ?_; simp only [putT, st, ev, gt, hp, ofV, constT, intT, List.length_map]
  refine WO_op (x := .bp 1 0) (σ' := ⟨[], [some [.c (cS a1.Name), .c (cI .i64 a1.Now), .c (cL enc_Rec a1.Recs)], some [.c (cS []), .c (cI .i64 0), .nil]], []⟩) rfl rfl rfl ?_; simp only [putT, st, ev, gt, hp, ofV, constT, intT, List.length_map]
  refine WO_nil ?_
  refine W_seq ?_
  refine W_region ?_
  refine WO_op (x := .bp 2 0) (σ' := ⟨[], [some [.c (cS a1.Name), .c (cI .i64 a1.Now), .c (cL enc_Rec a1.Recs)], some [.c (cS []), .c (cI .i64 0), .nil], some [.c (cS []), .c (cI .i64 0), .nil]], []⟩) rfl rfl rfl ?_; simp only [putT, st, ev, gt, hp, ofV, constT, intT, List.length_map]
  refine WO_nil ?_
  refine W_seq ?_
  refine W_region ?_
  refine WO_op (x := .bp 0 0) rfl rfl rfl ?_; simp only [putT, st, ev, gt, hp, ofV, constT, intT, List.length_map]
  refine WO_op (x := .c (cS a1.Name)) rfl rfl rfl ?_; simp only [putT, st, ev, gt, hp, ofV, constT, intT, List.length_map]
  refine WO_op (x := .bp 2 0) rfl rfl rfl ?_; simp only [putT, st, ev, gt, hp, ofV, constT, intT, List.length_map]
  refine WO_op (x := .no) (σ' := ⟨[], [some [.c (cS a1.Name), .c (cI .i64 a1.Now), .c (cL enc_Rec a1.Recs)], some [.c (cS []), .c (cI .i64 0), .nil], some [.c (cS a1.Name), .c (cI .i64 0), .nil]], []⟩) rfl rfl rfl ?_; simp only [putT, st, ev, gt, hp, ofV, constT, intT, List.length_map]
  refine WO_nil ?_
  refine W_seq ?_
  refine W_region ?_
  refine WO_op (x := .bp 0 1) rfl rfl rfl ?_; simp only [putT, st, ev, gt, hp, ofV, constT, intT, List.length_map]
  refine WO_op (x := .c (cI .i64 a1.Now)) rfl rfl rfl ?_; simp only [putT, st, ev, gt, hp, ofV, constT, intT, List.length_map]
  refine WO_op (x := .bp 2 1) rfl rfl rfl ?_; simp only [putT, st, ev, gt, hp, ofV, constT, intT, List.length_map]
  refine WO_op (x := .no) (σ' := ⟨[], [some [.c (cS a1.Name), .c (cI .i64 a1.Now), .c (cL enc_Rec a1.Recs)], some [.c (cS []), .c (cI .i64 0), .nil], some [.c (cS a1.Name), .c (cI .i64 a1.Now), .nil]], []⟩) rfl rfl rfl ?_; simp only [putT, st, ev, gt, hp, ofV, constT, intT, List.length_map]
  refine WO_nil ?_
  refine W_seq ?_
  refine W_region ?_
  refine WO_op (x := .bp 0 2) rfl rfl rfl ?_; simp only [putT, st, ev, gt, hp, ofV, constT, intT, List.length_map]
  refine WO_op (x := .c (cL enc_Rec a1.Recs)) rfl rfl rfl ?_; simp only [putT, st, ev, gt, hp, ofV, constT, intT, List.length_map]
  obtain ⟨x2, hx2, H⟩ := bnd H
  refine WO_op (x := .row 0) (σ' := ⟨[], [some [.c (cS a1.Name), .c (cI .i64 a1.Now), .c (cL enc_Rec a1.Recs)], some [.c (cS []), .c (cI .i64 0), .nil], some [.c (cS a1.Name), .c (cI .i64 a1.Now), .nil]], [rr 2 enc_Rec x2 true]⟩) rfl rfl (ev_callG (al := [.c (cL enc_Rec a1.Recs)]) (ls := []) (laws_toRecS_ok hx2) rfl rfl rfl rfl rfl (by decide) rfl rfl (by simp only [flatA, flatV, flatC, List.all_cons, List.all_nil, Option.all_some, Bool.and_self, Bool.or_true, fl_Rec]) rfl rfl rfl) ?_; simp only [putT, st, ev, gt, hp, ofV, constT, intT, List.length_map]
  refine WO_op (x := .bp 2 2) rfl rfl rfl ?_; simp only [putT, st, ev, gt, hp, ofV, constT, intT, List.length_map]
  refine WO_op (x := .no) (σ' := ⟨[], [some [.c (cS a1.Name), .c (cI .i64 a1.Now), .c (cL enc_Rec a1.Recs)], some [.c (cS []), .c (cI .i64 0), .nil], some [.c (cS a1.Name), .c (cI .i64 a1.Now), .row 0]], [rr 2 enc_Rec x2 true]⟩) rfl rfl rfl ?_; simp only [putT, st, ev, gt, hp, ofV, constT, intT, List.length_map]
  refine WO_nil ?_
  refine W_seq ?_
  refine W_region ?_
  refine WO_op (x := .ag [.c (cS a1.Name), .c (cI .i64 a1.Now), .row 0]) rfl rfl rfl ?_; simp only [putT, st, ev, gt, hp, ofV, constT, intT, List.length_map]
  refine WO_op (x := .no) (σ' := ⟨[], [some [.c (cS a1.Name), .c (cI .i64 a1.Now), .c (cL enc_Rec a1.Recs)], some [.c (cS a1.Name), .c (cI .i64 a1.Now), .row 0], some [.c (cS a1.Name), .c (cI .i64 a1.Now), .row 0]], [rr 2 enc_Rec x2 true]⟩) rfl rfl rfl ?_; simp only [putT, st, ev, gt, hp, ofV, constT, intT, List.length_map]
  refine WO_nil ?_
  refine W_ret ?_
  obtain rfl := Option.some.inj H
  exact told5 rfl rfl rfl rfl (fitAs_nz rfl) rfl
set_option maxRecDepth 20000 in
set_option maxHeartbeats 1000000 in
theorem spec_l1In_ok {a1 : Int} {a2 : Int} {a3 : Int} {r : Bool} (H : spec_l1In a1 a2 a3 = some r) : R 64 [.c (cI .i64 a1) none, .c (cI .i64 a2) none, .c (cI .i64 a3) none] = some (.c (cB r) none, []) := by
  unfold spec_l1In at H
  refine Fz_walk 15 rfl rfl Try.func64 rfl (by kernel_rfl) rfl rfl rfl rfl ?_
  simp only [tellVs, tellV, tells, tell, st0, padT, SX.newRow, SX.newBox, List.length_cons, List.length_nil, Nat.reduceAdd, Nat.reduceSub, List.replicate, List.cons_append, List.nil_append]
  refine W_seq ?_
  refine W_region ?_
  refine WO_op rfl rfl rfl ?_; simp only [putT, st, ev, gt, hp, ofV, constT, intT, List.length_map]
  refine WO_nil ?_
  refine W_seq ?_
  refine W_region ?_
  iterate 4 (refine WO_op rfl rfl rfl ?_; simp only [putT, st, ev, gt, hp, ofV, constT, intT, List.length_map])
  refine WO_if rfl rfl rfl (fun hc => ?_) (fun hc => ?_)
  · replace H := tr hc H
    simp only [putT, st, ev, gt, hp, ofV, constT, intT, List.length_map]
    iterate 3 (refine WO_want rfl rfl rfl ?_; simp only [putT, st, ev, gt, hp, ofV, constT, intT, List.length_map])
    refine WO_op (x := .c (cB (decide (a1 ≤ a3)))) rfl rfl rfl ?_; simp only [putT, st, ev, gt, hp, ofV, constT, intT, List.length_map]
    refine WO_op rfl rfl rfl ?_; simp only [putT, st, ev, gt, hp, ofV, constT, intT, List.length_map]
    refine WO_nil ?_
    refine W_ret ?_
    obtain rfl := Option.some.inj H
    exact told3 rfl
  · replace H := fl hc H
    simp only [putT, st, ev, gt, hp, ofV, constT, intT, List.length_map]
    refine WO_skip rfl rfl ?_; simp only [putT, st, ev, gt, hp, ofV, constT, intT, List.length_map]
    refine WO_skip rfl rfl ?_; simp only [putT, st, ev, gt, hp, ofV, constT, intT, List.length_map]
    refine WO_skip rfl rfl ?_; simp only [putT, st, ev, gt, hp, ofV, constT, intT, List.length_map]
    refine WO_op (x := .c (cB false)) rfl rfl rfl ?_; simp only [putT, st, ev, gt, hp, ofV, constT, intT, List.length_map]
    refine WO_op rfl rfl rfl ?_; simp only [putT, st, ev, gt, hp, ofV, constT, intT, List.length_map]
    refine WO_nil ?_
    refine W_ret ?_
    obtain rfl := Option.some.inj H
    exact told3 rfl
set_option maxRecDepth 20000 in
set_option maxHeartbeats 1000000 in
theorem spec_NameOk_ok {a1 : Str} {r : Bool} (H : spec_NameOk a1 = some r) : R 82 [.c (cS a1) none] = some (.c (cB r) none, []) := by
  unfold spec_NameOk at H
  refine Fz_walk 40 rfl rfl Try.func82 rfl (by kernel_rfl) rfl rfl rfl rfl ?_
  simp only [tellVs, tellV, tells, tell, st0, padT, SX.newRow, SX.newBox, List.length_cons, List.length_nil, Nat.reduceAdd, Nat.reduceSub, List.replicate, List.cons_append, List.nil_append]
  refine W_seq ?_
  refine W_region ?_
  refine WO_op rfl rfl rfl ?_; simp only [putT, st, ev, gt, hp, ofV, constT, intT, List.length_map]
  refine WO_nil ?_
  refine W_seq ?_
  refine W_seq ?_
  refine W_region ?_
  refine WO_op rfl rfl rfl ?_; simp only [putT, st, ev, gt, hp, ofV, constT, intT, List.length_map]
  refine WO_nil ?_
  refine W_block ?_
  obtain ⟨s6, hs6, H⟩ := bnd H
  refine loop_rule (ls := []) 0 (fun t4 : Unit => ⟨[.c (cS a1)], [], []⟩) (fun t => s6 = .inr t) ⟨[.c (cS a1), .no, .no, .c (cI .i64 0)], [], []⟩ (by repeat (first | exact mono_told | refine mono_seq ?_ | refine mono_blk ?_ | refine mono_lp ?_)) (le_intro [] [] (by decide) (by decide) rfl (by simp [leS, leT, leA, gt]) (by simp [leB, leT, leA]) (by simp [leR])) ?_ ?_
  · rintro t4 rfl
    refine W_seq ?_
    refine W_region ?_
    refine WO_op rfl rfl rfl ?_; simp only [putT, st, ev, gt, hp, ofV, constT, intT, List.length_map]
    refine WO_op (x := .c (cI .i64 (a1.length : Int))) rfl rfl rfl ?_; simp only [putT, st, ev, gt, hp, ofV, constT, intT, List.length_map]
    obtain ⟨x5, hx5, H⟩ := bnd H
    refine WO_op (x := .c (cB x5)) (σ' := ⟨[], [], []⟩) rfl rfl (ev_callG (al := [.c (cI .i64 (a1.length : Int)), .c (cI .i64 1), .c (cI .i64 20)]) (ls := []) (spec_l1In_ok hx5) rfl rfl rfl rfl rfl (by decide) rfl rfl rfl rfl rfl rfl) ?_; simp only [putT, st, ev, gt, hp, ofV, constT, intT, List.length_map]
    refine WO_op rfl rfl rfl ?_; simp only [putT, st, ev, gt, hp, ofV, constT, intT, List.length_map]
    refine WO_nil ?_
    refine W_ret ?_
    obtain rfl := Option.some.inj H
    exact told3 rfl
  · intro V1 hV1 hW1 hX1
    refine spec_NameOk.l0.partial_correctness a1 (fun v2 s' => s' = s6 → V1 ⟨[.c (cS a1), .no, .no, .c (cI .i64 v2)], [], []⟩) ?_ _ _ hs6 rfl
    intro l0 IH1 v2 s' H1 e
    subst e
    refine hV1 _ ?_
    refine W_seq ?_
    refine W_seq ?_
    refine W_region ?_
    iterate 2 (refine WO_op rfl rfl rfl ?_; simp only [putT, st, ev, gt, hp, ofV, constT, intT, List.length_map])
    refine WO_op (x := .c (cI .i64 (a1.length : Int))) rfl rfl rfl ?_; simp only [putT, st, ev, gt, hp, ofV, constT, intT, List.length_map]
    refine WO_op rfl rfl rfl ?_; simp only [putT, st, ev, gt, hp, ofV, constT, intT, List.length_map]
    refine WO_nil ?_
    refine W_cond rfl (fun hc => ?_) (fun hc => ?_)
    · replace H1 := tr hc H1
      refine W_skip ?_
      refine W_seq ?_
      refine W_block ?_
      refine W_seq ?_
      refine W_region ?_
      iterate 2 (refine WO_op rfl rfl rfl ?_; simp only [putT, st, ev, gt, hp, ofV, constT, intT, List.length_map])
      obtain ⟨c3, hc3, H1⟩ := bnd H1
      refine WO_op rfl rfl (ev_sx hc3 rfl rfl rfl rfl) ?_; simp only [putT, st, ev, gt, hp, ofV, constT, intT, List.length_map]
      refine WO_op rfl rfl rfl ?_; simp only [putT, st, ev, gt, hp, ofV, constT, intT, List.length_map]
      refine WO_nil ?_
      refine W_seq ?_
      refine W_region ?_
      iterate 3 (refine WO_op rfl rfl rfl ?_; simp only [putT, st, ev, gt, hp, ofV, constT, intT, List.length_map])
      refine WO_if rfl rfl rfl (fun hc => ?_) (fun hc => ?_)
      · replace H1 := tr hc H1
        simp only [putT, st, ev, gt, hp, ofV, constT, intT, List.length_map]
        iterate 2 (refine WO_want rfl rfl rfl ?_; simp only [putT, st, ev, gt, hp, ofV, constT, intT, List.length_map])
        refine WO_op (x := .c (cB (decide ((byte c3) ≤ 122)))) rfl rfl rfl ?_; simp only [putT, st, ev, gt, hp, ofV, constT, intT, List.length_map]
        refine WO_op rfl rfl rfl ?_; simp only [putT, st, ev, gt, hp, ofV, constT, intT, List.length_map]
        refine WO_if rfl rfl rfl (fun hc => ?_) (fun hc => ?_)
        · replace H1 := tr hc H1
          simp only [putT, st, ev, gt, hp, ofV, constT, intT, List.length_map]
          refine WO_skip rfl rfl ?_; simp only [putT, st, ev, gt, hp, ofV, constT, intT, List.length_map]
          refine WO_skip rfl rfl ?_; simp only [putT, st, ev, gt, hp, ofV, constT, intT, List.length_map]
          refine WO_skip rfl rfl ?_; simp only [putT, st, ev, gt, hp, ofV, constT, intT, List.length_map]
          refine WO_skip rfl rfl ?_; simp only [putT, st, ev, gt, hp, ofV, constT, intT, List.length_map]
          refine WO_skip rfl rfl ?_; simp only [putT, st, ev, gt, hp, ofV, constT, intT, List.length_map]
          refine WO_skip rfl rfl ?_; simp only [putT, st, ev, gt, hp, ofV, constT, intT, List.length_map]
          refine WO_skip rfl rfl ?_; simp only [putT, st, ev, gt, hp, ofV, constT, intT, List.length_map]
          refine WO_skip rfl rfl ?_; simp only [putT, st, ev, gt, hp, ofV, constT, intT, List.length_map]
          refine WO_skip rfl rfl ?_; simp only [putT, st, ev, gt, hp, ofV, constT, intT, List.length_map]
          refine WO_skip rfl rfl ?_; simp only [putT, st, ev, gt, hp, ofV, constT, intT, List.length_map]
          refine WO_skip rfl rfl ?_; simp only [putT, st, ev, gt, hp, ofV, constT, intT, List.length_map]
          refine WO_skip rfl rfl ?_; simp only [putT, st, ev, gt, hp, ofV, constT, intT, List.length_map]
          refine WO_skip rfl rfl ?_; simp only [putT, st, ev, gt, hp, ofV, constT, intT, List.length_map]
          refine WO_skip rfl rfl ?_; simp only [putT, st, ev, gt, hp, ofV, constT, intT, List.length_map]
          refine WO_op (x := .c (cB true)) rfl rfl rfl ?_; simp only [putT, st, ev, gt, hp, ofV, constT, intT, List.length_map]
          refine WO_op rfl rfl rfl ?_; simp only [putT, st, ev, gt, hp, ofV, constT, intT, List.length_map]
          refine WO_nil ?_
          refine W_cond rfl (fun hc => ?_) (fun hc => ?_)
          · replace H1 := tr hc H1
            refine W_seq ?_
            refine W_region ?_
            refine WO_op rfl rfl rfl ?_; simp only [putT, st, ev, gt, hp, ofV, constT, intT, List.length_map]
            refine WO_nil ?_
            refine W_ret ?_
            obtain rfl := Option.some.inj H1
            obtain rfl := Option.some.inj H
            exact told3 rfl
          · replace H1 := fl hc H1
            refine W_skip ?_
            refine W_region ?_
            iterate 3 (refine WO_op rfl rfl rfl ?_; simp only [putT, st, ev, gt, hp, ofV, constT, intT, List.length_map])
            refine WO_nil ?_
            exact hW1 _ _ (IH1 _ _ H1 rfl) (le_intro [] [] (by decide) (by decide) rfl (by simp [leS, leT, leA, gt]) (by simp [leB, leT, leA]) (by simp [leR]))
        · replace H1 := fl hc H1
          simp only [putT, st, ev, gt, hp, ofV, constT, intT, List.length_map]
          iterate 3 (refine WO_want rfl rfl rfl ?_; simp only [putT, st, ev, gt, hp, ofV, constT, intT, List.length_map])
          refine WO_if rfl rfl rfl (fun hc => ?_) (fun hc => ?_)
          · replace H1 := tr hc H1
            simp only [putT, st, ev, gt, hp, ofV, constT, intT, List.length_map]
            iterate 3 (refine WO_want rfl rfl rfl ?_; simp only [putT, st, ev, gt, hp, ofV, constT, intT, List.length_map])
            refine WO_if rfl rfl rfl (fun hc => ?_) (fun hc => ?_)
            · replace H1 := tr hc H1
              simp only [putT, st, ev, gt, hp, ofV, constT, intT, List.length_map]
              iterate 2 (refine WO_want rfl rfl rfl ?_; simp only [putT, st, ev, gt, hp, ofV, constT, intT, List.length_map])
              refine WO_want (x := .c (cB (decide ((byte c3) ≤ 57)))) rfl rfl rfl ?_; simp only [putT, st, ev, gt, hp, ofV, constT, intT, List.length_map]
              refine WO_want rfl rfl rfl ?_; simp only [putT, st, ev, gt, hp, ofV, constT, intT, List.length_map]
              refine WO_if rfl rfl rfl (fun hc => ?_) (fun hc => ?_)
              · replace H1 := tr hc H1
                simp only [putT, st, ev, gt, hp, ofV, constT, intT, List.length_map]
                refine WO_skip rfl rfl ?_; simp only [putT, st, ev, gt, hp, ofV, constT, intT, List.length_map]
                refine WO_skip rfl rfl ?_; simp only [putT, st, ev, gt, hp, ofV, constT, intT, List.length_map]
                iterate 2 (refine WO_want (x := .c (cB true)) rfl rfl rfl ?_; simp only [putT, st, ev, gt, hp, ofV, constT, intT, List.length_map])
                refine WO_op (x := .c (cB true)) rfl rfl rfl ?_; simp only [putT, st, ev, gt, hp, ofV, constT, intT, List.length_map]
                refine WO_op rfl rfl rfl ?_; simp only [putT, st, ev, gt, hp, ofV, constT, intT, List.length_map]
                refine WO_nil ?_
                refine W_cond rfl (fun hc => ?_) (fun hc => ?_)
                · replace H1 := tr hc H1
                  refine W_seq ?_
                  refine W_region ?_
                  refine WO_op rfl rfl rfl ?_; simp only [putT, st, ev, gt, hp, ofV, constT, intT, List.length_map]
                  refine WO_nil ?_
                  refine W_ret ?_
                  obtain rfl := Option.some.inj H1
                  obtain rfl := Option.some.inj H
                  exact told3 rfl
                · replace H1 := fl hc H1
                  refine W_skip ?_
                  refine W_region ?_
                  iterate 3 (refine WO_op rfl rfl rfl ?_; simp only [putT, st, ev, gt, hp, ofV, constT, intT, List.length_map])
                  refine WO_nil ?_
                  exact hW1 _ _ (IH1 _ _ H1 rfl) (le_intro [] [] (by decide) (by decide) rfl (by simp [leS, leT, leA, gt]) (by simp [leB, leT, leA]) (by simp [leR]))
              · replace H1 := fl hc H1
                simp only [putT, st, ev, gt, hp, ofV, constT, intT, List.length_map]
                iterate 2 (refine WO_want rfl rfl rfl ?_; simp only [putT, st, ev, gt, hp, ofV, constT, intT, List.length_map])
                iterate 2 (refine WO_want (x := .c (cB ((byte c3) == 45))) rfl rfl rfl ?_; simp only [putT, st, ev, gt, hp, ofV, constT, intT, List.length_map])
                refine WO_op (x := .c (cB ((byte c3) == 45))) rfl rfl rfl ?_; simp only [putT, st, ev, gt, hp, ofV, constT, intT, List.length_map]
                refine WO_op rfl rfl rfl ?_; simp only [putT, st, ev, gt, hp, ofV, constT, intT, List.length_map]
                refine WO_nil ?_
                refine W_cond rfl (fun hc => ?_) (fun hc => ?_)
                · replace H1 := tr hc H1
                  refine W_seq ?_
                  refine W_region ?_
                  refine WO_op rfl rfl rfl ?_; simp only [putT, st, ev, gt, hp, ofV, constT, intT, List.length_map]
                  refine WO_nil ?_
                  refine W_ret ?_
                  obtain rfl := Option.some.inj H1
                  obtain rfl := Option.some.inj H
                  exact told3 rfl
                · replace H1 := fl hc H1
                  refine W_skip ?_
                  refine W_region ?_
                  iterate 3 (refine WO_op rfl rfl rfl ?_; simp only [putT, st, ev, gt, hp, ofV, constT, intT, List.length_map])
                  refine WO_nil ?_
                  exact hW1 _ _ (IH1 _ _ H1 rfl) (le_intro [] [] (by decide) (by decide) rfl (by simp [leS, leT, leA, gt]) (by simp [leB, leT, leA]) (by simp [leR]))
            · replace H1 := fl hc H1
              simp only [putT, st, ev, gt, hp, ofV, constT, intT, List.length_map]
              refine WO_skip rfl rfl ?_; simp only [putT, st, ev, gt, hp, ofV, constT, intT, List.length_map]
              refine WO_skip rfl rfl ?_; simp only [putT, st, ev, gt, hp, ofV, constT, intT, List.length_map]
              refine WO_want (x := .c (cB false)) rfl rfl rfl ?_; simp only [putT, st, ev, gt, hp, ofV, constT, intT, List.length_map]
              iterate 3 (refine WO_want rfl rfl rfl ?_; simp only [putT, st, ev, gt, hp, ofV, constT, intT, List.length_map])
              iterate 2 (refine WO_want (x := .c (cB ((byte c3) == 45))) rfl rfl rfl ?_; simp only [putT, st, ev, gt, hp, ofV, constT, intT, List.length_map])
              refine WO_op (x := .c (cB ((byte c3) == 45))) rfl rfl rfl ?_; simp only [putT, st, ev, gt, hp, ofV, constT, intT, List.length_map]
              refine WO_op rfl rfl rfl ?_; simp only [putT, st, ev, gt, hp, ofV, constT, intT, List.length_map]
              refine WO_nil ?_
              refine W_cond rfl (fun hc => ?_) (fun hc => ?_)
              · replace H1 := tr hc H1
                refine W_seq ?_
                refine W_region ?_
                refine WO_op rfl rfl rfl ?_; simp only [putT, st, ev, gt, hp, ofV, constT, intT, List.length_map]
                refine WO_nil ?_
                refine W_ret ?_
                obtain rfl := Option.some.inj H1
                obtain rfl := Option.some.inj H
                exact told3 rfl
              · replace H1 := fl hc H1
                refine W_skip ?_
                refine W_region ?_
                iterate 3 (refine WO_op rfl rfl rfl ?_; simp only [putT, st, ev, gt, hp, ofV, constT, intT, List.length_map])
                refine WO_nil ?_
                exact hW1 _ _ (IH1 _ _ H1 rfl) (le_intro [] [] (by decide) (by decide) rfl (by simp [leS, leT, leA, gt]) (by simp [leB, leT, leA]) (by simp [leR]))
          · replace H1 := fl hc H1
            simp only [putT, st, ev, gt, hp, ofV, constT, intT, List.length_map]
            refine WO_skip rfl rfl ?_; simp only [putT, st, ev, gt, hp, ofV, constT, intT, List.length_map]
            refine WO_skip rfl rfl ?_; simp only [putT, st, ev, gt, hp, ofV, constT, intT, List.length_map]
            refine WO_skip rfl rfl ?_; simp only [putT, st, ev, gt, hp, ofV, constT, intT, List.length_map]
            refine WO_skip rfl rfl ?_; simp only [putT, st, ev, gt, hp, ofV, constT, intT, List.length_map]
            refine WO_skip rfl rfl ?_; simp only [putT, st, ev, gt, hp, ofV, constT, intT, List.length_map]
            refine WO_skip rfl rfl ?_; simp only [putT, st, ev, gt, hp, ofV, constT, intT, List.length_map]
            refine WO_skip rfl rfl ?_; simp only [putT, st, ev, gt, hp, ofV, constT, intT, List.length_map]
            refine WO_skip rfl rfl ?_; simp only [putT, st, ev, gt, hp, ofV, constT, intT, List.length_map]
            refine WO_skip rfl rfl ?_; simp only [putT, st, ev, gt, hp, ofV, constT, intT, List.length_map]
            refine WO_skip rfl rfl ?_; simp only [putT, st, ev, gt, hp, ofV, constT, intT, List.length_map]
            refine WO_want (x := .c (cB false)) rfl rfl rfl ?_; simp only [putT, st, ev, gt, hp, ofV, constT, intT, List.length_map]
            refine WO_op (x := .c (cB false)) rfl rfl rfl ?_; simp only [putT, st, ev, gt, hp, ofV, constT, intT, List.length_map]
            refine WO_op rfl rfl rfl ?_; simp only [putT, st, ev, gt, hp, ofV, constT, intT, List.length_map]
            refine WO_nil ?_
            refine W_cond rfl (fun hc => ?_) (fun hc => ?_)
            · replace H1 := tr hc H1
              refine W_seq ?_
              refine W_region ?_
              refine WO_op rfl rfl rfl ?_; simp only [putT, st, ev, gt, hp, ofV, constT, intT, List.length_map]
              refine WO_nil ?_
              refine W_ret ?_
              obtain rfl := Option.some.inj H1
              obtain rfl := Option.some.inj H
              exact told3 rfl
            · replace H1 := fl hc H1
              refine W_skip ?_
              refine W_region ?_
              iterate 3 (refine WO_op rfl rfl rfl ?_; simp only [putT, st, ev, gt, hp, ofV, constT, intT, List.length_map])
              refine WO_nil ?_
              exact hW1 _ _ (IH1 _ _ H1 rfl) (le_intro [] [] (by decide) (by decide) rfl (by simp [leS, leT, leA, gt]) (by simp [leB, leT, leA]) (by simp [leR]))
      · replace H1 := fl hc H1
        simp only [putT, st, ev, gt, hp, ofV, constT, intT, List.length_map]
        refine WO_skip rfl rfl ?_; simp only [putT, st, ev, gt, hp, ofV, constT, intT, List.length_map]
        refine WO_skip rfl rfl ?_; simp only [putT, st, ev, gt, hp, ofV, constT, intT, List.length_map]
        refine WO_op (x := .c (cB false)) rfl rfl rfl ?_; simp only [putT, st, ev, gt, hp, ofV, constT, intT, List.length_map]
        refine WO_op rfl rfl rfl ?_; simp only [putT, st, ev, gt, hp, ofV, constT, intT, List.length_map]
        iterate 3 (refine WO_want rfl rfl rfl ?_; simp only [putT, st, ev, gt, hp, ofV, constT, intT, List.length_map])
        refine WO_if rfl rfl rfl (fun hc => ?_) (fun hc => ?_)
        · replace H1 := tr hc H1
          simp only [putT, st, ev, gt, hp, ofV, constT, intT, List.length_map]
          iterate 3 (refine WO_want rfl rfl rfl ?_; simp only [putT, st, ev, gt, hp, ofV, constT, intT, List.length_map])
          refine WO_if rfl rfl rfl (fun hc => ?_) (fun hc => ?_)
          · replace H1 := tr hc H1
            simp only [putT, st, ev, gt, hp, ofV, constT, intT, List.length_map]
            iterate 2 (refine WO_want rfl rfl rfl ?_; simp only [putT, st, ev, gt, hp, ofV, constT, intT, List.length_map])
            refine WO_want (x := .c (cB (decide ((byte c3) ≤ 57)))) rfl rfl rfl ?_; simp only [putT, st, ev, gt, hp, ofV, constT, intT, List.length_map]
            refine WO_want rfl rfl rfl ?_; simp only [putT, st, ev, gt, hp, ofV, constT, intT, List.length_map]
            refine WO_if rfl rfl rfl (fun hc => ?_) (fun hc => ?_)
            · replace H1 := tr hc H1
              simp only [putT, st, ev, gt, hp, ofV, constT, intT, List.length_map]
              refine WO_skip rfl rfl ?_; simp only [putT, st, ev, gt, hp, ofV, constT, intT, List.length_map]
              refine WO_skip rfl rfl ?_; simp only [putT, st, ev, gt, hp, ofV, constT, intT, List.length_map]
              iterate 2 (refine WO_want (x := .c (cB true)) rfl rfl rfl ?_; simp only [putT, st, ev, gt, hp, ofV, constT, intT, List.length_map])
              refine WO_op (x := .c (cB true)) rfl rfl rfl ?_; simp only [putT, st, ev, gt, hp, ofV, constT, intT, List.length_map]
              refine WO_op rfl rfl rfl ?_; simp only [putT, st, ev, gt, hp, ofV, constT, intT, List.length_map]
              refine WO_nil ?_
              refine W_cond rfl (fun hc => ?_) (fun hc => ?_)
              · replace H1 := tr hc H1
                refine W_seq ?_
                refine W_region ?_
                refine WO_op rfl rfl rfl ?_; simp only [putT, st, ev, gt, hp, ofV, constT, intT, List.length_map]
                refine WO_nil ?_
                refine W_ret ?_
                obtain rfl := Option.some.inj H1
                obtain rfl := Option.some.inj H
                exact told3 rfl
              · replace H1 := fl hc H1
                refine W_skip ?_
                refine W_region ?_
                iterate 3 (refine WO_op rfl rfl rfl ?_; simp only [putT, st, ev, gt, hp, ofV, constT, intT, List.length_map])
                refine WO_nil ?_
                exact hW1 _ _ (IH1 _ _ H1 rfl) (le_intro [] [] (by decide) (by decide) rfl (by simp [leS, leT, leA, gt]) (by simp [leB, leT, leA]) (by simp [leR]))
            · replace H1 := fl hc H1
              simp only [putT, st, ev, gt, hp, ofV, constT, intT, List.length_map]
              iterate 2 (refine WO_want rfl rfl rfl ?_; simp only [putT, st, ev, gt, hp, ofV, constT, intT, List.length_map])
              iterate 2 (refine WO_want (x := .c (cB ((byte c3) == 45))) rfl rfl rfl ?_; simp only [putT, st, ev, gt, hp, ofV, constT, intT, List.length_map])
              refine WO_op (x := .c (cB ((byte c3) == 45))) rfl rfl rfl ?_; simp only [putT, st, ev, gt, hp, ofV, constT, intT, List.length_map]
              refine WO_op rfl rfl rfl ?_; simp only [putT, st, ev, gt, hp, ofV, constT, intT, List.length_map]
              refine WO_nil ?_
              refine W_cond rfl (fun hc => ?_) (fun hc => ?_)
              · replace H1 := tr hc H1
                refine W_seq ?_
                refine W_region ?_
                refine WO_op rfl rfl rfl ?_; simp only [putT, st, ev, gt, hp, ofV, constT, intT, List.length_map]
                refine WO_nil ?_
                refine W_ret ?_
                obtain rfl := Option.some.inj H1
                obtain rfl := Option.some.inj H
                exact told3 rfl
              · replace H1 := fl hc H1
                refine W_skip ?_
                refine W_region ?_
                iterate 3 (refine WO_op rfl rfl rfl ?_; simp only [putT, st, ev, gt, hp, ofV, constT, intT, List.length_map])
                refine WO_nil ?_
                exact hW1 _ _ (IH1 _ _ H1 rfl) (le_intro [] [] (by decide) (by decide) rfl (by simp [leS, leT, leA, gt]) (by simp [leB, leT, leA]) (by simp [leR]))
          · replace H1 := fl hc H1
            simp only [putT, st, ev, gt, hp, ofV, constT, intT, List.length_map]
            refine WO_skip rfl rfl ?_; simp only [putT, st, ev, gt, hp, ofV, constT, intT, List.length_map]
            refine WO_skip rfl rfl ?_; simp only [putT, st, ev, gt, hp, ofV, constT, intT, List.length_map]
            refine WO_want (x := .c (cB false)) rfl rfl rfl ?_; simp only [putT, st, ev, gt, hp, ofV, constT, intT, List.length_map]
            iterate 3 (refine WO_want rfl rfl rfl ?_; simp only [putT, st, ev, gt, hp, ofV, constT, intT, List.length_map])
            iterate 2 (refine WO_want (x := .c (cB ((byte c3) == 45))) rfl rfl rfl ?_; simp only [putT, st, ev, gt, hp, ofV, constT, intT, List.length_map])
            refine WO_op (x := .c (cB ((byte c3) == 45))) rfl rfl rfl ?_; simp only [putT, st, ev, gt, hp, ofV, constT, intT, List.length_map]
            refine WO_op rfl rfl rfl ?_; simp only [putT, st, ev, gt, hp, ofV, constT, intT, List.length_map]
            refine WO_nil ?_
            refine W_cond rfl (fun hc => ?_) (fun hc => ?_)
            · replace H1 := tr hc H1
              refine W_seq ?_
              refine W_region ?_
              refine WO_op rfl rfl rfl ?_; simp only [putT, st, ev, gt, hp, ofV, constT, intT, List.length_map]
              refine WO_nil ?_
              refine W_ret ?_
              obtain rfl := Option.some.inj H1
              obtain rfl := Option.some.inj H
              exact told3 rfl
            · replace H1 := fl hc H1
              refine W_skip ?_
              refine W_region ?_
              iterate 3 (refine WO_op rfl rfl rfl ?_; simp only [putT, st, ev, gt, hp, ofV, constT, intT, List.length_map])
              refine WO_nil ?_
              exact hW1 _ _ (IH1 _ _ H1 rfl) (le_intro [] [] (by decide) (by decide) rfl (by simp [leS, leT, leA, gt]) (by simp [leB, leT, leA]) (by simp [leR]))
        · replace H1 := fl hc H1
          simp only [putT, st, ev, gt, hp, ofV, constT, intT, List.length_map]
          refine WO_skip rfl rfl ?_; simp only [putT, st, ev, gt, hp, ofV, constT, intT, List.length_map]
          refine WO_skip rfl rfl ?_; simp only [putT, st, ev, gt, hp, ofV, constT, intT, List.length_map]
          refine WO_skip rfl rfl ?_; simp only [putT, st, ev, gt, hp, ofV, constT, intT, List.length_map]
          refine WO_skip rfl rfl ?_; simp only [putT, st, ev, gt, hp, ofV, constT, intT, List.length_map]
          refine WO_skip rfl rfl ?_; simp only [putT, st, ev, gt, hp, ofV, constT, intT, List.length_map]
          refine WO_skip rfl rfl ?_; simp only [putT, st, ev, gt, hp, ofV, constT, intT, List.length_map]
          refine WO_skip rfl rfl ?_; simp only [putT, st, ev, gt, hp, ofV, constT, intT, List.length_map]
          refine WO_skip rfl rfl ?_; simp only [putT, st, ev, gt, hp, ofV, constT, intT, List.length_map]
          refine WO_skip rfl rfl ?_; simp only [putT, st, ev, gt, hp, ofV, constT, intT, List.length_map]
          refine WO_skip rfl rfl ?_; simp only [putT, st, ev, gt, hp, ofV, constT, intT, List.length_map]
          refine WO_want (x := .c (cB false)) rfl rfl rfl ?_; simp only [putT, st, ev, gt, hp, ofV, constT, intT, List.length_map]
          refine WO_op (x := .c (cB false)) rfl rfl rfl ?_; simp only [putT, st, ev, gt, hp, ofV, constT, intT, List.length_map]
          refine WO_op rfl rfl rfl ?_; simp only [putT, st, ev, gt, hp, ofV, constT, intT, List.length_map]
          refine WO_nil ?_
          refine W_cond rfl (fun hc => ?_) (fun hc => ?_)
          · replace H1 := tr hc H1
            refine W_seq ?_
            refine W_region ?_
            refine WO_op rfl rfl rfl ?_; simp only [putT, st, ev, gt, hp, ofV, constT, intT, List.length_map]
            refine WO_nil ?_
            refine W_ret ?_
            obtain rfl := Option.some.inj H1
            obtain rfl := Option.some.inj H
            exact told3 rfl
          · replace H1 := fl hc H1
            refine W_skip ?_
            refine W_region ?_
            iterate 3 (refine WO_op rfl rfl rfl ?_; simp only [putT, st, ev, gt, hp, ofV, constT, intT, List.length_map])
            refine WO_nil ?_
            exact hW1 _ _ (IH1 _ _ H1 rfl) (le_intro [] [] (by decide) (by decide) rfl (by simp [leS, leT, leA, gt]) (by simp [leB, leT, leA]) (by simp [leR]))
    · replace H1 := fl hc H1
      refine W_exit ?_
      obtain rfl := Option.some.inj H1
      exact hX1 () _ rfl (le_intro [] [] (by decide) (by decide) rfl (by simp [leS, leT, leA, gt]) (by simp [leB, leT, leA]) (by simp [leR]))
set_option maxRecDepth 20000 in
set_option maxHeartbeats 1000000 in
theorem spec_RecsOk_ok {a1 : List Rec} {r : Bool} (H : spec_RecsOk a1 = some r) : R 16 [.c (cL enc_Rec a1) none] = some (.c (cB r) none, []) := by
  unfold spec_RecsOk at H
  refine Fz_walk 47 rfl rfl Try.func16 rfl (by kernel_rfl) rfl rfl rfl rfl ?_
  simp only [tellVs, tellV, tells, tell, st0, padT, SX.newRow, SX.newBox, List.length_cons, List.length_nil, Nat.reduceAdd, Nat.reduceSub, List.replicate, List.cons_append, List.nil_append]
  refine W_seq ?_
  refine W_region ?_
  refine WO_op rfl rfl rfl ?_; simp only [putT, st, ev, gt, hp, ofV, constT, intT, List.length_map]
  refine WO_nil ?_
  refine W_seq ?_
  refine W_seq ?_
  refine W_region ?_
  refine WO_op rfl rfl rfl ?_; simp only [putT, st, ev, gt, hp, ofV, constT, intT, List.length_map]
  refine WO_nil ?_
  refine W_block ?_
  obtain ⟨s10, hs10, H⟩ := bnd H
  refine loop_rule (ls := []) 0 (fun t9 : Unit => ⟨[.c (cL enc_Rec a1)], [], []⟩) (fun t => s10 = .inr t) ⟨[.c (cL enc_Rec a1), .no, .no, .c (cI .i64 0)], [], []⟩ (by repeat (first | exact mono_told | refine mono_seq ?_ | refine mono_blk ?_ | refine mono_lp ?_)) (le_intro [] [] (by decide) (by decide) rfl (by simp [leS, leT, leA, gt]) (by simp [leB, leT, leA]) (by simp [leR])) ?_ ?_
  · rintro t9 rfl
    refine W_seq ?_
    refine W_region ?_
    iterate 4 (refine WO_op rfl rfl rfl ?_; simp only [putT, st, ev, gt, hp, ofV, constT, intT, List.length_map])
    refine WO_nil ?_
    refine W_ret ?_
    obtain rfl := Option.some.inj H
    exact told3 rfl
  · intro V1 hV1 hW1 hX1
    refine spec_RecsOk.l0.partial_correctness a1 (fun v2 s' => s' = s10 → V1 ⟨[.c (cL enc_Rec a1), .no, .no, .c (cI .i64 v2)], [], []⟩) ?_ _ _ hs10 rfl
    intro l0 IH1 v2 s' H1 e
    subst e
    refine hV1 _ ?_
    refine W_seq ?_
    refine W_seq ?_
    refine W_region ?_
    iterate 4 (refine WO_op rfl rfl rfl ?_; simp only [putT, st, ev, gt, hp, ofV, constT, intT, List.length_map])
    refine WO_nil ?_
    refine W_cond rfl (fun hc => ?_) (fun hc => ?_)
    · replace H1 := tr hc H1
      refine W_skip ?_
      refine W_seq ?_
      refine W_block ?_
      refine W_seq ?_
      refine W_draw (by kernel_rfl) (by kernel_rfl) ?_
      iterate 2 (refine WO_op rfl rfl rfl ?_; simp only [putT, st, ev, gt, hp, ofV, constT, intT, List.length_map])
      obtain ⟨x3, hx3, H1⟩ := bnd H1
      refine WO_op rfl rfl (ev_ix (en := enc_Rec) hx3 rfl rfl rfl rfl rfl rfl rfl) ?_; simp only [putT, st, ev, gt, hp, ofV, constT, intT, List.length_map]
      refine WO_op (x := .cp (enc_Rec x3) 0) rfl rfl rfl ?_; simp only [putT, st, ev, gt, hp, ofV, constT, intT, List.length_map]
      refine WO_op (x := .c (cI .i64 x3.Time)) rfl rfl rfl ?_; simp only [putT, st, ev, gt, hp, ofV, constT, intT, List.length_map]
      obtain ⟨x4, hx4, H1⟩ := bnd H1
      refine WO_op (x := .c (cB x4)) (σ' := ⟨[], [], []⟩) rfl rfl (ev_callG (al := [.c (cI .i64 x3.Time), .c (cI .i64 0), .c (cI .i64 1000000)]) (ls := []) (spec_l1In_ok hx4) rfl rfl rfl rfl rfl (by decide) rfl rfl rfl rfl rfl rfl) ?_; simp only [putT, st, ev, gt, hp, ofV, constT, intT, List.length_map]
      iterate 2 (refine WO_op rfl rfl rfl ?_; simp only [putT, st, ev, gt, hp, ofV, constT, intT, List.length_map])
      refine WO_if rfl rfl rfl (fun hc => ?_) (fun hc => ?_)
      · replace H1 := tr hc H1
        simp only [putT, st, ev, gt, hp, ofV, constT, intT, List.length_map]
        refine WO_skip rfl rfl ?_; simp only [putT, st, ev, gt, hp, ofV, constT, intT, List.length_map]
        refine WO_skip rfl rfl ?_; simp only [putT, st, ev, gt, hp, ofV, constT, intT, List.length_map]
        refine WO_skip rfl rfl ?_; simp only [putT, st, ev, gt, hp, ofV, constT, intT, List.length_map]
        refine WO_skip rfl rfl ?_; simp only [putT, st, ev, gt, hp, ofV, constT, intT, List.length_map]
        refine WO_skip rfl rfl ?_; simp only [putT, st, ev, gt, hp, ofV, constT, intT, List.length_map]
        refine WO_skip rfl rfl ?_; simp only [putT, st, ev, gt, hp, ofV, constT, intT, List.length_map]
        refine WO_skip rfl rfl ?_; simp only [putT, st, ev, gt, hp, ofV, constT, intT, List.length_map]
        refine WO_op (x := .c (cB true)) rfl rfl rfl ?_; simp only [putT, st, ev, gt, hp, ofV, constT, intT, List.length_map]
        refine WO_op rfl rfl rfl ?_; simp only [putT, st, ev, gt, hp, ofV, constT, intT, List.length_map]
        refine WO_skip rfl rfl ?_; simp only [putT, st, ev, gt, hp, ofV, constT, intT, List.length_map]
        refine WO_skip rfl rfl ?_; simp only [putT, st, ev, gt, hp, ofV, constT, intT, List.length_map]
        refine WO_skip rfl rfl ?_; simp only [putT, st, ev, gt, hp, ofV, constT, intT, List.length_map]
        refine WO_skip rfl rfl ?_; simp only [putT, st, ev, gt, hp, ofV, constT, intT, List.length_map]
        refine WO_skip rfl rfl ?_; simp only [putT, st, ev, gt, hp, ofV, constT, intT, List.length_map]
        refine WO_skip rfl rfl ?_; simp only [putT, st, ev, gt, hp, ofV, constT, intT, List.length_map]
        refine WO_skip rfl rfl ?_; simp only [putT, st, ev, gt, hp, ofV, constT, intT, List.length_map]
        refine WO_skip rfl rfl ?_; simp only [putT, st, ev, gt, hp, ofV, constT, intT, List.length_map]
        refine WO_skip rfl rfl ?_; simp only [putT, st, ev, gt, hp, ofV, constT, intT, List.length_map]
        refine WO_skip rfl rfl ?_; simp only [putT, st, ev, gt, hp, ofV, constT, intT, List.length_map]
        refine WO_skip rfl rfl ?_; simp only [putT, st, ev, gt, hp, ofV, constT, intT, List.length_map]
        refine WO_skip rfl rfl ?_; simp only [putT, st, ev, gt, hp, ofV, constT, intT, List.length_map]
        refine WO_skip rfl rfl ?_; simp only [putT, st, ev, gt, hp, ofV, constT, intT, List.length_map]
        refine WO_skip rfl rfl ?_; simp only [putT, st, ev, gt, hp, ofV, constT, intT, List.length_map]
        refine WO_skip rfl rfl ?_; simp only [putT, st, ev, gt, hp, ofV, constT, intT, List.length_map]
        refine WO_skip rfl rfl ?_; simp only [putT, st, ev, gt, hp, ofV, constT, intT, List.length_map]
        refine WO_op (x := .c (cB true)) rfl rfl rfl ?_; simp only [putT, st, ev, gt, hp, ofV, constT, intT, List.length_map]
        refine WO_nil ?_
        refine W_cond (t := true) rfl (fun _ => ?_) (fun h => by cases h)
        refine W_seq ?_
        refine W_region ?_
        refine WO_op rfl rfl rfl ?_; simp only [putT, st, ev, gt, hp, ofV, constT, intT, List.length_map]
        refine WO_nil ?_
        refine W_ret ?_
        obtain rfl := Option.some.inj H1
        obtain rfl := Option.some.inj H
        exact told3 rfl
      · replace H1 := fl hc H1
        simp only [putT, st, ev, gt, hp, ofV, constT, intT, List.length_map]
        iterate 2 (refine WO_want rfl rfl rfl ?_; simp only [putT, st, ev, gt, hp, ofV, constT, intT, List.length_map])
        obtain ⟨x5, hx5, H1⟩ := bnd H1
        refine WO_want rfl rfl (ev_ix (en := enc_Rec) hx5 rfl rfl rfl rfl rfl rfl rfl) ?_; simp only [putT, st, ev, gt, hp, ofV, constT, intT, List.length_map]
        refine WO_want (x := .cp (enc_Rec x5) 1) rfl rfl rfl ?_; simp only [putT, st, ev, gt, hp, ofV, constT, intT, List.length_map]
        refine WO_want (x := .c (cI .i64 x5.N)) rfl rfl rfl ?_; simp only [putT, st, ev, gt, hp, ofV, constT, intT, List.length_map]
        obtain ⟨x6, hx6, H1⟩ := bnd H1
        refine WO_want (x := .c (cB x6)) (σ' := ⟨[], [], []⟩) rfl rfl (ev_callG (al := [.c (cI .i64 x5.N), .c (cI .i64 0), .c (cI .i64 1000)]) (ls := []) (spec_l1In_ok hx6) rfl rfl rfl rfl rfl (by decide) rfl rfl rfl rfl rfl rfl) ?_; simp only [putT, st, ev, gt, hp, ofV, constT, intT, List.length_map]
        refine WO_want rfl rfl rfl ?_; simp only [putT, st, ev, gt, hp, ofV, constT, intT, List.length_map]
        refine WO_op (x := .c (cB (!x6))) rfl rfl rfl ?_; simp only [putT, st, ev, gt, hp, ofV, constT, intT, List.length_map]
        refine WO_op rfl rfl rfl ?_; simp only [putT, st, ev, gt, hp, ofV, constT, intT, List.length_map]
        refine WO_if rfl rfl rfl (fun hc => ?_) (fun hc => ?_)
        · replace H1 := tr hc H1
          simp only [putT, st, ev, gt, hp, ofV, constT, intT, List.length_map]
          refine WO_skip rfl rfl ?_; simp only [putT, st, ev, gt, hp, ofV, constT, intT, List.length_map]
          refine WO_skip rfl rfl ?_; simp only [putT, st, ev, gt, hp, ofV, constT, intT, List.length_map]
          refine WO_skip rfl rfl ?_; simp only [putT, st, ev, gt, hp, ofV, constT, intT, List.length_map]
          refine WO_skip rfl rfl ?_; simp only [putT, st, ev, gt, hp, ofV, constT, intT, List.length_map]
          refine WO_skip rfl rfl ?_; simp only [putT, st, ev, gt, hp, ofV, constT, intT, List.length_map]
          refine WO_skip rfl rfl ?_; simp only [putT, st, ev, gt, hp, ofV, constT, intT, List.length_map]
          refine WO_skip rfl rfl ?_; simp only [putT, st, ev, gt, hp, ofV, constT, intT, List.length_map]
          refine WO_skip rfl rfl ?_; simp only [putT, st, ev, gt, hp, ofV, constT, intT, List.length_map]
          refine WO_skip rfl rfl ?_; simp only [putT, st, ev, gt, hp, ofV, constT, intT, List.length_map]
          refine WO_skip rfl rfl ?_; simp only [putT, st, ev, gt, hp, ofV, constT, intT, List.length_map]
          refine WO_skip rfl rfl ?_; simp only [putT, st, ev, gt, hp, ofV, constT, intT, List.length_map]
          refine WO_skip rfl rfl ?_; simp only [putT, st, ev, gt, hp, ofV, constT, intT, List.length_map]
          refine WO_skip rfl rfl ?_; simp only [putT, st, ev, gt, hp, ofV, constT, intT, List.length_map]
          refine WO_skip rfl rfl ?_; simp only [putT, st, ev, gt, hp, ofV, constT, intT, List.length_map]
          refine WO_skip rfl rfl ?_; simp only [putT, st, ev, gt, hp, ofV, constT, intT, List.length_map]
          refine WO_skip rfl rfl ?_; simp only [putT, st, ev, gt, hp, ofV, constT, intT, List.length_map]
          refine WO_op (x := .c (cB true)) rfl rfl rfl ?_; simp only [putT, st, ev, gt, hp, ofV, constT, intT, List.length_map]
          refine WO_nil ?_
          refine W_cond (t := true) rfl (fun _ => ?_) (fun h => by cases h)
          refine W_seq ?_
          refine W_region ?_
          refine WO_op rfl rfl rfl ?_; simp only [putT, st, ev, gt, hp, ofV, constT, intT, List.length_map]
          refine WO_nil ?_
          refine W_ret ?_
          obtain rfl := Option.some.inj H1
          obtain rfl := Option.some.inj H
          exact told3 rfl
        · replace H1 := fl hc H1
          simp only [putT, st, ev, gt, hp, ofV, constT, intT, List.length_map]
          iterate 3 (refine WO_want rfl rfl rfl ?_; simp only [putT, st, ev, gt, hp, ofV, constT, intT, List.length_map])
          refine WO_if rfl rfl rfl (fun hc => ?_) (fun hc => ?_)
          · replace H1 := tr hc H1
            simp only [putT, st, ev, gt, hp, ofV, constT, intT, List.length_map]
            iterate 3 (refine WO_want rfl rfl rfl ?_; simp only [putT, st, ev, gt, hp, ofV, constT, intT, List.length_map])
            obtain ⟨x7, hx7, H1⟩ := bnd H1
            refine WO_want rfl rfl (ev_ix (en := enc_Rec) hx7 rfl rfl rfl rfl rfl rfl rfl) ?_; simp only [putT, st, ev, gt, hp, ofV, constT, intT, List.length_map]
            refine WO_want (x := .cp (enc_Rec x7) 0) rfl rfl rfl ?_; simp only [putT, st, ev, gt, hp, ofV, constT, intT, List.length_map]
            refine WO_want (x := .c (cI .i64 x7.Time)) rfl rfl rfl ?_; simp only [putT, st, ev, gt, hp, ofV, constT, intT, List.length_map]
            iterate 2 (refine WO_want rfl rfl rfl ?_; simp only [putT, st, ev, gt, hp, ofV, constT, intT, List.length_map])
            obtain ⟨x8, hx8, H1⟩ := bnd H1
            refine WO_want rfl rfl (ev_ix (en := enc_Rec) hx8 rfl rfl rfl rfl rfl rfl rfl) ?_; simp only [putT, st, ev, gt, hp, ofV, constT, intT, List.length_map]
            refine WO_want (x := .cp (enc_Rec x8) 0) rfl rfl rfl ?_; simp only [putT, st, ev, gt, hp, ofV, constT, intT, List.length_map]
            refine WO_want (x := .c (cI .i64 x8.Time)) rfl rfl rfl ?_; simp only [putT, st, ev, gt, hp, ofV, constT, intT, List.length_map]
            refine WO_want rfl rfl rfl ?_; simp only [putT, st, ev, gt, hp, ofV, constT, intT, List.length_map]
            refine WO_want (x := .c (cB (decide (x7.Time > x8.Time)))) rfl rfl rfl ?_; simp only [putT, st, ev, gt, hp, ofV, constT, intT, List.length_map]
            refine WO_op (x := .c (cB (decide (x7.Time > x8.Time)))) rfl rfl rfl ?_; simp only [putT, st, ev, gt, hp, ofV, constT, intT, List.length_map]
            refine WO_nil ?_
            refine W_cond rfl (fun hc => ?_) (fun hc => ?_)
            · replace H1 := tr hc H1
              refine W_seq ?_
              refine W_region ?_
              refine WO_op rfl rfl rfl ?_; simp only [putT, st, ev, gt, hp, ofV, constT, intT, List.length_map]
              refine WO_nil ?_
              refine W_ret ?_
              obtain rfl := Option.some.inj H1
              obtain rfl := Option.some.inj H
              exact told3 rfl
            · replace H1 := fl hc H1
              refine W_skip ?_
              refine W_region ?_
              iterate 3 (refine WO_op rfl rfl rfl ?_; simp only [putT, st, ev, gt, hp, ofV, constT, intT, List.length_map])
              refine WO_nil ?_
              exact hW1 _ _ (IH1 _ _ H1 rfl) (le_intro [] [] (by decide) (by decide) rfl (by simp [leS, leT, leA, gt]) (by simp [leB, leT, leA]) (by simp [leR]))
          · replace H1 := fl hc H1
            simp only [putT, st, ev, gt, hp, ofV, constT, intT, List.length_map]
            refine WO_skip rfl rfl ?_; simp only [putT, st, ev, gt, hp, ofV, constT, intT, List.length_map]
            refine WO_skip rfl rfl ?_; simp only [putT, st, ev, gt, hp, ofV, constT, intT, List.length_map]
            refine WO_skip rfl rfl ?_; simp only [putT, st, ev, gt, hp, ofV, constT, intT, List.length_map]
            refine WO_skip rfl rfl ?_; simp only [putT, st, ev, gt, hp, ofV, constT, intT, List.length_map]
            refine WO_skip rfl rfl ?_; simp only [putT, st, ev, gt, hp, ofV, constT, intT, List.length_map]
            refine WO_skip rfl rfl ?_; simp only [putT, st, ev, gt, hp, ofV, constT, intT, List.length_map]
            refine WO_skip rfl rfl ?_; simp only [putT, st, ev, gt, hp, ofV, constT, intT, List.length_map]
            refine WO_skip rfl rfl ?_; simp only [putT, st, ev, gt, hp, ofV, constT, intT, List.length_map]
            refine WO_skip rfl rfl ?_; simp only [putT, st, ev, gt, hp, ofV, constT, intT, List.length_map]
            refine WO_skip rfl rfl ?_; simp only [putT, st, ev, gt, hp, ofV, constT, intT, List.length_map]
            refine WO_skip rfl rfl ?_; simp only [putT, st, ev, gt, hp, ofV, constT, intT, List.length_map]
            refine WO_skip rfl rfl ?_; simp only [putT, st, ev, gt, hp, ofV, constT, intT, List.length_map]
            refine WO_want (x := .c (cB false)) rfl rfl rfl ?_; simp only [putT, st, ev, gt, hp, ofV, constT, intT, List.length_map]
            refine WO_op (x := .c (cB false)) rfl rfl rfl ?_; simp only [putT, st, ev, gt, hp, ofV, constT, intT, List.length_map]
            refine WO_nil ?_
            refine W_cond (t := false) rfl (fun h => by cases h) (fun _ => ?_)
            refine W_skip ?_
            refine W_region ?_
            iterate 3 (refine WO_op rfl rfl rfl ?_; simp only [putT, st, ev, gt, hp, ofV, constT, intT, List.length_map])
            refine WO_nil ?_
            exact hW1 _ _ (IH1 _ _ H1 rfl) (le_intro [] [] (by decide) (by decide) rfl (by simp [leS, leT, leA, gt]) (by simp [leB, leT, leA]) (by simp [leR]))
    · replace H1 := fl hc H1
      refine W_exit ?_
      obtain rfl := Option.some.inj H1
      exact hX1 () _ rfl (le_intro [] [] (by decide) (by decide) rfl (by simp [leS, leT, leA, gt]) (by simp [leB, leT, leA]) (by simp [leR]))
set_option maxRecDepth 20000 in
set_option maxHeartbeats 1000000 in
theorem spec_ScaleOk_ok {a1 : Scale} {r : Bool} (H : spec_ScaleOk a1 = some r) : R 46 [.ag [(cS a1.Name, none), (cI .i64 a1.Now, none), (cL enc_Rec a1.Recs, none)]] = some (.c (cB r) none, []) := by
  unfold spec_ScaleOk at H
  refine Fz_walk 16 rfl rfl Try.func46 rfl (by kernel_rfl) rfl rfl rfl rfl ?_
  simp only [tellVs, tellV, tells, tell, st0, padT, SX.newRow, SX.newBox, List.length_cons, List.length_nil, Nat.reduceAdd, Nat.reduceSub, List.replicate, List.cons_append, List.nil_append]
  refine W_seq ?_
  refine W_region ?_
  refine WO_op (x := .bp 0 0) (σ' := ⟨[], [some [.c (cS a1.Name), .c (cI .i64 a1.Now), .c (cL enc_Rec a1.Recs)]], []⟩) rfl rfl rfl ?_; simp only [putT, st, ev, gt, hp, ofV, constT, intT, List.length_map]
  refine WO_op rfl rfl rfl ?_; simp only [putT, st, ev, gt, hp, ofV, constT, intT, List.length_map]
  refine WO_nil ?_
  refine W_seq ?_
  refine W_region ?_
  refine WO_op (x := .bp 0 0) rfl rfl rfl ?_; simp only [putT, st, ev, gt, hp, ofV, constT, intT, List.length_map]
  refine WO_op (x := .c (cS a1.Name)) rfl rfl rfl ?_; simp only [putT, st, ev, gt, hp, ofV, constT, intT, List.length_map]
  obtain ⟨x2, hx2, H⟩ := bnd H
  refine WO_op (x := .c (cB x2)) (σ' := ⟨[], [some [.c (cS a1.Name), .c (cI .i64 a1.Now), .c (cL enc_Rec a1.Recs)]], []⟩) rfl rfl (ev_callG (al := [.c (cS a1.Name)]) (ls := []) (spec_NameOk_ok hx2) rfl rfl rfl rfl rfl (by decide) rfl rfl rfl rfl rfl rfl) ?_; simp only [putT, st, ev, gt, hp, ofV, constT, intT, List.length_map]
  refine WO_op rfl rfl rfl ?_; simp only [putT, st, ev, gt, hp, ofV, constT, intT, List.length_map]
  refine WO_if rfl rfl rfl (fun hc => ?_) (fun hc => ?_)
  · replace H := tr hc H
    simp only [putT, st, ev, gt, hp, ofV, constT, intT, List.length_map]
    refine WO_want (x := .bp 0 1) rfl rfl rfl ?_; simp only [putT, st, ev, gt, hp, ofV, constT, intT, List.length_map]
    refine WO_want (x := .c (cI .i64 a1.Now)) rfl rfl rfl ?_; simp only [putT, st, ev, gt, hp, ofV, constT, intT, List.length_map]
    obtain ⟨x3, hx3, H⟩ := bnd H
    refine WO_want (x := .c (cB x3)) (σ' := ⟨[], [some [.c (cS a1.Name), .c (cI .i64 a1.Now), .c (cL enc_Rec a1.Recs)]], []⟩) rfl rfl (ev_callG (al := [.c (cI .i64 a1.Now), .c (cI .i64 0), .c (cI .i64 1000)]) (ls := []) (spec_l1In_ok hx3) rfl rfl rfl rfl rfl (by decide) rfl rfl rfl rfl rfl rfl) ?_; simp only [putT, st, ev, gt, hp, ofV, constT, intT, List.length_map]
    refine WO_op (x := .c (cB x3)) rfl rfl rfl ?_; simp only [putT, st, ev, gt, hp, ofV, constT, intT, List.length_map]
    refine WO_op rfl rfl rfl ?_; simp only [putT, st, ev, gt, hp, ofV, constT, intT, List.length_map]
    refine WO_if rfl rfl rfl (fun hc => ?_) (fun hc => ?_)
    · replace H := tr hc H
      simp only [putT, st, ev, gt, hp, ofV, constT, intT, List.length_map]
      refine WO_want (x := .bp 0 2) rfl rfl rfl ?_; simp only [putT, st, ev, gt, hp, ofV, constT, intT, List.length_map]
      refine WO_want (x := .c (cL enc_Rec a1.Recs)) rfl rfl rfl ?_; simp only [putT, st, ev, gt, hp, ofV, constT, intT, List.length_map]
      obtain ⟨x4, hx4, H⟩ := bnd H
      refine WO_want (x := .c (cB x4)) (σ' := ⟨[], [some [.c (cS a1.Name), .c (cI .i64 a1.Now), .c (cL enc_Rec a1.Recs)]], []⟩) rfl rfl (ev_callG (al := [.c (cL enc_Rec a1.Recs)]) (ls := []) (spec_RecsOk_ok hx4) rfl rfl rfl rfl rfl (by decide) rfl rfl rfl rfl rfl rfl) ?_; simp only [putT, st, ev, gt, hp, ofV, constT, intT, List.length_map]
      refine WO_op (x := .c (cB x4)) rfl rfl rfl ?_; simp only [putT, st, ev, gt, hp, ofV, constT, intT, List.length_map]
      refine WO_op rfl rfl rfl ?_; simp only [putT, st, ev, gt, hp, ofV, constT, intT, List.length_map]
      refine WO_nil ?_
      refine W_ret ?_
      obtain rfl := Option.some.inj H
      exact told3 rfl
    · replace H := fl hc H
      simp only [putT, st, ev, gt, hp, ofV, constT, intT, List.length_map]
      refine WO_skip rfl rfl ?_; simp only [putT, st, ev, gt, hp, ofV, constT, intT, List.length_map]
      refine WO_skip rfl rfl ?_; simp only [putT, st, ev, gt, hp, ofV, constT, intT, List.length_map]
      refine WO_skip rfl rfl ?_; simp only [putT, st, ev, gt, hp, ofV, constT, intT, List.length_map]
      refine WO_op (x := .c (cB false)) rfl rfl rfl ?_; simp only [putT, st, ev, gt, hp, ofV, constT, intT, List.length_map]
      refine WO_op rfl rfl rfl ?_; simp only [putT, st, ev, gt, hp, ofV, constT, intT, List.length_map]
      refine WO_nil ?_
      refine W_ret ?_
      obtain rfl := Option.some.inj H
      exact told3 rfl
  · replace H := fl hc H
    simp only [putT, st, ev, gt, hp, ofV, constT, intT, List.length_map]
    refine WO_skip rfl rfl ?_; simp only [putT, st, ev, gt, hp, ofV, constT, intT, List.length_map]
    refine WO_skip rfl rfl ?_; simp only [putT, st, ev, gt, hp, ofV, constT, intT, List.length_map]
    refine WO_skip rfl rfl ?_; simp only [putT, st, ev, gt, hp, ofV, constT, intT, List.length_map]
    refine WO_op (x := .c (cB false)) rfl rfl rfl ?_; simp only [putT, st, ev, gt, hp, ofV, constT, intT, List.length_map]
    refine WO_op rfl rfl rfl ?_; simp only [putT, st, ev, gt, hp, ofV, constT, intT, List.length_map]
    refine WO_skip rfl rfl ?_; simp only [putT, st, ev, gt, hp, ofV, constT, intT, List.length_map]
    refine WO_skip rfl rfl ?_; simp only [putT, st, ev, gt, hp, ofV, constT, intT, List.length_map]
    refine WO_skip rfl rfl ?_; simp only [putT, st, ev, gt, hp, ofV, constT, intT, List.length_map]
    refine WO_op (x := .c (cB false)) rfl rfl rfl ?_; simp only [putT, st, ev, gt, hp, ofV, constT, intT, List.length_map]
    refine WO_op rfl rfl rfl ?_; simp only [putT, st, ev, gt, hp, ofV, constT, intT, List.length_map]
    refine WO_nil ?_
    refine W_ret ?_
    obtain rfl := Option.some.inj H
    exact told3 rfl
set_option maxRecDepth 20000 in
set_option maxHeartbeats 1000000 in
theorem impl_isDigit_ok {a1 : Int} {r : Bool} (H : impl_isDigit a1 = some r) : R 94 [.c (cI .u8 a1) none] = some (.c (cB r) none, []) := by
  unfold impl_isDigit at H
  refine Fz_walk 9 rfl rfl Try.func94 rfl (by kernel_rfl) rfl rfl rfl rfl ?_
  simp only [tellVs, tellV, tells, tell, st0, padT, SX.newRow, SX.newBox, List.length_cons, List.length_nil, Nat.reduceAdd, Nat.reduceSub, List.replicate, List.cons_append, List.nil_append]
  refine W_seq ?_
  refine W_region ?_
  refine WO_op rfl rfl rfl ?_; simp only [putT, st, ev, gt, hp, ofV, constT, intT, List.length_map]
  refine WO_nil ?_
  refine W_seq ?_
  refine W_region ?_
  iterate 3 (refine WO_op rfl rfl rfl ?_; simp only [putT, st, ev, gt, hp, ofV, constT, intT, List.length_map])
  refine WO_if rfl rfl rfl (fun hc => ?_) (fun hc => ?_)
  · replace H := tr hc H
    simp only [putT, st, ev, gt, hp, ofV, constT, intT, List.length_map]
    iterate 2 (refine WO_want rfl rfl rfl ?_; simp only [putT, st, ev, gt, hp, ofV, constT, intT, List.length_map])
    refine WO_op (x := .c (cB (decide (a1 ≤ 57)))) rfl rfl rfl ?_; simp only [putT, st, ev, gt, hp, ofV, constT, intT, List.length_map]
    refine WO_op rfl rfl rfl ?_; simp only [putT, st, ev, gt, hp, ofV, constT, intT, List.length_map]
    refine WO_nil ?_
    refine W_ret ?_
    obtain rfl := Option.some.inj H
    exact told3 rfl
  · replace H := fl hc H
    simp only [putT, st, ev, gt, hp, ofV, constT, intT, List.length_map]
    refine WO_skip rfl rfl ?_; simp only [putT, st, ev, gt, hp, ofV, constT, intT, List.length_map]
    refine WO_skip rfl rfl ?_; simp only [putT, st, ev, gt, hp, ofV, constT, intT, List.length_map]
    refine WO_op (x := .c (cB false)) rfl rfl rfl ?_; simp only [putT, st, ev, gt, hp, ofV, constT, intT, List.length_map]
    refine WO_op rfl rfl rfl ?_; simp only [putT, st, ev, gt, hp, ofV, constT, intT, List.length_map]
    refine WO_nil ?_
    refine W_ret ?_
    obtain rfl := Option.some.inj H
    exact told3 rfl
set_option maxRecDepth 20000 in
set_option maxHeartbeats 1000000 in
theorem impl_from_ok {a1 : Int} {a2 : Int} {a3 : Int} {r : Bool} (H : impl_from a1 a2 a3 = some r) : R 76 [.c (cI .i64 a1) none, .c (cI .i64 a2) none, .c (cI .i64 a3) none] = some (.c (cB r) none, []) := by
  unfold impl_from at H
  refine Fz_walk 15 rfl rfl Try.func76 rfl (by kernel_rfl) rfl rfl rfl rfl ?_
  simp only [tellVs, tellV, tells, tell, st0, padT, SX.newRow, SX.newBox, List.length_cons, List.length_nil, Nat.reduceAdd, Nat.reduceSub, List.replicate, List.cons_append, List.nil_append]
  refine W_seq ?_
  refine W_region ?_
  refine WO_op rfl rfl rfl ?_; simp only [putT, st, ev, gt, hp, ofV, constT, intT, List.length_map]
  refine WO_nil ?_
  refine W_seq ?_
  refine W_region ?_
  iterate 4 (refine WO_op rfl rfl rfl ?_; simp only [putT, st, ev, gt, hp, ofV, constT, intT, List.length_map])
  refine WO_if rfl rfl rfl (fun hc => ?_) (fun hc => ?_)
  · replace H := tr hc H
    simp only [putT, st, ev, gt, hp, ofV, constT, intT, List.length_map]
    iterate 3 (refine WO_want rfl rfl rfl ?_; simp only [putT, st, ev, gt, hp, ofV, constT, intT, List.length_map])
    refine WO_op (x := .c (cB (decide (a1 ≤ a3)))) rfl rfl rfl ?_; simp only [putT, st, ev, gt, hp, ofV, constT, intT, List.length_map]
    refine WO_op rfl rfl rfl ?_; simp only [putT, st, ev, gt, hp, ofV, constT, intT, List.length_map]
    refine WO_nil ?_
    refine W_ret ?_
    obtain rfl := Option.some.inj H
    exact told3 rfl
  · replace H := fl hc H
    simp only [putT, st, ev, gt, hp, ofV, constT, intT, List.length_map]
    refine WO_skip rfl rfl ?_; simp only [putT, st, ev, gt, hp, ofV, constT, intT, List.length_map]
    refine WO_skip rfl rfl ?_; simp only [putT, st, ev, gt, hp, ofV, constT, intT, List.length_map]
    refine WO_skip rfl rfl ?_; simp only [putT, st, ev, gt, hp, ofV, constT, intT, List.length_map]
    refine WO_op (x := .c (cB false)) rfl rfl rfl ?_; simp only [putT, st, ev, gt, hp, ofV, constT, intT, List.length_map]
    refine WO_op rfl rfl rfl ?_; simp only [putT, st, ev, gt, hp, ofV, constT, intT, List.length_map]
    refine WO_nil ?_
    refine W_ret ?_
    obtain rfl := Option.some.inj H
    exact told3 rfl
set_option maxRecDepth 20000 in
set_option maxHeartbeats 1000000 in
theorem impl_NameOk_ok {a1 : Str} {r : Bool} (H : impl_NameOk a1 = some r) : R 83 [.c (cS a1) none] = some (.c (cB r) none, []) := by
  unfold impl_NameOk at H
  refine Fz_walk 43 rfl rfl Try.func83 rfl (by kernel_rfl) rfl rfl rfl rfl ?_
  simp only [tellVs, tellV, tells, tell, st0, padT, SX.newRow, SX.newBox, List.length_cons, List.length_nil, Nat.reduceAdd, Nat.reduceSub, List.replicate, List.cons_append, List.nil_append]
  refine W_seq ?_
  refine W_region ?_
  refine WO_op rfl rfl rfl ?_; simp only [putT, st, ev, gt, hp, ofV, constT, intT, List.length_map]
  refine WO_nil ?_
  refine W_seq ?_
  refine W_seq ?_
  refine W_region ?_
  refine WO_op rfl rfl rfl ?_; simp only [putT, st, ev, gt, hp, ofV, constT, intT, List.length_map]
  refine WO_op (x := .c (cI .i64 (a1.length : Int))) rfl rfl rfl ?_; simp only [putT, st, ev, gt, hp, ofV, constT, intT, List.length_map]
  refine WO_op rfl rfl rfl ?_; simp only [putT, st, ev, gt, hp, ofV, constT, intT, List.length_map]
  refine WO_nil ?_
  refine W_block ?_
  obtain ⟨s13, hs13, H⟩ := bnd H
  refine loop_rule (ls := []) 0 (fun t11 : Unit => ⟨[.c (cS a1)], [], []⟩) (fun t => s13 = .inr t) ⟨[.c (cS a1), .no, .no, .no, .no, .no, .c (cI .i64 (a1.length : Int)), .c (cI .i64 0)], [], []⟩ (by repeat (first | exact mono_told | refine mono_seq ?_ | refine mono_blk ?_ | refine mono_lp ?_)) (le_intro [] [] (by decide) (by decide) rfl (by simp [leS, leT, leA, gt]) (by simp [leB, leT, leA]) (by simp [leR])) ?_ ?_
  · rintro t11 rfl
    refine W_seq ?_
    refine W_region ?_
    refine WO_op rfl rfl rfl ?_; simp only [putT, st, ev, gt, hp, ofV, constT, intT, List.length_map]
    refine WO_op (x := .c (cI .i64 (a1.length : Int))) rfl rfl rfl ?_; simp only [putT, st, ev, gt, hp, ofV, constT, intT, List.length_map]
    obtain ⟨x12, hx12, H⟩ := bnd H
    refine WO_op (x := .c (cB x12)) (σ' := ⟨[], [], []⟩) rfl rfl (ev_callG (al := [.c (cI .i64 (a1.length : Int)), .c (cI .i64 1), .c (cI .i64 20)]) (ls := []) (impl_from_ok hx12) rfl rfl rfl rfl rfl (by decide) rfl rfl rfl rfl rfl rfl) ?_; simp only [putT, st, ev, gt, hp, ofV, constT, intT, List.length_map]
    refine WO_op rfl rfl rfl ?_; simp only [putT, st, ev, gt, hp, ofV, constT, intT, List.length_map]
    refine WO_nil ?_
    refine W_ret ?_
    obtain rfl := Option.some.inj H
    exact told3 rfl
  · intro V1 hV1 hW1 hX1
    refine impl_NameOk.l0.partial_correctness a1 (fun v2 s' => s' = s13 → V1 ⟨[.c (cS a1), .no, .no, .no, .no, .no, .c (cI .i64 (a1.length : Int)), .c (cI .i64 v2)], [], []⟩) ?_ _ _ hs13 rfl
    intro l0 IH1 v2 s' H1 e
    subst e
    refine hV1 _ ?_
    refine W_seq ?_
    refine W_region ?_
    refine WO_op rfl rfl rfl ?_; simp only [putT, st, ev, gt, hp, ofV, constT, intT, List.length_map]
    refine WO_nil ?_
    refine W_seq ?_
    refine W_cond rfl (fun hc => ?_) (fun hc => ?_)
    · replace H1 := tr hc H1
      refine W_skip ?_
      refine W_seq ?_
      refine W_block ?_
      refine W_seq ?_
      refine W_region ?_
      iterate 2 (refine WO_op rfl rfl rfl ?_; simp only [putT, st, ev, gt, hp, ofV, constT, intT, List.length_map])
      refine WO_nil ?_
      refine W_seq ?_
      refine W_region ?_
      iterate 2 (refine WO_op rfl rfl rfl ?_; simp only [putT, st, ev, gt, hp, ofV, constT, intT, List.length_map])
      obtain ⟨c3, hc3, H1⟩ := bnd H1
      refine WO_op rfl rfl (ev_sx hc3 rfl rfl rfl rfl) ?_; simp only [putT, st, ev, gt, hp, ofV, constT, intT, List.length_map]
      iterate 2 (refine WO_op rfl rfl rfl ?_; simp only [putT, st, ev, gt, hp, ofV, constT, intT, List.length_map])
      refine WO_if rfl rfl rfl (fun hc => ?_) (fun hc => ?_)
      · replace H1 := tr hc H1
        simp only [putT, st, ev, gt, hp, ofV, constT, intT, List.length_map]
        iterate 2 (refine WO_want rfl rfl rfl ?_; simp only [putT, st, ev, gt, hp, ofV, constT, intT, List.length_map])
        obtain ⟨c4, hc4, H1⟩ := bnd H1
        refine WO_want rfl rfl (ev_sx hc4 rfl rfl rfl rfl) ?_; simp only [putT, st, ev, gt, hp, ofV, constT, intT, List.length_map]
        refine WO_want rfl rfl rfl ?_; simp only [putT, st, ev, gt, hp, ofV, constT, intT, List.length_map]
        refine WO_op (x := .c (cB (decide ((byte c4) ≤ 122)))) rfl rfl rfl ?_; simp only [putT, st, ev, gt, hp, ofV, constT, intT, List.length_map]
        refine WO_op rfl rfl rfl ?_; simp only [putT, st, ev, gt, hp, ofV, constT, intT, List.length_map]
        refine WO_nil ?_
        refine W_seq ?_
        refine W_region ?_
        iterate 3 (refine WO_op rfl rfl rfl ?_; simp only [putT, st, ev, gt, hp, ofV, constT, intT, List.length_map])
        refine WO_if rfl rfl rfl (fun hc => ?_) (fun hc => ?_)
        · replace H1 := tr hc H1
          simp only [putT, st, ev, gt, hp, ofV, constT, intT, List.length_map]
          iterate 3 (refine WO_want rfl rfl rfl ?_; simp only [putT, st, ev, gt, hp, ofV, constT, intT, List.length_map])
          refine WO_if rfl rfl rfl (fun hc => ?_) (fun hc => ?_)
          · replace H1 := tr hc H1
            simp only [putT, st, ev, gt, hp, ofV, constT, intT, List.length_map]
            refine WO_skip rfl rfl ?_; simp only [putT, st, ev, gt, hp, ofV, constT, intT, List.length_map]
            refine WO_skip rfl rfl ?_; simp only [putT, st, ev, gt, hp, ofV, constT, intT, List.length_map]
            refine WO_skip rfl rfl ?_; simp only [putT, st, ev, gt, hp, ofV, constT, intT, List.length_map]
            refine WO_skip rfl rfl ?_; simp only [putT, st, ev, gt, hp, ofV, constT, intT, List.length_map]
            refine WO_skip rfl rfl ?_; simp only [putT, st, ev, gt, hp, ofV, constT, intT, List.length_map]
            refine WO_skip rfl rfl ?_; simp only [putT, st, ev, gt, hp, ofV, constT, intT, List.length_map]
            refine WO_skip rfl rfl ?_; simp only [putT, st, ev, gt, hp, ofV, constT, intT, List.length_map]
            refine WO_skip rfl rfl ?_; simp only [putT, st, ev, gt, hp, ofV, constT, intT, List.length_map]
            refine WO_skip rfl rfl ?_; simp only [putT, st, ev, gt, hp, ofV, constT, intT, List.length_map]
            refine WO_skip rfl rfl ?_; simp only [putT, st, ev, gt, hp, ofV, constT, intT, List.length_map]
            refine WO_skip rfl rfl ?_; simp only [putT, st, ev, gt, hp, ofV, constT, intT, List.length_map]
            refine WO_want (x := .c (cB true)) rfl rfl rfl ?_; simp only [putT, st, ev, gt, hp, ofV, constT, intT, List.length_map]
            refine WO_op (x := .c (cB true)) rfl rfl rfl ?_; simp only [putT, st, ev, gt, hp, ofV, constT, intT, List.length_map]
            refine WO_nil ?_
            refine W_cond (t := true) rfl (fun _ => ?_) (fun h => by cases h)
            refine W_seq ?_
            refine W_region ?_
            refine WO_op rfl rfl rfl ?_; simp only [putT, st, ev, gt, hp, ofV, constT, intT, List.length_map]
            refine WO_nil ?_
            refine W_ret ?_
            obtain rfl := Option.some.inj H1
            obtain rfl := Option.some.inj H
            exact told3 rfl
          · replace H1 := fl hc H1
            simp only [putT, st, ev, gt, hp, ofV, constT, intT, List.length_map]
            iterate 2 (refine WO_want rfl rfl rfl ?_; simp only [putT, st, ev, gt, hp, ofV, constT, intT, List.length_map])
            obtain ⟨c5, hc5, H1⟩ := bnd H1
            refine WO_want rfl rfl (ev_sx hc5 rfl rfl rfl rfl) ?_; simp only [putT, st, ev, gt, hp, ofV, constT, intT, List.length_map]
            obtain ⟨x6, hx6, H1⟩ := bnd H1
            refine WO_want (x := .c (cB x6)) (σ' := ⟨[], [], []⟩) rfl rfl (ev_callG (al := [.c (cI .u8 (byte c5))]) (ls := []) (impl_isDigit_ok hx6) rfl rfl rfl rfl rfl (by decide) rfl rfl rfl rfl rfl rfl) ?_; simp only [putT, st, ev, gt, hp, ofV, constT, intT, List.length_map]
            iterate 2 (refine WO_want rfl rfl rfl ?_; simp only [putT, st, ev, gt, hp, ofV, constT, intT, List.length_map])
            refine WO_if rfl rfl rfl (fun hc => ?_) (fun hc => ?_)
            · replace H1 := tr hc H1
              simp only [putT, st, ev, gt, hp, ofV, constT, intT, List.length_map]
              iterate 2 (refine WO_want rfl rfl rfl ?_; simp only [putT, st, ev, gt, hp, ofV, constT, intT, List.length_map])
              obtain ⟨c7, hc7, H1⟩ := bnd H1
              refine WO_want rfl rfl (ev_sx hc7 rfl rfl rfl rfl) ?_; simp only [putT, st, ev, gt, hp, ofV, constT, intT, List.length_map]
              refine WO_want rfl rfl rfl ?_; simp only [putT, st, ev, gt, hp, ofV, constT, intT, List.length_map]
              iterate 2 (refine WO_want (x := .c (cB ((byte c7) != 45))) rfl rfl rfl ?_; simp only [putT, st, ev, gt, hp, ofV, constT, intT, List.length_map])
              refine WO_op (x := .c (cB ((byte c7) != 45))) rfl rfl rfl ?_; simp only [putT, st, ev, gt, hp, ofV, constT, intT, List.length_map]
              refine WO_nil ?_
              refine W_cond rfl (fun hc => ?_) (fun hc => ?_)
              · replace H1 := tr hc H1
                refine W_seq ?_
                refine W_region ?_
                refine WO_op rfl rfl rfl ?_; simp only [putT, st, ev, gt, hp, ofV, constT, intT, List.length_map]
                refine WO_nil ?_
                refine W_ret ?_
                obtain rfl := Option.some.inj H1
                obtain rfl := Option.some.inj H
                exact told3 rfl
              · replace H1 := fl hc H1
                refine W_skip ?_
                refine W_region ?_
                iterate 2 (refine WO_op rfl rfl rfl ?_; simp only [putT, st, ev, gt, hp, ofV, constT, intT, List.length_map])
                refine WO_nil ?_
                exact hW1 _ _ (IH1 _ _ H1 rfl) (le_intro [] [] (by decide) (by decide) rfl (by simp [leS, leT, leA, gt]) (by simp [leB, leT, leA]) (by simp [leR]))
            · replace H1 := fl hc H1
              simp only [putT, st, ev, gt, hp, ofV, constT, intT, List.length_map]
              refine WO_skip rfl rfl ?_; simp only [putT, st, ev, gt, hp, ofV, constT, intT, List.length_map]
              refine WO_skip rfl rfl ?_; simp only [putT, st, ev, gt, hp, ofV, constT, intT, List.length_map]
              refine WO_skip rfl rfl ?_; simp only [putT, st, ev, gt, hp, ofV, constT, intT, List.length_map]
              refine WO_skip rfl rfl ?_; simp only [putT, st, ev, gt, hp, ofV, constT, intT, List.length_map]
              iterate 2 (refine WO_want (x := .c (cB false)) rfl rfl rfl ?_; simp only [putT, st, ev, gt, hp, ofV, constT, intT, List.length_map])
              refine WO_op (x := .c (cB false)) rfl rfl rfl ?_; simp only [putT, st, ev, gt, hp, ofV, constT, intT, List.length_map]
              refine WO_nil ?_
              refine W_cond (t := false) rfl (fun h => by cases h) (fun _ => ?_)
              refine W_skip ?_
              refine W_region ?_
              iterate 2 (refine WO_op rfl rfl rfl ?_; simp only [putT, st, ev, gt, hp, ofV, constT, intT, List.length_map])
              refine WO_nil ?_
              exact hW1 _ _ (IH1 _ _ H1 rfl) (le_intro [] [] (by decide) (by decide) rfl (by simp [leS, leT, leA, gt]) (by simp [leB, leT, leA]) (by simp [leR]))
        · replace H1 := fl hc H1
          simp only [putT, st, ev, gt, hp, ofV, constT, intT, List.length_map]
          refine WO_skip rfl rfl ?_; simp only [putT, st, ev, gt, hp, ofV, constT, intT, List.length_map]
          refine WO_skip rfl rfl ?_; simp only [putT, st, ev, gt, hp, ofV, constT, intT, List.length_map]
          refine WO_skip rfl rfl ?_; simp only [putT, st, ev, gt, hp, ofV, constT, intT, List.length_map]
          refine WO_skip rfl rfl ?_; simp only [putT, st, ev, gt, hp, ofV, constT, intT, List.length_map]
          refine WO_skip rfl rfl ?_; simp only [putT, st, ev, gt, hp, ofV, constT, intT, List.length_map]
          refine WO_skip rfl rfl ?_; simp only [putT, st, ev, gt, hp, ofV, constT, intT, List.length_map]
          refine WO_skip rfl rfl ?_; simp only [putT, st, ev, gt, hp, ofV, constT, intT, List.length_map]
          refine WO_skip rfl rfl ?_; simp only [putT, st, ev, gt, hp, ofV, constT, intT, List.length_map]
          refine WO_skip rfl rfl ?_; simp only [putT, st, ev, gt, hp, ofV, constT, intT, List.length_map]
          refine WO_skip rfl rfl ?_; simp only [putT, st, ev, gt, hp, ofV, constT, intT, List.length_map]
          refine WO_skip rfl rfl ?_; simp only [putT, st, ev, gt, hp, ofV, constT, intT, List.length_map]
          refine WO_skip rfl rfl ?_; simp only [putT, st, ev, gt, hp, ofV, constT, intT, List.length_map]
          refine WO_skip rfl rfl ?_; simp only [putT, st, ev, gt, hp, ofV, constT, intT, List.length_map]
          refine WO_skip rfl rfl ?_; simp only [putT, st, ev, gt, hp, ofV, constT, intT, List.length_map]
          refine WO_skip rfl rfl ?_; simp only [putT, st, ev, gt, hp, ofV, constT, intT, List.length_map]
          refine WO_op (x := .c (cB false)) rfl rfl rfl ?_; simp only [putT, st, ev, gt, hp, ofV, constT, intT, List.length_map]
          refine WO_nil ?_
          refine W_cond (t := false) rfl (fun h => by cases h) (fun _ => ?_)
          refine W_skip ?_
          refine W_region ?_
          iterate 2 (refine WO_op rfl rfl rfl ?_; simp only [putT, st, ev, gt, hp, ofV, constT, intT, List.length_map])
          refine WO_nil ?_
          exact hW1 _ _ (IH1 _ _ H1 rfl) (le_intro [] [] (by decide) (by decide) rfl (by simp [leS, leT, leA, gt]) (by simp [leB, leT, leA]) (by simp [leR]))
      · replace H1 := fl hc H1
        simp only [putT, st, ev, gt, hp, ofV, constT, intT, List.length_map]
        refine WO_skip rfl rfl ?_; simp only [putT, st, ev, gt, hp, ofV, constT, intT, List.length_map]
        refine WO_skip rfl rfl ?_; simp only [putT, st, ev, gt, hp, ofV, constT, intT, List.length_map]
        refine WO_skip rfl rfl ?_; simp only [putT, st, ev, gt, hp, ofV, constT, intT, List.length_map]
        refine WO_skip rfl rfl ?_; simp only [putT, st, ev, gt, hp, ofV, constT, intT, List.length_map]
        refine WO_op (x := .c (cB false)) rfl rfl rfl ?_; simp only [putT, st, ev, gt, hp, ofV, constT, intT, List.length_map]
        refine WO_op rfl rfl rfl ?_; simp only [putT, st, ev, gt, hp, ofV, constT, intT, List.length_map]
        refine WO_nil ?_
        refine W_seq ?_
        refine W_region ?_
        iterate 3 (refine WO_op rfl rfl rfl ?_; simp only [putT, st, ev, gt, hp, ofV, constT, intT, List.length_map])
        refine WO_if rfl rfl rfl (fun hc => ?_) (fun hc => ?_)
        · replace H1 := tr hc H1
          simp only [putT, st, ev, gt, hp, ofV, constT, intT, List.length_map]
          iterate 3 (refine WO_want rfl rfl rfl ?_; simp only [putT, st, ev, gt, hp, ofV, constT, intT, List.length_map])
          refine WO_if rfl rfl rfl (fun hc => ?_) (fun hc => ?_)
          · replace H1 := tr hc H1
            simp only [putT, st, ev, gt, hp, ofV, constT, intT, List.length_map]
            refine WO_skip rfl rfl ?_; simp only [putT, st, ev, gt, hp, ofV, constT, intT, List.length_map]
            refine WO_skip rfl rfl ?_; simp only [putT, st, ev, gt, hp, ofV, constT, intT, List.length_map]
            refine WO_skip rfl rfl ?_; simp only [putT, st, ev, gt, hp, ofV, constT, intT, List.length_map]
            refine WO_skip rfl rfl ?_; simp only [putT, st, ev, gt, hp, ofV, constT, intT, List.length_map]
            refine WO_skip rfl rfl ?_; simp only [putT, st, ev, gt, hp, ofV, constT, intT, List.length_map]
            refine WO_skip rfl rfl ?_; simp only [putT, st, ev, gt, hp, ofV, constT, intT, List.length_map]
            refine WO_skip rfl rfl ?_; simp only [putT, st, ev, gt, hp, ofV, constT, intT, List.length_map]
            refine WO_skip rfl rfl ?_; simp only [putT, st, ev, gt, hp, ofV, constT, intT, List.length_map]
            refine WO_skip rfl rfl ?_; simp only [putT, st, ev, gt, hp, ofV, constT, intT, List.length_map]
            refine WO_skip rfl rfl ?_; simp only [putT, st, ev, gt, hp, ofV, constT, intT, List.length_map]
            refine WO_skip rfl rfl ?_; simp only [putT, st, ev, gt, hp, ofV, constT, intT, List.length_map]
            refine WO_want (x := .c (cB true)) rfl rfl rfl ?_; simp only [putT, st, ev, gt, hp, ofV, constT, intT, List.length_map]
            refine WO_op (x := .c (cB true)) rfl rfl rfl ?_; simp only [putT, st, ev, gt, hp, ofV, constT, intT, List.length_map]
            refine WO_nil ?_
            refine W_cond (t := true) rfl (fun _ => ?_) (fun h => by cases h)
            refine W_seq ?_
            refine W_region ?_
            refine WO_op rfl rfl rfl ?_; simp only [putT, st, ev, gt, hp, ofV, constT, intT, List.length_map]
            refine WO_nil ?_
            refine W_ret ?_
            obtain rfl := Option.some.inj H1
            obtain rfl := Option.some.inj H
            exact told3 rfl
          · replace H1 := fl hc H1
            simp only [putT, st, ev, gt, hp, ofV, constT, intT, List.length_map]
            iterate 2 (refine WO_want rfl rfl rfl ?_; simp only [putT, st, ev, gt, hp, ofV, constT, intT, List.length_map])
            obtain ⟨c8, hc8, H1⟩ := bnd H1
            refine WO_want rfl rfl (ev_sx hc8 rfl rfl rfl rfl) ?_; simp only [putT, st, ev, gt, hp, ofV, constT, intT, List.length_map]
            obtain ⟨x9, hx9, H1⟩ := bnd H1
            refine WO_want (x := .c (cB x9)) (σ' := ⟨[], [], []⟩) rfl rfl (ev_callG (al := [.c (cI .u8 (byte c8))]) (ls := []) (impl_isDigit_ok hx9) rfl rfl rfl rfl rfl (by decide) rfl rfl rfl rfl rfl rfl) ?_; simp only [putT, st, ev, gt, hp, ofV, constT, intT, List.length_map]
            iterate 2 (refine WO_want rfl rfl rfl ?_; simp only [putT, st, ev, gt, hp, ofV, constT, intT, List.length_map])
            refine WO_if rfl rfl rfl (fun hc => ?_) (fun hc => ?_)
            · replace H1 := tr hc H1
              simp only [putT, st, ev, gt, hp, ofV, constT, intT, List.length_map]
              iterate 2 (refine WO_want rfl rfl rfl ?_; simp only [putT, st, ev, gt, hp, ofV, constT, intT, List.length_map])
              obtain ⟨c10, hc10, H1⟩ := bnd H1
              refine WO_want rfl rfl (ev_sx hc10 rfl rfl rfl rfl) ?_; simp only [putT, st, ev, gt, hp, ofV, constT, intT, List.length_map]
              refine WO_want rfl rfl rfl ?_; simp only [putT, st, ev, gt, hp, ofV, constT, intT, List.length_map]
              iterate 2 (refine WO_want (x := .c (cB ((byte c10) != 45))) rfl rfl rfl ?_; simp only [putT, st, ev, gt, hp, ofV, constT, intT, List.length_map])
              refine WO_op (x := .c (cB ((byte c10) != 45))) rfl rfl rfl ?_; simp only [putT, st, ev, gt, hp, ofV, constT, intT, List.length_map]
              refine WO_nil ?_
              refine W_cond rfl (fun hc => ?_) (fun hc => ?_)
              · replace H1 := tr hc H1
                refine W_seq ?_
                refine W_region ?_
                refine WO_op rfl rfl rfl ?_; simp only [putT, st, ev, gt, hp, ofV, constT, intT, List.length_map]
                refine WO_nil ?_
                refine W_ret ?_
                obtain rfl := Option.some.inj H1
                obtain rfl := Option.some.inj H
                exact told3 rfl
              · replace H1 := fl hc H1
                refine W_skip ?_
                refine W_region ?_
                iterate 2 (refine WO_op rfl rfl rfl ?_; simp only [putT, st, ev, gt, hp, ofV, constT, intT, List.length_map])
                refine WO_nil ?_
                exact hW1 _ _ (IH1 _ _ H1 rfl) (le_intro [] [] (by decide) (by decide) rfl (by simp [leS, leT, leA, gt]) (by simp [leB, leT, leA]) (by simp [leR]))
            · replace H1 := fl hc H1
              simp only [putT, st, ev, gt, hp, ofV, constT, intT, List.length_map]
              refine WO_skip rfl rfl ?_; simp only [putT, st, ev, gt, hp, ofV, constT, intT, List.length_map]
              refine WO_skip rfl rfl ?_; simp only [putT, st, ev, gt, hp, ofV, constT, intT, List.length_map]
              refine WO_skip rfl rfl ?_; simp only [putT, st, ev, gt, hp, ofV, constT, intT, List.length_map]
              refine WO_skip rfl rfl ?_; simp only [putT, st, ev, gt, hp, ofV, constT, intT, List.length_map]
              iterate 2 (refine WO_want (x := .c (cB false)) rfl rfl rfl ?_; simp only [putT, st, ev, gt, hp, ofV, constT, intT, List.length_map])
              refine WO_op (x := .c (cB false)) rfl rfl rfl ?_; simp only [putT, st, ev, gt, hp, ofV, constT, intT, List.length_map]
              refine WO_nil ?_
              refine W_cond (t := false) rfl (fun h => by cases h) (fun _ => ?_)
              refine W_skip ?_
              refine W_region ?_
              iterate 2 (refine WO_op rfl rfl rfl ?_; simp only [putT, st, ev, gt, hp, ofV, constT, intT, List.length_map])
              refine WO_nil ?_
              exact hW1 _ _ (IH1 _ _ H1 rfl) (le_intro [] [] (by decide) (by decide) rfl (by simp [leS, leT, leA, gt]) (by simp [leB, leT, leA]) (by simp [leR]))
        · replace H1 := fl hc H1
          simp only [putT, st, ev, gt, hp, ofV, constT, intT, List.length_map]
          refine WO_skip rfl rfl ?_; simp only [putT, st, ev, gt, hp, ofV, constT, intT, List.length_map]
          refine WO_skip rfl rfl ?_; simp only [putT, st, ev, gt, hp, ofV, constT, intT, List.length_map]
          refine WO_skip rfl rfl ?_; simp only [putT, st, ev, gt, hp, ofV, constT, intT, List.length_map]
          refine WO_skip rfl rfl ?_; simp only [putT, st, ev, gt, hp, ofV, constT, intT, List.length_map]
          refine WO_skip rfl rfl ?_; simp only [putT, st, ev, gt, hp, ofV, constT, intT, List.length_map]
          refine WO_skip rfl rfl ?_; simp only [putT, st, ev, gt, hp, ofV, constT, intT, List.length_map]
          refine WO_skip rfl rfl ?_; simp only [putT, st, ev, gt, hp, ofV, constT, intT, List.length_map]
          refine WO_skip rfl rfl ?_; simp only [putT, st, ev, gt, hp, ofV, constT, intT, List.length_map]
          refine WO_skip rfl rfl ?_; simp only [putT, st, ev, gt, hp, ofV, constT, intT, List.length_map]
          refine WO_skip rfl rfl ?_; simp only [putT, st, ev, gt, hp, ofV, constT, intT, List.length_map]
          refine WO_skip rfl rfl ?_; simp only [putT, st, ev, gt, hp, ofV, constT, intT, List.length_map]
          refine WO_skip rfl rfl ?_; simp only [putT, st, ev, gt, hp, ofV, constT, intT, List.length_map]
          refine WO_skip rfl rfl ?_; simp only [putT, st, ev, gt, hp, ofV, constT, intT, List.length_map]
          refine WO_skip rfl rfl ?_; simp only [putT, st, ev, gt, hp, ofV, constT, intT, List.length_map]
          refine WO_skip rfl rfl ?_; simp only [putT, st, ev, gt, hp, ofV, constT, intT, List.length_map]
          refine WO_op (x := .c (cB false)) rfl rfl rfl ?_; simp only [putT, st, ev, gt, hp, ofV, constT, intT, List.length_map]
          refine WO_nil ?_
          refine W_cond (t := false) rfl (fun h => by cases h) (fun _ => ?_)
          refine W_skip ?_
          refine W_region ?_
          iterate 2 (refine WO_op rfl rfl rfl ?_; simp only [putT, st, ev, gt, hp, ofV, constT, intT, List.length_map])
          refine WO_nil ?_
          exact hW1 _ _ (IH1 _ _ H1 rfl) (le_intro [] [] (by decide) (by decide) rfl (by simp [leS, leT, leA, gt]) (by simp [leB, leT, leA]) (by simp [leR]))
    · replace H1 := fl hc H1
      refine W_exit ?_
      obtain rfl := Option.some.inj H1
      exact hX1 () _ rfl (le_intro [] [] (by decide) (by decide) rfl (by simp [leS, leT, leA, gt]) (by simp [leB, leT, leA]) (by simp [leR]))
set_option maxRecDepth 20000 in
set_option maxHeartbeats 1000000 in
theorem impl_isMany_ok {a1 : Int} {r : Bool} (H : impl_isMany a1 = some r) : R 67 [.c (cI .i64 a1) none] = some (.c (cB r) none, []) := by
  unfold impl_isMany at H
  refine Fz_walk 5 rfl rfl Try.func67 rfl (by kernel_rfl) rfl rfl rfl rfl ?_
  simp only [tellVs, tellV, tells, tell, st0, padT, SX.newRow, SX.newBox, List.length_cons, List.length_nil, Nat.reduceAdd, Nat.reduceSub, List.replicate, List.cons_append, List.nil_append]
  refine W_seq ?_
  refine W_region ?_
  refine WO_op rfl rfl rfl ?_; simp only [putT, st, ev, gt, hp, ofV, constT, intT, List.length_map]
  refine WO_nil ?_
  refine W_seq ?_
  refine W_region ?_
  refine WO_op rfl rfl rfl ?_; simp only [putT, st, ev, gt, hp, ofV, constT, intT, List.length_map]
  obtain ⟨x2, hx2, H⟩ := bnd H
  refine WO_op (x := .c (cB x2)) (σ' := ⟨[], [], []⟩) rfl rfl (ev_callG (al := [.c (cI .i64 a1), .c (cI .i64 0), .c (cI .i64 1000)]) (ls := []) (impl_from_ok hx2) rfl rfl rfl rfl rfl (by decide) rfl rfl rfl rfl rfl rfl) ?_; simp only [putT, st, ev, gt, hp, ofV, constT, intT, List.length_map]
  refine WO_op rfl rfl rfl ?_; simp only [putT, st, ev, gt, hp, ofV, constT, intT, List.length_map]
  refine WO_nil ?_
  refine W_ret ?_
  obtain rfl := Option.some.inj H
  exact told3 rfl
set_option maxRecDepth 20000 in
set_option maxHeartbeats 1000000 in
theorem impl_isTime_ok {a1 : Int} {r : Bool} (H : impl_isTime a1 = some r) : R 66 [.c (cI .i64 a1) none] = some (.c (cB r) none, []) := by
  unfold impl_isTime at H
  refine Fz_walk 5 rfl rfl Try.func66 rfl (by kernel_rfl) rfl rfl rfl rfl ?_
  simp only [tellVs, tellV, tells, tell, st0, padT, SX.newRow, SX.newBox, List.length_cons, List.length_nil, Nat.reduceAdd, Nat.reduceSub, List.replicate, List.cons_append, List.nil_append]
  refine W_seq ?_
  refine W_region ?_
  refine WO_op rfl rfl rfl ?_; simp only [putT, st, ev, gt, hp, ofV, constT, intT, List.length_map]
  refine WO_nil ?_
  refine W_seq ?_
  refine W_region ?_
  refine WO_op rfl rfl rfl ?_; simp only [putT, st, ev, gt, hp, ofV, constT, intT, List.length_map]
  obtain ⟨x2, hx2, H⟩ := bnd H
  refine WO_op (x := .c (cB x2)) (σ' := ⟨[], [], []⟩) rfl rfl (ev_callG (al := [.c (cI .i64 a1), .c (cI .i64 0), .c (cI .i64 1000000)]) (ls := []) (impl_from_ok hx2) rfl rfl rfl rfl rfl (by decide) rfl rfl rfl rfl rfl rfl) ?_; simp only [putT, st, ev, gt, hp, ofV, constT, intT, List.length_map]
  refine WO_op rfl rfl rfl ?_; simp only [putT, st, ev, gt, hp, ofV, constT, intT, List.length_map]
  refine WO_nil ?_
  refine W_ret ?_
  obtain rfl := Option.some.inj H
  exact told3 rfl
set_option maxRecDepth 20000 in
set_option maxHeartbeats 1000000 in
theorem impl_RecsOk_ok {a1 : List Rec} {r : Bool} (H : impl_RecsOk a1 = some r) : R 18 [.c (cL enc_Rec a1) none] = some (.c (cB r) none, []) := by
  unfold impl_RecsOk at H
  refine Fz_walk 41 rfl rfl Try.func18 rfl (by kernel_rfl) rfl rfl rfl rfl ?_
  simp only [tellVs, tellV, tells, tell, st0, padT, SX.newRow, SX.newBox, List.length_cons, List.length_nil, Nat.reduceAdd, Nat.reduceSub, List.replicate, List.cons_append, List.nil_append]
  refine W_seq ?_
  refine W_region ?_
  refine WO_op rfl rfl rfl ?_; simp only [putT, st, ev, gt, hp, ofV, constT, intT, List.length_map]
  refine WO_nil ?_
  refine W_seq ?_
  refine W_seq ?_
  refine W_region ?_
  iterate 3 (refine WO_op rfl rfl rfl ?_; simp only [putT, st, ev, gt, hp, ofV, constT, intT, List.length_map])
  refine WO_nil ?_
  refine W_block ?_
  obtain ⟨s8, hs8, H⟩ := bnd H
  refine loop_rule (ls := []) 0 (fun t7 : Unit => ⟨[.c (cL enc_Rec a1)], [], []⟩) (fun t => s8 = .inr t) ⟨[.c (cL enc_Rec a1), .no, .no, .no, .no, .c (cL enc_Rec a1), .c (cI .i64 (a1.length : Int)), .c (cI .i64 0)], [], []⟩ (by repeat (first | exact mono_told | refine mono_seq ?_ | refine mono_blk ?_ | refine mono_lp ?_)) (le_intro [] [] (by decide) (by decide) rfl (by simp [leS, leT, leA, gt]) (by simp [leB, leT, leA]) (by simp [leR])) ?_ ?_
  · rintro t7 rfl
    refine W_seq ?_
    refine W_region ?_
    iterate 4 (refine WO_op rfl rfl rfl ?_; simp only [putT, st, ev, gt, hp, ofV, constT, intT, List.length_map])
    refine WO_nil ?_
    refine W_ret ?_
    obtain rfl := Option.some.inj H
    exact told3 rfl
  · intro V1 hV1 hW1 hX1
    refine impl_RecsOk.l0.partial_correctness a1 (fun v2 s' => s' = s8 → V1 ⟨[.c (cL enc_Rec a1), .no, .no, .no, .no, .c (cL enc_Rec a1), .c (cI .i64 (a1.length : Int)), .c (cI .i64 v2)], [], []⟩) ?_ _ _ hs8 rfl
    intro l0 IH1 v2 s' H1 e
    subst e
    refine hV1 _ ?_
    refine W_seq ?_
    refine W_region ?_
    refine WO_op rfl rfl rfl ?_; simp only [putT, st, ev, gt, hp, ofV, constT, intT, List.length_map]
    refine WO_nil ?_
    refine W_seq ?_
    refine W_cond rfl (fun hc => ?_) (fun hc => ?_)
    · replace H1 := tr hc H1
      refine W_skip ?_
      refine W_seq ?_
      refine W_block ?_
      refine W_seq ?_
      refine W_region ?_
      refine WO_op rfl rfl rfl ?_; simp only [putT, st, ev, gt, hp, ofV, constT, intT, List.length_map]
      obtain ⟨x3, hx3, H1⟩ := bnd H1
      refine WO_op rfl rfl (ev_ix (en := enc_Rec) hx3 rfl rfl rfl rfl rfl rfl rfl) ?_; simp only [putT, st, ev, gt, hp, ofV, constT, intT, List.length_map]
      refine WO_op (x := .ag [.c (cI .i64 x3.Time), .c (cI .i64 x3.N)]) rfl rfl rfl ?_; simp only [putT, st, ev, gt, hp, ofV, constT, intT, List.length_map]
      refine WO_op (x := .bp 0 0) (σ' := ⟨[], [some [.c (cI .i64 0), .c (cI .i64 0)]], []⟩) rfl rfl rfl ?_; simp only [putT, st, ev, gt, hp, ofV, constT, intT, List.length_map]
      refine WO_op rfl rfl rfl ?_; simp only [putT, st, ev, gt, hp, ofV, constT, intT, List.length_map]
      refine WO_op (x := .no) (σ' := ⟨[], [some [.c (cI .i64 x3.Time), .c (cI .i64 x3.N)]], []⟩) rfl rfl rfl ?_; simp only [putT, st, ev, gt, hp, ofV, constT, intT, List.length_map]
      refine WO_nil ?_
      refine W_seq ?_
      refine W_draw (by kernel_rfl) (by kernel_rfl) ?_
      refine WO_op (x := .bp 0 0) rfl rfl rfl ?_; simp only [putT, st, ev, gt, hp, ofV, constT, intT, List.length_map]
      refine WO_op (x := .c (cI .i64 x3.Time)) rfl rfl rfl ?_; simp only [putT, st, ev, gt, hp, ofV, constT, intT, List.length_map]
      obtain ⟨x4, hx4, H1⟩ := bnd H1
      refine WO_op (x := .c (cB x4)) (σ' := ⟨[], [some [.c (cI .i64 x3.Time), .c (cI .i64 x3.N)]], []⟩) rfl rfl (ev_callG (al := [.c (cI .i64 x3.Time)]) (ls := []) (impl_isTime_ok hx4) rfl rfl rfl rfl rfl (by decide) rfl rfl rfl rfl rfl rfl) ?_; simp only [putT, st, ev, gt, hp, ofV, constT, intT, List.length_map]
      iterate 2 (refine WO_op rfl rfl rfl ?_; simp only [putT, st, ev, gt, hp, ofV, constT, intT, List.length_map])
      refine WO_if rfl rfl rfl (fun hc => ?_) (fun hc => ?_)
      · replace H1 := tr hc H1
        simp only [putT, st, ev, gt, hp, ofV, constT, intT, List.length_map]
        refine WO_skip rfl rfl ?_; simp only [putT, st, ev, gt, hp, ofV, constT, intT, List.length_map]
        refine WO_skip rfl rfl ?_; simp only [putT, st, ev, gt, hp, ofV, constT, intT, List.length_map]
        refine WO_skip rfl rfl ?_; simp only [putT, st, ev, gt, hp, ofV, constT, intT, List.length_map]
        refine WO_skip rfl rfl ?_; simp only [putT, st, ev, gt, hp, ofV, constT, intT, List.length_map]
        refine WO_op (x := .c (cB true)) rfl rfl rfl ?_; simp only [putT, st, ev, gt, hp, ofV, constT, intT, List.length_map]
        refine WO_op rfl rfl rfl ?_; simp only [putT, st, ev, gt, hp, ofV, constT, intT, List.length_map]
        refine WO_skip rfl rfl ?_; simp only [putT, st, ev, gt, hp, ofV, constT, intT, List.length_map]
        refine WO_skip rfl rfl ?_; simp only [putT, st, ev, gt, hp, ofV, constT, intT, List.length_map]
        refine WO_skip rfl rfl ?_; simp only [putT, st, ev, gt, hp, ofV, constT, intT, List.length_map]
        refine WO_skip rfl rfl ?_; simp only [putT, st, ev, gt, hp, ofV, constT, intT, List.length_map]
        refine WO_skip rfl rfl ?_; simp only [putT, st, ev, gt, hp, ofV, constT, intT, List.length_map]
        refine WO_skip rfl rfl ?_; simp only [putT, st, ev, gt, hp, ofV, constT, intT, List.length_map]
        refine WO_skip rfl rfl ?_; simp only [putT, st, ev, gt, hp, ofV, constT, intT, List.length_map]
        refine WO_skip rfl rfl ?_; simp only [putT, st, ev, gt, hp, ofV, constT, intT, List.length_map]
        refine WO_skip rfl rfl ?_; simp only [putT, st, ev, gt, hp, ofV, constT, intT, List.length_map]
        refine WO_skip rfl rfl ?_; simp only [putT, st, ev, gt, hp, ofV, constT, intT, List.length_map]
        refine WO_skip rfl rfl ?_; simp only [putT, st, ev, gt, hp, ofV, constT, intT, List.length_map]
        refine WO_skip rfl rfl ?_; simp only [putT, st, ev, gt, hp, ofV, constT, intT, List.length_map]
        refine WO_skip rfl rfl ?_; simp only [putT, st, ev, gt, hp, ofV, constT, intT, List.length_map]
        refine WO_op (x := .c (cB true)) rfl rfl rfl ?_; simp only [putT, st, ev, gt, hp, ofV, constT, intT, List.length_map]
        refine WO_nil ?_
        refine W_cond (t := true) rfl (fun _ => ?_) (fun h => by cases h)
        refine W_seq ?_
        refine W_region ?_
        refine WO_op rfl rfl rfl ?_; simp only [putT, st, ev, gt, hp, ofV, constT, intT, List.length_map]
        refine WO_nil ?_
        refine W_ret ?_
        obtain rfl := Option.some.inj H1
        obtain rfl := Option.some.inj H
        exact told3 rfl
      · replace H1 := fl hc H1
        simp only [putT, st, ev, gt, hp, ofV, constT, intT, List.length_map]
        refine WO_want (x := .bp 0 1) rfl rfl rfl ?_; simp only [putT, st, ev, gt, hp, ofV, constT, intT, List.length_map]
        refine WO_want (x := .c (cI .i64 x3.N)) rfl rfl rfl ?_; simp only [putT, st, ev, gt, hp, ofV, constT, intT, List.length_map]
        obtain ⟨x5, hx5, H1⟩ := bnd H1
        refine WO_want (x := .c (cB x5)) (σ' := ⟨[], [some [.c (cI .i64 x3.Time), .c (cI .i64 x3.N)]], []⟩) rfl rfl (ev_callG (al := [.c (cI .i64 x3.N)]) (ls := []) (impl_isMany_ok hx5) rfl rfl rfl rfl rfl (by decide) rfl rfl rfl rfl rfl rfl) ?_; simp only [putT, st, ev, gt, hp, ofV, constT, intT, List.length_map]
        refine WO_want rfl rfl rfl ?_; simp only [putT, st, ev, gt, hp, ofV, constT, intT, List.length_map]
        refine WO_op (x := .c (cB (!x5))) rfl rfl rfl ?_; simp only [putT, st, ev, gt, hp, ofV, constT, intT, List.length_map]
        refine WO_op rfl rfl rfl ?_; simp only [putT, st, ev, gt, hp, ofV, constT, intT, List.length_map]
        refine WO_if rfl rfl rfl (fun hc => ?_) (fun hc => ?_)
        · replace H1 := tr hc H1
          simp only [putT, st, ev, gt, hp, ofV, constT, intT, List.length_map]
          refine WO_skip rfl rfl ?_; simp only [putT, st, ev, gt, hp, ofV, constT, intT, List.length_map]
          refine WO_skip rfl rfl ?_; simp only [putT, st, ev, gt, hp, ofV, constT, intT, List.length_map]
          refine WO_skip rfl rfl ?_; simp only [putT, st, ev, gt, hp, ofV, constT, intT, List.length_map]
          refine WO_skip rfl rfl ?_; simp only [putT, st, ev, gt, hp, ofV, constT, intT, List.length_map]
          refine WO_skip rfl rfl ?_; simp only [putT, st, ev, gt, hp, ofV, constT, intT, List.length_map]
          refine WO_skip rfl rfl ?_; simp only [putT, st, ev, gt, hp, ofV, constT, intT, List.length_map]
          refine WO_skip rfl rfl ?_; simp only [putT, st, ev, gt, hp, ofV, constT, intT, List.length_map]
          refine WO_skip rfl rfl ?_; simp only [putT, st, ev, gt, hp, ofV, constT, intT, List.length_map]
          refine WO_skip rfl rfl ?_; simp only [putT, st, ev, gt, hp, ofV, constT, intT, List.length_map]
          refine WO_skip rfl rfl ?_; simp only [putT, st, ev, gt, hp, ofV, constT, intT, List.length_map]
          refine WO_skip rfl rfl ?_; simp only [putT, st, ev, gt, hp, ofV, constT, intT, List.length_map]
          refine WO_skip rfl rfl ?_; simp only [putT, st, ev, gt, hp, ofV, constT, intT, List.length_map]
          refine WO_skip rfl rfl ?_; simp only [putT, st, ev, gt, hp, ofV, constT, intT, List.length_map]
          refine WO_op (x := .c (cB true)) rfl rfl rfl ?_; simp only [putT, st, ev, gt, hp, ofV, constT, intT, List.length_map]
          refine WO_nil ?_
          refine W_cond (t := true) rfl (fun _ => ?_) (fun h => by cases h)
          refine W_seq ?_
          refine W_region ?_
          refine WO_op rfl rfl rfl ?_; simp only [putT, st, ev, gt, hp, ofV, constT, intT, List.length_map]
          refine WO_nil ?_
          refine W_ret ?_
          obtain rfl := Option.some.inj H1
          obtain rfl := Option.some.inj H
          exact told3 rfl
        · replace H1 := fl hc H1
          simp only [putT, st, ev, gt, hp, ofV, constT, intT, List.length_map]
          iterate 3 (refine WO_want rfl rfl rfl ?_; simp only [putT, st, ev, gt, hp, ofV, constT, intT, List.length_map])
          refine WO_if rfl rfl rfl (fun hc => ?_) (fun hc => ?_)
          · replace H1 := tr hc H1
            simp only [putT, st, ev, gt, hp, ofV, constT, intT, List.length_map]
            iterate 3 (refine WO_want rfl rfl rfl ?_; simp only [putT, st, ev, gt, hp, ofV, constT, intT, List.length_map])
            obtain ⟨x6, hx6, H1⟩ := bnd H1
            refine WO_want rfl rfl (ev_ix (en := enc_Rec) hx6 rfl rfl rfl rfl rfl rfl rfl) ?_; simp only [putT, st, ev, gt, hp, ofV, constT, intT, List.length_map]
            refine WO_want (x := .cp (enc_Rec x6) 0) rfl rfl rfl ?_; simp only [putT, st, ev, gt, hp, ofV, constT, intT, List.length_map]
            refine WO_want (x := .c (cI .i64 x6.Time)) rfl rfl rfl ?_; simp only [putT, st, ev, gt, hp, ofV, constT, intT, List.length_map]
            refine WO_want (x := .bp 0 0) rfl rfl rfl ?_; simp only [putT, st, ev, gt, hp, ofV, constT, intT, List.length_map]
            refine WO_want (x := .c (cI .i64 x3.Time)) rfl rfl rfl ?_; simp only [putT, st, ev, gt, hp, ofV, constT, intT, List.length_map]
            refine WO_want rfl rfl rfl ?_; simp only [putT, st, ev, gt, hp, ofV, constT, intT, List.length_map]
            refine WO_want (x := .c (cB (decide (x6.Time > x3.Time)))) rfl rfl rfl ?_; simp only [putT, st, ev, gt, hp, ofV, constT, intT, List.length_map]
            refine WO_op (x := .c (cB (decide (x6.Time > x3.Time)))) rfl rfl rfl ?_; simp only [putT, st, ev, gt, hp, ofV, constT, intT, List.length_map]
            refine WO_nil ?_
            refine W_cond rfl (fun hc => ?_) (fun hc => ?_)
            · replace H1 := tr hc H1
              refine W_seq ?_
              refine W_region ?_
              refine WO_op rfl rfl rfl ?_; simp only [putT, st, ev, gt, hp, ofV, constT, intT, List.length_map]
              refine WO_nil ?_
              refine W_ret ?_
              obtain rfl := Option.some.inj H1
              obtain rfl := Option.some.inj H
              exact told3 rfl
            · replace H1 := fl hc H1
              refine W_skip ?_
              refine W_region ?_
              iterate 2 (refine WO_op rfl rfl rfl ?_; simp only [putT, st, ev, gt, hp, ofV, constT, intT, List.length_map])
              refine WO_nil ?_
              exact hW1 _ _ (IH1 _ _ H1 rfl) (le_intro [] [] (by decide) (by decide) rfl (by simp [leS, leT, leA, gt]) (by simp [leB, leT, leA]) (by simp [leR]))
          · replace H1 := fl hc H1
            simp only [putT, st, ev, gt, hp, ofV, constT, intT, List.length_map]
            refine WO_skip rfl rfl ?_; simp only [putT, st, ev, gt, hp, ofV, constT, intT, List.length_map]
            refine WO_skip rfl rfl ?_; simp only [putT, st, ev, gt, hp, ofV, constT, intT, List.length_map]
            refine WO_skip rfl rfl ?_; simp only [putT, st, ev, gt, hp, ofV, constT, intT, List.length_map]
            refine WO_skip rfl rfl ?_; simp only [putT, st, ev, gt, hp, ofV, constT, intT, List.length_map]
            refine WO_skip rfl rfl ?_; simp only [putT, st, ev, gt, hp, ofV, constT, intT, List.length_map]
            refine WO_skip rfl rfl ?_; simp only [putT, st, ev, gt, hp, ofV, constT, intT, List.length_map]
            refine WO_skip rfl rfl ?_; simp only [putT, st, ev, gt, hp, ofV, constT, intT, List.length_map]
            refine WO_skip rfl rfl ?_; simp only [putT, st, ev, gt, hp, ofV, constT, intT, List.length_map]
            refine WO_skip rfl rfl ?_; simp only [putT, st, ev, gt, hp, ofV, constT, intT, List.length_map]
            refine WO_want (x := .c (cB false)) rfl rfl rfl ?_; simp only [putT, st, ev, gt, hp, ofV, constT, intT, List.length_map]
            refine WO_op (x := .c (cB false)) rfl rfl rfl ?_; simp only [putT, st, ev, gt, hp, ofV, constT, intT, List.length_map]
            refine WO_nil ?_
            refine W_cond (t := false) rfl (fun h => by cases h) (fun _ => ?_)
            refine W_skip ?_
            refine W_region ?_
            iterate 2 (refine WO_op rfl rfl rfl ?_; simp only [putT, st, ev, gt, hp, ofV, constT, intT, List.length_map])
            refine WO_nil ?_
            exact hW1 _ _ (IH1 _ _ H1 rfl) (le_intro [] [] (by decide) (by decide) rfl (by simp [leS, leT, leA, gt]) (by simp [leB, leT, leA]) (by simp [leR]))
    · replace H1 := fl hc H1
      refine W_exit ?_
      obtain rfl := Option.some.inj H1
      exact hX1 () _ rfl (le_intro [] [] (by decide) (by decide) rfl (by simp [leS, leT, leA, gt]) (by simp [leB, leT, leA]) (by simp [leR]))
set_option maxRecDepth 20000 in
set_option maxHeartbeats 1000000 in
theorem impl_ScaleOk_ok {a1 : Scale} {r : Bool} (H : impl_ScaleOk a1 = some r) : R 48 [.ag [(cS a1.Name, none), (cI .i64 a1.Now, none), (cL enc_Rec a1.Recs, none)]] = some (.c (cB r) none, []) := by
  unfold impl_ScaleOk at H
  refine Fz_walk 16 rfl rfl Try.func48 rfl (by kernel_rfl) rfl rfl rfl rfl ?_
  simp only [tellVs, tellV, tells, tell, st0, padT, SX.newRow, SX.newBox, List.length_cons, List.length_nil, Nat.reduceAdd, Nat.reduceSub, List.replicate, List.cons_append, List.nil_append]
  refine W_seq ?_
  refine W_region ?_
  refine WO_op (x := .bp 0 0) (σ' := ⟨[], [some [.c (cS a1.Name), .c (cI .i64 a1.Now), .c (cL enc_Rec a1.Recs)]], []⟩) rfl rfl rfl ?_; simp only [putT, st, ev, gt, hp, ofV, constT, intT, List.length_map]
  refine WO_op rfl rfl rfl ?_; simp only [putT, st, ev, gt, hp, ofV, constT, intT, List.length_map]
  refine WO_nil ?_
  refine W_seq ?_
  refine W_region ?_
  refine WO_op (x := .bp 0 0) rfl rfl rfl ?_; simp only [putT, st, ev, gt, hp, ofV, constT, intT, List.length_map]
  refine WO_op (x := .c (cS a1.Name)) rfl rfl rfl ?_; simp only [putT, st, ev, gt, hp, ofV, constT, intT, List.length_map]
  obtain ⟨x2, hx2, H⟩ := bnd H
  refine WO_op (x := .c (cB x2)) (σ' := ⟨[], [some [.c (cS a1.Name), .c (cI .i64 a1.Now), .c (cL enc_Rec a1.Recs)]], []⟩) rfl rfl (ev_callG (al := [.c (cS a1.Name)]) (ls := []) (impl_NameOk_ok hx2) rfl rfl rfl rfl rfl (by decide) rfl rfl rfl rfl rfl rfl) ?_; simp only [putT, st, ev, gt, hp, ofV, constT, intT, List.length_map]
  refine WO_op rfl rfl rfl ?_; simp only [putT, st, ev, gt, hp, ofV, constT, intT, List.length_map]
  refine WO_if rfl rfl rfl (fun hc => ?_) (fun hc => ?_)
  · replace H := tr hc H
    simp only [putT, st, ev, gt, hp, ofV, constT, intT, List.length_map]
    refine WO_want (x := .bp 0 1) rfl rfl rfl ?_; simp only [putT, st, ev, gt, hp, ofV, constT, intT, List.length_map]
    refine WO_want (x := .c (cI .i64 a1.Now)) rfl rfl rfl ?_; simp only [putT, st, ev, gt, hp, ofV, constT, intT, List.length_map]
    obtain ⟨x3, hx3, H⟩ := bnd H
    refine WO_want (x := .c (cB x3)) (σ' := ⟨[], [some [.c (cS a1.Name), .c (cI .i64 a1.Now), .c (cL enc_Rec a1.Recs)]], []⟩) rfl rfl (ev_callG (al := [.c (cI .i64 a1.Now)]) (ls := []) (impl_isMany_ok hx3) rfl rfl rfl rfl rfl (by decide) rfl rfl rfl rfl rfl rfl) ?_; simp only [putT, st, ev, gt, hp, ofV, constT, intT, List.length_map]
    refine WO_op (x := .c (cB x3)) rfl rfl rfl ?_; simp only [putT, st, ev, gt, hp, ofV, constT, intT, List.length_map]
    refine WO_op rfl rfl rfl ?_; simp only [putT, st, ev, gt, hp, ofV, constT, intT, List.length_map]
    refine WO_if rfl rfl rfl (fun hc => ?_) (fun hc => ?_)
    · replace H := tr hc H
      simp only [putT, st, ev, gt, hp, ofV, constT, intT, List.length_map]
      refine WO_want (x := .bp 0 2) rfl rfl rfl ?_; simp only [putT, st, ev, gt, hp, ofV, constT, intT, List.length_map]
      refine WO_want (x := .c (cL enc_Rec a1.Recs)) rfl rfl rfl ?_; simp only [putT, st, ev, gt, hp, ofV, constT, intT, List.length_map]
      obtain ⟨x4, hx4, H⟩ := bnd H
      refine WO_want (x := .c (cB x4)) (σ' := ⟨[], [some [.c (cS a1.Name), .c (cI .i64 a1.Now), .c (cL enc_Rec a1.Recs)]], []⟩) rfl rfl (ev_callG (al := [.c (cL enc_Rec a1.Recs)]) (ls := []) (impl_RecsOk_ok hx4) rfl rfl rfl rfl rfl (by decide) rfl rfl rfl rfl rfl rfl) ?_; simp only [putT, st, ev, gt, hp, ofV, constT, intT, List.length_map]
      refine WO_op (x := .c (cB x4)) rfl rfl rfl ?_; simp only [putT, st, ev, gt, hp, ofV, constT, intT, List.length_map]
      refine WO_op rfl rfl rfl ?_; simp only [putT, st, ev, gt, hp, ofV, constT, intT, List.length_map]
      refine WO_nil ?_
      refine W_ret ?_
      obtain rfl := Option.some.inj H
      exact told3 rfl
    · replace H := fl hc H
      simp only [putT, st, ev, gt, hp, ofV, constT, intT, List.length_map]
      refine WO_skip rfl rfl ?_; simp only [putT, st, ev, gt, hp, ofV, constT, intT, List.length_map]
      refine WO_skip rfl rfl ?_; simp only [putT, st, ev, gt, hp, ofV, constT, intT, List.length_map]
      refine WO_skip rfl rfl ?_; simp only [putT, st, ev, gt, hp, ofV, constT, intT, List.length_map]
      refine WO_op (x := .c (cB false)) rfl rfl rfl ?_; simp only [putT, st, ev, gt, hp, ofV, constT, intT, List.length_map]
      refine WO_op rfl rfl rfl ?_; simp only [putT, st, ev, gt, hp, ofV, constT, intT, List.length_map]
      refine WO_nil ?_
      refine W_ret ?_
      obtain rfl := Option.some.inj H
      exact told3 rfl
  · replace H := fl hc H
    simp only [putT, st, ev, gt, hp, ofV, constT, intT, List.length_map]
    refine WO_skip rfl rfl ?_; simp only [putT, st, ev, gt, hp, ofV, constT, intT, List.length_map]
    refine WO_skip rfl rfl ?_; simp only [putT, st, ev, gt, hp, ofV, constT, intT, List.length_map]
    refine WO_skip rfl rfl ?_; simp only [putT, st, ev, gt, hp, ofV, constT, intT, List.length_map]
    refine WO_op (x := .c (cB false)) rfl rfl rfl ?_; simp only [putT, st, ev, gt, hp, ofV, constT, intT, List.length_map]
    refine WO_op rfl rfl rfl ?_; simp only [putT, st, ev, gt, hp, ofV, constT, intT, List.length_map]
    refine WO_skip rfl rfl ?_; simp only [putT, st, ev, gt, hp, ofV, constT, intT, List.length_map]
    refine WO_skip rfl rfl ?_; simp only [putT, st, ev, gt, hp, ofV, constT, intT, List.length_map]
    refine WO_skip rfl rfl ?_; simp only [putT, st, ev, gt, hp, ofV, constT, intT, List.length_map]
    refine WO_op (x := .c (cB false)) rfl rfl rfl ?_; simp only [putT, st, ev, gt, hp, ofV, constT, intT, List.length_map]
    refine WO_op rfl rfl rfl ?_; simp only [putT, st, ev, gt, hp, ofV, constT, intT, List.length_map]
    refine WO_nil ?_
    refine W_ret ?_
    obtain rfl := Option.some.inj H
    exact told3 rfl
set_option maxRecDepth 20000 in
set_option maxHeartbeats 1000000 in
theorem laws_eqRec_ok {a1 : Rec} {a2 : Rec} {r : Bool} (H : laws_eqRec a1 a2 = some r) : R 68 [.ag [(cI .i64 a1.Time, none), (cI .i64 a1.N, none)], .ag [(cI .i64 a2.Time, none), (cI .i64 a2.N, none)]] = some (.c (cB r) none, []) := by
  unfold laws_eqRec at H
  refine Fz_walk 15 rfl rfl Try.func68 rfl (by kernel_rfl) rfl rfl rfl rfl ?_
  simp only [tellVs, tellV, tells, tell, st0, padT, SX.newRow, SX.newBox, List.length_cons, List.length_nil, Nat.reduceAdd, Nat.reduceSub, List.replicate, List.cons_append, List.nil_append]
  refine W_seq ?_
  refine W_region ?_
  refine WO_op (x := .bp 0 0) (σ' := ⟨[], [some [.c (cI .i64 a1.Time), .c (cI .i64 a1.N)]], []⟩) rfl rfl rfl ?_; simp only [putT, st, ev, gt, hp, ofV, constT, intT, List.length_map]
  refine WO_op (x := .bp 1 0) (σ' := ⟨[], [some [.c (cI .i64 a1.Time), .c (cI .i64 a1.N)], some [.c (cI .i64 a2.Time), .c (cI .i64 a2.N)]], []⟩) rfl rfl rfl ?_; simp only [putT, st, ev, gt, hp, ofV, constT, intT, List.length_map]
  refine WO_op rfl rfl rfl ?_; simp only [putT, st, ev, gt, hp, ofV, constT, intT, List.length_map]
  refine WO_nil ?_
  refine W_seq ?_
  refine W_seq ?_
  refine W_region ?_
  refine WO_op (x := .bp 0 0) rfl rfl rfl ?_; simp only [putT, st, ev, gt, hp, ofV, constT, intT, List.length_map]
  refine WO_op (x := .c (cI .i64 a1.Time)) rfl rfl rfl ?_; simp only [putT, st, ev, gt, hp, ofV, constT, intT, List.length_map]
  refine WO_op (x := .bp 1 0) rfl rfl rfl ?_; simp only [putT, st, ev, gt, hp, ofV, constT, intT, List.length_map]
  refine WO_op (x := .c (cI .i64 a2.Time)) rfl rfl rfl ?_; simp only [putT, st, ev, gt, hp, ofV, constT, intT, List.length_map]
  refine WO_op rfl rfl rfl ?_; simp only [putT, st, ev, gt, hp, ofV, constT, intT, List.length_map]
  refine WO_nil ?_
  refine W_cond rfl (fun hc => ?_) (fun hc => ?_)
  · replace H := tr hc H
    refine W_seq ?_
    refine W_region ?_
    refine WO_op rfl rfl rfl ?_; simp only [putT, st, ev, gt, hp, ofV, constT, intT, List.length_map]
    refine WO_nil ?_
    refine W_ret ?_
    obtain rfl := Option.some.inj H
    exact told3 rfl
  · replace H := fl hc H
    refine W_skip ?_
    refine W_seq ?_
    refine W_seq ?_
    refine W_region ?_
    refine WO_op (x := .bp 0 1) rfl rfl rfl ?_; simp only [putT, st, ev, gt, hp, ofV, constT, intT, List.length_map]
    refine WO_op (x := .c (cI .i64 a1.N)) rfl rfl rfl ?_; simp only [putT, st, ev, gt, hp, ofV, constT, intT, List.length_map]
    refine WO_op (x := .bp 1 1) rfl rfl rfl ?_; simp only [putT, st, ev, gt, hp, ofV, constT, intT, List.length_map]
    refine WO_op (x := .c (cI .i64 a2.N)) rfl rfl rfl ?_; simp only [putT, st, ev, gt, hp, ofV, constT, intT, List.length_map]
    refine WO_op rfl rfl rfl ?_; simp only [putT, st, ev, gt, hp, ofV, constT, intT, List.length_map]
    refine WO_nil ?_
    refine W_cond rfl (fun hc => ?_) (fun hc => ?_)
    · replace H := tr hc H
      refine W_seq ?_
      refine W_region ?_
      refine WO_op rfl rfl rfl ?_; simp only [putT, st, ev, gt, hp, ofV, constT, intT, List.length_map]
      refine WO_nil ?_
      refine W_ret ?_
      obtain rfl := Option.some.inj H
      exact told3 rfl
    · replace H := fl hc H
      refine W_skip ?_
      refine W_seq ?_
      refine W_region ?_
      refine WO_op rfl rfl rfl ?_; simp only [putT, st, ev, gt, hp, ofV, constT, intT, List.length_map]
      refine WO_nil ?_
      refine W_ret ?_
      obtain rfl := Option.some.inj H
      exact told3 rfl
set_option maxRecDepth 20000 in
set_option maxHeartbeats 1000000 in
theorem laws_eqRecS_ok {a1 : List Rec} {a2 : List Rec} {r : Bool} (H : laws_eqRecS a1 a2 = some r) : R 19 [.c (cL enc_Rec a1) none, .c (cL enc_Rec a2) none] = some (.c (cB r) none, []) := by
  unfold laws_eqRecS at H
  refine Fz_walk 27 rfl rfl Try.func19 rfl (by kernel_rfl) rfl rfl rfl rfl ?_
  simp only [tellVs, tellV, tells, tell, st0, padT, SX.newRow, SX.newBox, List.length_cons, List.length_nil, Nat.reduceAdd, Nat.reduceSub, List.replicate, List.cons_append, List.nil_append]
  refine W_seq ?_
  refine W_region ?_
  refine WO_op rfl rfl rfl ?_; simp only [putT, st, ev, gt, hp, ofV, constT, intT, List.length_map]
  refine WO_nil ?_
  refine W_seq ?_
  refine W_seq ?_
  refine W_region ?_
  iterate 5 (refine WO_op rfl rfl rfl ?_; simp only [putT, st, ev, gt, hp, ofV, constT, intT, List.length_map])
  refine WO_nil ?_
  refine W_cond rfl (fun hc => ?_) (fun hc => ?_)
  · replace H := tr hc H
    refine W_seq ?_
    refine W_region ?_
    refine WO_op rfl rfl rfl ?_; simp only [putT, st, ev, gt, hp, ofV, constT, intT, List.length_map]
    refine WO_nil ?_
    refine W_ret ?_
    obtain rfl := Option.some.inj H
    exact told3 rfl
  · replace H := fl hc H
    refine W_skip ?_
    refine W_seq ?_
    refine W_seq ?_
    refine W_region ?_
    refine WO_op rfl rfl rfl ?_; simp only [putT, st, ev, gt, hp, ofV, constT, intT, List.length_map]
    refine WO_nil ?_
    refine W_block ?_
    obtain ⟨s8, hs8, H⟩ := bnd H
    refine loop_rule (ls := []) 0 (fun t7 : Unit => ⟨[], [], []⟩) (fun t => s8 = .inr t) ⟨[.c (cL enc_Rec a1), .c (cL enc_Rec a2), .no, .no, .no, .c (cI .i64 0)], [], []⟩ (by repeat (first | exact mono_told | refine mono_seq ?_ | refine mono_blk ?_ | refine mono_lp ?_)) (le_intro [] [] (by decide) (by decide) rfl (by simp [leS, leT, leA, gt]) (by simp [leB, leT, leA]) (by simp [leR])) ?_ ?_
    · rintro t7 rfl
      refine W_seq ?_
      refine W_region ?_
      refine WO_op rfl rfl rfl ?_; simp only [putT, st, ev, gt, hp, ofV, constT, intT, List.length_map]
      refine WO_nil ?_
      refine W_ret ?_
      obtain rfl := Option.some.inj H
      exact told3 rfl
    · intro V1 hV1 hW1 hX1
      refine laws_eqRecS.l0.partial_correctness a1 a2 (fun v3 s' => s' = s8 → V1 ⟨[.c (cL enc_Rec a1), .c (cL enc_Rec a2), .no, .no, .no, .c (cI .i64 v3)], [], []⟩) ?_ _ _ hs8 rfl
      intro l0 IH1 v3 s' H1 e
      subst e
      refine hV1 _ ?_
      refine W_seq ?_
      refine W_seq ?_
      refine W_region ?_
      iterate 4 (refine WO_op rfl rfl rfl ?_; simp only [putT, st, ev, gt, hp, ofV, constT, intT, List.length_map])
      refine WO_nil ?_
      refine W_cond rfl (fun hc => ?_) (fun hc => ?_)
      · replace H1 := tr hc H1
        refine W_skip ?_
        refine W_seq ?_
        refine W_block ?_
        refine W_seq ?_
        refine W_draw (by kernel_rfl) (by kernel_rfl) ?_
        iterate 2 (refine WO_op rfl rfl rfl ?_; simp only [putT, st, ev, gt, hp, ofV, constT, intT, List.length_map])
        obtain ⟨x4, hx4, H1⟩ := bnd H1
        refine WO_op rfl rfl (ev_ix (en := enc_Rec) hx4 rfl rfl rfl rfl rfl rfl rfl) ?_; simp only [putT, st, ev, gt, hp, ofV, constT, intT, List.length_map]
        refine WO_op (x := .ag [.c (cI .i64 x4.Time), .c (cI .i64 x4.N)]) rfl rfl rfl ?_; simp only [putT, st, ev, gt, hp, ofV, constT, intT, List.length_map]
        iterate 2 (refine WO_op rfl rfl rfl ?_; simp only [putT, st, ev, gt, hp, ofV, constT, intT, List.length_map])
        obtain ⟨x5, hx5, H1⟩ := bnd H1
        refine WO_op rfl rfl (ev_ix (en := enc_Rec) hx5 rfl rfl rfl rfl rfl rfl rfl) ?_; simp only [putT, st, ev, gt, hp, ofV, constT, intT, List.length_map]
        refine WO_op (x := .ag [.c (cI .i64 x5.Time), .c (cI .i64 x5.N)]) rfl rfl rfl ?_; simp only [putT, st, ev, gt, hp, ofV, constT, intT, List.length_map]
        obtain ⟨x6, hx6, H1⟩ := bnd H1
        refine WO_op (x := .c (cB x6)) (σ' := ⟨[], [], []⟩) rfl rfl (ev_callG (al := [.ag [.c (cI .i64 x4.Time), .c (cI .i64 x4.N)], .ag [.c (cI .i64 x5.Time), .c (cI .i64 x5.N)]]) (ls := []) (laws_eqRec_ok hx6) rfl rfl rfl rfl rfl (by decide) rfl rfl rfl rfl rfl rfl) ?_; simp only [putT, st, ev, gt, hp, ofV, constT, intT, List.length_map]
        refine WO_op rfl rfl rfl ?_; simp only [putT, st, ev, gt, hp, ofV, constT, intT, List.length_map]
        refine WO_nil ?_
        refine W_cond rfl (fun hc => ?_) (fun hc => ?_)
        · replace H1 := tr hc H1
          refine W_seq ?_
          refine W_region ?_
          refine WO_op rfl rfl rfl ?_; simp only [putT, st, ev, gt, hp, ofV, constT, intT, List.length_map]
          refine WO_nil ?_
          refine W_ret ?_
          obtain rfl := Option.some.inj H1
          obtain rfl := Option.some.inj H
          exact told3 rfl
        · replace H1 := fl hc H1
          refine W_skip ?_
          refine W_region ?_
          iterate 3 (refine WO_op rfl rfl rfl ?_; simp only [putT, st, ev, gt, hp, ofV, constT, intT, List.length_map])
          refine WO_nil ?_
          exact hW1 _ _ (IH1 _ _ H1 rfl) (le_intro [] [] (by decide) (by decide) rfl (by simp [leS, leT, leA, gt]) (by simp [leB, leT, leA]) (by simp [leR]))
      · replace H1 := fl hc H1
        refine W_exit ?_
        obtain rfl := Option.some.inj H1
        exact hX1 () _ rfl (le_intro [] [] (by decide) (by decide) rfl (by simp [leS, leT, leA, gt]) (by simp [leB, leT, leA]) (by simp [leR]))
set_option maxRecDepth 20000 in
set_option maxHeartbeats 1000000 in
theorem laws_eqScale_ok {a1 : Scale} {a2 : Scale} {r : Bool} (H : laws_eqScale a1 a2 = some r) : R 49 [.ag [(cS a1.Name, none), (cI .i64 a1.Now, none), (cL enc_Rec a1.Recs, none)], .ag [(cS a2.Name, none), (cI .i64 a2.Now, none), (cL enc_Rec a2.Recs, none)]] = some (.c (cB r) none, []) := by
  unfold laws_eqScale at H
  refine Fz_walk 21 rfl rfl Try.func49 rfl (by kernel_rfl) rfl rfl rfl rfl ?_
  simp only [tellVs, tellV, tells, tell, st0, padT, SX.newRow, SX.newBox, List.length_cons, List.length_nil, Nat.reduceAdd, Nat.reduceSub, List.replicate, List.cons_append, List.nil_append]
  refine W_seq ?_
  refine W_region ?_
  refine WO_op (x := .bp 0 0) (σ' := ⟨[], [some [.c (cS a1.Name), .c (cI .i64 a1.Now), .c (cL enc_Rec a1.Recs)]], []⟩) rfl rfl rfl ?_; simp only [putT, st, ev, gt, hp, ofV, constT, intT, List.length_map]
  refine WO_op (x := .bp 1 0) (σ' := ⟨[], [some [.c (cS a1.Name), .c (cI .i64 a1.Now), .c (cL enc_Rec a1.Recs)], some [.c (cS a2.Name), .c (cI .i64 a2.Now), .c (cL enc_Rec a2.Recs)]], []⟩) rfl rfl rfl ?_; simp only [putT, st, ev, gt, hp, ofV, constT, intT, List.length_map]
  refine WO_op rfl rfl rfl ?_; simp only [putT, st, ev, gt, hp, ofV, constT, intT, List.length_map]
  refine WO_nil ?_
  refine W_seq ?_
  refine W_seq ?_
  refine W_region ?_
  refine WO_op (x := .bp 0 0) rfl rfl rfl ?_; simp only [putT, st, ev, gt, hp, ofV, constT, intT, List.length_map]
  refine WO_op (x := .c (cS a1.Name)) rfl rfl rfl ?_; simp only [putT, st, ev, gt, hp, ofV, constT, intT, List.length_map]
  refine WO_op (x := .bp 1 0) rfl rfl rfl ?_; simp only [putT, st, ev, gt, hp, ofV, constT, intT, List.length_map]
  refine WO_op (x := .c (cS a2.Name)) rfl rfl rfl ?_; simp only [putT, st, ev, gt, hp, ofV, constT, intT, List.length_map]
  refine WO_op rfl rfl (ev_neq_s rfl rfl rfl) ?_; simp only [putT, st, ev, gt, hp, ofV, constT, intT, List.length_map]
  refine WO_nil ?_
  refine W_cond rfl (fun hc => ?_) (fun hc => ?_)
  · replace H := tr hc H
    refine W_seq ?_
    refine W_region ?_
    refine WO_op rfl rfl rfl ?_; simp only [putT, st, ev, gt, hp, ofV, constT, intT, List.length_map]
    refine WO_nil ?_
    refine W_ret ?_
    obtain rfl := Option.some.inj H
    exact told3 rfl
  · replace H := fl hc H
    refine W_skip ?_
    refine W_seq ?_
    refine W_seq ?_
    refine W_region ?_
    refine WO_op (x := .bp 0 1) rfl rfl rfl ?_; simp only [putT, st, ev, gt, hp, ofV, constT, intT, List.length_map]
    refine WO_op (x := .c (cI .i64 a1.Now)) rfl rfl rfl ?_; simp only [putT, st, ev, gt, hp, ofV, constT, intT, List.length_map]
    refine WO_op (x := .bp 1 1) rfl rfl rfl ?_; simp only [putT, st, ev, gt, hp, ofV, constT, intT, List.length_map]
    refine WO_op (x := .c (cI .i64 a2.Now)) rfl rfl rfl ?_; simp only [putT, st, ev, gt, hp, ofV, constT, intT, List.length_map]
    refine WO_op rfl rfl rfl ?_; simp only [putT, st, ev, gt, hp, ofV, constT, intT, List.length_map]
    refine WO_nil ?_
    refine W_cond rfl (fun hc => ?_) (fun hc => ?_)
    · replace H := tr hc H
      refine W_seq ?_
      refine W_region ?_
      refine WO_op rfl rfl rfl ?_; simp only [putT, st, ev, gt, hp, ofV, constT, intT, List.length_map]
      refine WO_nil ?_
      refine W_ret ?_
      obtain rfl := Option.some.inj H
      exact told3 rfl
    · replace H := fl hc H
      refine W_skip ?_
      refine W_seq ?_
      refine W_seq ?_
      refine W_region ?_
      refine WO_op (x := .bp 0 2) rfl rfl rfl ?_; simp only [putT, st, ev, gt, hp, ofV, constT, intT, List.length_map]
      refine WO_op (x := .c (cL enc_Rec a1.Recs)) rfl rfl rfl ?_; simp only [putT, st, ev, gt, hp, ofV, constT, intT, List.length_map]
      refine WO_op (x := .bp 1 2) rfl rfl rfl ?_; simp only [putT, st, ev, gt, hp, ofV, constT, intT, List.length_map]
      refine WO_op (x := .c (cL enc_Rec a2.Recs)) rfl rfl rfl ?_; simp only [putT, st, ev, gt, hp, ofV, constT, intT, List.length_map]
      obtain ⟨x3, hx3, H⟩ := bnd H
      refine WO_op (x := .c (cB x3)) (σ' := ⟨[], [some [.c (cS a1.Name), .c (cI .i64 a1.Now), .c (cL enc_Rec a1.Recs)], some [.c (cS a2.Name), .c (cI .i64 a2.Now), .c (cL enc_Rec a2.Recs)]], []⟩) rfl rfl (ev_callG (al := [.c (cL enc_Rec a1.Recs), .c (cL enc_Rec a2.Recs)]) (ls := []) (laws_eqRecS_ok hx3) rfl rfl rfl rfl rfl (by decide) rfl rfl rfl rfl rfl rfl) ?_; simp only [putT, st, ev, gt, hp, ofV, constT, intT, List.length_map]
      refine WO_op rfl rfl rfl ?_; simp only [putT, st, ev, gt, hp, ofV, constT, intT, List.length_map]
      refine WO_nil ?_
      refine W_cond rfl (fun hc => ?_) (fun hc => ?_)
      · replace H := tr hc H
        refine W_seq ?_
        refine W_region ?_
        refine WO_op rfl rfl rfl ?_; simp only [putT, st, ev, gt, hp, ofV, constT, intT, List.length_map]
        refine WO_nil ?_
        refine W_ret ?_
        obtain rfl := Option.some.inj H
        exact told3 rfl
      · replace H := fl hc H
        refine W_skip ?_
        refine W_seq ?_
        refine W_region ?_
        refine WO_op rfl rfl rfl ?_; simp only [putT, st, ev, gt, hp, ofV, constT, intT, List.length_map]
        refine WO_nil ?_
        refine W_ret ?_
        obtain rfl := Option.some.inj H
        exact told3 rfl
set_option maxRecDepth 20000 in
set_option maxHeartbeats 1000000 in
theorem laws_FnExactScaleOk_ok {a1 : Scale} {r : Bool} (H : laws_FnExactScaleOk a1 = some r) : R 10 [.ag [(cS a1.Name, none), (cI .i64 a1.Now, none), (cL enc_Rec a1.Recs, none)]] = some (.c (cB r) none, []) := by
  unfold laws_FnExactScaleOk at H
  refine Fz_walk 27 rfl rfl Try.func10 rfl (by kernel_rfl) rfl rfl rfl rfl ?_
  simp only [tellVs, tellV, tells, tell, st0, padT, SX.newRow, SX.newBox, List.length_cons, List.length_nil, Nat.reduceAdd, Nat.reduceSub, List.replicate, List.cons_append, List.nil_append]
  refine W_seq ?_
  refine W_region ?_
  refine WO_op (x := .bp 0 0) (σ' := ⟨[], [some [.c (cS a1.Name), .c (cI .i64 a1.Now), .c (cL enc_Rec a1.Recs)]], []⟩) rfl rfl rfl ?_; simp only [putT, st, ev, gt, hp, ofV, constT, intT, List.length_map]
  refine WO_op rfl rfl rfl ?_; simp only [putT, st, ev, gt, hp, ofV, constT, intT, List.length_map]
  refine WO_nil ?_
  refine W_seq ?_
  refine W_region ?_
  refine WO_op rfl rfl rfl ?_; simp only [putT, st, ev, gt, hp, ofV, constT, intT, List.length_map]
  refine WO_nil ?_
  refine W_seq ?_
  refine W_region ?_
  refine WO_op (x := .ag [.c (cS a1.Name), .c (cI .i64 a1.Now), .c (cL enc_Rec a1.Recs)]) rfl rfl rfl ?_; simp only [putT, st, ev, gt, hp, ofV, constT, intT, List.length_map]
  refine WO_op rfl rfl rfl ?_; simp only [putT, st, ev, gt, hp, ofV, constT, intT, List.length_map]
  obtain ⟨x2, hx2, H⟩ := bnd H
  refine WO_op (x := .c (cI .i64 x2)) (σ' := ⟨[], [some [.c (cS a1.Name), .c (cI .i64 a1.Now), .c (cL enc_Rec a1.Recs)]], []⟩) rfl rfl (ev_callG (al := [.ag [.c (cS a1.Name), .c (cI .i64 a1.Now), .c (cL enc_Rec a1.Recs)], .c (cI .i64 1048576)]) (ls := []) (laws_szScale_ok hx2) rfl rfl rfl rfl rfl (by decide) rfl rfl rfl rfl rfl rfl) ?_; simp only [putT, st, ev, gt, hp, ofV, constT, intT, List.length_map]
  refine WO_op rfl rfl rfl ?_; simp only [putT, st, ev, gt, hp, ofV, constT, intT, List.length_map]
  refine WO_nil ?_
  refine W_seq ?_
  refine W_seq ?_
  refine W_region ?_
  iterate 2 (refine WO_op rfl rfl rfl ?_; simp only [putT, st, ev, gt, hp, ofV, constT, intT, List.length_map])
  refine WO_nil ?_
  refine W_cond rfl (fun hc => ?_) (fun hc => ?_)
  · replace H := tr hc H
    refine W_seq ?_
    refine W_region ?_
    refine WO_op rfl rfl rfl ?_; simp only [putT, st, ev, gt, hp, ofV, constT, intT, List.length_map]
    refine WO_nil ?_
    refine W_ret ?_
    obtain rfl := Option.some.inj H
    exact told3 rfl
  · replace H := fl hc H
    refine W_skip ?_
    refine W_seq ?_
    refine W_region ?_
    refine WO_op (x := .ag [.c (cS a1.Name), .c (cI .i64 a1.Now), .c (cL enc_Rec a1.Recs)]) rfl rfl rfl ?_; simp only [putT, st, ev, gt, hp, ofV, constT, intT, List.length_map]
    obtain ⟨x3, hx3, H⟩ := bnd H
    refine WO_op (x := .ag [.c (cS x3.Name), .c (cI .i64 x3.Now), .row 0]) (σ' := ⟨[], [some [.c (cS a1.Name), .c (cI .i64 a1.Now), .c (cL enc_Rec a1.Recs)]], [rr 2 enc_Rec x3.Recs true]⟩) rfl rfl (ev_callG (al := [.ag [.c (cS a1.Name), .c (cI .i64 a1.Now), .c (cL enc_Rec a1.Recs)]]) (ls := []) (laws_toScale_ok hx3) rfl rfl rfl rfl rfl (by decide) rfl rfl (by simp only [flatA, flatV, flatC, List.all_cons, List.all_nil, Option.all_some, Bool.and_self, Bool.or_true, fl_Rec]) rfl rfl rfl) ?_; simp only [putT, st, ev, gt, hp, ofV, constT, intT, List.length_map]
    obtain ⟨x4, hx4, H⟩ := bnd H
    refine WO_op (x := .c (cB x4)) (σ' := ⟨[], [some [.c (cS a1.Name), .c (cI .i64 a1.Now), .c (cL enc_Rec a1.Recs)]], [rr 2 enc_Rec x3.Recs true]⟩) rfl rfl (ev_callG (al := [.ag [.c (cS x3.Name), .c (cI .i64 x3.Now), .row 0]]) (ls := []) (spec_ScaleOk_ok hx4) rfl rfl rfl rfl rfl (by decide) rfl rfl rfl rfl rfl rfl) ?_; simp only [putT, st, ev, gt, hp, ofV, constT, intT, List.length_map]
    refine WO_op rfl rfl rfl ?_; simp only [putT, st, ev, gt, hp, ofV, constT, intT, List.length_map]
    refine WO_nil ?_
    refine W_seq ?_
    refine W_region ?_
    refine WO_op (x := .ag [.c (cS a1.Name), .c (cI .i64 a1.Now), .c (cL enc_Rec a1.Recs)]) rfl rfl rfl ?_; simp only [putT, st, ev, gt, hp, ofV, constT, intT, List.length_map]
    obtain ⟨x5, hx5, H⟩ := bnd H
    refine WO_op (x := .ag [.c (cS x5.Name), .c (cI .i64 x5.Now), .row 1]) (σ' := ⟨[], [some [.c (cS a1.Name), .c (cI .i64 a1.Now), .c (cL enc_Rec a1.Recs)]], [rr 2 enc_Rec x3.Recs true, rr 2 enc_Rec x5.Recs true]⟩) rfl rfl (ev_callG (al := [.ag [.c (cS a1.Name), .c (cI .i64 a1.Now), .c (cL enc_Rec a1.Recs)]]) (ls := []) (laws_toScale_ok hx5) rfl rfl rfl rfl rfl (by decide) rfl rfl (by simp only [flatA, flatV, flatC, List.all_cons, List.all_nil, Option.all_some, Bool.and_self, Bool.or_true, fl_Rec]) rfl rfl rfl) ?_; simp only [putT, st, ev, gt, hp, ofV, constT, intT, List.length_map]
    refine WO_op (x := .bp 1 0) (σ' := ⟨[], [some [.c (cS a1.Name), .c (cI .i64 a1.Now), .c (cL enc_Rec a1.Recs)], some [.c (cS []), .c (cI .i64 0), .nil]], [rr 2 enc_Rec x3.Recs true, rr 2 enc_Rec x5.Recs true]⟩) rfl rfl rfl ?_; simp only [putT, st, ev, gt, hp, ofV, constT, intT, List.length_map]
    refine WO_op (x := .no) (σ' := ⟨[], [some [.c (cS a1.Name), .c (cI .i64 a1.Now), .c (cL enc_Rec a1.Recs)], some [.c (cS x5.Name), .c (cI .i64 x5.Now), .row 1]], [rr 2 enc_Rec x3.Recs true, rr 2 enc_Rec x5.Recs true]⟩) rfl rfl rfl ?_; simp only [putT, st, ev, gt, hp, ofV, constT, intT, List.length_map]
    refine WO_nil ?_
    refine W_seq ?_
    refine W_region ?_
    refine WO_op (x := .ag [.c (cS x5.Name), .c (cI .i64 x5.Now), .row 1]) rfl rfl rfl ?_; simp only [putT, st, ev, gt, hp, ofV, constT, intT, List.length_map]
    obtain ⟨x6, hx6, H⟩ := bnd H
    refine WO_op (x := .c (cB x6)) (σ' := ⟨[], [some [.c (cS a1.Name), .c (cI .i64 a1.Now), .c (cL enc_Rec a1.Recs)], some [.c (cS x5.Name), .c (cI .i64 x5.Now), .row 1]], [rr 2 enc_Rec x3.Recs true, rr 2 enc_Rec x5.Recs true]⟩) rfl rfl (ev_callG (al := [.ag [.c (cS x5.Name), .c (cI .i64 x5.Now), .row 1]]) (ls := []) (impl_ScaleOk_ok hx6) rfl rfl rfl rfl rfl (by decide) rfl rfl rfl rfl rfl rfl) ?_; simp only [putT, st, ev, gt, hp, ofV, constT, intT, List.length_map]
    refine WO_op rfl rfl rfl ?_; simp only [putT, st, ev, gt, hp, ofV, constT, intT, List.length_map]
    refine WO_nil ?_
    refine W_seq ?_
    refine W_seq ?_
    refine W_region ?_
    iterate 3 (refine WO_op rfl rfl rfl ?_; simp only [putT, st, ev, gt, hp, ofV, constT, intT, List.length_map])
    refine WO_nil ?_
    refine W_cond rfl (fun hc => ?_) (fun hc => ?_)
    · replace H := tr hc H
      refine W_seq ?_
      refine W_region ?_
      refine WO_op rfl rfl rfl ?_; simp only [putT, st, ev, gt, hp, ofV, constT, intT, List.length_map]
      refine WO_nil ?_
      refine W_ret ?_
      obtain rfl := Option.some.inj H
      exact told3 rfl
    · replace H := fl hc H
      refine W_skip ?_
      refine W_seq ?_
      refine W_seq ?_
      refine W_drawL (by kernel_rfl) (by decide +kernel) ?_
      refine WL_op (x := .ag [.c (cS x5.Name), .c (cI .i64 x5.Now), .row 1]) rfl rfl rfl rfl ?_; simp only [putT, st, ev, gt, hp, ofV, constT, intT, List.length_map]
      refine WL_op (x := .ag [.c (cS a1.Name), .c (cI .i64 a1.Now), .c (cL enc_Rec a1.Recs)]) rfl rfl rfl rfl ?_; simp only [putT, st, ev, gt, hp, ofV, constT, intT, List.length_map]
      obtain ⟨x7, hx7, H⟩ := bnd H
      refine WL_op (x := .ag [.c (cS x7.Name), .c (cI .i64 x7.Now), .row 2]) (σ' := ⟨[], [some [.c (cS a1.Name), .c (cI .i64 a1.Now), .c (cL enc_Rec a1.Recs)], some [.c (cS x5.Name), .c (cI .i64 x5.Now), .row 1]], [rr 2 enc_Rec x3.Recs true, rr 2 enc_Rec x5.Recs true, rr 2 enc_Rec x7.Recs true]⟩) rfl rfl rfl (ev_callG (al := [.ag [.c (cS a1.Name), .c (cI .i64 a1.Now), .c (cL enc_Rec a1.Recs)]]) (ls := []) (laws_toScale_ok hx7) rfl rfl rfl rfl rfl (by decide) rfl rfl (by simp only [flatA, flatV, flatC, List.all_cons, List.all_nil, Option.all_some, Bool.and_self, Bool.or_true, fl_Rec]) rfl rfl rfl) ?_; simp only [putT, st, ev, gt, hp, ofV, constT, intT, List.length_map]
      obtain ⟨x8, hx8, H⟩ := bnd H
      refine WL_op (x := .c (cB x8)) (σ' := ⟨[], [some [.c (cS a1.Name), .c (cI .i64 a1.Now), .c (cL enc_Rec a1.Recs)], some [.c (cS x5.Name), .c (cI .i64 x5.Now), .row 1]], [rr 2 enc_Rec x3.Recs true, rr 2 enc_Rec x5.Recs true, rr 2 enc_Rec x7.Recs true]⟩) rfl rfl rfl (ev_callG (al := [.ag [.c (cS x5.Name), .c (cI .i64 x5.Now), .row 1], .ag [.c (cS x7.Name), .c (cI .i64 x7.Now), .row 2]]) (ls := []) (laws_eqScale_ok hx8) rfl rfl rfl rfl rfl (by decide) rfl rfl rfl rfl rfl rfl) ?_; simp only [putT, st, ev, gt, hp, ofV, constT, intT, List.length_map]
      refine WL_op rfl rfl rfl rfl ?_; simp only [putT, st, ev, gt, hp, ofV, constT, intT, List.length_map]
      refine WL_nil (by kernel_rfl) ?_
      refine W_cond rfl (fun hc => ?_) (fun hc => ?_)
      · replace H := tr hc H
        refine W_seq ?_
        refine W_region ?_
        refine WO_op rfl rfl rfl ?_; simp only [putT, st, ev, gt, hp, ofV, constT, intT, List.length_map]
        refine WO_nil ?_
        refine W_ret ?_
        obtain rfl := Option.some.inj H
        exact told3 rfl
      · replace H := fl hc H
        refine W_skip ?_
        refine W_seq ?_
        refine W_region ?_
        refine WO_op rfl rfl rfl ?_; simp only [putT, st, ev, gt, hp, ofV, constT, intT, List.length_map]
        refine WO_nil ?_
        refine W_ret ?_
        obtain rfl := Option.some.inj H
        exact told3 rfl
end Go.Pu
