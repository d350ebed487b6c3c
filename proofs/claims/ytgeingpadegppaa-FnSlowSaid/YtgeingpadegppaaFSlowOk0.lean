import Derived.Test.YtgeingpadegppaaFSlowEn
set_option linter.unusedVariables false
set_option linter.unusedSimpArgs false
namespace Go.Pu
open Go Go.SX Go.Nt Go.Proofs
set_option maxRecDepth 20000 in
set_option maxHeartbeats 1000000 in
theorem laws_big_ok {a1 : List Int} {r : Bool} (H : laws_big a1 = some r) : R 25 [.c (cL eU a1) none] = some (.c (cB r) none, []) := by
  unfold laws_big at H
  refine Fz_walk 6 rfl rfl Try.func25 rfl (by kernel_rfl) rfl rfl rfl rfl ?_
  simp only [tellVs, tellV, tells, tell, st0, padT, SX.newRow, SX.newBox, List.length_cons, List.length_nil, Nat.reduceAdd, Nat.reduceSub, List.replicate, List.cons_append, List.nil_append]
  refine W_seq ?_
  refine W_region ?_
  refine WO_op rfl rfl rfl ?_; simp only [putT, st, ev, gt, hp, ofV, constT, intT, List.length_map]
  refine WO_nil ?_
  refine W_seq ?_
  refine W_region ?_
  iterate 4 (refine WO_op rfl rfl rfl ?_; simp only [putT, st, ev, gt, hp, ofV, constT, intT, List.length_map])
  refine WO_nil ?_
  refine W_ret ?_
  obtain rfl := Option.some.inj H
  exact told3 rfl
set_option maxRecDepth 20000 in
set_option maxHeartbeats 1000000 in
theorem spec_l1New_ok {a1 : List Int} {r : L1Cur} (H : spec_l1New a1 = some r) : R 72 [.c (cL eU a1) none] = some (.p [(cL eU r.b, none), (cI .i64 r.i, none), (cI .i64 r.h, none)], []) := by
  unfold spec_l1New at H
  refine Fz_walk 32 rfl rfl Try.func72 rfl (by kernel_rfl) rfl rfl rfl rfl ?_
  simp only [tellVs, tellV, tells, tell, st0, padT, SX.newRow, SX.newBox, List.length_cons, List.length_nil, Nat.reduceAdd, Nat.reduceSub, List.replicate, List.cons_append, List.nil_append]
  refine W_seq ?_
  refine W_region ?_
  refine WO_op rfl rfl rfl ?_; simp only [putT, st, ev, gt, hp, ofV, constT, intT, List.length_map]
  refine WO_nil ?_
  refine W_seq ?_
  refine W_region ?_
  iterate 4 (refine WO_op rfl rfl rfl ?_; simp only [putT, st, ev, gt, hp, ofV, constT, intT, List.length_map])
  refine WO_nil ?_
  refine W_seq ?_
  refine W_seq ?_
  refine W_region ?_
  refine WO_op rfl rfl rfl ?_; simp only [putT, st, ev, gt, hp, ofV, constT, intT, List.length_map]
  refine WO_nil ?_
  refine W_block ?_
  obtain ⟨t5, ht5, H⟩ := bnd H
  refine loop_rule (ls := []) 0 (fun t5 : Int => ⟨[.c (cL eU a1), .no, .no, .c (cI .i64 t5)], [], []⟩) (fun t => t5 = t) ⟨[.c (cL eU a1), .no, .no, .c (cI .i64 (IntKind.i64.wrap (27212 + (a1.length : Int)))), .c (cI .i64 0)], [], []⟩ (by repeat (first | exact mono_told | refine mono_seq ?_ | refine mono_blk ?_ | refine mono_lp ?_)) (le_intro [] [] (by decide) (by decide) rfl (by simp [leS, leT, leA, gt]) (by simp [leB, leT, leA]) (by simp [leR])) ?_ ?_
  · intro t1 ht1; subst ht1
    refine W_seq ?_
    refine W_region ?_
    iterate 2 (refine WO_op rfl rfl rfl ?_; simp only [putT, st, ev, gt, hp, ofV, constT, intT, List.length_map])
    refine WO_op (x := .ag [.c (cL eU a1), .c (cI .i64 0), .c (cI .i64 t5)]) rfl rfl rfl ?_; simp only [putT, st, ev, gt, hp, ofV, constT, intT, List.length_map]
    refine WO_op (x := .bp 0 0) (σ' := ⟨[], [some [.c (cL eU a1), .c (cI .i64 0), .c (cI .i64 t5)]], []⟩) rfl rfl rfl ?_; simp only [putT, st, ev, gt, hp, ofV, constT, intT, List.length_map]
    refine WO_op rfl rfl rfl ?_; simp only [putT, st, ev, gt, hp, ofV, constT, intT, List.length_map]
    refine WO_nil ?_
    refine W_ret ?_
    obtain rfl := Option.some.inj H
    exact told3 rfl
  · intro V1 hV1 hW1 hX1
    refine spec_l1New.l0.partial_correctness a1 (fun v2 v3 s' => s' = t5 → V1 ⟨[.c (cL eU a1), .no, .no, .c (cI .i64 v2), .c (cI .i64 v3)], [], []⟩) ?_ _ _ _ ht5 rfl
    intro l0 IH1 v2 v3 s' H1 e
    subst e
    refine hV1 _ ?_
    refine W_seq ?_
    refine W_seq ?_
    refine W_region ?_
    iterate 5 (refine WO_op rfl rfl rfl ?_; simp only [putT, st, ev, gt, hp, ofV, constT, intT, List.length_map])
    refine WO_if rfl rfl rfl (fun hc => ?_) (fun hc => ?_)
    · replace H1 := tr hc H1
      simp only [putT, st, ev, gt, hp, ofV, constT, intT, List.length_map]
      iterate 2 (refine WO_want rfl rfl rfl ?_; simp only [putT, st, ev, gt, hp, ofV, constT, intT, List.length_map])
      refine WO_op (x := .c (cB (decide (v3 < 4000)))) rfl rfl rfl ?_; simp only [putT, st, ev, gt, hp, ofV, constT, intT, List.length_map]
      refine WO_nil ?_
      refine W_cond rfl (fun hc => ?_) (fun hc => ?_)
      · replace H1 := tr hc H1
        refine W_skip ?_
        refine W_seq ?_
        refine W_block ?_
        refine W_region ?_
        iterate 4 (refine WO_op rfl rfl rfl ?_; simp only [putT, st, ev, gt, hp, ofV, constT, intT, List.length_map])
        obtain ⟨x4, hx4, H1⟩ := bnd H1
        refine WO_op rfl rfl (ev_ix (en := eU) hx4 rfl rfl rfl rfl rfl rfl rfl) ?_; simp only [putT, st, ev, gt, hp, ofV, constT, intT, List.length_map]
        refine WO_op (x := .c (cI .u8 x4)) rfl rfl rfl ?_; simp only [putT, st, ev, gt, hp, ofV, constT, intT, List.length_map]
        refine WO_op rfl rfl (ev_ii (j := .u8) (k' := .i64) rfl rfl rfl rfl) ?_; simp only [putT, st, ev, gt, hp, ofV, constT, intT, List.length_map]
        iterate 2 (refine WO_op rfl rfl rfl ?_; simp only [putT, st, ev, gt, hp, ofV, constT, intT, List.length_map])
        refine WO_op (x := .c (cI .i64 (band (IntKind.i64.wrap ((IntKind.i64.wrap ((IntKind.i64.wrap (v2 * 131)) + (IntKind.i64.wrap (x4)))) + 7)) 1073741823))) rfl rfl rfl ?_; simp only [putT, st, ev, gt, hp, ofV, constT, intT, List.length_map]
        refine WO_op rfl rfl rfl ?_; simp only [putT, st, ev, gt, hp, ofV, constT, intT, List.length_map]
        refine WO_nil ?_
        refine W_region ?_
        iterate 3 (refine WO_op rfl rfl rfl ?_; simp only [putT, st, ev, gt, hp, ofV, constT, intT, List.length_map])
        refine WO_nil ?_
        exact hW1 _ _ (IH1 _ _ _ H1 rfl) (le_intro [] [] (by decide) (by decide) rfl (by simp [leS, leT, leA, gt]) (by simp [leB, leT, leA]) (by simp [leR]))
      · replace H1 := fl hc H1
        refine W_exit ?_
        obtain rfl := Option.some.inj H1
        exact hX1 v2 _ rfl (le_intro [] [] (by decide) (by decide) rfl (by simp [leS, leT, leA, gt]) (by simp [leB, leT, leA]) (by simp [leR]))
    · replace H1 := fl hc H1
      simp only [putT, st, ev, gt, hp, ofV, constT, intT, List.length_map]
      refine WO_skip rfl rfl ?_; simp only [putT, st, ev, gt, hp, ofV, constT, intT, List.length_map]
      refine WO_skip rfl rfl ?_; simp only [putT, st, ev, gt, hp, ofV, constT, intT, List.length_map]
      refine WO_op (x := .c (cB false)) rfl rfl rfl ?_; simp only [putT, st, ev, gt, hp, ofV, constT, intT, List.length_map]
      refine WO_nil ?_
      refine W_cond (t := false) rfl (fun h => by cases h) (fun _ => ?_)
      refine W_exit ?_
      obtain rfl := Option.some.inj H1
      exact hX1 v2 _ rfl (le_intro [] [] (by decide) (by decide) rfl (by simp [leS, leT, leA, gt]) (by simp [leB, leT, leA]) (by simp [leR]))
set_option maxRecDepth 20000 in
set_option maxHeartbeats 1000000 in
theorem spec_l1Byte_ok {a1 : L1Cur} {r : Int × L1Cur} (H : spec_l1Byte a1 = some r) : R 102 [.p [(cL eU a1.b, none), (cI .i64 a1.i, none), (cI .i64 a1.h, none)]] = some (.c (cI .i64 r.1) none, [some [(cL eU r.2.b, none), (cI .i64 r.2.i, none), (cI .i64 r.2.h, none)]]) := by
  unfold spec_l1Byte at H
  refine Fz_walk 58 rfl rfl Try.func102 rfl (by kernel_rfl) rfl rfl rfl rfl ?_
  simp only [tellVs, tellV, tells, tell, st0, padT, SX.newRow, SX.newBox, List.length_cons, List.length_nil, Nat.reduceAdd, Nat.reduceSub, List.replicate, List.cons_append, List.nil_append]
  refine W_seq ?_
  refine W_region ?_
  refine WO_op rfl rfl rfl ?_; simp only [putT, st, ev, gt, hp, ofV, constT, intT, List.length_map]
  refine WO_nil ?_
  refine W_seq ?_
  refine W_region ?_
  iterate 3 (refine WO_op rfl rfl rfl ?_; simp only [putT, st, ev, gt, hp, ofV, constT, intT, List.length_map])
  refine WO_op (x := .bp 0 2) rfl rfl rfl ?_; simp only [putT, st, ev, gt, hp, ofV, constT, intT, List.length_map]
  refine WO_op (x := .c (cI .i64 a1.h)) rfl rfl rfl ?_; simp only [putT, st, ev, gt, hp, ofV, constT, intT, List.length_map]
  iterate 3 (refine WO_op rfl rfl rfl ?_; simp only [putT, st, ev, gt, hp, ofV, constT, intT, List.length_map])
  refine WO_op (x := .bp 0 2) rfl rfl rfl ?_; simp only [putT, st, ev, gt, hp, ofV, constT, intT, List.length_map]
  refine WO_op (x := .no) (σ' := ⟨[], [some [.c (cL eU a1.b), .c (cI .i64 a1.i), .c (cI .i64 (IntKind.i64.wrap ((IntKind.i64.wrap (a1.h * 6364136223846793005)) + 1442695040888963407)))]], []⟩) rfl rfl rfl ?_; simp only [putT, st, ev, gt, hp, ofV, constT, intT, List.length_map]
  refine WO_nil ?_
  refine W_seq ?_
  refine W_draw (by kernel_rfl) (by kernel_rfl) ?_
  iterate 2 (refine WO_op rfl rfl rfl ?_; simp only [putT, st, ev, gt, hp, ofV, constT, intT, List.length_map])
  refine WO_op (x := .bp 0 2) rfl rfl rfl ?_; simp only [putT, st, ev, gt, hp, ofV, constT, intT, List.length_map]
  refine WO_op (x := .c (cI .i64 (IntKind.i64.wrap ((IntKind.i64.wrap (a1.h * 6364136223846793005)) + 1442695040888963407)))) rfl rfl rfl ?_; simp only [putT, st, ev, gt, hp, ofV, constT, intT, List.length_map]
  refine WO_op (x := .c (cI .i64 (Int.fdiv (IntKind.i64.wrap ((IntKind.i64.wrap (a1.h * 6364136223846793005)) + 1442695040888963407)) (2 ^ 33)))) rfl rfl rfl ?_; simp only [putT, st, ev, gt, hp, ofV, constT, intT, List.length_map]
  iterate 2 (refine WO_op rfl rfl rfl ?_; simp only [putT, st, ev, gt, hp, ofV, constT, intT, List.length_map])
  refine WO_op (x := .bp 0 2) rfl rfl rfl ?_; simp only [putT, st, ev, gt, hp, ofV, constT, intT, List.length_map]
  refine WO_op (x := .c (cI .i64 (IntKind.i64.wrap ((IntKind.i64.wrap (a1.h * 6364136223846793005)) + 1442695040888963407)))) rfl rfl rfl ?_; simp only [putT, st, ev, gt, hp, ofV, constT, intT, List.length_map]
  refine WO_op (x := .c (cI .i64 (Int.fdiv (IntKind.i64.wrap ((IntKind.i64.wrap (a1.h * 6364136223846793005)) + 1442695040888963407)) (2 ^ 45)))) rfl rfl rfl ?_; simp only [putT, st, ev, gt, hp, ofV, constT, intT, List.length_map]
  refine WO_op (x := .c (cI .i64 (bxor (Int.fdiv (IntKind.i64.wrap ((IntKind.i64.wrap (a1.h * 6364136223846793005)) + 1442695040888963407)) (2 ^ 33)) (Int.fdiv (IntKind.i64.wrap ((IntKind.i64.wrap (a1.h * 6364136223846793005)) + 1442695040888963407)) (2 ^ 45))))) rfl rfl rfl ?_; simp only [putT, st, ev, gt, hp, ofV, constT, intT, List.length_map]
  refine WO_op (x := .c (cI .i64 (band (bxor (Int.fdiv (IntKind.i64.wrap ((IntKind.i64.wrap (a1.h * 6364136223846793005)) + 1442695040888963407)) (2 ^ 33)) (Int.fdiv (IntKind.i64.wrap ((IntKind.i64.wrap (a1.h * 6364136223846793005)) + 1442695040888963407)) (2 ^ 45))) 255))) rfl rfl rfl ?_; simp only [putT, st, ev, gt, hp, ofV, constT, intT, List.length_map]
  refine WO_op rfl rfl rfl ?_; simp only [putT, st, ev, gt, hp, ofV, constT, intT, List.length_map]
  refine WO_nil ?_
  refine W_seq ?_
  refine W_seq ?_
  refine W_draw (by kernel_rfl) (by kernel_rfl) ?_
  iterate 2 (refine WO_op rfl rfl rfl ?_; simp only [putT, st, ev, gt, hp, ofV, constT, intT, List.length_map])
  refine WO_op (x := .bp 0 1) rfl rfl rfl ?_; simp only [putT, st, ev, gt, hp, ofV, constT, intT, List.length_map]
  refine WO_op (x := .c (cI .i64 a1.i)) rfl rfl rfl ?_; simp only [putT, st, ev, gt, hp, ofV, constT, intT, List.length_map]
  iterate 2 (refine WO_op rfl rfl rfl ?_; simp only [putT, st, ev, gt, hp, ofV, constT, intT, List.length_map])
  refine WO_op (x := .bp 0 0) rfl rfl rfl ?_; simp only [putT, st, ev, gt, hp, ofV, constT, intT, List.length_map]
  refine WO_op (x := .c (cL eU a1.b)) rfl rfl rfl ?_; simp only [putT, st, ev, gt, hp, ofV, constT, intT, List.length_map]
  iterate 2 (refine WO_op rfl rfl rfl ?_; simp only [putT, st, ev, gt, hp, ofV, constT, intT, List.length_map])
  refine WO_nil ?_
  refine W_cond rfl (fun hc => ?_) (fun hc => ?_)
  · replace H := tr hc H
    refine W_seq ?_
    refine W_draw (by kernel_rfl) (by kernel_rfl) ?_
    iterate 3 (refine WO_op rfl rfl rfl ?_; simp only [putT, st, ev, gt, hp, ofV, constT, intT, List.length_map])
    refine WO_op (x := .bp 0 0) rfl rfl rfl ?_; simp only [putT, st, ev, gt, hp, ofV, constT, intT, List.length_map]
    refine WO_op (x := .c (cL eU a1.b)) rfl rfl rfl ?_; simp only [putT, st, ev, gt, hp, ofV, constT, intT, List.length_map]
    iterate 2 (refine WO_op rfl rfl rfl ?_; simp only [putT, st, ev, gt, hp, ofV, constT, intT, List.length_map])
    refine WO_op (x := .bp 0 1) rfl rfl rfl ?_; simp only [putT, st, ev, gt, hp, ofV, constT, intT, List.length_map]
    refine WO_op (x := .c (cI .i64 a1.i)) rfl rfl rfl ?_; simp only [putT, st, ev, gt, hp, ofV, constT, intT, List.length_map]
    obtain ⟨x2, hx2, H⟩ := bnd H
    refine WO_op rfl rfl (ev_ix (en := eU) hx2 rfl rfl rfl rfl rfl rfl rfl) ?_; simp only [putT, st, ev, gt, hp, ofV, constT, intT, List.length_map]
    refine WO_op (x := .c (cI .u8 x2)) rfl rfl rfl ?_; simp only [putT, st, ev, gt, hp, ofV, constT, intT, List.length_map]
    refine WO_op rfl rfl (ev_ii (j := .u8) (k' := .i64) rfl rfl rfl rfl) ?_; simp only [putT, st, ev, gt, hp, ofV, constT, intT, List.length_map]
    refine WO_op rfl rfl rfl ?_; simp only [putT, st, ev, gt, hp, ofV, constT, intT, List.length_map]
    refine WO_op (x := .c (cI .i64 (band (IntKind.i64.wrap ((band (bxor (Int.fdiv (IntKind.i64.wrap ((IntKind.i64.wrap (a1.h * 6364136223846793005)) + 1442695040888963407)) (2 ^ 33)) (Int.fdiv (IntKind.i64.wrap ((IntKind.i64.wrap (a1.h * 6364136223846793005)) + 1442695040888963407)) (2 ^ 45))) 255) + (IntKind.i64.wrap (x2)))) 255))) rfl rfl rfl ?_; simp only [putT, st, ev, gt, hp, ofV, constT, intT, List.length_map]
    refine WO_op rfl rfl rfl ?_; simp only [putT, st, ev, gt, hp, ofV, constT, intT, List.length_map]
    refine WO_nil ?_
    refine W_region ?_
    iterate 3 (refine WO_op rfl rfl rfl ?_; simp only [putT, st, ev, gt, hp, ofV, constT, intT, List.length_map])
    refine WO_op (x := .bp 0 1) rfl rfl rfl ?_; simp only [putT, st, ev, gt, hp, ofV, constT, intT, List.length_map]
    refine WO_op (x := .c (cI .i64 a1.i)) rfl rfl rfl ?_; simp only [putT, st, ev, gt, hp, ofV, constT, intT, List.length_map]
    iterate 2 (refine WO_op rfl rfl rfl ?_; simp only [putT, st, ev, gt, hp, ofV, constT, intT, List.length_map])
    refine WO_op (x := .bp 0 1) rfl rfl rfl ?_; simp only [putT, st, ev, gt, hp, ofV, constT, intT, List.length_map]
    refine WO_op (x := .no) (σ' := ⟨[], [some [.c (cL eU a1.b), .c (cI .i64 (IntKind.i64.wrap (a1.i + 1))), .c (cI .i64 (IntKind.i64.wrap ((IntKind.i64.wrap (a1.h * 6364136223846793005)) + 1442695040888963407)))]], []⟩) rfl rfl rfl ?_; simp only [putT, st, ev, gt, hp, ofV, constT, intT, List.length_map]
    refine WO_nil ?_
    refine W_seq ?_
    refine W_region ?_
    iterate 2 (refine WO_op rfl rfl rfl ?_; simp only [putT, st, ev, gt, hp, ofV, constT, intT, List.length_map])
    refine WO_nil ?_
    refine W_ret ?_
    obtain rfl := Option.some.inj H
    exact told3 rfl
  · replace H := fl hc H
    refine W_skip ?_
    refine W_seq ?_
    refine W_region ?_
    iterate 2 (refine WO_op rfl rfl rfl ?_; simp only [putT, st, ev, gt, hp, ofV, constT, intT, List.length_map])
    refine WO_nil ?_
    refine W_ret ?_
    obtain rfl := Option.some.inj H
    exact told3 rfl
set_option maxRecDepth 20000 in
set_option maxHeartbeats 1000000 in
theorem spec_l1Below_ok {a1 : L1Cur} {a2 : Int} {r : Int × L1Cur} (H : spec_l1Below a1 a2 = some r) : R 93 [.p [(cL eU a1.b, none), (cI .i64 a1.i, none), (cI .i64 a1.h, none)], .c (cI .i64 a2) none] = some (.c (cI .i64 r.1) none, [some [(cL eU r.2.b, none), (cI .i64 r.2.i, none), (cI .i64 r.2.h, none)]]) := by
  unfold spec_l1Below at H
  refine Fz_walk 37 rfl rfl Try.func93 rfl (by kernel_rfl) rfl rfl rfl rfl ?_
  simp only [tellVs, tellV, tells, tell, st0, padT, SX.newRow, SX.newBox, List.length_cons, List.length_nil, Nat.reduceAdd, Nat.reduceSub, List.replicate, List.cons_append, List.nil_append]
  refine W_seq ?_
  refine W_region ?_
  refine WO_op rfl rfl rfl ?_; simp only [putT, st, ev, gt, hp, ofV, constT, intT, List.length_map]
  refine WO_nil ?_
  refine W_seq ?_
  refine W_seq ?_
  refine W_region ?_
  iterate 2 (refine WO_op rfl rfl rfl ?_; simp only [putT, st, ev, gt, hp, ofV, constT, intT, List.length_map])
  refine WO_nil ?_
  refine W_cond rfl (fun hc => ?_) (fun hc => ?_)
  · replace H := tr hc H
    refine W_seq ?_
    refine W_region ?_
    refine WO_op rfl rfl rfl ?_; simp only [putT, st, ev, gt, hp, ofV, constT, intT, List.length_map]
    refine WO_nil ?_
    refine W_ret ?_
    obtain rfl := Option.some.inj H
    exact told3 rfl
  · replace H := fl hc H
    refine W_skip ?_
    refine W_seq ?_
    refine W_seq ?_
    refine W_region ?_
    iterate 2 (refine WO_op rfl rfl rfl ?_; simp only [putT, st, ev, gt, hp, ofV, constT, intT, List.length_map])
    refine WO_nil ?_
    refine W_cond rfl (fun hc => ?_) (fun hc => ?_)
    · replace H := tr hc H
      refine W_seq ?_
      refine W_region ?_
      refine WO_op rfl rfl rfl ?_; simp only [putT, st, ev, gt, hp, ofV, constT, intT, List.length_map]
      obtain ⟨x3, hx3, H⟩ := bnd H
      refine WO_op (x := .c (cI .i64 x3.1)) (σ' := ⟨[], [some [.c (cL eU x3.2.b), .c (cI .i64 x3.2.i), .c (cI .i64 x3.2.h)]], []⟩) rfl rfl (ev_callG (al := [.bp 0 0]) (ls := [.b 0]) (spec_l1Byte_ok hx3) rfl rfl rfl rfl rfl (by decide) rfl rfl rfl rfl rfl rfl) ?_; simp only [putT, st, ev, gt, hp, ofV, constT, intT, List.length_map]
      refine WO_op rfl rfl rfl ?_; simp only [putT, st, ev, gt, hp, ofV, constT, intT, List.length_map]
      obtain ⟨q4, hq4, H⟩ := bnd H
      refine WO_op rfl rfl (ev_rem hq4 rfl rfl rfl) ?_; simp only [putT, st, ev, gt, hp, ofV, constT, intT, List.length_map]
      refine WO_op rfl rfl rfl ?_; simp only [putT, st, ev, gt, hp, ofV, constT, intT, List.length_map]
      refine WO_nil ?_
      refine W_ret ?_
      obtain rfl := Option.some.inj H
      exact told3 rfl
    · replace H := fl hc H
      refine W_skip ?_
      refine W_seq ?_
      refine W_region ?_
      refine WO_op rfl rfl rfl ?_; simp only [putT, st, ev, gt, hp, ofV, constT, intT, List.length_map]
      obtain ⟨x5, hx5, H⟩ := bnd H
      refine WO_op (x := .c (cI .i64 x5.1)) (σ' := ⟨[], [some [.c (cL eU x5.2.b), .c (cI .i64 x5.2.i), .c (cI .i64 x5.2.h)]], []⟩) rfl rfl (ev_callG (al := [.bp 0 0]) (ls := [.b 0]) (spec_l1Byte_ok hx5) rfl rfl rfl rfl rfl (by decide) rfl rfl rfl rfl rfl rfl) ?_; simp only [putT, st, ev, gt, hp, ofV, constT, intT, List.length_map]
      refine WO_op rfl rfl rfl ?_; simp only [putT, st, ev, gt, hp, ofV, constT, intT, List.length_map]
      refine WO_nil ?_
      refine W_seq ?_
      refine W_region ?_
      refine WO_op rfl rfl rfl ?_; simp only [putT, st, ev, gt, hp, ofV, constT, intT, List.length_map]
      obtain ⟨x6, hx6, H⟩ := bnd H
      refine WO_op (x := .c (cI .i64 x6.1)) (σ' := ⟨[], [some [.c (cL eU x6.2.b), .c (cI .i64 x6.2.i), .c (cI .i64 x6.2.h)]], []⟩) rfl rfl (ev_callG (al := [.bp 0 0]) (ls := [.b 0]) (spec_l1Byte_ok hx6) rfl rfl rfl rfl rfl (by decide) rfl rfl rfl rfl rfl rfl) ?_; simp only [putT, st, ev, gt, hp, ofV, constT, intT, List.length_map]
      refine WO_op rfl rfl rfl ?_; simp only [putT, st, ev, gt, hp, ofV, constT, intT, List.length_map]
      refine WO_nil ?_
      refine W_seq ?_
      refine W_region ?_
      refine WO_op rfl rfl rfl ?_; simp only [putT, st, ev, gt, hp, ofV, constT, intT, List.length_map]
      obtain ⟨x7, hx7, H⟩ := bnd H
      refine WO_op (x := .c (cI .i64 x7.1)) (σ' := ⟨[], [some [.c (cL eU x7.2.b), .c (cI .i64 x7.2.i), .c (cI .i64 x7.2.h)]], []⟩) rfl rfl (ev_callG (al := [.bp 0 0]) (ls := [.b 0]) (spec_l1Byte_ok hx7) rfl rfl rfl rfl rfl (by decide) rfl rfl rfl rfl rfl rfl) ?_; simp only [putT, st, ev, gt, hp, ofV, constT, intT, List.length_map]
      refine WO_op rfl rfl rfl ?_; simp only [putT, st, ev, gt, hp, ofV, constT, intT, List.length_map]
      refine WO_nil ?_
      refine W_seq ?_
      refine W_region ?_
      refine WO_op rfl rfl rfl ?_; simp only [putT, st, ev, gt, hp, ofV, constT, intT, List.length_map]
      obtain ⟨x8, hx8, H⟩ := bnd H
      refine WO_op (x := .c (cI .i64 x8.1)) (σ' := ⟨[], [some [.c (cL eU x8.2.b), .c (cI .i64 x8.2.i), .c (cI .i64 x8.2.h)]], []⟩) rfl rfl (ev_callG (al := [.bp 0 0]) (ls := [.b 0]) (spec_l1Byte_ok hx8) rfl rfl rfl rfl rfl (by decide) rfl rfl rfl rfl rfl rfl) ?_; simp only [putT, st, ev, gt, hp, ofV, constT, intT, List.length_map]
      refine WO_op rfl rfl rfl ?_; simp only [putT, st, ev, gt, hp, ofV, constT, intT, List.length_map]
      refine WO_nil ?_
      refine W_seq ?_
      refine W_region ?_
      iterate 11 (refine WO_op rfl rfl rfl ?_; simp only [putT, st, ev, gt, hp, ofV, constT, intT, List.length_map])
      obtain ⟨q9, hq9, H⟩ := bnd H
      refine WO_op rfl rfl (ev_rem hq9 rfl rfl rfl) ?_; simp only [putT, st, ev, gt, hp, ofV, constT, intT, List.length_map]
      refine WO_op rfl rfl rfl ?_; simp only [putT, st, ev, gt, hp, ofV, constT, intT, List.length_map]
      refine WO_nil ?_
      refine W_ret ?_
      obtain rfl := Option.some.inj H
      exact told3 rfl
set_option maxRecDepth 20000 in
set_option maxHeartbeats 1000000 in
theorem spec_l1Once_ok {a1 : L1Cur} {a2 : Int} {r : Bool × L1Cur} (H : spec_l1Once a1 a2 = some r) : R 88 [.p [(cL eU a1.b, none), (cI .i64 a1.i, none), (cI .i64 a1.h, none)], .c (cI .i64 a2) none] = some (.c (cB r.1) none, [some [(cL eU r.2.b, none), (cI .i64 r.2.i, none), (cI .i64 r.2.h, none)]]) := by
  unfold spec_l1Once at H
  refine Fz_walk 9 rfl rfl Try.func88 rfl (by kernel_rfl) rfl rfl rfl rfl ?_
  simp only [tellVs, tellV, tells, tell, st0, padT, SX.newRow, SX.newBox, List.length_cons, List.length_nil, Nat.reduceAdd, Nat.reduceSub, List.replicate, List.cons_append, List.nil_append]
  refine W_seq ?_
  refine W_region ?_
  refine WO_op rfl rfl rfl ?_; simp only [putT, st, ev, gt, hp, ofV, constT, intT, List.length_map]
  refine WO_nil ?_
  refine W_seq ?_
  refine W_region ?_
  iterate 2 (refine WO_op rfl rfl rfl ?_; simp only [putT, st, ev, gt, hp, ofV, constT, intT, List.length_map])
  obtain ⟨x3, hx3, H⟩ := bnd H
  refine WO_op (x := .c (cI .i64 x3.1)) (σ' := ⟨[], [some [.c (cL eU x3.2.b), .c (cI .i64 x3.2.i), .c (cI .i64 x3.2.h)]], []⟩) rfl rfl (ev_callG (al := [.bp 0 0, .c (cI .i64 a2)]) (ls := [.b 0]) (spec_l1Below_ok hx3) rfl rfl rfl rfl rfl (by decide) rfl rfl rfl rfl rfl rfl) ?_; simp only [putT, st, ev, gt, hp, ofV, constT, intT, List.length_map]
  iterate 2 (refine WO_op rfl rfl rfl ?_; simp only [putT, st, ev, gt, hp, ofV, constT, intT, List.length_map])
  refine WO_nil ?_
  refine W_ret ?_
  obtain rfl := Option.some.inj H
  exact told3 rfl
set_option maxRecDepth 20000 in
set_option maxHeartbeats 1000000 in
theorem spec_PaceNew_ok  {r : Pace} (H : spec_PaceNew = some r) : R 92 [] = some (.ag [(cI .i64 r.Up, none), (cI .i64 r.Down, none), (cI .i64 r.UpSpan, none), (cI .i64 r.DownSpan, none)], []) := by
  unfold spec_PaceNew at H
  refine Fz_walk 2 rfl rfl Try.func92 rfl (by kernel_rfl) rfl rfl rfl rfl ?_
  simp only [tellVs, tellV, tells, tell, st0, padT, SX.newRow, SX.newBox, List.length_cons, List.length_nil, Nat.reduceAdd, Nat.reduceSub, List.replicate, List.cons_append, List.nil_append]
  refine W_seq ?_
  refine W_region ?_
  refine WO_op (x := .bp 0 0) (σ' := ⟨[], [some [.c (cI .i64 0), .c (cI .i64 0), .c (cI .i64 0), .c (cI .i64 0)]], []⟩) rfl rfl rfl ?_; simp only [putT, st, ev, gt, hp, ofV, constT, intT, List.length_map]
  refine WO_nil ?_
  refine W_seq ?_
  refine W_region ?_
  refine WO_op (x := .ag [.c (cI .i64 0), .c (cI .i64 0), .c (cI .i64 0), .c (cI .i64 300)]) rfl rfl rfl ?_; simp only [putT, st, ev, gt, hp, ofV, constT, intT, List.length_map]
  refine WO_op (x := .no) (σ' := ⟨[], [some [.c (cI .i64 0), .c (cI .i64 0), .c (cI .i64 0), .c (cI .i64 300)]], []⟩) rfl rfl rfl ?_; simp only [putT, st, ev, gt, hp, ofV, constT, intT, List.length_map]
  refine WO_nil ?_
  refine W_ret ?_
  obtain rfl := Option.some.inj H
  exact told3 rfl
set_option maxRecDepth 20000 in
set_option maxHeartbeats 1000000 in
theorem spec_l1PickInt_ok {a1 : L1Cur} {a2 : List Int} {r : Int × L1Cur} (H : spec_l1PickInt a1 a2 = some r) : R 74 [.p [(cL eU a1.b, none), (cI .i64 a1.i, none), (cI .i64 a1.h, none)], .c (cL eI a2) none] = some (.c (cI .i64 r.1) none, [some [(cL eU r.2.b, none), (cI .i64 r.2.i, none), (cI .i64 r.2.h, none)]]) := by
  unfold spec_l1PickInt at H
  refine Fz_walk 12 rfl rfl Try.func74 rfl (by kernel_rfl) rfl rfl rfl rfl ?_
  simp only [tellVs, tellV, tells, tell, st0, padT, SX.newRow, SX.newBox, List.length_cons, List.length_nil, Nat.reduceAdd, Nat.reduceSub, List.replicate, List.cons_append, List.nil_append]
  refine W_seq ?_
  refine W_region ?_
  refine WO_op rfl rfl rfl ?_; simp only [putT, st, ev, gt, hp, ofV, constT, intT, List.length_map]
  refine WO_nil ?_
  refine W_seq ?_
  refine W_region ?_
  iterate 4 (refine WO_op rfl rfl rfl ?_; simp only [putT, st, ev, gt, hp, ofV, constT, intT, List.length_map])
  obtain ⟨x3, hx3, H⟩ := bnd H
  refine WO_op (x := .c (cI .i64 x3.1)) (σ' := ⟨[], [some [.c (cL eU x3.2.b), .c (cI .i64 x3.2.i), .c (cI .i64 x3.2.h)]], []⟩) rfl rfl (ev_callG (al := [.bp 0 0, .c (cI .i64 (a2.length : Int))]) (ls := [.b 0]) (spec_l1Below_ok hx3) rfl rfl rfl rfl rfl (by decide) rfl rfl rfl rfl rfl rfl) ?_; simp only [putT, st, ev, gt, hp, ofV, constT, intT, List.length_map]
  obtain ⟨x4, hx4, H⟩ := bnd H
  refine WO_op rfl rfl (ev_ix (en := eI) hx4 rfl rfl rfl rfl rfl rfl rfl) ?_; simp only [putT, st, ev, gt, hp, ofV, constT, intT, List.length_map]
  refine WO_op (x := .c (cI .i64 x4)) rfl rfl rfl ?_; simp only [putT, st, ev, gt, hp, ofV, constT, intT, List.length_map]
  refine WO_op rfl rfl rfl ?_; simp only [putT, st, ev, gt, hp, ofV, constT, intT, List.length_map]
  refine WO_nil ?_
  refine W_ret ?_
  obtain rfl := Option.some.inj H
  exact told3 rfl
set_option maxRecDepth 20000 in
set_option maxHeartbeats 1000000 in
theorem spec_l6DrawPace_ok {a1 : L1Cur} {r : Pace × L1Cur} (H : spec_l6DrawPace a1 = some r) : R 73 [.p [(cL eU a1.b, none), (cI .i64 a1.i, none), (cI .i64 a1.h, none)]] = some (.ag [(cI .i64 r.1.Up, none), (cI .i64 r.1.Down, none), (cI .i64 r.1.UpSpan, none), (cI .i64 r.1.DownSpan, none)], [some [(cL eU r.2.b, none), (cI .i64 r.2.i, none), (cI .i64 r.2.h, none)]]) := by
  unfold spec_l6DrawPace at H
  refine Fz_walk 25 rfl rfl Try.func73 rfl (by kernel_rfl) rfl rfl rfl rfl ?_
  simp only [tellVs, tellV, tells, tell, st0, padT, SX.newRow, SX.newBox, List.length_cons, List.length_nil, Nat.reduceAdd, Nat.reduceSub, List.replicate, List.cons_append, List.nil_append]
  refine W_seq ?_
  refine W_region ?_
  refine WO_op (x := .bp 1 0) (σ' := ⟨[], [some [.c (cL eU a1.b), .c (cI .i64 a1.i), .c (cI .i64 a1.h)], some [.c (cI .i64 0), .c (cI .i64 0), .c (cI .i64 0), .c (cI .i64 0)]], []⟩) rfl rfl rfl ?_; simp only [putT, st, ev, gt, hp, ofV, constT, intT, List.length_map]
  refine WO_nil ?_
  refine W_seq ?_
  refine W_seq ?_
  refine W_region ?_
  refine WO_op rfl rfl rfl ?_; simp only [putT, st, ev, gt, hp, ofV, constT, intT, List.length_map]
  obtain ⟨x2, hx2, H⟩ := bnd H
  refine WO_op (x := .c (cB x2.1)) (σ' := ⟨[], [some [.c (cL eU x2.2.b), .c (cI .i64 x2.2.i), .c (cI .i64 x2.2.h)], some [.c (cI .i64 0), .c (cI .i64 0), .c (cI .i64 0), .c (cI .i64 0)]], []⟩) rfl rfl (ev_callG (al := [.bp 0 0, .c (cI .i64 3)]) (ls := [.b 0]) (spec_l1Once_ok hx2) rfl rfl rfl rfl rfl (by decide) rfl rfl rfl rfl rfl rfl) ?_; simp only [putT, st, ev, gt, hp, ofV, constT, intT, List.length_map]
  refine WO_nil ?_
  refine W_cond rfl (fun hc => ?_) (fun hc => ?_)
  · replace H := tr hc H
    refine W_seq ?_
    refine W_region ?_
    obtain ⟨x3, hx3, H⟩ := bnd H
    refine WO_op (x := .ag [.c (cI .i64 x3.Up), .c (cI .i64 x3.Down), .c (cI .i64 x3.UpSpan), .c (cI .i64 x3.DownSpan)]) (σ' := ⟨[], [some [.c (cL eU x2.2.b), .c (cI .i64 x2.2.i), .c (cI .i64 x2.2.h)], some [.c (cI .i64 0), .c (cI .i64 0), .c (cI .i64 0), .c (cI .i64 0)]], []⟩) rfl rfl (ev_callG (al := []) (ls := []) (spec_PaceNew_ok hx3) rfl rfl rfl rfl rfl (by decide) rfl rfl rfl rfl rfl rfl) ?_; simp only [putT, st, ev, gt, hp, ofV, constT, intT, List.length_map]
    refine WO_op (x := .no) (σ' := ⟨[], [some [.c (cL eU x2.2.b), .c (cI .i64 x2.2.i), .c (cI .i64 x2.2.h)], some [.c (cI .i64 x3.Up), .c (cI .i64 x3.Down), .c (cI .i64 x3.UpSpan), .c (cI .i64 x3.DownSpan)]], []⟩) rfl rfl rfl ?_; simp only [putT, st, ev, gt, hp, ofV, constT, intT, List.length_map]
    refine WO_nil ?_
    refine W_ret ?_
    obtain rfl := Option.some.inj H
    exact told3 rfl
  · replace H := fl hc H
    refine W_skip ?_
    refine W_seq ?_
    refine W_region ?_
    refine WO_op rfl rfl rfl ?_; simp only [putT, st, ev, gt, hp, ofV, constT, intT, List.length_map]
    refine WO_op (x := .row 0) (σ' := ⟨[], [some [.c (cL eU x2.2.b), .c (cI .i64 x2.2.i), .c (cI .i64 x2.2.h)], some [.c (cI .i64 0), .c (cI .i64 0), .c (cI .i64 0), .c (cI .i64 0)]], [rr 1 eI ([0, 1, 4] : List Int) true]⟩) rfl rfl (ev_bs ([0, 1, 4] : List Int) eI rfl rfl rfl rfl) ?_; simp only [putT, st, ev, gt, hp, ofV, constT, intT, List.length_map]
    obtain ⟨x4, hx4, H⟩ := bnd H
    refine WO_op (x := .c (cI .i64 x4.1)) (σ' := ⟨[], [some [.c (cL eU x4.2.b), .c (cI .i64 x4.2.i), .c (cI .i64 x4.2.h)], some [.c (cI .i64 0), .c (cI .i64 0), .c (cI .i64 0), .c (cI .i64 0)]], [rr 1 eI ([0, 1, 4] : List Int) false]⟩) rfl rfl (ev_callG (al := [.bp 0 0, .row 0]) (ls := [.b 0]) (spec_l1PickInt_ok hx4) rfl rfl rfl rfl rfl (by decide) rfl rfl rfl rfl rfl rfl) ?_; simp only [putT, st, ev, gt, hp, ofV, constT, intT, List.length_map]
    refine WO_op rfl rfl rfl ?_; simp only [putT, st, ev, gt, hp, ofV, constT, intT, List.length_map]
    refine WO_nil ?_
    refine W_seq ?_
    refine W_region ?_
    refine WO_op rfl rfl rfl ?_; simp only [putT, st, ev, gt, hp, ofV, constT, intT, List.length_map]
    refine WO_op (x := .row 1) (σ' := ⟨[], [some [.c (cL eU x4.2.b), .c (cI .i64 x4.2.i), .c (cI .i64 x4.2.h)], some [.c (cI .i64 0), .c (cI .i64 0), .c (cI .i64 0), .c (cI .i64 0)]], [rr 1 eI ([0, 1, 4] : List Int) false, rr 1 eI ([0, 1, 2] : List Int) true]⟩) rfl rfl (ev_bs ([0, 1, 2] : List Int) eI rfl rfl rfl rfl) ?_; simp only [putT, st, ev, gt, hp, ofV, constT, intT, List.length_map]
    obtain ⟨x5, hx5, H⟩ := bnd H
    refine WO_op (x := .c (cI .i64 x5.1)) (σ' := ⟨[], [some [.c (cL eU x5.2.b), .c (cI .i64 x5.2.i), .c (cI .i64 x5.2.h)], some [.c (cI .i64 0), .c (cI .i64 0), .c (cI .i64 0), .c (cI .i64 0)]], [rr 1 eI ([0, 1, 4] : List Int) false, rr 1 eI ([0, 1, 2] : List Int) false]⟩) rfl rfl (ev_callG (al := [.bp 0 0, .row 1]) (ls := [.b 0]) (spec_l1PickInt_ok hx5) rfl rfl rfl rfl rfl (by decide) rfl rfl rfl rfl rfl rfl) ?_; simp only [putT, st, ev, gt, hp, ofV, constT, intT, List.length_map]
    refine WO_op rfl rfl rfl ?_; simp only [putT, st, ev, gt, hp, ofV, constT, intT, List.length_map]
    refine WO_nil ?_
    refine W_seq ?_
    refine W_region ?_
    refine WO_op rfl rfl rfl ?_; simp only [putT, st, ev, gt, hp, ofV, constT, intT, List.length_map]
    refine WO_op (x := .row 2) (σ' := ⟨[], [some [.c (cL eU x5.2.b), .c (cI .i64 x5.2.i), .c (cI .i64 x5.2.h)], some [.c (cI .i64 0), .c (cI .i64 0), .c (cI .i64 0), .c (cI .i64 0)]], [rr 1 eI ([0, 1, 4] : List Int) false, rr 1 eI ([0, 1, 2] : List Int) false, rr 1 eI ([0, 30, 60] : List Int) true]⟩) rfl rfl (ev_bs ([0, 30, 60] : List Int) eI rfl rfl rfl rfl) ?_; simp only [putT, st, ev, gt, hp, ofV, constT, intT, List.length_map]
    obtain ⟨x6, hx6, H⟩ := bnd H
    refine WO_op (x := .c (cI .i64 x6.1)) (σ' := ⟨[], [some [.c (cL eU x6.2.b), .c (cI .i64 x6.2.i), .c (cI .i64 x6.2.h)], some [.c (cI .i64 0), .c (cI .i64 0), .c (cI .i64 0), .c (cI .i64 0)]], [rr 1 eI ([0, 1, 4] : List Int) false, rr 1 eI ([0, 1, 2] : List Int) false, rr 1 eI ([0, 30, 60] : List Int) false]⟩) rfl rfl (ev_callG (al := [.bp 0 0, .row 2]) (ls := [.b 0]) (spec_l1PickInt_ok hx6) rfl rfl rfl rfl rfl (by decide) rfl rfl rfl rfl rfl rfl) ?_; simp only [putT, st, ev, gt, hp, ofV, constT, intT, List.length_map]
    refine WO_op rfl rfl rfl ?_; simp only [putT, st, ev, gt, hp, ofV, constT, intT, List.length_map]
    refine WO_nil ?_
    refine W_seq ?_
    refine W_region ?_
    iterate 4 (refine WO_op rfl rfl rfl ?_; simp only [putT, st, ev, gt, hp, ofV, constT, intT, List.length_map])
    refine WO_op (x := .row 3) (σ' := ⟨[], [some [.c (cL eU x6.2.b), .c (cI .i64 x6.2.i), .c (cI .i64 x6.2.h)], some [.c (cI .i64 0), .c (cI .i64 0), .c (cI .i64 0), .c (cI .i64 0)]], [rr 1 eI ([0, 1, 4] : List Int) false, rr 1 eI ([0, 1, 2] : List Int) false, rr 1 eI ([0, 30, 60] : List Int) false, rr 1 eI ([0, 60, 300, 3600] : List Int) true]⟩) rfl rfl (ev_bs ([0, 60, 300, 3600] : List Int) eI rfl rfl rfl rfl) ?_; simp only [putT, st, ev, gt, hp, ofV, constT, intT, List.length_map]
    obtain ⟨x7, hx7, H⟩ := bnd H
    refine WO_op (x := .c (cI .i64 x7.1)) (σ' := ⟨[], [some [.c (cL eU x7.2.b), .c (cI .i64 x7.2.i), .c (cI .i64 x7.2.h)], some [.c (cI .i64 0), .c (cI .i64 0), .c (cI .i64 0), .c (cI .i64 0)]], [rr 1 eI ([0, 1, 4] : List Int) false, rr 1 eI ([0, 1, 2] : List Int) false, rr 1 eI ([0, 30, 60] : List Int) false, rr 1 eI ([0, 60, 300, 3600] : List Int) false]⟩) rfl rfl (ev_callG (al := [.bp 0 0, .row 3]) (ls := [.b 0]) (spec_l1PickInt_ok hx7) rfl rfl rfl rfl rfl (by decide) rfl rfl rfl rfl rfl rfl) ?_; simp only [putT, st, ev, gt, hp, ofV, constT, intT, List.length_map]
    refine WO_op (x := .ag [.c (cI .i64 x4.1), .c (cI .i64 x5.1), .c (cI .i64 x6.1), .c (cI .i64 x7.1)]) rfl rfl rfl ?_; simp only [putT, st, ev, gt, hp, ofV, constT, intT, List.length_map]
    refine WO_op (x := .no) (σ' := ⟨[], [some [.c (cL eU x7.2.b), .c (cI .i64 x7.2.i), .c (cI .i64 x7.2.h)], some [.c (cI .i64 x4.1), .c (cI .i64 x5.1), .c (cI .i64 x6.1), .c (cI .i64 x7.1)]], [rr 1 eI ([0, 1, 4] : List Int) false, rr 1 eI ([0, 1, 2] : List Int) false, rr 1 eI ([0, 30, 60] : List Int) false, rr 1 eI ([0, 60, 300, 3600] : List Int) false]⟩) rfl rfl rfl ?_; simp only [putT, st, ev, gt, hp, ofV, constT, intT, List.length_map]
    refine WO_nil ?_
    refine W_ret ?_
    obtain rfl := Option.some.inj H
    exact told3 rfl
set_option maxRecDepth 20000 in
set_option maxHeartbeats 1000000 in
theorem spec_DrawSlow_ok {a1 : List Int} {r : Pace × Int × Int} (H : spec_DrawSlow a1 = some r) : R 26 [.c (cL eU a1) none] = some (.tu [.ag [(cI .i64 r.1.Up, none), (cI .i64 r.1.Down, none), (cI .i64 r.1.UpSpan, none), (cI .i64 r.1.DownSpan, none)], .c (cI .i64 r.2.1) none, .c (cI .i64 r.2.2) none], []) := by
  unfold spec_DrawSlow at H
  refine Fz_walk 20 rfl rfl Try.func26 rfl (by kernel_rfl) rfl rfl rfl rfl ?_
  simp only [tellVs, tellV, tells, tell, st0, padT, SX.newRow, SX.newBox, List.length_cons, List.length_nil, Nat.reduceAdd, Nat.reduceSub, List.replicate, List.cons_append, List.nil_append]
  refine W_seq ?_
  refine W_region ?_
  refine WO_op (x := .bp 0 0) (σ' := ⟨[], [some [.c (cI .i64 0), .c (cI .i64 0), .c (cI .i64 0), .c (cI .i64 0)]], []⟩) rfl rfl rfl ?_; simp only [putT, st, ev, gt, hp, ofV, constT, intT, List.length_map]
  iterate 2 (refine WO_op rfl rfl rfl ?_; simp only [putT, st, ev, gt, hp, ofV, constT, intT, List.length_map])
  refine WO_nil ?_
  refine W_seq ?_
  refine W_region ?_
  refine WO_op rfl rfl rfl ?_; simp only [putT, st, ev, gt, hp, ofV, constT, intT, List.length_map]
  obtain ⟨x2, hx2, H⟩ := bnd H
  refine WO_op (x := .bp 1 0) (σ' := ⟨[], [some [.c (cI .i64 0), .c (cI .i64 0), .c (cI .i64 0), .c (cI .i64 0)], some [.c (cL eU x2.b), .c (cI .i64 x2.i), .c (cI .i64 x2.h)]], []⟩) rfl rfl (ev_callG (al := [.c (cL eU a1)]) (ls := []) (spec_l1New_ok hx2) rfl rfl rfl rfl rfl (by decide) rfl rfl rfl rfl rfl rfl) ?_; simp only [putT, st, ev, gt, hp, ofV, constT, intT, List.length_map]
  refine WO_op rfl rfl rfl ?_; simp only [putT, st, ev, gt, hp, ofV, constT, intT, List.length_map]
  refine WO_nil ?_
  refine W_seq ?_
  refine W_region ?_
  refine WO_op rfl rfl rfl ?_; simp only [putT, st, ev, gt, hp, ofV, constT, intT, List.length_map]
  obtain ⟨x3, hx3, H⟩ := bnd H
  refine WO_op (x := .ag [.c (cI .i64 x3.1.Up), .c (cI .i64 x3.1.Down), .c (cI .i64 x3.1.UpSpan), .c (cI .i64 x3.1.DownSpan)]) (σ' := ⟨[], [some [.c (cI .i64 0), .c (cI .i64 0), .c (cI .i64 0), .c (cI .i64 0)], some [.c (cL eU x3.2.b), .c (cI .i64 x3.2.i), .c (cI .i64 x3.2.h)]], []⟩) rfl rfl (ev_callG (al := [.bp 1 0]) (ls := [.b 1]) (spec_l6DrawPace_ok hx3) rfl rfl rfl rfl rfl (by decide) rfl rfl rfl rfl rfl rfl) ?_; simp only [putT, st, ev, gt, hp, ofV, constT, intT, List.length_map]
  refine WO_op (x := .bp 2 0) (σ' := ⟨[], [some [.c (cI .i64 0), .c (cI .i64 0), .c (cI .i64 0), .c (cI .i64 0)], some [.c (cL eU x3.2.b), .c (cI .i64 x3.2.i), .c (cI .i64 x3.2.h)], some [.c (cI .i64 0), .c (cI .i64 0), .c (cI .i64 0), .c (cI .i64 0)]], []⟩) rfl rfl rfl ?_; simp only [putT, st, ev, gt, hp, ofV, constT, intT, List.length_map]
  refine WO_op (x := .no) (σ' := ⟨[], [some [.c (cI .i64 0), .c (cI .i64 0), .c (cI .i64 0), .c (cI .i64 0)], some [.c (cL eU x3.2.b), .c (cI .i64 x3.2.i), .c (cI .i64 x3.2.h)], some [.c (cI .i64 x3.1.Up), .c (cI .i64 x3.1.Down), .c (cI .i64 x3.1.UpSpan), .c (cI .i64 x3.1.DownSpan)]], []⟩) rfl rfl rfl ?_; simp only [putT, st, ev, gt, hp, ofV, constT, intT, List.length_map]
  refine WO_nil ?_
  refine W_seq ?_
  refine W_region ?_
  refine WO_op rfl rfl rfl ?_; simp only [putT, st, ev, gt, hp, ofV, constT, intT, List.length_map]
  refine WO_op (x := .row 0) (σ' := ⟨[], [some [.c (cI .i64 0), .c (cI .i64 0), .c (cI .i64 0), .c (cI .i64 0)], some [.c (cL eU x3.2.b), .c (cI .i64 x3.2.i), .c (cI .i64 x3.2.h)], some [.c (cI .i64 x3.1.Up), .c (cI .i64 x3.1.Down), .c (cI .i64 x3.1.UpSpan), .c (cI .i64 x3.1.DownSpan)]], [rr 1 eI ([1, 4, 8, 20] : List Int) true]⟩) rfl rfl (ev_bs ([1, 4, 8, 20] : List Int) eI rfl rfl rfl rfl) ?_; simp only [putT, st, ev, gt, hp, ofV, constT, intT, List.length_map]
  obtain ⟨x4, hx4, H⟩ := bnd H
  refine WO_op (x := .c (cI .i64 x4.1)) (σ' := ⟨[], [some [.c (cI .i64 0), .c (cI .i64 0), .c (cI .i64 0), .c (cI .i64 0)], some [.c (cL eU x4.2.b), .c (cI .i64 x4.2.i), .c (cI .i64 x4.2.h)], some [.c (cI .i64 x3.1.Up), .c (cI .i64 x3.1.Down), .c (cI .i64 x3.1.UpSpan), .c (cI .i64 x3.1.DownSpan)]], [rr 1 eI ([1, 4, 8, 20] : List Int) false]⟩) rfl rfl (ev_callG (al := [.bp 1 0, .row 0]) (ls := [.b 1]) (spec_l1PickInt_ok hx4) rfl rfl rfl rfl rfl (by decide) rfl rfl rfl rfl rfl rfl) ?_; simp only [putT, st, ev, gt, hp, ofV, constT, intT, List.length_map]
  refine WO_op rfl rfl rfl ?_; simp only [putT, st, ev, gt, hp, ofV, constT, intT, List.length_map]
  refine WO_nil ?_
  refine W_seq ?_
  refine W_drawL (by kernel_rfl) (by decide +kernel) ?_
  refine WL_op (x := .ag [.c (cI .i64 x3.1.Up), .c (cI .i64 x3.1.Down), .c (cI .i64 x3.1.UpSpan), .c (cI .i64 x3.1.DownSpan)]) rfl rfl rfl rfl ?_; simp only [putT, st, ev, gt, hp, ofV, constT, intT, List.length_map]
  iterate 2 (refine WL_op rfl rfl rfl rfl ?_; simp only [putT, st, ev, gt, hp, ofV, constT, intT, List.length_map])
  refine WL_op (x := .row 1) (σ' := ⟨[], [some [.c (cI .i64 0), .c (cI .i64 0), .c (cI .i64 0), .c (cI .i64 0)], some [.c (cL eU x4.2.b), .c (cI .i64 x4.2.i), .c (cI .i64 x4.2.h)], some [.c (cI .i64 x3.1.Up), .c (cI .i64 x3.1.Down), .c (cI .i64 x3.1.UpSpan), .c (cI .i64 x3.1.DownSpan)]], [rr 1 eI ([1, 4, 8, 20] : List Int) false, rr 1 eI ([0, 1, 4, 9, 30, 9223372036854775807, (-9223372036854775808)] : List Int) true]⟩) rfl rfl rfl (ev_bs ([0, 1, 4, 9, 30, 9223372036854775807, (-9223372036854775808)] : List Int) eI rfl rfl rfl rfl) ?_; simp only [putT, st, ev, gt, hp, ofV, constT, intT, List.length_map]
  obtain ⟨x5, hx5, H⟩ := bnd H
  refine WL_op (x := .c (cI .i64 x5.1)) (σ' := ⟨[], [some [.c (cI .i64 0), .c (cI .i64 0), .c (cI .i64 0), .c (cI .i64 0)], some [.c (cL eU x5.2.b), .c (cI .i64 x5.2.i), .c (cI .i64 x5.2.h)], some [.c (cI .i64 x3.1.Up), .c (cI .i64 x3.1.Down), .c (cI .i64 x3.1.UpSpan), .c (cI .i64 x3.1.DownSpan)]], [rr 1 eI ([1, 4, 8, 20] : List Int) false, rr 1 eI ([0, 1, 4, 9, 30, 9223372036854775807, (-9223372036854775808)] : List Int) false]⟩) rfl rfl rfl (ev_callG (al := [.bp 1 0, .row 1]) (ls := [.b 1]) (spec_l1PickInt_ok hx5) rfl rfl rfl rfl rfl (by decide) rfl rfl rfl rfl rfl rfl) ?_; simp only [putT, st, ev, gt, hp, ofV, constT, intT, List.length_map]
  refine WL_op (x := .no) (σ' := ⟨[], [some [.c (cI .i64 x3.1.Up), .c (cI .i64 x3.1.Down), .c (cI .i64 x3.1.UpSpan), .c (cI .i64 x3.1.DownSpan)], some [.c (cL eU x5.2.b), .c (cI .i64 x5.2.i), .c (cI .i64 x5.2.h)], some [.c (cI .i64 x3.1.Up), .c (cI .i64 x3.1.Down), .c (cI .i64 x3.1.UpSpan), .c (cI .i64 x3.1.DownSpan)]], [rr 1 eI ([1, 4, 8, 20] : List Int) false, rr 1 eI ([0, 1, 4, 9, 30, 9223372036854775807, (-9223372036854775808)] : List Int) false]⟩) rfl rfl rfl rfl ?_; simp only [putT, st, ev, gt, hp, ofV, constT, intT, List.length_map]
  iterate 2 (refine WL_op rfl rfl rfl rfl ?_; simp only [putT, st, ev, gt, hp, ofV, constT, intT, List.length_map])
  refine WL_nil (by kernel_rfl) ?_
  refine W_ret ?_
  obtain rfl := Option.some.inj H
  exact told3 rfl
set_option maxRecDepth 20000 in
set_option maxHeartbeats 1000000 in
theorem impl_beyond_ok {a1 : Int} {a2 : Int} {a3 : Int} {r : Bool} (H : impl_beyond a1 a2 a3 = some r) : R 75 [.c (cI .i64 a1) none, .c (cI .i64 a2) none, .c (cI .i64 a3) none] = some (.c (cB r) none, []) := by
  unfold impl_beyond at H
  refine Fz_walk 35 rfl rfl Try.func75 rfl (by kernel_rfl) rfl rfl rfl rfl ?_
  simp only [tellVs, tellV, tells, tell, st0, padT, SX.newRow, SX.newBox, List.length_cons, List.length_nil, Nat.reduceAdd, Nat.reduceSub, List.replicate, List.cons_append, List.nil_append]
  refine W_seq ?_
  refine W_region ?_
  refine WO_op rfl rfl rfl ?_; simp only [putT, st, ev, gt, hp, ofV, constT, intT, List.length_map]
  refine WO_nil ?_
  refine W_seq ?_
  refine W_seq ?_
  refine W_region ?_
  iterate 3 (refine WO_op rfl rfl rfl ?_; simp only [putT, st, ev, gt, hp, ofV, constT, intT, List.length_map])
  refine WO_nil ?_
  refine W_cond rfl (fun hc => ?_) (fun hc => ?_)
  · replace H := tr hc H
    refine W_seq ?_
    refine W_region ?_
    iterate 3 (refine WO_op rfl rfl rfl ?_; simp only [putT, st, ev, gt, hp, ofV, constT, intT, List.length_map])
    refine WO_if rfl rfl rfl (fun hc => ?_) (fun hc => ?_)
    · replace H := tr hc H
      simp only [putT, st, ev, gt, hp, ofV, constT, intT, List.length_map]
      refine WO_skip rfl rfl ?_; simp only [putT, st, ev, gt, hp, ofV, constT, intT, List.length_map]
      refine WO_skip rfl rfl ?_; simp only [putT, st, ev, gt, hp, ofV, constT, intT, List.length_map]
      refine WO_skip rfl rfl ?_; simp only [putT, st, ev, gt, hp, ofV, constT, intT, List.length_map]
      refine WO_skip rfl rfl ?_; simp only [putT, st, ev, gt, hp, ofV, constT, intT, List.length_map]
      refine WO_skip rfl rfl ?_; simp only [putT, st, ev, gt, hp, ofV, constT, intT, List.length_map]
      refine WO_skip rfl rfl ?_; simp only [putT, st, ev, gt, hp, ofV, constT, intT, List.length_map]
      refine WO_skip rfl rfl ?_; simp only [putT, st, ev, gt, hp, ofV, constT, intT, List.length_map]
      refine WO_skip rfl rfl ?_; simp only [putT, st, ev, gt, hp, ofV, constT, intT, List.length_map]
      refine WO_op (x := .c (cB true)) rfl rfl rfl ?_; simp only [putT, st, ev, gt, hp, ofV, constT, intT, List.length_map]
      refine WO_op rfl rfl rfl ?_; simp only [putT, st, ev, gt, hp, ofV, constT, intT, List.length_map]
      refine WO_nil ?_
      refine W_ret ?_
      obtain rfl := Option.some.inj H
      exact told3 rfl
    · replace H := fl hc H
      simp only [putT, st, ev, gt, hp, ofV, constT, intT, List.length_map]
      refine WO_want rfl rfl rfl ?_; simp only [putT, st, ev, gt, hp, ofV, constT, intT, List.length_map]
      refine WO_want rfl rfl (ev_ii (j := .i64) (k' := .u64) rfl rfl rfl rfl) ?_; simp only [putT, st, ev, gt, hp, ofV, constT, intT, List.length_map]
      refine WO_want rfl rfl rfl ?_; simp only [putT, st, ev, gt, hp, ofV, constT, intT, List.length_map]
      refine WO_want rfl rfl (ev_ii (j := .i64) (k' := .u64) rfl rfl rfl rfl) ?_; simp only [putT, st, ev, gt, hp, ofV, constT, intT, List.length_map]
      iterate 2 (refine WO_want rfl rfl rfl ?_; simp only [putT, st, ev, gt, hp, ofV, constT, intT, List.length_map])
      refine WO_want rfl rfl (ev_ii (j := .i64) (k' := .u64) rfl rfl rfl rfl) ?_; simp only [putT, st, ev, gt, hp, ofV, constT, intT, List.length_map]
      refine WO_want rfl rfl rfl ?_; simp only [putT, st, ev, gt, hp, ofV, constT, intT, List.length_map]
      refine WO_op (x := .c (cB (decide ((IntKind.u64.wrap ((IntKind.u64.wrap (a1)) - (IntKind.u64.wrap (a2)))) > (IntKind.u64.wrap (a3)))))) rfl rfl rfl ?_; simp only [putT, st, ev, gt, hp, ofV, constT, intT, List.length_map]
      refine WO_op rfl rfl rfl ?_; simp only [putT, st, ev, gt, hp, ofV, constT, intT, List.length_map]
      refine WO_nil ?_
      refine W_ret ?_
      obtain rfl := Option.some.inj H
      exact told3 rfl
  · replace H := fl hc H
    refine W_skip ?_
    refine W_seq ?_
    refine W_region ?_
    iterate 3 (refine WO_op rfl rfl rfl ?_; simp only [putT, st, ev, gt, hp, ofV, constT, intT, List.length_map])
    refine WO_if rfl rfl rfl (fun hc => ?_) (fun hc => ?_)
    · replace H := tr hc H
      simp only [putT, st, ev, gt, hp, ofV, constT, intT, List.length_map]
      refine WO_want rfl rfl rfl ?_; simp only [putT, st, ev, gt, hp, ofV, constT, intT, List.length_map]
      refine WO_want rfl rfl (ev_ii (j := .i64) (k' := .u64) rfl rfl rfl rfl) ?_; simp only [putT, st, ev, gt, hp, ofV, constT, intT, List.length_map]
      refine WO_want rfl rfl rfl ?_; simp only [putT, st, ev, gt, hp, ofV, constT, intT, List.length_map]
      refine WO_want rfl rfl (ev_ii (j := .i64) (k' := .u64) rfl rfl rfl rfl) ?_; simp only [putT, st, ev, gt, hp, ofV, constT, intT, List.length_map]
      iterate 2 (refine WO_want rfl rfl rfl ?_; simp only [putT, st, ev, gt, hp, ofV, constT, intT, List.length_map])
      refine WO_want rfl rfl (ev_ii (j := .i64) (k' := .u64) rfl rfl rfl rfl) ?_; simp only [putT, st, ev, gt, hp, ofV, constT, intT, List.length_map]
      iterate 2 (refine WO_want rfl rfl rfl ?_; simp only [putT, st, ev, gt, hp, ofV, constT, intT, List.length_map])
      refine WO_op (x := .c (cB (decide ((IntKind.u64.wrap ((IntKind.u64.wrap (a2)) - (IntKind.u64.wrap (a1)))) < (IntKind.u64.wrap (0 - (IntKind.u64.wrap (a3)))))))) rfl rfl rfl ?_; simp only [putT, st, ev, gt, hp, ofV, constT, intT, List.length_map]
      refine WO_op rfl rfl rfl ?_; simp only [putT, st, ev, gt, hp, ofV, constT, intT, List.length_map]
      refine WO_nil ?_
      refine W_ret ?_
      obtain rfl := Option.some.inj H
      exact told3 rfl
    · replace H := fl hc H
      simp only [putT, st, ev, gt, hp, ofV, constT, intT, List.length_map]
      refine WO_skip rfl rfl ?_; simp only [putT, st, ev, gt, hp, ofV, constT, intT, List.length_map]
      refine WO_skip rfl rfl ?_; simp only [putT, st, ev, gt, hp, ofV, constT, intT, List.length_map]
      refine WO_skip rfl rfl ?_; simp only [putT, st, ev, gt, hp, ofV, constT, intT, List.length_map]
      refine WO_skip rfl rfl ?_; simp only [putT, st, ev, gt, hp, ofV, constT, intT, List.length_map]
      refine WO_skip rfl rfl ?_; simp only [putT, st, ev, gt, hp, ofV, constT, intT, List.length_map]
      refine WO_skip rfl rfl ?_; simp only [putT, st, ev, gt, hp, ofV, constT, intT, List.length_map]
      refine WO_skip rfl rfl ?_; simp only [putT, st, ev, gt, hp, ofV, constT, intT, List.length_map]
      refine WO_skip rfl rfl ?_; simp only [putT, st, ev, gt, hp, ofV, constT, intT, List.length_map]
      refine WO_skip rfl rfl ?_; simp only [putT, st, ev, gt, hp, ofV, constT, intT, List.length_map]
      refine WO_op (x := .c (cB false)) rfl rfl rfl ?_; simp only [putT, st, ev, gt, hp, ofV, constT, intT, List.length_map]
      refine WO_op rfl rfl rfl ?_; simp only [putT, st, ev, gt, hp, ofV, constT, intT, List.length_map]
      refine WO_nil ?_
      refine W_ret ?_
      obtain rfl := Option.some.inj H
      exact told3 rfl
set_option maxRecDepth 20000 in
set_option maxHeartbeats 1000000 in
theorem impl_Slow_ok {a1 : Pace} {a2 : Int} {a3 : Int} {r : Int} (H : impl_Slow a1 a2 a3 = some r) : R 27 [.ag [(cI .i64 a1.Up, none), (cI .i64 a1.Down, none), (cI .i64 a1.UpSpan, none), (cI .i64 a1.DownSpan, none)], .c (cI .i64 a2) none, .c (cI .i64 a3) none] = some (.c (cI .i64 r) none, []) := by
  unfold impl_Slow at H
  refine Fz_walk 38 rfl rfl Try.func27 rfl (by kernel_rfl) rfl rfl rfl rfl ?_
  simp only [tellVs, tellV, tells, tell, st0, padT, SX.newRow, SX.newBox, List.length_cons, List.length_nil, Nat.reduceAdd, Nat.reduceSub, List.replicate, List.cons_append, List.nil_append]
  refine W_seq ?_
  refine W_region ?_
  refine WO_op (x := .bp 0 0) (σ' := ⟨[], [some [.c (cI .i64 a1.Up), .c (cI .i64 a1.Down), .c (cI .i64 a1.UpSpan), .c (cI .i64 a1.DownSpan)]], []⟩) rfl rfl rfl ?_; simp only [putT, st, ev, gt, hp, ofV, constT, intT, List.length_map]
  refine WO_op rfl rfl rfl ?_; simp only [putT, st, ev, gt, hp, ofV, constT, intT, List.length_map]
  refine WO_nil ?_
  refine W_seq ?_
  refine W_block ?_
  refine W_seq ?_
  refine W_region ?_
  refine WO_op (x := .bp 0 0) rfl rfl rfl ?_; simp only [putT, st, ev, gt, hp, ofV, constT, intT, List.length_map]
  refine WO_op (x := .c (cI .i64 a1.Up)) rfl rfl rfl ?_; simp only [putT, st, ev, gt, hp, ofV, constT, intT, List.length_map]
  iterate 2 (refine WO_op rfl rfl rfl ?_; simp only [putT, st, ev, gt, hp, ofV, constT, intT, List.length_map])
  refine WO_if rfl rfl rfl (fun hc => ?_) (fun hc => ?_)
  · replace H := tr hc H
    simp only [putT, st, ev, gt, hp, ofV, constT, intT, List.length_map]
    iterate 2 (refine WO_want rfl rfl rfl ?_; simp only [putT, st, ev, gt, hp, ofV, constT, intT, List.length_map])
    refine WO_want (x := .bp 0 0) rfl rfl rfl ?_; simp only [putT, st, ev, gt, hp, ofV, constT, intT, List.length_map]
    refine WO_want (x := .c (cI .i64 a1.Up)) rfl rfl rfl ?_; simp only [putT, st, ev, gt, hp, ofV, constT, intT, List.length_map]
    obtain ⟨x4, hx4, H⟩ := bnd H
    refine WO_want (x := .c (cB x4)) (σ' := ⟨[], [some [.c (cI .i64 a1.Up), .c (cI .i64 a1.Down), .c (cI .i64 a1.UpSpan), .c (cI .i64 a1.DownSpan)]], []⟩) rfl rfl (ev_callG (al := [.c (cI .i64 a3), .c (cI .i64 a2), .c (cI .i64 a1.Up)]) (ls := []) (impl_beyond_ok hx4) rfl rfl rfl rfl rfl (by decide) rfl rfl rfl rfl rfl rfl) ?_; simp only [putT, st, ev, gt, hp, ofV, constT, intT, List.length_map]
    refine WO_op (x := .c (cB x4)) rfl rfl rfl ?_; simp only [putT, st, ev, gt, hp, ofV, constT, intT, List.length_map]
    refine WO_op rfl rfl rfl ?_; simp only [putT, st, ev, gt, hp, ofV, constT, intT, List.length_map]
    refine WO_nil ?_
    refine W_cond rfl (fun hc => ?_) (fun hc => ?_)
    · replace H := tr hc H
      refine W_seq ?_
      refine W_region ?_
      refine WO_op rfl rfl rfl ?_; simp only [putT, st, ev, gt, hp, ofV, constT, intT, List.length_map]
      refine WO_op (x := .bp 0 0) rfl rfl rfl ?_; simp only [putT, st, ev, gt, hp, ofV, constT, intT, List.length_map]
      refine WO_op (x := .c (cI .i64 a1.Up)) rfl rfl rfl ?_; simp only [putT, st, ev, gt, hp, ofV, constT, intT, List.length_map]
      iterate 2 (refine WO_op rfl rfl rfl ?_; simp only [putT, st, ev, gt, hp, ofV, constT, intT, List.length_map])
      refine WO_nil ?_
      refine W_ret ?_
      obtain rfl := Option.some.inj H
      exact told3 rfl
    · replace H := fl hc H
      refine W_seq ?_
      refine W_region ?_
      refine WO_op (x := .bp 0 1) rfl rfl rfl ?_; simp only [putT, st, ev, gt, hp, ofV, constT, intT, List.length_map]
      refine WO_op (x := .c (cI .i64 a1.Down)) rfl rfl rfl ?_; simp only [putT, st, ev, gt, hp, ofV, constT, intT, List.length_map]
      iterate 2 (refine WO_op rfl rfl rfl ?_; simp only [putT, st, ev, gt, hp, ofV, constT, intT, List.length_map])
      refine WO_if rfl rfl rfl (fun hc => ?_) (fun hc => ?_)
      · replace H := tr hc H
        simp only [putT, st, ev, gt, hp, ofV, constT, intT, List.length_map]
        iterate 2 (refine WO_want rfl rfl rfl ?_; simp only [putT, st, ev, gt, hp, ofV, constT, intT, List.length_map])
        refine WO_want (x := .bp 0 1) rfl rfl rfl ?_; simp only [putT, st, ev, gt, hp, ofV, constT, intT, List.length_map]
        refine WO_want (x := .c (cI .i64 a1.Down)) rfl rfl rfl ?_; simp only [putT, st, ev, gt, hp, ofV, constT, intT, List.length_map]
        obtain ⟨x5, hx5, H⟩ := bnd H
        refine WO_want (x := .c (cB x5)) (σ' := ⟨[], [some [.c (cI .i64 a1.Up), .c (cI .i64 a1.Down), .c (cI .i64 a1.UpSpan), .c (cI .i64 a1.DownSpan)]], []⟩) rfl rfl (ev_callG (al := [.c (cI .i64 a2), .c (cI .i64 a3), .c (cI .i64 a1.Down)]) (ls := []) (impl_beyond_ok hx5) rfl rfl rfl rfl rfl (by decide) rfl rfl rfl rfl rfl rfl) ?_; simp only [putT, st, ev, gt, hp, ofV, constT, intT, List.length_map]
        refine WO_op (x := .c (cB x5)) rfl rfl rfl ?_; simp only [putT, st, ev, gt, hp, ofV, constT, intT, List.length_map]
        refine WO_op rfl rfl rfl ?_; simp only [putT, st, ev, gt, hp, ofV, constT, intT, List.length_map]
        refine WO_nil ?_
        refine W_cond rfl (fun hc => ?_) (fun hc => ?_)
        · replace H := tr hc H
          refine W_seq ?_
          refine W_region ?_
          refine WO_op rfl rfl rfl ?_; simp only [putT, st, ev, gt, hp, ofV, constT, intT, List.length_map]
          refine WO_op (x := .bp 0 1) rfl rfl rfl ?_; simp only [putT, st, ev, gt, hp, ofV, constT, intT, List.length_map]
          refine WO_op (x := .c (cI .i64 a1.Down)) rfl rfl rfl ?_; simp only [putT, st, ev, gt, hp, ofV, constT, intT, List.length_map]
          iterate 2 (refine WO_op rfl rfl rfl ?_; simp only [putT, st, ev, gt, hp, ofV, constT, intT, List.length_map])
          refine WO_nil ?_
          refine W_ret ?_
          obtain rfl := Option.some.inj H
          exact told3 rfl
        · replace H := fl hc H
          refine W_skip ?_
          refine W_seq ?_
          refine W_region ?_
          iterate 2 (refine WO_op rfl rfl rfl ?_; simp only [putT, st, ev, gt, hp, ofV, constT, intT, List.length_map])
          refine WO_nil ?_
          refine W_ret ?_
          obtain rfl := Option.some.inj H
          exact told3 rfl
      · replace H := fl hc H
        simp only [putT, st, ev, gt, hp, ofV, constT, intT, List.length_map]
        refine WO_skip rfl rfl ?_; simp only [putT, st, ev, gt, hp, ofV, constT, intT, List.length_map]
        refine WO_skip rfl rfl ?_; simp only [putT, st, ev, gt, hp, ofV, constT, intT, List.length_map]
        refine WO_skip rfl rfl ?_; simp only [putT, st, ev, gt, hp, ofV, constT, intT, List.length_map]
        refine WO_skip rfl rfl ?_; simp only [putT, st, ev, gt, hp, ofV, constT, intT, List.length_map]
        refine WO_skip rfl rfl ?_; simp only [putT, st, ev, gt, hp, ofV, constT, intT, List.length_map]
        refine WO_op (x := .c (cB false)) rfl rfl rfl ?_; simp only [putT, st, ev, gt, hp, ofV, constT, intT, List.length_map]
        refine WO_op rfl rfl rfl ?_; simp only [putT, st, ev, gt, hp, ofV, constT, intT, List.length_map]
        refine WO_nil ?_
        refine W_cond (t := false) rfl (fun h => by cases h) (fun _ => ?_)
        refine W_skip ?_
        refine W_seq ?_
        refine W_region ?_
        iterate 2 (refine WO_op rfl rfl rfl ?_; simp only [putT, st, ev, gt, hp, ofV, constT, intT, List.length_map])
        refine WO_nil ?_
        refine W_ret ?_
        obtain rfl := Option.some.inj H
        exact told3 rfl
  · replace H := fl hc H
    simp only [putT, st, ev, gt, hp, ofV, constT, intT, List.length_map]
    refine WO_skip rfl rfl ?_; simp only [putT, st, ev, gt, hp, ofV, constT, intT, List.length_map]
    refine WO_skip rfl rfl ?_; simp only [putT, st, ev, gt, hp, ofV, constT, intT, List.length_map]
    refine WO_skip rfl rfl ?_; simp only [putT, st, ev, gt, hp, ofV, constT, intT, List.length_map]
    refine WO_skip rfl rfl ?_; simp only [putT, st, ev, gt, hp, ofV, constT, intT, List.length_map]
    refine WO_skip rfl rfl ?_; simp only [putT, st, ev, gt, hp, ofV, constT, intT, List.length_map]
    refine WO_op (x := .c (cB false)) rfl rfl rfl ?_; simp only [putT, st, ev, gt, hp, ofV, constT, intT, List.length_map]
    refine WO_op rfl rfl rfl ?_; simp only [putT, st, ev, gt, hp, ofV, constT, intT, List.length_map]
    refine WO_nil ?_
    refine W_cond (t := false) rfl (fun h => by cases h) (fun _ => ?_)
    refine W_seq ?_
    refine W_region ?_
    refine WO_op (x := .bp 0 1) rfl rfl rfl ?_; simp only [putT, st, ev, gt, hp, ofV, constT, intT, List.length_map]
    refine WO_op (x := .c (cI .i64 a1.Down)) rfl rfl rfl ?_; simp only [putT, st, ev, gt, hp, ofV, constT, intT, List.length_map]
    iterate 2 (refine WO_op rfl rfl rfl ?_; simp only [putT, st, ev, gt, hp, ofV, constT, intT, List.length_map])
    refine WO_if rfl rfl rfl (fun hc => ?_) (fun hc => ?_)
    · replace H := tr hc H
      simp only [putT, st, ev, gt, hp, ofV, constT, intT, List.length_map]
      iterate 2 (refine WO_want rfl rfl rfl ?_; simp only [putT, st, ev, gt, hp, ofV, constT, intT, List.length_map])
      refine WO_want (x := .bp 0 1) rfl rfl rfl ?_; simp only [putT, st, ev, gt, hp, ofV, constT, intT, List.length_map]
      refine WO_want (x := .c (cI .i64 a1.Down)) rfl rfl rfl ?_; simp only [putT, st, ev, gt, hp, ofV, constT, intT, List.length_map]
      obtain ⟨x6, hx6, H⟩ := bnd H
      refine WO_want (x := .c (cB x6)) (σ' := ⟨[], [some [.c (cI .i64 a1.Up), .c (cI .i64 a1.Down), .c (cI .i64 a1.UpSpan), .c (cI .i64 a1.DownSpan)]], []⟩) rfl rfl (ev_callG (al := [.c (cI .i64 a2), .c (cI .i64 a3), .c (cI .i64 a1.Down)]) (ls := []) (impl_beyond_ok hx6) rfl rfl rfl rfl rfl (by decide) rfl rfl rfl rfl rfl rfl) ?_; simp only [putT, st, ev, gt, hp, ofV, constT, intT, List.length_map]
      refine WO_op (x := .c (cB x6)) rfl rfl rfl ?_; simp only [putT, st, ev, gt, hp, ofV, constT, intT, List.length_map]
      refine WO_op rfl rfl rfl ?_; simp only [putT, st, ev, gt, hp, ofV, constT, intT, List.length_map]
      refine WO_nil ?_
      refine W_cond rfl (fun hc => ?_) (fun hc => ?_)
      · replace H := tr hc H
        refine W_seq ?_
        refine W_region ?_
        refine WO_op rfl rfl rfl ?_; simp only [putT, st, ev, gt, hp, ofV, constT, intT, List.length_map]
        refine WO_op (x := .bp 0 1) rfl rfl rfl ?_; simp only [putT, st, ev, gt, hp, ofV, constT, intT, List.length_map]
        refine WO_op (x := .c (cI .i64 a1.Down)) rfl rfl rfl ?_; simp only [putT, st, ev, gt, hp, ofV, constT, intT, List.length_map]
        iterate 2 (refine WO_op rfl rfl rfl ?_; simp only [putT, st, ev, gt, hp, ofV, constT, intT, List.length_map])
        refine WO_nil ?_
        refine W_ret ?_
        obtain rfl := Option.some.inj H
        exact told3 rfl
      · replace H := fl hc H
        refine W_skip ?_
        refine W_seq ?_
        refine W_region ?_
        iterate 2 (refine WO_op rfl rfl rfl ?_; simp only [putT, st, ev, gt, hp, ofV, constT, intT, List.length_map])
        refine WO_nil ?_
        refine W_ret ?_
        obtain rfl := Option.some.inj H
        exact told3 rfl
    · replace H := fl hc H
      simp only [putT, st, ev, gt, hp, ofV, constT, intT, List.length_map]
      refine WO_skip rfl rfl ?_; simp only [putT, st, ev, gt, hp, ofV, constT, intT, List.length_map]
      refine WO_skip rfl rfl ?_; simp only [putT, st, ev, gt, hp, ofV, constT, intT, List.length_map]
      refine WO_skip rfl rfl ?_; simp only [putT, st, ev, gt, hp, ofV, constT, intT, List.length_map]
      refine WO_skip rfl rfl ?_; simp only [putT, st, ev, gt, hp, ofV, constT, intT, List.length_map]
      refine WO_skip rfl rfl ?_; simp only [putT, st, ev, gt, hp, ofV, constT, intT, List.length_map]
      refine WO_op (x := .c (cB false)) rfl rfl rfl ?_; simp only [putT, st, ev, gt, hp, ofV, constT, intT, List.length_map]
      refine WO_op rfl rfl rfl ?_; simp only [putT, st, ev, gt, hp, ofV, constT, intT, List.length_map]
      refine WO_nil ?_
      refine W_cond (t := false) rfl (fun h => by cases h) (fun _ => ?_)
      refine W_skip ?_
      refine W_seq ?_
      refine W_region ?_
      iterate 2 (refine WO_op rfl rfl rfl ?_; simp only [putT, st, ev, gt, hp, ofV, constT, intT, List.length_map])
      refine WO_nil ?_
      refine W_ret ?_
      obtain rfl := Option.some.inj H
      exact told3 rfl
set_option maxRecDepth 20000 in
set_option maxHeartbeats 1000000 in
theorem spec_Slow_ok {a1 : Pace} {a2 : Int} {a3 : Int} {r : Int} (H : spec_Slow a1 a2 a3 = some r) : R 28 [.ag [(cI .i64 a1.Up, none), (cI .i64 a1.Down, none), (cI .i64 a1.UpSpan, none), (cI .i64 a1.DownSpan, none)], .c (cI .i64 a2) none, .c (cI .i64 a3) none] = some (.c (cI .i64 r) none, []) := by
  unfold spec_Slow at H
  refine Fz_walk 60 rfl rfl Try.func28 rfl (by kernel_rfl) rfl rfl rfl rfl ?_
  simp only [tellVs, tellV, tells, tell, st0, padT, SX.newRow, SX.newBox, List.length_cons, List.length_nil, Nat.reduceAdd, Nat.reduceSub, List.replicate, List.cons_append, List.nil_append]
  refine W_seq ?_
  refine W_region ?_
  refine WO_op (x := .bp 0 0) (σ' := ⟨[], [some [.c (cI .i64 a1.Up), .c (cI .i64 a1.Down), .c (cI .i64 a1.UpSpan), .c (cI .i64 a1.DownSpan)]], []⟩) rfl rfl rfl ?_; simp only [putT, st, ev, gt, hp, ofV, constT, intT, List.length_map]
  refine WO_op rfl rfl rfl ?_; simp only [putT, st, ev, gt, hp, ofV, constT, intT, List.length_map]
  refine WO_nil ?_
  refine W_seq ?_
  refine W_seq ?_
  refine W_region ?_
  refine WO_op (x := .bp 0 0) rfl rfl rfl ?_; simp only [putT, st, ev, gt, hp, ofV, constT, intT, List.length_map]
  refine WO_op (x := .c (cI .i64 a1.Up)) rfl rfl rfl ?_; simp only [putT, st, ev, gt, hp, ofV, constT, intT, List.length_map]
  iterate 2 (refine WO_op rfl rfl rfl ?_; simp only [putT, st, ev, gt, hp, ofV, constT, intT, List.length_map])
  refine WO_if rfl rfl rfl (fun hc => ?_) (fun hc => ?_)
  · replace H := tr hc H
    simp only [putT, st, ev, gt, hp, ofV, constT, intT, List.length_map]
    iterate 3 (refine WO_want rfl rfl rfl ?_; simp only [putT, st, ev, gt, hp, ofV, constT, intT, List.length_map])
    refine WO_op (x := .c (cB (decide (a3 > a2)))) rfl rfl rfl ?_; simp only [putT, st, ev, gt, hp, ofV, constT, intT, List.length_map]
    refine WO_op rfl rfl rfl ?_; simp only [putT, st, ev, gt, hp, ofV, constT, intT, List.length_map]
    refine WO_if rfl rfl rfl (fun hc => ?_) (fun hc => ?_)
    · replace H := tr hc H
      simp only [putT, st, ev, gt, hp, ofV, constT, intT, List.length_map]
      iterate 3 (refine WO_want rfl rfl rfl ?_; simp only [putT, st, ev, gt, hp, ofV, constT, intT, List.length_map])
      refine WO_want (x := .bp 0 0) rfl rfl rfl ?_; simp only [putT, st, ev, gt, hp, ofV, constT, intT, List.length_map]
      refine WO_want (x := .c (cI .i64 a1.Up)) rfl rfl rfl ?_; simp only [putT, st, ev, gt, hp, ofV, constT, intT, List.length_map]
      iterate 2 (refine WO_want rfl rfl rfl ?_; simp only [putT, st, ev, gt, hp, ofV, constT, intT, List.length_map])
      refine WO_if rfl rfl rfl (fun hc => ?_) (fun hc => ?_)
      · replace H := tr hc H
        simp only [putT, st, ev, gt, hp, ofV, constT, intT, List.length_map]
        refine WO_skip rfl rfl ?_; simp only [putT, st, ev, gt, hp, ofV, constT, intT, List.length_map]
        refine WO_skip rfl rfl ?_; simp only [putT, st, ev, gt, hp, ofV, constT, intT, List.length_map]
        refine WO_skip rfl rfl ?_; simp only [putT, st, ev, gt, hp, ofV, constT, intT, List.length_map]
        refine WO_skip rfl rfl ?_; simp only [putT, st, ev, gt, hp, ofV, constT, intT, List.length_map]
        refine WO_want (x := .c (cB true)) rfl rfl rfl ?_; simp only [putT, st, ev, gt, hp, ofV, constT, intT, List.length_map]
        refine WO_op (x := .c (cB true)) rfl rfl rfl ?_; simp only [putT, st, ev, gt, hp, ofV, constT, intT, List.length_map]
        refine WO_nil ?_
        refine W_cond (t := true) rfl (fun _ => ?_) (fun h => by cases h)
        refine W_seq ?_
        refine W_region ?_
        refine WO_op rfl rfl rfl ?_; simp only [putT, st, ev, gt, hp, ofV, constT, intT, List.length_map]
        refine WO_op (x := .bp 0 0) rfl rfl rfl ?_; simp only [putT, st, ev, gt, hp, ofV, constT, intT, List.length_map]
        refine WO_op (x := .c (cI .i64 a1.Up)) rfl rfl rfl ?_; simp only [putT, st, ev, gt, hp, ofV, constT, intT, List.length_map]
        iterate 2 (refine WO_op rfl rfl rfl ?_; simp only [putT, st, ev, gt, hp, ofV, constT, intT, List.length_map])
        refine WO_nil ?_
        refine W_ret ?_
        obtain rfl := Option.some.inj H
        exact told3 rfl
      · replace H := fl hc H
        simp only [putT, st, ev, gt, hp, ofV, constT, intT, List.length_map]
        iterate 4 (refine WO_want rfl rfl rfl ?_; simp only [putT, st, ev, gt, hp, ofV, constT, intT, List.length_map])
        refine WO_want (x := .c (cB (decide ((IntKind.i64.wrap (a3 - a2)) < 0)))) rfl rfl rfl ?_; simp only [putT, st, ev, gt, hp, ofV, constT, intT, List.length_map]
        refine WO_op (x := .c (cB (decide ((IntKind.i64.wrap (a3 - a2)) < 0)))) rfl rfl rfl ?_; simp only [putT, st, ev, gt, hp, ofV, constT, intT, List.length_map]
        refine WO_nil ?_
        refine W_cond rfl (fun hc => ?_) (fun hc => ?_)
        · replace H := tr hc H
          refine W_seq ?_
          refine W_region ?_
          refine WO_op rfl rfl rfl ?_; simp only [putT, st, ev, gt, hp, ofV, constT, intT, List.length_map]
          refine WO_op (x := .bp 0 0) rfl rfl rfl ?_; simp only [putT, st, ev, gt, hp, ofV, constT, intT, List.length_map]
          refine WO_op (x := .c (cI .i64 a1.Up)) rfl rfl rfl ?_; simp only [putT, st, ev, gt, hp, ofV, constT, intT, List.length_map]
          iterate 2 (refine WO_op rfl rfl rfl ?_; simp only [putT, st, ev, gt, hp, ofV, constT, intT, List.length_map])
          refine WO_nil ?_
          refine W_ret ?_
          obtain rfl := Option.some.inj H
          exact told3 rfl
        · replace H := fl hc H
          refine W_skip ?_
          refine W_seq ?_
          refine W_seq ?_
          refine W_region ?_
          refine WO_op (x := .bp 0 1) rfl rfl rfl ?_; simp only [putT, st, ev, gt, hp, ofV, constT, intT, List.length_map]
          refine WO_op (x := .c (cI .i64 a1.Down)) rfl rfl rfl ?_; simp only [putT, st, ev, gt, hp, ofV, constT, intT, List.length_map]
          iterate 2 (refine WO_op rfl rfl rfl ?_; simp only [putT, st, ev, gt, hp, ofV, constT, intT, List.length_map])
          refine WO_if rfl rfl rfl (fun hc => ?_) (fun hc => ?_)
          · replace H := tr hc H
            simp only [putT, st, ev, gt, hp, ofV, constT, intT, List.length_map]
            iterate 3 (refine WO_want rfl rfl rfl ?_; simp only [putT, st, ev, gt, hp, ofV, constT, intT, List.length_map])
            refine WO_op (x := .c (cB (decide (a3 < a2)))) rfl rfl rfl ?_; simp only [putT, st, ev, gt, hp, ofV, constT, intT, List.length_map]
            refine WO_op rfl rfl rfl ?_; simp only [putT, st, ev, gt, hp, ofV, constT, intT, List.length_map]
            refine WO_if rfl rfl rfl (fun hc => ?_) (fun hc => ?_)
            · replace H := tr hc H
              simp only [putT, st, ev, gt, hp, ofV, constT, intT, List.length_map]
              iterate 3 (refine WO_want rfl rfl rfl ?_; simp only [putT, st, ev, gt, hp, ofV, constT, intT, List.length_map])
              refine WO_want (x := .bp 0 1) rfl rfl rfl ?_; simp only [putT, st, ev, gt, hp, ofV, constT, intT, List.length_map]
              refine WO_want (x := .c (cI .i64 a1.Down)) rfl rfl rfl ?_; simp only [putT, st, ev, gt, hp, ofV, constT, intT, List.length_map]
              iterate 2 (refine WO_want rfl rfl rfl ?_; simp only [putT, st, ev, gt, hp, ofV, constT, intT, List.length_map])
              refine WO_if rfl rfl rfl (fun hc => ?_) (fun hc => ?_)
              · replace H := tr hc H
                simp only [putT, st, ev, gt, hp, ofV, constT, intT, List.length_map]
                refine WO_skip rfl rfl ?_; simp only [putT, st, ev, gt, hp, ofV, constT, intT, List.length_map]
                refine WO_skip rfl rfl ?_; simp only [putT, st, ev, gt, hp, ofV, constT, intT, List.length_map]
                refine WO_skip rfl rfl ?_; simp only [putT, st, ev, gt, hp, ofV, constT, intT, List.length_map]
                refine WO_skip rfl rfl ?_; simp only [putT, st, ev, gt, hp, ofV, constT, intT, List.length_map]
                refine WO_want (x := .c (cB true)) rfl rfl rfl ?_; simp only [putT, st, ev, gt, hp, ofV, constT, intT, List.length_map]
                refine WO_op (x := .c (cB true)) rfl rfl rfl ?_; simp only [putT, st, ev, gt, hp, ofV, constT, intT, List.length_map]
                refine WO_nil ?_
                refine W_cond (t := true) rfl (fun _ => ?_) (fun h => by cases h)
                refine W_seq ?_
                refine W_region ?_
                refine WO_op rfl rfl rfl ?_; simp only [putT, st, ev, gt, hp, ofV, constT, intT, List.length_map]
                refine WO_op (x := .bp 0 1) rfl rfl rfl ?_; simp only [putT, st, ev, gt, hp, ofV, constT, intT, List.length_map]
                refine WO_op (x := .c (cI .i64 a1.Down)) rfl rfl rfl ?_; simp only [putT, st, ev, gt, hp, ofV, constT, intT, List.length_map]
                iterate 2 (refine WO_op rfl rfl rfl ?_; simp only [putT, st, ev, gt, hp, ofV, constT, intT, List.length_map])
                refine WO_nil ?_
                refine W_ret ?_
                obtain rfl := Option.some.inj H
                exact told3 rfl
              · replace H := fl hc H
                simp only [putT, st, ev, gt, hp, ofV, constT, intT, List.length_map]
                iterate 4 (refine WO_want rfl rfl rfl ?_; simp only [putT, st, ev, gt, hp, ofV, constT, intT, List.length_map])
                refine WO_want (x := .c (cB (decide ((IntKind.i64.wrap (a2 - a3)) < 0)))) rfl rfl rfl ?_; simp only [putT, st, ev, gt, hp, ofV, constT, intT, List.length_map]
                refine WO_op (x := .c (cB (decide ((IntKind.i64.wrap (a2 - a3)) < 0)))) rfl rfl rfl ?_; simp only [putT, st, ev, gt, hp, ofV, constT, intT, List.length_map]
                refine WO_nil ?_
                refine W_cond rfl (fun hc => ?_) (fun hc => ?_)
                · replace H := tr hc H
                  refine W_seq ?_
                  refine W_region ?_
                  refine WO_op rfl rfl rfl ?_; simp only [putT, st, ev, gt, hp, ofV, constT, intT, List.length_map]
                  refine WO_op (x := .bp 0 1) rfl rfl rfl ?_; simp only [putT, st, ev, gt, hp, ofV, constT, intT, List.length_map]
                  refine WO_op (x := .c (cI .i64 a1.Down)) rfl rfl rfl ?_; simp only [putT, st, ev, gt, hp, ofV, constT, intT, List.length_map]
                  iterate 2 (refine WO_op rfl rfl rfl ?_; simp only [putT, st, ev, gt, hp, ofV, constT, intT, List.length_map])
                  refine WO_nil ?_
                  refine W_ret ?_
                  obtain rfl := Option.some.inj H
                  exact told3 rfl
                · replace H := fl hc H
                  refine W_skip ?_
                  refine W_seq ?_
                  refine W_region ?_
                  iterate 2 (refine WO_op rfl rfl rfl ?_; simp only [putT, st, ev, gt, hp, ofV, constT, intT, List.length_map])
                  refine WO_nil ?_
                  refine W_ret ?_
                  obtain rfl := Option.some.inj H
                  exact told3 rfl
            · replace H := fl hc H
              simp only [putT, st, ev, gt, hp, ofV, constT, intT, List.length_map]
              refine WO_skip rfl rfl ?_; simp only [putT, st, ev, gt, hp, ofV, constT, intT, List.length_map]
              refine WO_skip rfl rfl ?_; simp only [putT, st, ev, gt, hp, ofV, constT, intT, List.length_map]
              refine WO_skip rfl rfl ?_; simp only [putT, st, ev, gt, hp, ofV, constT, intT, List.length_map]
              refine WO_skip rfl rfl ?_; simp only [putT, st, ev, gt, hp, ofV, constT, intT, List.length_map]
              refine WO_skip rfl rfl ?_; simp only [putT, st, ev, gt, hp, ofV, constT, intT, List.length_map]
              refine WO_skip rfl rfl ?_; simp only [putT, st, ev, gt, hp, ofV, constT, intT, List.length_map]
              refine WO_skip rfl rfl ?_; simp only [putT, st, ev, gt, hp, ofV, constT, intT, List.length_map]
              refine WO_skip rfl rfl ?_; simp only [putT, st, ev, gt, hp, ofV, constT, intT, List.length_map]
              refine WO_skip rfl rfl ?_; simp only [putT, st, ev, gt, hp, ofV, constT, intT, List.length_map]
              refine WO_skip rfl rfl ?_; simp only [putT, st, ev, gt, hp, ofV, constT, intT, List.length_map]
              refine WO_skip rfl rfl ?_; simp only [putT, st, ev, gt, hp, ofV, constT, intT, List.length_map]
              refine WO_skip rfl rfl ?_; simp only [putT, st, ev, gt, hp, ofV, constT, intT, List.length_map]
              refine WO_op (x := .c (cB false)) rfl rfl rfl ?_; simp only [putT, st, ev, gt, hp, ofV, constT, intT, List.length_map]
              refine WO_nil ?_
              refine W_cond (t := false) rfl (fun h => by cases h) (fun _ => ?_)
              refine W_skip ?_
              refine W_seq ?_
              refine W_region ?_
              iterate 2 (refine WO_op rfl rfl rfl ?_; simp only [putT, st, ev, gt, hp, ofV, constT, intT, List.length_map])
              refine WO_nil ?_
              refine W_ret ?_
              obtain rfl := Option.some.inj H
              exact told3 rfl
          · replace H := fl hc H
            simp only [putT, st, ev, gt, hp, ofV, constT, intT, List.length_map]
            refine WO_skip rfl rfl ?_; simp only [putT, st, ev, gt, hp, ofV, constT, intT, List.length_map]
            refine WO_skip rfl rfl ?_; simp only [putT, st, ev, gt, hp, ofV, constT, intT, List.length_map]
            refine WO_skip rfl rfl ?_; simp only [putT, st, ev, gt, hp, ofV, constT, intT, List.length_map]
            refine WO_op (x := .c (cB false)) rfl rfl rfl ?_; simp only [putT, st, ev, gt, hp, ofV, constT, intT, List.length_map]
            refine WO_op rfl rfl rfl ?_; simp only [putT, st, ev, gt, hp, ofV, constT, intT, List.length_map]
            refine WO_skip rfl rfl ?_; simp only [putT, st, ev, gt, hp, ofV, constT, intT, List.length_map]
            refine WO_skip rfl rfl ?_; simp only [putT, st, ev, gt, hp, ofV, constT, intT, List.length_map]
            refine WO_skip rfl rfl ?_; simp only [putT, st, ev, gt, hp, ofV, constT, intT, List.length_map]
            refine WO_skip rfl rfl ?_; simp only [putT, st, ev, gt, hp, ofV, constT, intT, List.length_map]
            refine WO_skip rfl rfl ?_; simp only [putT, st, ev, gt, hp, ofV, constT, intT, List.length_map]
            refine WO_skip rfl rfl ?_; simp only [putT, st, ev, gt, hp, ofV, constT, intT, List.length_map]
            refine WO_skip rfl rfl ?_; simp only [putT, st, ev, gt, hp, ofV, constT, intT, List.length_map]
            refine WO_skip rfl rfl ?_; simp only [putT, st, ev, gt, hp, ofV, constT, intT, List.length_map]
            refine WO_skip rfl rfl ?_; simp only [putT, st, ev, gt, hp, ofV, constT, intT, List.length_map]
            refine WO_skip rfl rfl ?_; simp only [putT, st, ev, gt, hp, ofV, constT, intT, List.length_map]
            refine WO_skip rfl rfl ?_; simp only [putT, st, ev, gt, hp, ofV, constT, intT, List.length_map]
            refine WO_skip rfl rfl ?_; simp only [putT, st, ev, gt, hp, ofV, constT, intT, List.length_map]
            refine WO_op (x := .c (cB false)) rfl rfl rfl ?_; simp only [putT, st, ev, gt, hp, ofV, constT, intT, List.length_map]
            refine WO_nil ?_
            refine W_cond (t := false) rfl (fun h => by cases h) (fun _ => ?_)
            refine W_skip ?_
            refine W_seq ?_
            refine W_region ?_
            iterate 2 (refine WO_op rfl rfl rfl ?_; simp only [putT, st, ev, gt, hp, ofV, constT, intT, List.length_map])
            refine WO_nil ?_
            refine W_ret ?_
            obtain rfl := Option.some.inj H
            exact told3 rfl
    · replace H := fl hc H
      simp only [putT, st, ev, gt, hp, ofV, constT, intT, List.length_map]
      refine WO_skip rfl rfl ?_; simp only [putT, st, ev, gt, hp, ofV, constT, intT, List.length_map]
      refine WO_skip rfl rfl ?_; simp only [putT, st, ev, gt, hp, ofV, constT, intT, List.length_map]
      refine WO_skip rfl rfl ?_; simp only [putT, st, ev, gt, hp, ofV, constT, intT, List.length_map]
      refine WO_skip rfl rfl ?_; simp only [putT, st, ev, gt, hp, ofV, constT, intT, List.length_map]
      refine WO_skip rfl rfl ?_; simp only [putT, st, ev, gt, hp, ofV, constT, intT, List.length_map]
      refine WO_skip rfl rfl ?_; simp only [putT, st, ev, gt, hp, ofV, constT, intT, List.length_map]
      refine WO_skip rfl rfl ?_; simp only [putT, st, ev, gt, hp, ofV, constT, intT, List.length_map]
      refine WO_skip rfl rfl ?_; simp only [putT, st, ev, gt, hp, ofV, constT, intT, List.length_map]
      refine WO_skip rfl rfl ?_; simp only [putT, st, ev, gt, hp, ofV, constT, intT, List.length_map]
      refine WO_skip rfl rfl ?_; simp only [putT, st, ev, gt, hp, ofV, constT, intT, List.length_map]
      refine WO_skip rfl rfl ?_; simp only [putT, st, ev, gt, hp, ofV, constT, intT, List.length_map]
      refine WO_skip rfl rfl ?_; simp only [putT, st, ev, gt, hp, ofV, constT, intT, List.length_map]
      refine WO_op (x := .c (cB false)) rfl rfl rfl ?_; simp only [putT, st, ev, gt, hp, ofV, constT, intT, List.length_map]
      refine WO_nil ?_
      refine W_cond (t := false) rfl (fun h => by cases h) (fun _ => ?_)
      refine W_skip ?_
      refine W_seq ?_
      refine W_seq ?_
      refine W_region ?_
      refine WO_op (x := .bp 0 1) rfl rfl rfl ?_; simp only [putT, st, ev, gt, hp, ofV, constT, intT, List.length_map]
      refine WO_op (x := .c (cI .i64 a1.Down)) rfl rfl rfl ?_; simp only [putT, st, ev, gt, hp, ofV, constT, intT, List.length_map]
      iterate 2 (refine WO_op rfl rfl rfl ?_; simp only [putT, st, ev, gt, hp, ofV, constT, intT, List.length_map])
      refine WO_if rfl rfl rfl (fun hc => ?_) (fun hc => ?_)
      · replace H := tr hc H
        simp only [putT, st, ev, gt, hp, ofV, constT, intT, List.length_map]
        iterate 3 (refine WO_want rfl rfl rfl ?_; simp only [putT, st, ev, gt, hp, ofV, constT, intT, List.length_map])
        refine WO_op (x := .c (cB (decide (a3 < a2)))) rfl rfl rfl ?_; simp only [putT, st, ev, gt, hp, ofV, constT, intT, List.length_map]
        refine WO_op rfl rfl rfl ?_; simp only [putT, st, ev, gt, hp, ofV, constT, intT, List.length_map]
        refine WO_if rfl rfl rfl (fun hc => ?_) (fun hc => ?_)
        · replace H := tr hc H
          simp only [putT, st, ev, gt, hp, ofV, constT, intT, List.length_map]
          iterate 3 (refine WO_want rfl rfl rfl ?_; simp only [putT, st, ev, gt, hp, ofV, constT, intT, List.length_map])
          refine WO_want (x := .bp 0 1) rfl rfl rfl ?_; simp only [putT, st, ev, gt, hp, ofV, constT, intT, List.length_map]
          refine WO_want (x := .c (cI .i64 a1.Down)) rfl rfl rfl ?_; simp only [putT, st, ev, gt, hp, ofV, constT, intT, List.length_map]
          iterate 2 (refine WO_want rfl rfl rfl ?_; simp only [putT, st, ev, gt, hp, ofV, constT, intT, List.length_map])
          refine WO_if rfl rfl rfl (fun hc => ?_) (fun hc => ?_)
          · replace H := tr hc H
            simp only [putT, st, ev, gt, hp, ofV, constT, intT, List.length_map]
            refine WO_skip rfl rfl ?_; simp only [putT, st, ev, gt, hp, ofV, constT, intT, List.length_map]
            refine WO_skip rfl rfl ?_; simp only [putT, st, ev, gt, hp, ofV, constT, intT, List.length_map]
            refine WO_skip rfl rfl ?_; simp only [putT, st, ev, gt, hp, ofV, constT, intT, List.length_map]
            refine WO_skip rfl rfl ?_; simp only [putT, st, ev, gt, hp, ofV, constT, intT, List.length_map]
            refine WO_want (x := .c (cB true)) rfl rfl rfl ?_; simp only [putT, st, ev, gt, hp, ofV, constT, intT, List.length_map]
            refine WO_op (x := .c (cB true)) rfl rfl rfl ?_; simp only [putT, st, ev, gt, hp, ofV, constT, intT, List.length_map]
            refine WO_nil ?_
            refine W_cond (t := true) rfl (fun _ => ?_) (fun h => by cases h)
            refine W_seq ?_
            refine W_region ?_
            refine WO_op rfl rfl rfl ?_; simp only [putT, st, ev, gt, hp, ofV, constT, intT, List.length_map]
            refine WO_op (x := .bp 0 1) rfl rfl rfl ?_; simp only [putT, st, ev, gt, hp, ofV, constT, intT, List.length_map]
            refine WO_op (x := .c (cI .i64 a1.Down)) rfl rfl rfl ?_; simp only [putT, st, ev, gt, hp, ofV, constT, intT, List.length_map]
            iterate 2 (refine WO_op rfl rfl rfl ?_; simp only [putT, st, ev, gt, hp, ofV, constT, intT, List.length_map])
            refine WO_nil ?_
            refine W_ret ?_
            obtain rfl := Option.some.inj H
            exact told3 rfl
          · replace H := fl hc H
            simp only [putT, st, ev, gt, hp, ofV, constT, intT, List.length_map]
            iterate 4 (refine WO_want rfl rfl rfl ?_; simp only [putT, st, ev, gt, hp, ofV, constT, intT, List.length_map])
            refine WO_want (x := .c (cB (decide ((IntKind.i64.wrap (a2 - a3)) < 0)))) rfl rfl rfl ?_; simp only [putT, st, ev, gt, hp, ofV, constT, intT, List.length_map]
            refine WO_op (x := .c (cB (decide ((IntKind.i64.wrap (a2 - a3)) < 0)))) rfl rfl rfl ?_; simp only [putT, st, ev, gt, hp, ofV, constT, intT, List.length_map]
            refine WO_nil ?_
            refine W_cond rfl (fun hc => ?_) (fun hc => ?_)
            · replace H := tr hc H
              refine W_seq ?_
              refine W_region ?_
              refine WO_op rfl rfl rfl ?_; simp only [putT, st, ev, gt, hp, ofV, constT, intT, List.length_map]
              refine WO_op (x := .bp 0 1) rfl rfl rfl ?_; simp only [putT, st, ev, gt, hp, ofV, constT, intT, List.length_map]
              refine WO_op (x := .c (cI .i64 a1.Down)) rfl rfl rfl ?_; simp only [putT, st, ev, gt, hp, ofV, constT, intT, List.length_map]
              iterate 2 (refine WO_op rfl rfl rfl ?_; simp only [putT, st, ev, gt, hp, ofV, constT, intT, List.length_map])
              refine WO_nil ?_
              refine W_ret ?_
              obtain rfl := Option.some.inj H
              exact told3 rfl
            · replace H := fl hc H
              refine W_skip ?_
              refine W_seq ?_
              refine W_region ?_
              iterate 2 (refine WO_op rfl rfl rfl ?_; simp only [putT, st, ev, gt, hp, ofV, constT, intT, List.length_map])
              refine WO_nil ?_
              refine W_ret ?_
              obtain rfl := Option.some.inj H
              exact told3 rfl
        · replace H := fl hc H
          simp only [putT, st, ev, gt, hp, ofV, constT, intT, List.length_map]
          refine WO_skip rfl rfl ?_; simp only [putT, st, ev, gt, hp, ofV, constT, intT, List.length_map]
          refine WO_skip rfl rfl ?_; simp only [putT, st, ev, gt, hp, ofV, constT, intT, List.length_map]
          refine WO_skip rfl rfl ?_; simp only [putT, st, ev, gt, hp, ofV, constT, intT, List.length_map]
          refine WO_skip rfl rfl ?_; simp only [putT, st, ev, gt, hp, ofV, constT, intT, List.length_map]
          refine WO_skip rfl rfl ?_; simp only [putT, st, ev, gt, hp, ofV, constT, intT, List.length_map]
          refine WO_skip rfl rfl ?_; simp only [putT, st, ev, gt, hp, ofV, constT, intT, List.length_map]
          refine WO_skip rfl rfl ?_; simp only [putT, st, ev, gt, hp, ofV, constT, intT, List.length_map]
          refine WO_skip rfl rfl ?_; simp only [putT, st, ev, gt, hp, ofV, constT, intT, List.length_map]
          refine WO_skip rfl rfl ?_; simp only [putT, st, ev, gt, hp, ofV, constT, intT, List.length_map]
          refine WO_skip rfl rfl ?_; simp only [putT, st, ev, gt, hp, ofV, constT, intT, List.length_map]
          refine WO_skip rfl rfl ?_; simp only [putT, st, ev, gt, hp, ofV, constT, intT, List.length_map]
          refine WO_skip rfl rfl ?_; simp only [putT, st, ev, gt, hp, ofV, constT, intT, List.length_map]
          refine WO_op (x := .c (cB false)) rfl rfl rfl ?_; simp only [putT, st, ev, gt, hp, ofV, constT, intT, List.length_map]
          refine WO_nil ?_
          refine W_cond (t := false) rfl (fun h => by cases h) (fun _ => ?_)
          refine W_skip ?_
          refine W_seq ?_
          refine W_region ?_
          iterate 2 (refine WO_op rfl rfl rfl ?_; simp only [putT, st, ev, gt, hp, ofV, constT, intT, List.length_map])
          refine WO_nil ?_
          refine W_ret ?_
          obtain rfl := Option.some.inj H
          exact told3 rfl
      · replace H := fl hc H
        simp only [putT, st, ev, gt, hp, ofV, constT, intT, List.length_map]
        refine WO_skip rfl rfl ?_; simp only [putT, st, ev, gt, hp, ofV, constT, intT, List.length_map]
        refine WO_skip rfl rfl ?_; simp only [putT, st, ev, gt, hp, ofV, constT, intT, List.length_map]
        refine WO_skip rfl rfl ?_; simp only [putT, st, ev, gt, hp, ofV, constT, intT, List.length_map]
        refine WO_op (x := .c (cB false)) rfl rfl rfl ?_; simp only [putT, st, ev, gt, hp, ofV, constT, intT, List.length_map]
        refine WO_op rfl rfl rfl ?_; simp only [putT, st, ev, gt, hp, ofV, constT, intT, List.length_map]
        refine WO_skip rfl rfl ?_; simp only [putT, st, ev, gt, hp, ofV, constT, intT, List.length_map]
        refine WO_skip rfl rfl ?_; simp only [putT, st, ev, gt, hp, ofV, constT, intT, List.length_map]
        refine WO_skip rfl rfl ?_; simp only [putT, st, ev, gt, hp, ofV, constT, intT, List.length_map]
        refine WO_skip rfl rfl ?_; simp only [putT, st, ev, gt, hp, ofV, constT, intT, List.length_map]
        refine WO_skip rfl rfl ?_; simp only [putT, st, ev, gt, hp, ofV, constT, intT, List.length_map]
        refine WO_skip rfl rfl ?_; simp only [putT, st, ev, gt, hp, ofV, constT, intT, List.length_map]
        refine WO_skip rfl rfl ?_; simp only [putT, st, ev, gt, hp, ofV, constT, intT, List.length_map]
        refine WO_skip rfl rfl ?_; simp only [putT, st, ev, gt, hp, ofV, constT, intT, List.length_map]
        refine WO_skip rfl rfl ?_; simp only [putT, st, ev, gt, hp, ofV, constT, intT, List.length_map]
        refine WO_skip rfl rfl ?_; simp only [putT, st, ev, gt, hp, ofV, constT, intT, List.length_map]
        refine WO_skip rfl rfl ?_; simp only [putT, st, ev, gt, hp, ofV, constT, intT, List.length_map]
        refine WO_skip rfl rfl ?_; simp only [putT, st, ev, gt, hp, ofV, constT, intT, List.length_map]
        refine WO_op (x := .c (cB false)) rfl rfl rfl ?_; simp only [putT, st, ev, gt, hp, ofV, constT, intT, List.length_map]
        refine WO_nil ?_
        refine W_cond (t := false) rfl (fun h => by cases h) (fun _ => ?_)
        refine W_skip ?_
        refine W_seq ?_
        refine W_region ?_
        iterate 2 (refine WO_op rfl rfl rfl ?_; simp only [putT, st, ev, gt, hp, ofV, constT, intT, List.length_map])
        refine WO_nil ?_
        refine W_ret ?_
        obtain rfl := Option.some.inj H
        exact told3 rfl
  · replace H := fl hc H
    simp only [putT, st, ev, gt, hp, ofV, constT, intT, List.length_map]
    refine WO_skip rfl rfl ?_; simp only [putT, st, ev, gt, hp, ofV, constT, intT, List.length_map]
    refine WO_skip rfl rfl ?_; simp only [putT, st, ev, gt, hp, ofV, constT, intT, List.length_map]
    refine WO_skip rfl rfl ?_; simp only [putT, st, ev, gt, hp, ofV, constT, intT, List.length_map]
    refine WO_op (x := .c (cB false)) rfl rfl rfl ?_; simp only [putT, st, ev, gt, hp, ofV, constT, intT, List.length_map]
    refine WO_op rfl rfl rfl ?_; simp only [putT, st, ev, gt, hp, ofV, constT, intT, List.length_map]
    refine WO_skip rfl rfl ?_; simp only [putT, st, ev, gt, hp, ofV, constT, intT, List.length_map]
    refine WO_skip rfl rfl ?_; simp only [putT, st, ev, gt, hp, ofV, constT, intT, List.length_map]
    refine WO_skip rfl rfl ?_; simp only [putT, st, ev, gt, hp, ofV, constT, intT, List.length_map]
    refine WO_skip rfl rfl ?_; simp only [putT, st, ev, gt, hp, ofV, constT, intT, List.length_map]
    refine WO_skip rfl rfl ?_; simp only [putT, st, ev, gt, hp, ofV, constT, intT, List.length_map]
    refine WO_skip rfl rfl ?_; simp only [putT, st, ev, gt, hp, ofV, constT, intT, List.length_map]
    refine WO_skip rfl rfl ?_; simp only [putT, st, ev, gt, hp, ofV, constT, intT, List.length_map]
    refine WO_skip rfl rfl ?_; simp only [putT, st, ev, gt, hp, ofV, constT, intT, List.length_map]
    refine WO_skip rfl rfl ?_; simp only [putT, st, ev, gt, hp, ofV, constT, intT, List.length_map]
    refine WO_skip rfl rfl ?_; simp only [putT, st, ev, gt, hp, ofV, constT, intT, List.length_map]
    refine WO_skip rfl rfl ?_; simp only [putT, st, ev, gt, hp, ofV, constT, intT, List.length_map]
    refine WO_skip rfl rfl ?_; simp only [putT, st, ev, gt, hp, ofV, constT, intT, List.length_map]
    refine WO_op (x := .c (cB false)) rfl rfl rfl ?_; simp only [putT, st, ev, gt, hp, ofV, constT, intT, List.length_map]
    refine WO_nil ?_
    refine W_cond (t := false) rfl (fun h => by cases h) (fun _ => ?_)
    refine W_skip ?_
    refine W_seq ?_
    refine W_seq ?_
    refine W_region ?_
    refine WO_op (x := .bp 0 1) rfl rfl rfl ?_; simp only [putT, st, ev, gt, hp, ofV, constT, intT, List.length_map]
    refine WO_op (x := .c (cI .i64 a1.Down)) rfl rfl rfl ?_; simp only [putT, st, ev, gt, hp, ofV, constT, intT, List.length_map]
    iterate 2 (refine WO_op rfl rfl rfl ?_; simp only [putT, st, ev, gt, hp, ofV, constT, intT, List.length_map])
    refine WO_if rfl rfl rfl (fun hc => ?_) (fun hc => ?_)
    · replace H := tr hc H
      simp only [putT, st, ev, gt, hp, ofV, constT, intT, List.length_map]
      iterate 3 (refine WO_want rfl rfl rfl ?_; simp only [putT, st, ev, gt, hp, ofV, constT, intT, List.length_map])
      refine WO_op (x := .c (cB (decide (a3 < a2)))) rfl rfl rfl ?_; simp only [putT, st, ev, gt, hp, ofV, constT, intT, List.length_map]
      refine WO_op rfl rfl rfl ?_; simp only [putT, st, ev, gt, hp, ofV, constT, intT, List.length_map]
      refine WO_if rfl rfl rfl (fun hc => ?_) (fun hc => ?_)
      · replace H := tr hc H
        simp only [putT, st, ev, gt, hp, ofV, constT, intT, List.length_map]
        iterate 3 (refine WO_want rfl rfl rfl ?_; simp only [putT, st, ev, gt, hp, ofV, constT, intT, List.length_map])
        refine WO_want (x := .bp 0 1) rfl rfl rfl ?_; simp only [putT, st, ev, gt, hp, ofV, constT, intT, List.length_map]
        refine WO_want (x := .c (cI .i64 a1.Down)) rfl rfl rfl ?_; simp only [putT, st, ev, gt, hp, ofV, constT, intT, List.length_map]
        iterate 2 (refine WO_want rfl rfl rfl ?_; simp only [putT, st, ev, gt, hp, ofV, constT, intT, List.length_map])
        refine WO_if rfl rfl rfl (fun hc => ?_) (fun hc => ?_)
        · replace H := tr hc H
          simp only [putT, st, ev, gt, hp, ofV, constT, intT, List.length_map]
          refine WO_skip rfl rfl ?_; simp only [putT, st, ev, gt, hp, ofV, constT, intT, List.length_map]
          refine WO_skip rfl rfl ?_; simp only [putT, st, ev, gt, hp, ofV, constT, intT, List.length_map]
          refine WO_skip rfl rfl ?_; simp only [putT, st, ev, gt, hp, ofV, constT, intT, List.length_map]
          refine WO_skip rfl rfl ?_; simp only [putT, st, ev, gt, hp, ofV, constT, intT, List.length_map]
          refine WO_want (x := .c (cB true)) rfl rfl rfl ?_; simp only [putT, st, ev, gt, hp, ofV, constT, intT, List.length_map]
          refine WO_op (x := .c (cB true)) rfl rfl rfl ?_; simp only [putT, st, ev, gt, hp, ofV, constT, intT, List.length_map]
          refine WO_nil ?_
          refine W_cond (t := true) rfl (fun _ => ?_) (fun h => by cases h)
          refine W_seq ?_
          refine W_region ?_
          refine WO_op rfl rfl rfl ?_; simp only [putT, st, ev, gt, hp, ofV, constT, intT, List.length_map]
          refine WO_op (x := .bp 0 1) rfl rfl rfl ?_; simp only [putT, st, ev, gt, hp, ofV, constT, intT, List.length_map]
          refine WO_op (x := .c (cI .i64 a1.Down)) rfl rfl rfl ?_; simp only [putT, st, ev, gt, hp, ofV, constT, intT, List.length_map]
          iterate 2 (refine WO_op rfl rfl rfl ?_; simp only [putT, st, ev, gt, hp, ofV, constT, intT, List.length_map])
          refine WO_nil ?_
          refine W_ret ?_
          obtain rfl := Option.some.inj H
          exact told3 rfl
        · replace H := fl hc H
          simp only [putT, st, ev, gt, hp, ofV, constT, intT, List.length_map]
          iterate 4 (refine WO_want rfl rfl rfl ?_; simp only [putT, st, ev, gt, hp, ofV, constT, intT, List.length_map])
          refine WO_want (x := .c (cB (decide ((IntKind.i64.wrap (a2 - a3)) < 0)))) rfl rfl rfl ?_; simp only [putT, st, ev, gt, hp, ofV, constT, intT, List.length_map]
          refine WO_op (x := .c (cB (decide ((IntKind.i64.wrap (a2 - a3)) < 0)))) rfl rfl rfl ?_; simp only [putT, st, ev, gt, hp, ofV, constT, intT, List.length_map]
          refine WO_nil ?_
          refine W_cond rfl (fun hc => ?_) (fun hc => ?_)
          · replace H := tr hc H
            refine W_seq ?_
            refine W_region ?_
            refine WO_op rfl rfl rfl ?_; simp only [putT, st, ev, gt, hp, ofV, constT, intT, List.length_map]
            refine WO_op (x := .bp 0 1) rfl rfl rfl ?_; simp only [putT, st, ev, gt, hp, ofV, constT, intT, List.length_map]
            refine WO_op (x := .c (cI .i64 a1.Down)) rfl rfl rfl ?_; simp only [putT, st, ev, gt, hp, ofV, constT, intT, List.length_map]
            iterate 2 (refine WO_op rfl rfl rfl ?_; simp only [putT, st, ev, gt, hp, ofV, constT, intT, List.length_map])
            refine WO_nil ?_
            refine W_ret ?_
            obtain rfl := Option.some.inj H
            exact told3 rfl
          · replace H := fl hc H
            refine W_skip ?_
            refine W_seq ?_
            refine W_region ?_
            iterate 2 (refine WO_op rfl rfl rfl ?_; simp only [putT, st, ev, gt, hp, ofV, constT, intT, List.length_map])
            refine WO_nil ?_
            refine W_ret ?_
            obtain rfl := Option.some.inj H
            exact told3 rfl
      · replace H := fl hc H
        simp only [putT, st, ev, gt, hp, ofV, constT, intT, List.length_map]
        refine WO_skip rfl rfl ?_; simp only [putT, st, ev, gt, hp, ofV, constT, intT, List.length_map]
        refine WO_skip rfl rfl ?_; simp only [putT, st, ev, gt, hp, ofV, constT, intT, List.length_map]
        refine WO_skip rfl rfl ?_; simp only [putT, st, ev, gt, hp, ofV, constT, intT, List.length_map]
        refine WO_skip rfl rfl ?_; simp only [putT, st, ev, gt, hp, ofV, constT, intT, List.length_map]
        refine WO_skip rfl rfl ?_; simp only [putT, st, ev, gt, hp, ofV, constT, intT, List.length_map]
        refine WO_skip rfl rfl ?_; simp only [putT, st, ev, gt, hp, ofV, constT, intT, List.length_map]
        refine WO_skip rfl rfl ?_; simp only [putT, st, ev, gt, hp, ofV, constT, intT, List.length_map]
        refine WO_skip rfl rfl ?_; simp only [putT, st, ev, gt, hp, ofV, constT, intT, List.length_map]
        refine WO_skip rfl rfl ?_; simp only [putT, st, ev, gt, hp, ofV, constT, intT, List.length_map]
        refine WO_skip rfl rfl ?_; simp only [putT, st, ev, gt, hp, ofV, constT, intT, List.length_map]
        refine WO_skip rfl rfl ?_; simp only [putT, st, ev, gt, hp, ofV, constT, intT, List.length_map]
        refine WO_skip rfl rfl ?_; simp only [putT, st, ev, gt, hp, ofV, constT, intT, List.length_map]
        refine WO_op (x := .c (cB false)) rfl rfl rfl ?_; simp only [putT, st, ev, gt, hp, ofV, constT, intT, List.length_map]
        refine WO_nil ?_
        refine W_cond (t := false) rfl (fun h => by cases h) (fun _ => ?_)
        refine W_skip ?_
        refine W_seq ?_
        refine W_region ?_
        iterate 2 (refine WO_op rfl rfl rfl ?_; simp only [putT, st, ev, gt, hp, ofV, constT, intT, List.length_map])
        refine WO_nil ?_
        refine W_ret ?_
        obtain rfl := Option.some.inj H
        exact told3 rfl
    · replace H := fl hc H
      simp only [putT, st, ev, gt, hp, ofV, constT, intT, List.length_map]
      refine WO_skip rfl rfl ?_; simp only [putT, st, ev, gt, hp, ofV, constT, intT, List.length_map]
      refine WO_skip rfl rfl ?_; simp only [putT, st, ev, gt, hp, ofV, constT, intT, List.length_map]
      refine WO_skip rfl rfl ?_; simp only [putT, st, ev, gt, hp, ofV, constT, intT, List.length_map]
      refine WO_op (x := .c (cB false)) rfl rfl rfl ?_; simp only [putT, st, ev, gt, hp, ofV, constT, intT, List.length_map]
      refine WO_op rfl rfl rfl ?_; simp only [putT, st, ev, gt, hp, ofV, constT, intT, List.length_map]
      refine WO_skip rfl rfl ?_; simp only [putT, st, ev, gt, hp, ofV, constT, intT, List.length_map]
      refine WO_skip rfl rfl ?_; simp only [putT, st, ev, gt, hp, ofV, constT, intT, List.length_map]
      refine WO_skip rfl rfl ?_; simp only [putT, st, ev, gt, hp, ofV, constT, intT, List.length_map]
      refine WO_skip rfl rfl ?_; simp only [putT, st, ev, gt, hp, ofV, constT, intT, List.length_map]
      refine WO_skip rfl rfl ?_; simp only [putT, st, ev, gt, hp, ofV, constT, intT, List.length_map]
      refine WO_skip rfl rfl ?_; simp only [putT, st, ev, gt, hp, ofV, constT, intT, List.length_map]
      refine WO_skip rfl rfl ?_; simp only [putT, st, ev, gt, hp, ofV, constT, intT, List.length_map]
      refine WO_skip rfl rfl ?_; simp only [putT, st, ev, gt, hp, ofV, constT, intT, List.length_map]
      refine WO_skip rfl rfl ?_; simp only [putT, st, ev, gt, hp, ofV, constT, intT, List.length_map]
      refine WO_skip rfl rfl ?_; simp only [putT, st, ev, gt, hp, ofV, constT, intT, List.length_map]
      refine WO_skip rfl rfl ?_; simp only [putT, st, ev, gt, hp, ofV, constT, intT, List.length_map]
      refine WO_skip rfl rfl ?_; simp only [putT, st, ev, gt, hp, ofV, constT, intT, List.length_map]
      refine WO_op (x := .c (cB false)) rfl rfl rfl ?_; simp only [putT, st, ev, gt, hp, ofV, constT, intT, List.length_map]
      refine WO_nil ?_
      refine W_cond (t := false) rfl (fun h => by cases h) (fun _ => ?_)
      refine W_skip ?_
      refine W_seq ?_
      refine W_region ?_
      iterate 2 (refine WO_op rfl rfl rfl ?_; simp only [putT, st, ev, gt, hp, ofV, constT, intT, List.length_map])
      refine WO_nil ?_
      refine W_ret ?_
      obtain rfl := Option.some.inj H
      exact told3 rfl
set_option maxRecDepth 20000 in
set_option maxHeartbeats 1000000 in
theorem impl_from_ok {a1 : Int} {a2 : Int} {a3 : Int} {r : Bool} (H : impl_from a1 a2 a3 = some r) : R 76 [.c (cI .i64 a1) none, .c (cI .i64 a2) none, .c (cI .i64 a3) none] = some (.c (cB r) none, []) := by
  unfold impl_from at H
  refine Fz_walk 15 rfl rfl Try.func76 rfl (by kernel_rfl) rfl rfl rfl rfl ?_
  simp only [tellVs, tellV, tells, tell, st0, padT, SX.newRow, SX.newBox, List.length_cons, List.length_nil, Nat.reduceAdd, Nat.reduceSub, List.replicate, List.cons_append, List.nil_append]
  refine W_seq ?_
  refine W_region ?_
  refine WO_op rfl rfl rfl ?_; simp only [putT, st, ev, gt, hp, ofV, constT, intT, List.length_map]
  refine WO_nil ?_
  refine W_seq ?_
  refine W_region ?_
  iterate 4 (refine WO_op rfl rfl rfl ?_; simp only [putT, st, ev, gt, hp, ofV, constT, intT, List.length_map])
  refine WO_if rfl rfl rfl (fun hc => ?_) (fun hc => ?_)
  · replace H := tr hc H
    simp only [putT, st, ev, gt, hp, ofV, constT, intT, List.length_map]
    iterate 3 (refine WO_want rfl rfl rfl ?_; simp only [putT, st, ev, gt, hp, ofV, constT, intT, List.length_map])
    refine WO_op (x := .c (cB (decide (a1 ≤ a3)))) rfl rfl rfl ?_; simp only [putT, st, ev, gt, hp, ofV, constT, intT, List.length_map]
    refine WO_op rfl rfl rfl ?_; simp only [putT, st, ev, gt, hp, ofV, constT, intT, List.length_map]
    refine WO_nil ?_
    refine W_ret ?_
    obtain rfl := Option.some.inj H
    exact told3 rfl
  · replace H := fl hc H
    simp only [putT, st, ev, gt, hp, ofV, constT, intT, List.length_map]
    refine WO_skip rfl rfl ?_; simp only [putT, st, ev, gt, hp, ofV, constT, intT, List.length_map]
    refine WO_skip rfl rfl ?_; simp only [putT, st, ev, gt, hp, ofV, constT, intT, List.length_map]
    refine WO_skip rfl rfl ?_; simp only [putT, st, ev, gt, hp, ofV, constT, intT, List.length_map]
    refine WO_op (x := .c (cB false)) rfl rfl rfl ?_; simp only [putT, st, ev, gt, hp, ofV, constT, intT, List.length_map]
    refine WO_op rfl rfl rfl ?_; simp only [putT, st, ev, gt, hp, ofV, constT, intT, List.length_map]
    refine WO_nil ?_
    refine W_ret ?_
    obtain rfl := Option.some.inj H
    exact told3 rfl
set_option maxRecDepth 20000 in
set_option maxHeartbeats 1000000 in
theorem impl_isMany_ok {a1 : Int} {r : Bool} (H : impl_isMany a1 = some r) : R 67 [.c (cI .i64 a1) none] = some (.c (cB r) none, []) := by
  unfold impl_isMany at H
  refine Fz_walk 5 rfl rfl Try.func67 rfl (by kernel_rfl) rfl rfl rfl rfl ?_
  simp only [tellVs, tellV, tells, tell, st0, padT, SX.newRow, SX.newBox, List.length_cons, List.length_nil, Nat.reduceAdd, Nat.reduceSub, List.replicate, List.cons_append, List.nil_append]
  refine W_seq ?_
  refine W_region ?_
  refine WO_op rfl rfl rfl ?_; simp only [putT, st, ev, gt, hp, ofV, constT, intT, List.length_map]
  refine WO_nil ?_
  refine W_seq ?_
  refine W_region ?_
  refine WO_op rfl rfl rfl ?_; simp only [putT, st, ev, gt, hp, ofV, constT, intT, List.length_map]
  obtain ⟨x2, hx2, H⟩ := bnd H
  refine WO_op (x := .c (cB x2)) (σ' := ⟨[], [], []⟩) rfl rfl (ev_callG (al := [.c (cI .i64 a1), .c (cI .i64 0), .c (cI .i64 1000)]) (ls := []) (impl_from_ok hx2) rfl rfl rfl rfl rfl (by decide) rfl rfl rfl rfl rfl rfl) ?_; simp only [putT, st, ev, gt, hp, ofV, constT, intT, List.length_map]
  refine WO_op rfl rfl rfl ?_; simp only [putT, st, ev, gt, hp, ofV, constT, intT, List.length_map]
  refine WO_nil ?_
  refine W_ret ?_
  obtain rfl := Option.some.inj H
  exact told3 rfl
set_option maxRecDepth 20000 in
set_option maxHeartbeats 1000000 in
theorem impl_PaceOk_ok {a1 : Pace} {r : Bool} (H : impl_PaceOk a1 = some r) : R 29 [.ag [(cI .i64 a1.Up, none), (cI .i64 a1.Down, none), (cI .i64 a1.UpSpan, none), (cI .i64 a1.DownSpan, none)]] = some (.c (cB r) none, []) := by
  unfold impl_PaceOk at H
  refine Fz_walk 21 rfl rfl Try.func29 rfl (by kernel_rfl) rfl rfl rfl rfl ?_
  simp only [tellVs, tellV, tells, tell, st0, padT, SX.newRow, SX.newBox, List.length_cons, List.length_nil, Nat.reduceAdd, Nat.reduceSub, List.replicate, List.cons_append, List.nil_append]
  refine W_seq ?_
  refine W_region ?_
  refine WO_op (x := .bp 0 0) (σ' := ⟨[], [some [.c (cI .i64 a1.Up), .c (cI .i64 a1.Down), .c (cI .i64 a1.UpSpan), .c (cI .i64 a1.DownSpan)]], []⟩) rfl rfl rfl ?_; simp only [putT, st, ev, gt, hp, ofV, constT, intT, List.length_map]
  refine WO_op rfl rfl rfl ?_; simp only [putT, st, ev, gt, hp, ofV, constT, intT, List.length_map]
  refine WO_nil ?_
  refine W_seq ?_
  refine W_region ?_
  refine WO_op (x := .bp 0 0) rfl rfl rfl ?_; simp only [putT, st, ev, gt, hp, ofV, constT, intT, List.length_map]
  refine WO_op (x := .c (cI .i64 a1.Up)) rfl rfl rfl ?_; simp only [putT, st, ev, gt, hp, ofV, constT, intT, List.length_map]
  obtain ⟨x2, hx2, H⟩ := bnd H
  refine WO_op (x := .c (cB x2)) (σ' := ⟨[], [some [.c (cI .i64 a1.Up), .c (cI .i64 a1.Down), .c (cI .i64 a1.UpSpan), .c (cI .i64 a1.DownSpan)]], []⟩) rfl rfl (ev_callG (al := [.c (cI .i64 a1.Up)]) (ls := []) (impl_isMany_ok hx2) rfl rfl rfl rfl rfl (by decide) rfl rfl rfl rfl rfl rfl) ?_; simp only [putT, st, ev, gt, hp, ofV, constT, intT, List.length_map]
  refine WO_op rfl rfl rfl ?_; simp only [putT, st, ev, gt, hp, ofV, constT, intT, List.length_map]
  refine WO_if rfl rfl rfl (fun hc => ?_) (fun hc => ?_)
  · replace H := tr hc H
    simp only [putT, st, ev, gt, hp, ofV, constT, intT, List.length_map]
    refine WO_want (x := .bp 0 1) rfl rfl rfl ?_; simp only [putT, st, ev, gt, hp, ofV, constT, intT, List.length_map]
    refine WO_want (x := .c (cI .i64 a1.Down)) rfl rfl rfl ?_; simp only [putT, st, ev, gt, hp, ofV, constT, intT, List.length_map]
    obtain ⟨x3, hx3, H⟩ := bnd H
    refine WO_want (x := .c (cB x3)) (σ' := ⟨[], [some [.c (cI .i64 a1.Up), .c (cI .i64 a1.Down), .c (cI .i64 a1.UpSpan), .c (cI .i64 a1.DownSpan)]], []⟩) rfl rfl (ev_callG (al := [.c (cI .i64 a1.Down)]) (ls := []) (impl_isMany_ok hx3) rfl rfl rfl rfl rfl (by decide) rfl rfl rfl rfl rfl rfl) ?_; simp only [putT, st, ev, gt, hp, ofV, constT, intT, List.length_map]
    refine WO_op (x := .c (cB x3)) rfl rfl rfl ?_; simp only [putT, st, ev, gt, hp, ofV, constT, intT, List.length_map]
    refine WO_op rfl rfl rfl ?_; simp only [putT, st, ev, gt, hp, ofV, constT, intT, List.length_map]
    refine WO_if rfl rfl rfl (fun hc => ?_) (fun hc => ?_)
    · replace H := tr hc H
      simp only [putT, st, ev, gt, hp, ofV, constT, intT, List.length_map]
      refine WO_want (x := .bp 0 2) rfl rfl rfl ?_; simp only [putT, st, ev, gt, hp, ofV, constT, intT, List.length_map]
      refine WO_want (x := .c (cI .i64 a1.UpSpan)) rfl rfl rfl ?_; simp only [putT, st, ev, gt, hp, ofV, constT, intT, List.length_map]
      obtain ⟨x4, hx4, H⟩ := bnd H
      refine WO_want (x := .c (cB x4)) (σ' := ⟨[], [some [.c (cI .i64 a1.Up), .c (cI .i64 a1.Down), .c (cI .i64 a1.UpSpan), .c (cI .i64 a1.DownSpan)]], []⟩) rfl rfl (ev_callG (al := [.c (cI .i64 a1.UpSpan), .c (cI .i64 0), .c (cI .i64 3600)]) (ls := []) (impl_from_ok hx4) rfl rfl rfl rfl rfl (by decide) rfl rfl rfl rfl rfl rfl) ?_; simp only [putT, st, ev, gt, hp, ofV, constT, intT, List.length_map]
      refine WO_op (x := .c (cB x4)) rfl rfl rfl ?_; simp only [putT, st, ev, gt, hp, ofV, constT, intT, List.length_map]
      refine WO_op rfl rfl rfl ?_; simp only [putT, st, ev, gt, hp, ofV, constT, intT, List.length_map]
      refine WO_if rfl rfl rfl (fun hc => ?_) (fun hc => ?_)
      · replace H := tr hc H
        simp only [putT, st, ev, gt, hp, ofV, constT, intT, List.length_map]
        refine WO_want (x := .bp 0 3) rfl rfl rfl ?_; simp only [putT, st, ev, gt, hp, ofV, constT, intT, List.length_map]
        refine WO_want (x := .c (cI .i64 a1.DownSpan)) rfl rfl rfl ?_; simp only [putT, st, ev, gt, hp, ofV, constT, intT, List.length_map]
        obtain ⟨x5, hx5, H⟩ := bnd H
        refine WO_want (x := .c (cB x5)) (σ' := ⟨[], [some [.c (cI .i64 a1.Up), .c (cI .i64 a1.Down), .c (cI .i64 a1.UpSpan), .c (cI .i64 a1.DownSpan)]], []⟩) rfl rfl (ev_callG (al := [.c (cI .i64 a1.DownSpan), .c (cI .i64 0), .c (cI .i64 3600)]) (ls := []) (impl_from_ok hx5) rfl rfl rfl rfl rfl (by decide) rfl rfl rfl rfl rfl rfl) ?_; simp only [putT, st, ev, gt, hp, ofV, constT, intT, List.length_map]
        refine WO_op (x := .c (cB x5)) rfl rfl rfl ?_; simp only [putT, st, ev, gt, hp, ofV, constT, intT, List.length_map]
        refine WO_op rfl rfl rfl ?_; simp only [putT, st, ev, gt, hp, ofV, constT, intT, List.length_map]
        refine WO_nil ?_
        refine W_ret ?_
        obtain rfl := Option.some.inj H
        exact told3 rfl
      · replace H := fl hc H
        simp only [putT, st, ev, gt, hp, ofV, constT, intT, List.length_map]
        refine WO_skip rfl rfl ?_; simp only [putT, st, ev, gt, hp, ofV, constT, intT, List.length_map]
        refine WO_skip rfl rfl ?_; simp only [putT, st, ev, gt, hp, ofV, constT, intT, List.length_map]
        refine WO_skip rfl rfl ?_; simp only [putT, st, ev, gt, hp, ofV, constT, intT, List.length_map]
        refine WO_op (x := .c (cB false)) rfl rfl rfl ?_; simp only [putT, st, ev, gt, hp, ofV, constT, intT, List.length_map]
        refine WO_op rfl rfl rfl ?_; simp only [putT, st, ev, gt, hp, ofV, constT, intT, List.length_map]
        refine WO_nil ?_
        refine W_ret ?_
        obtain rfl := Option.some.inj H
        exact told3 rfl
    · replace H := fl hc H
      simp only [putT, st, ev, gt, hp, ofV, constT, intT, List.length_map]
      refine WO_skip rfl rfl ?_; simp only [putT, st, ev, gt, hp, ofV, constT, intT, List.length_map]
      refine WO_skip rfl rfl ?_; simp only [putT, st, ev, gt, hp, ofV, constT, intT, List.length_map]
      refine WO_skip rfl rfl ?_; simp only [putT, st, ev, gt, hp, ofV, constT, intT, List.length_map]
      refine WO_op (x := .c (cB false)) rfl rfl rfl ?_; simp only [putT, st, ev, gt, hp, ofV, constT, intT, List.length_map]
      refine WO_op rfl rfl rfl ?_; simp only [putT, st, ev, gt, hp, ofV, constT, intT, List.length_map]
      refine WO_skip rfl rfl ?_; simp only [putT, st, ev, gt, hp, ofV, constT, intT, List.length_map]
      refine WO_skip rfl rfl ?_; simp only [putT, st, ev, gt, hp, ofV, constT, intT, List.length_map]
      refine WO_skip rfl rfl ?_; simp only [putT, st, ev, gt, hp, ofV, constT, intT, List.length_map]
      refine WO_op (x := .c (cB false)) rfl rfl rfl ?_; simp only [putT, st, ev, gt, hp, ofV, constT, intT, List.length_map]
      refine WO_op rfl rfl rfl ?_; simp only [putT, st, ev, gt, hp, ofV, constT, intT, List.length_map]
      refine WO_nil ?_
      refine W_ret ?_
      obtain rfl := Option.some.inj H
      exact told3 rfl
  · replace H := fl hc H
    simp only [putT, st, ev, gt, hp, ofV, constT, intT, List.length_map]
    refine WO_skip rfl rfl ?_; simp only [putT, st, ev, gt, hp, ofV, constT, intT, List.length_map]
    refine WO_skip rfl rfl ?_; simp only [putT, st, ev, gt, hp, ofV, constT, intT, List.length_map]
    refine WO_skip rfl rfl ?_; simp only [putT, st, ev, gt, hp, ofV, constT, intT, List.length_map]
    refine WO_op (x := .c (cB false)) rfl rfl rfl ?_; simp only [putT, st, ev, gt, hp, ofV, constT, intT, List.length_map]
    refine WO_op rfl rfl rfl ?_; simp only [putT, st, ev, gt, hp, ofV, constT, intT, List.length_map]
    refine WO_skip rfl rfl ?_; simp only [putT, st, ev, gt, hp, ofV, constT, intT, List.length_map]
    refine WO_skip rfl rfl ?_; simp only [putT, st, ev, gt, hp, ofV, constT, intT, List.length_map]
    refine WO_skip rfl rfl ?_; simp only [putT, st, ev, gt, hp, ofV, constT, intT, List.length_map]
    refine WO_op (x := .c (cB false)) rfl rfl rfl ?_; simp only [putT, st, ev, gt, hp, ofV, constT, intT, List.length_map]
    refine WO_op rfl rfl rfl ?_; simp only [putT, st, ev, gt, hp, ofV, constT, intT, List.length_map]
    refine WO_skip rfl rfl ?_; simp only [putT, st, ev, gt, hp, ofV, constT, intT, List.length_map]
    refine WO_skip rfl rfl ?_; simp only [putT, st, ev, gt, hp, ofV, constT, intT, List.length_map]
    refine WO_skip rfl rfl ?_; simp only [putT, st, ev, gt, hp, ofV, constT, intT, List.length_map]
    refine WO_op (x := .c (cB false)) rfl rfl rfl ?_; simp only [putT, st, ev, gt, hp, ofV, constT, intT, List.length_map]
    refine WO_op rfl rfl rfl ?_; simp only [putT, st, ev, gt, hp, ofV, constT, intT, List.length_map]
    refine WO_nil ?_
    refine W_ret ?_
    obtain rfl := Option.some.inj H
    exact told3 rfl
set_option maxRecDepth 20000 in
set_option maxHeartbeats 1000000 in
theorem laws_FnSlow_ok {a1 : List Int} {r : Bool} (H : laws_FnSlow a1 = some r) : R 5 [.c (cL eU a1) none] = some (.c (cB r) none, []) := by
  unfold laws_FnSlow at H
  refine Fz_walk 60 rfl rfl Try.func5 rfl (by kernel_rfl) rfl rfl rfl rfl ?_
  simp only [tellVs, tellV, tells, tell, st0, padT, SX.newRow, SX.newBox, List.length_cons, List.length_nil, Nat.reduceAdd, Nat.reduceSub, List.replicate, List.cons_append, List.nil_append]
  refine W_seq ?_
  refine W_region ?_
  refine WO_op rfl rfl rfl ?_; simp only [putT, st, ev, gt, hp, ofV, constT, intT, List.length_map]
  refine WO_nil ?_
  refine W_seq ?_
  refine W_seq ?_
  refine W_region ?_
  refine WO_op rfl rfl rfl ?_; simp only [putT, st, ev, gt, hp, ofV, constT, intT, List.length_map]
  obtain ⟨x2, hx2, H⟩ := bnd H
  refine WO_op (x := .c (cB x2)) (σ' := ⟨[], [], []⟩) rfl rfl (ev_callG (al := [.c (cL eU a1)]) (ls := []) (laws_big_ok hx2) rfl rfl rfl rfl rfl (by decide) rfl rfl rfl rfl rfl rfl) ?_; simp only [putT, st, ev, gt, hp, ofV, constT, intT, List.length_map]
  refine WO_nil ?_
  refine W_cond rfl (fun hc => ?_) (fun hc => ?_)
  · replace H := tr hc H
    refine W_seq ?_
    refine W_region ?_
    refine WO_op rfl rfl rfl ?_; simp only [putT, st, ev, gt, hp, ofV, constT, intT, List.length_map]
    refine WO_nil ?_
    refine W_ret ?_
    obtain rfl := Option.some.inj H
    exact told3 rfl
  · replace H := fl hc H
    refine W_skip ?_
    refine W_seq ?_
    refine W_region ?_
    refine WO_op rfl rfl rfl ?_; simp only [putT, st, ev, gt, hp, ofV, constT, intT, List.length_map]
    obtain ⟨x3, hx3, H⟩ := bnd H
    refine WO_op (x := .tu [.ag [.c (cI .i64 x3.1.Up), .c (cI .i64 x3.1.Down), .c (cI .i64 x3.1.UpSpan), .c (cI .i64 x3.1.DownSpan)], .c (cI .i64 x3.2.1), .c (cI .i64 x3.2.2)]) (σ' := ⟨[], [], []⟩) rfl rfl (ev_callG (al := [.c (cL eU a1)]) (ls := []) (spec_DrawSlow_ok hx3) rfl rfl rfl rfl rfl (by decide) rfl rfl rfl rfl rfl rfl) ?_; simp only [putT, st, ev, gt, hp, ofV, constT, intT, List.length_map]
    refine WO_op rfl rfl rfl ?_; simp only [putT, st, ev, gt, hp, ofV, constT, intT, List.length_map]
    refine WO_op (x := .ag [.c (cI .i64 x3.1.Up), .c (cI .i64 x3.1.Down), .c (cI .i64 x3.1.UpSpan), .c (cI .i64 x3.1.DownSpan)]) rfl rfl rfl ?_; simp only [putT, st, ev, gt, hp, ofV, constT, intT, List.length_map]
    refine WO_op (x := .c (cI .i64 x3.2.1)) rfl rfl rfl ?_; simp only [putT, st, ev, gt, hp, ofV, constT, intT, List.length_map]
    refine WO_op (x := .c (cI .i64 x3.2.2)) rfl rfl rfl ?_; simp only [putT, st, ev, gt, hp, ofV, constT, intT, List.length_map]
    refine WO_op (x := .bp 0 0) (σ' := ⟨[], [some [.c (cI .i64 0), .c (cI .i64 0), .c (cI .i64 0), .c (cI .i64 0)]], []⟩) rfl rfl rfl ?_; simp only [putT, st, ev, gt, hp, ofV, constT, intT, List.length_map]
    refine WO_op (x := .no) (σ' := ⟨[], [some [.c (cI .i64 x3.1.Up), .c (cI .i64 x3.1.Down), .c (cI .i64 x3.1.UpSpan), .c (cI .i64 x3.1.DownSpan)]], []⟩) rfl rfl rfl ?_; simp only [putT, st, ev, gt, hp, ofV, constT, intT, List.length_map]
    iterate 2 (refine WO_op rfl rfl rfl ?_; simp only [putT, st, ev, gt, hp, ofV, constT, intT, List.length_map])
    refine WO_nil ?_
    refine W_seq ?_
    refine W_region ?_
    refine WO_op (x := .ag [.c (cI .i64 x3.1.Up), .c (cI .i64 x3.1.Down), .c (cI .i64 x3.1.UpSpan), .c (cI .i64 x3.1.DownSpan)]) rfl rfl rfl ?_; simp only [putT, st, ev, gt, hp, ofV, constT, intT, List.length_map]
    iterate 2 (refine WO_op rfl rfl rfl ?_; simp only [putT, st, ev, gt, hp, ofV, constT, intT, List.length_map])
    obtain ⟨x4, hx4, H⟩ := bnd H
    refine WO_op (x := .c (cI .i64 x4)) (σ' := ⟨[], [some [.c (cI .i64 x3.1.Up), .c (cI .i64 x3.1.Down), .c (cI .i64 x3.1.UpSpan), .c (cI .i64 x3.1.DownSpan)]], []⟩) rfl rfl (ev_callG (al := [.ag [.c (cI .i64 x3.1.Up), .c (cI .i64 x3.1.Down), .c (cI .i64 x3.1.UpSpan), .c (cI .i64 x3.1.DownSpan)], .c (cI .i64 x3.2.1), .c (cI .i64 x3.2.2)]) (ls := []) (impl_Slow_ok hx4) rfl rfl rfl rfl rfl (by decide) rfl rfl rfl rfl rfl rfl) ?_; simp only [putT, st, ev, gt, hp, ofV, constT, intT, List.length_map]
    refine WO_op rfl rfl rfl ?_; simp only [putT, st, ev, gt, hp, ofV, constT, intT, List.length_map]
    refine WO_nil ?_
    refine W_seq ?_
    refine W_seq ?_
    refine W_region ?_
    refine WO_op rfl rfl rfl ?_; simp only [putT, st, ev, gt, hp, ofV, constT, intT, List.length_map]
    refine WO_op (x := .ag [.c (cI .i64 x3.1.Up), .c (cI .i64 x3.1.Down), .c (cI .i64 x3.1.UpSpan), .c (cI .i64 x3.1.DownSpan)]) rfl rfl rfl ?_; simp only [putT, st, ev, gt, hp, ofV, constT, intT, List.length_map]
    iterate 2 (refine WO_op rfl rfl rfl ?_; simp only [putT, st, ev, gt, hp, ofV, constT, intT, List.length_map])
    obtain ⟨x5, hx5, H⟩ := bnd H
    refine WO_op (x := .c (cI .i64 x5)) (σ' := ⟨[], [some [.c (cI .i64 x3.1.Up), .c (cI .i64 x3.1.Down), .c (cI .i64 x3.1.UpSpan), .c (cI .i64 x3.1.DownSpan)]], []⟩) rfl rfl (ev_callG (al := [.ag [.c (cI .i64 x3.1.Up), .c (cI .i64 x3.1.Down), .c (cI .i64 x3.1.UpSpan), .c (cI .i64 x3.1.DownSpan)], .c (cI .i64 x3.2.1), .c (cI .i64 x3.2.2)]) (ls := []) (spec_Slow_ok hx5) rfl rfl rfl rfl rfl (by decide) rfl rfl rfl rfl rfl rfl) ?_; simp only [putT, st, ev, gt, hp, ofV, constT, intT, List.length_map]
    refine WO_op rfl rfl rfl ?_; simp only [putT, st, ev, gt, hp, ofV, constT, intT, List.length_map]
    refine WO_nil ?_
    refine W_cond rfl (fun hc => ?_) (fun hc => ?_)
    · replace H := tr hc H
      refine W_seq ?_
      refine W_region ?_
      refine WO_op rfl rfl rfl ?_; simp only [putT, st, ev, gt, hp, ofV, constT, intT, List.length_map]
      refine WO_nil ?_
      refine W_ret ?_
      obtain rfl := Option.some.inj H
      exact told3 rfl
    · replace H := fl hc H
      refine W_skip ?_
      refine W_seq ?_
      refine W_seq ?_
      refine W_region ?_
      refine WO_op (x := .ag [.c (cI .i64 x3.1.Up), .c (cI .i64 x3.1.Down), .c (cI .i64 x3.1.UpSpan), .c (cI .i64 x3.1.DownSpan)]) rfl rfl rfl ?_; simp only [putT, st, ev, gt, hp, ofV, constT, intT, List.length_map]
      obtain ⟨x6, hx6, H⟩ := bnd H
      refine WO_op (x := .c (cB x6)) (σ' := ⟨[], [some [.c (cI .i64 x3.1.Up), .c (cI .i64 x3.1.Down), .c (cI .i64 x3.1.UpSpan), .c (cI .i64 x3.1.DownSpan)]], []⟩) rfl rfl (ev_callG (al := [.ag [.c (cI .i64 x3.1.Up), .c (cI .i64 x3.1.Down), .c (cI .i64 x3.1.UpSpan), .c (cI .i64 x3.1.DownSpan)]]) (ls := []) (impl_PaceOk_ok hx6) rfl rfl rfl rfl rfl (by decide) rfl rfl rfl rfl rfl rfl) ?_; simp only [putT, st, ev, gt, hp, ofV, constT, intT, List.length_map]
      iterate 2 (refine WO_op rfl rfl rfl ?_; simp only [putT, st, ev, gt, hp, ofV, constT, intT, List.length_map])
      refine WO_if rfl rfl rfl (fun hc => ?_) (fun hc => ?_)
      · replace H := tr hc H
        simp only [putT, st, ev, gt, hp, ofV, constT, intT, List.length_map]
        refine WO_skip rfl rfl ?_; simp only [putT, st, ev, gt, hp, ofV, constT, intT, List.length_map]
        refine WO_skip rfl rfl ?_; simp only [putT, st, ev, gt, hp, ofV, constT, intT, List.length_map]
        refine WO_op (x := .c (cB true)) rfl rfl rfl ?_; simp only [putT, st, ev, gt, hp, ofV, constT, intT, List.length_map]
        refine WO_op rfl rfl rfl ?_; simp only [putT, st, ev, gt, hp, ofV, constT, intT, List.length_map]
        refine WO_skip rfl rfl ?_; simp only [putT, st, ev, gt, hp, ofV, constT, intT, List.length_map]
        refine WO_skip rfl rfl ?_; simp only [putT, st, ev, gt, hp, ofV, constT, intT, List.length_map]
        refine WO_op (x := .c (cB true)) rfl rfl rfl ?_; simp only [putT, st, ev, gt, hp, ofV, constT, intT, List.length_map]
        refine WO_nil ?_
        refine W_cond (t := true) rfl (fun _ => ?_) (fun h => by cases h)
        refine W_seq ?_
        refine W_region ?_
        refine WO_op rfl rfl rfl ?_; simp only [putT, st, ev, gt, hp, ofV, constT, intT, List.length_map]
        refine WO_nil ?_
        refine W_ret ?_
        obtain rfl := Option.some.inj H
        exact told3 rfl
      · replace H := fl hc H
        simp only [putT, st, ev, gt, hp, ofV, constT, intT, List.length_map]
        iterate 2 (refine WO_want rfl rfl rfl ?_; simp only [putT, st, ev, gt, hp, ofV, constT, intT, List.length_map])
        refine WO_op (x := .c (cB (decide (x3.2.1 < 0)))) rfl rfl rfl ?_; simp only [putT, st, ev, gt, hp, ofV, constT, intT, List.length_map]
        refine WO_op rfl rfl rfl ?_; simp only [putT, st, ev, gt, hp, ofV, constT, intT, List.length_map]
        refine WO_if rfl rfl rfl (fun hc => ?_) (fun hc => ?_)
        · replace H := tr hc H
          simp only [putT, st, ev, gt, hp, ofV, constT, intT, List.length_map]
          refine WO_skip rfl rfl ?_; simp only [putT, st, ev, gt, hp, ofV, constT, intT, List.length_map]
          refine WO_skip rfl rfl ?_; simp only [putT, st, ev, gt, hp, ofV, constT, intT, List.length_map]
          refine WO_op (x := .c (cB true)) rfl rfl rfl ?_; simp only [putT, st, ev, gt, hp, ofV, constT, intT, List.length_map]
          refine WO_nil ?_
          refine W_cond (t := true) rfl (fun _ => ?_) (fun h => by cases h)
          refine W_seq ?_
          refine W_region ?_
          refine WO_op rfl rfl rfl ?_; simp only [putT, st, ev, gt, hp, ofV, constT, intT, List.length_map]
          refine WO_nil ?_
          refine W_ret ?_
          obtain rfl := Option.some.inj H
          exact told3 rfl
        · replace H := fl hc H
          simp only [putT, st, ev, gt, hp, ofV, constT, intT, List.length_map]
          iterate 2 (refine WO_want rfl rfl rfl ?_; simp only [putT, st, ev, gt, hp, ofV, constT, intT, List.length_map])
          refine WO_op (x := .c (cB (decide (x3.2.1 > 1000)))) rfl rfl rfl ?_; simp only [putT, st, ev, gt, hp, ofV, constT, intT, List.length_map]
          refine WO_nil ?_
          refine W_cond rfl (fun hc => ?_) (fun hc => ?_)
          · replace H := tr hc H
            refine W_seq ?_
            refine W_region ?_
            refine WO_op rfl rfl rfl ?_; simp only [putT, st, ev, gt, hp, ofV, constT, intT, List.length_map]
            refine WO_nil ?_
            refine W_ret ?_
            obtain rfl := Option.some.inj H
            exact told3 rfl
          · replace H := fl hc H
            refine W_skip ?_
            refine W_seq ?_
            refine W_region ?_
            refine WO_op (x := .bp 0 0) rfl rfl rfl ?_; simp only [putT, st, ev, gt, hp, ofV, constT, intT, List.length_map]
            refine WO_op (x := .c (cI .i64 x3.1.Up)) rfl rfl rfl ?_; simp only [putT, st, ev, gt, hp, ofV, constT, intT, List.length_map]
            iterate 2 (refine WO_op rfl rfl rfl ?_; simp only [putT, st, ev, gt, hp, ofV, constT, intT, List.length_map])
            refine WO_if rfl rfl rfl (fun hc => ?_) (fun hc => ?_)
            · replace H := tr hc H
              simp only [putT, st, ev, gt, hp, ofV, constT, intT, List.length_map]
              refine WO_skip rfl rfl ?_; simp only [putT, st, ev, gt, hp, ofV, constT, intT, List.length_map]
              refine WO_skip rfl rfl ?_; simp only [putT, st, ev, gt, hp, ofV, constT, intT, List.length_map]
              refine WO_skip rfl rfl ?_; simp only [putT, st, ev, gt, hp, ofV, constT, intT, List.length_map]
              refine WO_skip rfl rfl ?_; simp only [putT, st, ev, gt, hp, ofV, constT, intT, List.length_map]
              refine WO_skip rfl rfl ?_; simp only [putT, st, ev, gt, hp, ofV, constT, intT, List.length_map]
              refine WO_skip rfl rfl ?_; simp only [putT, st, ev, gt, hp, ofV, constT, intT, List.length_map]
              refine WO_op (x := .c (cB true)) rfl rfl rfl ?_; simp only [putT, st, ev, gt, hp, ofV, constT, intT, List.length_map]
              refine WO_op rfl rfl rfl ?_; simp only [putT, st, ev, gt, hp, ofV, constT, intT, List.length_map]
              refine WO_want (x := .bp 0 1) rfl rfl rfl ?_; simp only [putT, st, ev, gt, hp, ofV, constT, intT, List.length_map]
              refine WO_want (x := .c (cI .i64 x3.1.Down)) rfl rfl rfl ?_; simp only [putT, st, ev, gt, hp, ofV, constT, intT, List.length_map]
              iterate 2 (refine WO_want rfl rfl rfl ?_; simp only [putT, st, ev, gt, hp, ofV, constT, intT, List.length_map])
              refine WO_if rfl rfl rfl (fun hc => ?_) (fun hc => ?_)
              · replace H := tr hc H
                simp only [putT, st, ev, gt, hp, ofV, constT, intT, List.length_map]
                refine WO_skip rfl rfl ?_; simp only [putT, st, ev, gt, hp, ofV, constT, intT, List.length_map]
                refine WO_skip rfl rfl ?_; simp only [putT, st, ev, gt, hp, ofV, constT, intT, List.length_map]
                refine WO_skip rfl rfl ?_; simp only [putT, st, ev, gt, hp, ofV, constT, intT, List.length_map]
                refine WO_skip rfl rfl ?_; simp only [putT, st, ev, gt, hp, ofV, constT, intT, List.length_map]
                refine WO_skip rfl rfl ?_; simp only [putT, st, ev, gt, hp, ofV, constT, intT, List.length_map]
                refine WO_skip rfl rfl ?_; simp only [putT, st, ev, gt, hp, ofV, constT, intT, List.length_map]
                refine WO_want (x := .c (cB true)) rfl rfl rfl ?_; simp only [putT, st, ev, gt, hp, ofV, constT, intT, List.length_map]
                refine WO_op (x := .c (cB true)) rfl rfl rfl ?_; simp only [putT, st, ev, gt, hp, ofV, constT, intT, List.length_map]
                refine WO_op rfl rfl rfl ?_; simp only [putT, st, ev, gt, hp, ofV, constT, intT, List.length_map]
                refine WO_nil ?_
                refine W_ret ?_
                obtain rfl := Option.some.inj H
                exact told3 rfl
              · replace H := fl hc H
                simp only [putT, st, ev, gt, hp, ofV, constT, intT, List.length_map]
                iterate 2 (refine WO_want rfl rfl rfl ?_; simp only [putT, st, ev, gt, hp, ofV, constT, intT, List.length_map])
                refine WO_want (x := .bp 0 1) rfl rfl rfl ?_; simp only [putT, st, ev, gt, hp, ofV, constT, intT, List.length_map]
                refine WO_want (x := .c (cI .i64 x3.1.Down)) rfl rfl rfl ?_; simp only [putT, st, ev, gt, hp, ofV, constT, intT, List.length_map]
                iterate 2 (refine WO_want rfl rfl rfl ?_; simp only [putT, st, ev, gt, hp, ofV, constT, intT, List.length_map])
                refine WO_want (x := .c (cB (decide (x4 ≥ (IntKind.i64.wrap (x3.2.1 - x3.1.Down)))))) rfl rfl rfl ?_; simp only [putT, st, ev, gt, hp, ofV, constT, intT, List.length_map]
                refine WO_op (x := .c (cB (decide (x4 ≥ (IntKind.i64.wrap (x3.2.1 - x3.1.Down)))))) rfl rfl rfl ?_; simp only [putT, st, ev, gt, hp, ofV, constT, intT, List.length_map]
                refine WO_op rfl rfl rfl ?_; simp only [putT, st, ev, gt, hp, ofV, constT, intT, List.length_map]
                refine WO_nil ?_
                refine W_ret ?_
                obtain rfl := Option.some.inj H
                exact told3 rfl
            · replace H := fl hc H
              simp only [putT, st, ev, gt, hp, ofV, constT, intT, List.length_map]
              iterate 2 (refine WO_want rfl rfl rfl ?_; simp only [putT, st, ev, gt, hp, ofV, constT, intT, List.length_map])
              refine WO_want (x := .bp 0 0) rfl rfl rfl ?_; simp only [putT, st, ev, gt, hp, ofV, constT, intT, List.length_map]
              refine WO_want (x := .c (cI .i64 x3.1.Up)) rfl rfl rfl ?_; simp only [putT, st, ev, gt, hp, ofV, constT, intT, List.length_map]
              iterate 2 (refine WO_want rfl rfl rfl ?_; simp only [putT, st, ev, gt, hp, ofV, constT, intT, List.length_map])
              refine WO_op (x := .c (cB (decide (x4 ≤ (IntKind.i64.wrap (x3.2.1 + x3.1.Up)))))) rfl rfl rfl ?_; simp only [putT, st, ev, gt, hp, ofV, constT, intT, List.length_map]
              refine WO_op rfl rfl rfl ?_; simp only [putT, st, ev, gt, hp, ofV, constT, intT, List.length_map]
              refine WO_if rfl rfl rfl (fun hc => ?_) (fun hc => ?_)
              · replace H := tr hc H
                simp only [putT, st, ev, gt, hp, ofV, constT, intT, List.length_map]
                refine WO_want (x := .bp 0 1) rfl rfl rfl ?_; simp only [putT, st, ev, gt, hp, ofV, constT, intT, List.length_map]
                refine WO_want (x := .c (cI .i64 x3.1.Down)) rfl rfl rfl ?_; simp only [putT, st, ev, gt, hp, ofV, constT, intT, List.length_map]
                iterate 2 (refine WO_want rfl rfl rfl ?_; simp only [putT, st, ev, gt, hp, ofV, constT, intT, List.length_map])
                refine WO_if rfl rfl rfl (fun hc => ?_) (fun hc => ?_)
                · replace H := tr hc H
                  simp only [putT, st, ev, gt, hp, ofV, constT, intT, List.length_map]
                  refine WO_skip rfl rfl ?_; simp only [putT, st, ev, gt, hp, ofV, constT, intT, List.length_map]
                  refine WO_skip rfl rfl ?_; simp only [putT, st, ev, gt, hp, ofV, constT, intT, List.length_map]
                  refine WO_skip rfl rfl ?_; simp only [putT, st, ev, gt, hp, ofV, constT, intT, List.length_map]
                  refine WO_skip rfl rfl ?_; simp only [putT, st, ev, gt, hp, ofV, constT, intT, List.length_map]
                  refine WO_skip rfl rfl ?_; simp only [putT, st, ev, gt, hp, ofV, constT, intT, List.length_map]
                  refine WO_skip rfl rfl ?_; simp only [putT, st, ev, gt, hp, ofV, constT, intT, List.length_map]
                  refine WO_want (x := .c (cB true)) rfl rfl rfl ?_; simp only [putT, st, ev, gt, hp, ofV, constT, intT, List.length_map]
                  refine WO_op (x := .c (cB true)) rfl rfl rfl ?_; simp only [putT, st, ev, gt, hp, ofV, constT, intT, List.length_map]
                  refine WO_op rfl rfl rfl ?_; simp only [putT, st, ev, gt, hp, ofV, constT, intT, List.length_map]
                  refine WO_nil ?_
                  refine W_ret ?_
                  obtain rfl := Option.some.inj H
                  exact told3 rfl
                · replace H := fl hc H
                  simp only [putT, st, ev, gt, hp, ofV, constT, intT, List.length_map]
                  iterate 2 (refine WO_want rfl rfl rfl ?_; simp only [putT, st, ev, gt, hp, ofV, constT, intT, List.length_map])
                  refine WO_want (x := .bp 0 1) rfl rfl rfl ?_; simp only [putT, st, ev, gt, hp, ofV, constT, intT, List.length_map]
                  refine WO_want (x := .c (cI .i64 x3.1.Down)) rfl rfl rfl ?_; simp only [putT, st, ev, gt, hp, ofV, constT, intT, List.length_map]
                  iterate 2 (refine WO_want rfl rfl rfl ?_; simp only [putT, st, ev, gt, hp, ofV, constT, intT, List.length_map])
                  refine WO_want (x := .c (cB (decide (x4 ≥ (IntKind.i64.wrap (x3.2.1 - x3.1.Down)))))) rfl rfl rfl ?_; simp only [putT, st, ev, gt, hp, ofV, constT, intT, List.length_map]
                  refine WO_op (x := .c (cB (decide (x4 ≥ (IntKind.i64.wrap (x3.2.1 - x3.1.Down)))))) rfl rfl rfl ?_; simp only [putT, st, ev, gt, hp, ofV, constT, intT, List.length_map]
                  refine WO_op rfl rfl rfl ?_; simp only [putT, st, ev, gt, hp, ofV, constT, intT, List.length_map]
                  refine WO_nil ?_
                  refine W_ret ?_
                  obtain rfl := Option.some.inj H
                  exact told3 rfl
              · replace H := fl hc H
                simp only [putT, st, ev, gt, hp, ofV, constT, intT, List.length_map]
                refine WO_skip rfl rfl ?_; simp only [putT, st, ev, gt, hp, ofV, constT, intT, List.length_map]
                refine WO_skip rfl rfl ?_; simp only [putT, st, ev, gt, hp, ofV, constT, intT, List.length_map]
                refine WO_skip rfl rfl ?_; simp only [putT, st, ev, gt, hp, ofV, constT, intT, List.length_map]
                refine WO_skip rfl rfl ?_; simp only [putT, st, ev, gt, hp, ofV, constT, intT, List.length_map]
                refine WO_skip rfl rfl ?_; simp only [putT, st, ev, gt, hp, ofV, constT, intT, List.length_map]
                refine WO_skip rfl rfl ?_; simp only [putT, st, ev, gt, hp, ofV, constT, intT, List.length_map]
                refine WO_skip rfl rfl ?_; simp only [putT, st, ev, gt, hp, ofV, constT, intT, List.length_map]
                refine WO_skip rfl rfl ?_; simp only [putT, st, ev, gt, hp, ofV, constT, intT, List.length_map]
                refine WO_skip rfl rfl ?_; simp only [putT, st, ev, gt, hp, ofV, constT, intT, List.length_map]
                refine WO_skip rfl rfl ?_; simp only [putT, st, ev, gt, hp, ofV, constT, intT, List.length_map]
                refine WO_skip rfl rfl ?_; simp only [putT, st, ev, gt, hp, ofV, constT, intT, List.length_map]
                refine WO_op (x := .c (cB false)) rfl rfl rfl ?_; simp only [putT, st, ev, gt, hp, ofV, constT, intT, List.length_map]
                refine WO_op rfl rfl rfl ?_; simp only [putT, st, ev, gt, hp, ofV, constT, intT, List.length_map]
                refine WO_nil ?_
                refine W_ret ?_
                obtain rfl := Option.some.inj H
                exact told3 rfl
end Go.Pu
