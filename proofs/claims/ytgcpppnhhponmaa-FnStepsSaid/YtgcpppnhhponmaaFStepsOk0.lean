import Derived.Test.YtgcpppnhhponmaaFStepsEn
set_option linter.unusedVariables false
set_option linter.unusedSimpArgs false
set_option synthInstance.maxSize 1000000000
set_option maxRecDepth 20000
set_option maxHeartbeats 20000000
namespace Go.Pu
open Go Go.SX Go.Nt Go.Proofs
theorem laws_big_ok {a1 : List Int} {r : Bool} (H : laws_big a1 = some r) : R 20 [.c (cL eU a1) none] = some (.c (cB r) none, []) := by
 unfold laws_big at H
 refine Fz_walk 6 rfl rfl Try.func20 rfl (by kernel_rfl) rfl rfl rfl rfl ?_
 simp only [tellVs, tellV, tells, tell, st0, padT, SX.newRow, SX.newBox, List.length_cons, List.length_nil, Nat.reduceAdd, Nat.reduceSub, List.replicate, List.cons_append, List.nil_append, List.foldl_cons, List.foldl_nil]
 refine W_seq (W_region ?_)
 refine WO_op rfl rfl rfl ?_; simp only [putT,st,ev,gt,hp,ofV,constT,intT,lm]
 refine WO_nil (W_seq (W_region ?_))
 iterate 4 (refine WO_op rfl rfl rfl ?_; simp only [putT,st,ev,gt,hp,ofV,constT,intT,lm])
 refine WO_nil ?_
 refine W_ret ?_
 obtain rfl := Option.some.inj H
 exact told3 rfl
theorem spec_l1New_ok {a1 : List Int} {r : L1Cur} (H : spec_l1New a1 = some r) : R 70 [.c (cL eU a1) none] = some (.p [(cL eU r.b, none), (cI .i64 r.i, none), (cI .i64 r.h, none)], []) := by
 unfold spec_l1New at H
 refine Fz_walk 32 rfl rfl Try.func70 rfl (by kernel_rfl) rfl rfl rfl rfl ?_
 simp only [tellVs, tellV, tells, tell, st0, padT, SX.newRow, SX.newBox, List.length_cons, List.length_nil, Nat.reduceAdd, Nat.reduceSub, List.replicate, List.cons_append, List.nil_append, List.foldl_cons, List.foldl_nil]
 refine W_seq (W_region ?_)
 refine WO_op rfl rfl rfl ?_; simp only [putT,st,ev,gt,hp,ofV,constT,intT,lm]
 refine WO_nil (W_seq (W_region ?_))
 iterate 4 (refine WO_op rfl rfl rfl ?_; simp only [putT,st,ev,gt,hp,ofV,constT,intT,lm])
 refine WO_nil (W_seq (W_seq (W_region ?_)))
 refine WO_op rfl rfl rfl ?_; simp only [putT,st,ev,gt,hp,ofV,constT,intT,lm]
 refine WO_nil ?_
 refine W_block ?_
 obtain ⟨t5, ht5, H⟩ := bnd H
 refine loop_rule (ls := []) 0 (fun t5 : Int => ⟨[.c (cL eU a1), .no, .no, qi t5], [], []⟩) (fun t => t5 = t) ⟨[.c (cL eU a1), .no, .no, qi (IntKind.i64.wrap (27212 + (a1.length : Int))), qi 0], [], []⟩ (by repeat (first | exact mono_told | refine mono_seq ?_ | refine mono_blk ?_ | refine mono_lp ?_)) (le_intro [] [] (by decide) (by decide) rfl (by simp [leS, leT, leA, gt]) (by simp [leB, leT, leA]) (by simp [leR])) ?_ ?_
 ·
  rintro t1 rfl
  refine W_seq (W_region ?_)
  iterate 2 (refine WO_op rfl rfl rfl ?_; simp only [putT,st,ev,gt,hp,ofV,constT,intT,lm])
  refine WO_op (x := .ag [.c (cL eU a1), qi 0, qi t5]) rfl rfl rfl ?_
  refine WO_op (x := .bp 0 0) (σ' := ⟨[], [some [.c (cL eU a1), qi 0, qi t5]], []⟩) rfl rfl rfl ?_
  refine WO_op rfl rfl rfl ?_; simp only [putT,st,ev,gt,hp,ofV,constT,intT,lm]
  refine WO_nil ?_
  refine W_ret ?_
  obtain rfl := Option.some.inj H
  exact told3 rfl
 ·
  intro V1 hV1 hW1 hX1
  refine (spec_l1New.l0.partial_correctness a1 (fun v2 v3 s' => s' = t5 → (V1 ⟨[.c (cL eU a1), .no, .no, qi v2, qi v3], [], []⟩)) ?_ _ _ _ ht5 rfl)
  intro l0 IH1 v2 v3 s' H1 e
  subst e
  refine hV1 _ ?_
  refine W_seq (W_seq (W_region ?_))
  iterate 5 (refine WO_op rfl rfl rfl ?_; simp only [putT,st,ev,gt,hp,ofV,constT,intT,lm])
  refine WO_if rfl rfl rfl (fun hc => ?_) (fun hc => ?_)
  ·
   replace H1 := tr hc H1
   simp only [putT,st,ev,gt,hp,ofV,constT,intT,lm]
   iterate 2 (refine WO_want rfl rfl rfl ?_; simp only [putT,st,ev,gt,hp,ofV,constT,intT,lm])
   refine WO_op (x := qb (decide (v3 < 4000))) rfl rfl rfl ?_; simp only [putT,st,ev,gt,hp,ofV,constT,intT,lm]
   refine WO_nil ?_
   refine W_cond rfl (fun hc => ?_) (fun hc => ?_)
   ·
    replace H1 := tr hc H1
    refine W_skip ?_
    refine W_seq ?_
    refine W_block ?_
    refine W_region ?_
    iterate 4 (refine WO_op rfl rfl rfl ?_; simp only [putT,st,ev,gt,hp,ofV,constT,intT,lm])
    obtain ⟨x4, hx4, H1⟩ := bnd H1
    refine WO_op rfl rfl (ev_ix (en := eU) hx4 rfl rfl rfl rfl rfl rfl rfl) ?_; simp only [putT,st,ev,gt,hp,ofV,constT,intT,lm]
    refine WO_op (x := .c (cI .u8 x4)) rfl rfl rfl ?_; simp only [putT,st,ev,gt,hp,ofV,constT,intT,lm]
    refine WO_op rfl rfl (ev_ii (j := .u8) (k' := .i64) rfl rfl rfl rfl) ?_; simp only [putT,st,ev,gt,hp,ofV,constT,intT,lm]
    iterate 2 (refine WO_op rfl rfl rfl ?_; simp only [putT,st,ev,gt,hp,ofV,constT,intT,lm])
    refine WO_op (x := qi (band (IntKind.i64.wrap ((IntKind.i64.wrap ((IntKind.i64.wrap (v2 * 131)) + (IntKind.i64.wrap (x4)))) + 7)) 1073741823)) rfl rfl rfl ?_
    refine WO_op rfl rfl rfl ?_; simp only [putT,st,ev,gt,hp,ofV,constT,intT,lm]
    refine WO_nil (W_region ?_)
    iterate 3 (refine WO_op rfl rfl rfl ?_; simp only [putT,st,ev,gt,hp,ofV,constT,intT,lm])
    refine WO_nil ?_
    exact hW1 _ _ ((IH1 _ _ _ H1 rfl)) (le_intro [] [] (by decide) (by decide) rfl (by simp [leS, leT, leA, gt]) (by simp [leB, leT, leA]) (by simp [leR]))
   ·
    replace H1 := fl hc H1
    refine W_exit ?_
    obtain rfl := Option.some.inj H1
    exact hX1 v2 _ rfl (le_intro [] [] (by decide) (by decide) rfl (by simp [leS, leT, leA, gt]) (by simp [leB, leT, leA]) (by simp [leR]))
  ·
   replace H1 := fl hc H1
   simp only [putT,st,ev,gt,hp,ofV,constT,intT,lm]
   iterate 2 refine WO_skip rfl rfl ?_
   refine WO_op (x := qb false) rfl rfl rfl ?_; simp only [putT,st,ev,gt,hp,ofV,constT,intT,lm]
   refine WO_nil ?_
   refine W_cond (t := false) rfl (fun h => by cases h) (fun _ => ?_)
   refine W_exit ?_
   obtain rfl := Option.some.inj H1
   exact hX1 v2 _ rfl (le_intro [] [] (by decide) (by decide) rfl (by simp [leS, leT, leA, gt]) (by simp [leB, leT, leA]) (by simp [leR]))
theorem spec_l1Byte_ok {a1 : L1Cur} {r : Int × L1Cur} (H : spec_l1Byte a1 = some r) : R 164 [.p [(cL eU a1.b, none), (cI .i64 a1.i, none), (cI .i64 a1.h, none)]] = some (.c (cI .i64 r.1) none, [some [(cL eU r.2.b, none), (cI .i64 r.2.i, none), (cI .i64 r.2.h, none)]]) := by
 unfold spec_l1Byte at H
 refine Fz_walk 58 rfl rfl Try.func164 rfl (by kernel_rfl) rfl rfl rfl rfl ?_
 simp only [tellVs, tellV, tells, tell, st0, padT, SX.newRow, SX.newBox, List.length_cons, List.length_nil, Nat.reduceAdd, Nat.reduceSub, List.replicate, List.cons_append, List.nil_append, List.foldl_cons, List.foldl_nil]
 refine W_seq (W_region ?_)
 refine WO_op rfl rfl rfl ?_; simp only [putT,st,ev,gt,hp,ofV,constT,intT,lm]
 refine WO_nil (W_seq (W_region ?_))
 iterate 3 (refine WO_op rfl rfl rfl ?_; simp only [putT,st,ev,gt,hp,ofV,constT,intT,lm])
 refine WO_op (x := .bp 0 2) rfl rfl rfl ?_
 refine WO_op (x := qi a1.h) rfl rfl rfl ?_; simp only [putT,st,ev,gt,hp,ofV,constT,intT,lm]
 iterate 3 (refine WO_op rfl rfl rfl ?_; simp only [putT,st,ev,gt,hp,ofV,constT,intT,lm])
 refine WO_op (x := .bp 0 2) rfl rfl rfl ?_
 refine WO_op (x := .no) (σ' := ⟨[], [some [.c (cL eU a1.b), qi a1.i, qi (IntKind.i64.wrap ((IntKind.i64.wrap (a1.h * 6364136223846793005)) + 1442695040888963407))]], []⟩) rfl rfl rfl ?_; simp only [putT,st,ev,gt,hp,ofV,constT,intT,lm]
 refine WO_nil (W_seq ?_)
 refine W_draw (by kernel_rfl) (by kernel_rfl) ?_
 iterate 2 (refine WO_op rfl rfl rfl ?_; simp only [putT,st,ev,gt,hp,ofV,constT,intT,lm])
 refine WO_op (x := .bp 0 2) rfl rfl rfl ?_
 refine WO_op (x := qi (IntKind.i64.wrap ((IntKind.i64.wrap (a1.h * 6364136223846793005)) + 1442695040888963407))) rfl rfl rfl ?_
 refine WO_op (x := qi (Int.fdiv (IntKind.i64.wrap ((IntKind.i64.wrap (a1.h * 6364136223846793005)) + 1442695040888963407)) (2 ^ 33))) rfl rfl rfl ?_; simp only [putT,st,ev,gt,hp,ofV,constT,intT,lm]
 iterate 2 (refine WO_op rfl rfl rfl ?_; simp only [putT,st,ev,gt,hp,ofV,constT,intT,lm])
 refine WO_op (x := .bp 0 2) rfl rfl rfl ?_
 refine WO_op (x := qi (IntKind.i64.wrap ((IntKind.i64.wrap (a1.h * 6364136223846793005)) + 1442695040888963407))) rfl rfl rfl ?_
 refine WO_op (x := qi (Int.fdiv (IntKind.i64.wrap ((IntKind.i64.wrap (a1.h * 6364136223846793005)) + 1442695040888963407)) (2 ^ 45))) rfl rfl rfl ?_
 refine WO_op (x := qi (bxor (Int.fdiv (IntKind.i64.wrap ((IntKind.i64.wrap (a1.h * 6364136223846793005)) + 1442695040888963407)) (2 ^ 33)) (Int.fdiv (IntKind.i64.wrap ((IntKind.i64.wrap (a1.h * 6364136223846793005)) + 1442695040888963407)) (2 ^ 45)))) rfl rfl rfl ?_; simp only [putT,st,ev,gt,hp,ofV,constT,intT,lm]
 refine WO_op (x := qi (band (bxor (Int.fdiv (IntKind.i64.wrap ((IntKind.i64.wrap (a1.h * 6364136223846793005)) + 1442695040888963407)) (2 ^ 33)) (Int.fdiv (IntKind.i64.wrap ((IntKind.i64.wrap (a1.h * 6364136223846793005)) + 1442695040888963407)) (2 ^ 45))) 255)) rfl rfl rfl ?_
 refine WO_op rfl rfl rfl ?_; simp only [putT,st,ev,gt,hp,ofV,constT,intT,lm]
 refine WO_nil (W_seq (W_seq ?_))
 refine W_draw (by kernel_rfl) (by kernel_rfl) ?_
 iterate 2 (refine WO_op rfl rfl rfl ?_; simp only [putT,st,ev,gt,hp,ofV,constT,intT,lm])
 refine WO_op (x := .bp 0 1) rfl rfl rfl ?_
 refine WO_op (x := qi a1.i) rfl rfl rfl ?_; simp only [putT,st,ev,gt,hp,ofV,constT,intT,lm]
 iterate 2 (refine WO_op rfl rfl rfl ?_; simp only [putT,st,ev,gt,hp,ofV,constT,intT,lm])
 refine WO_op (x := .bp 0 0) rfl rfl rfl ?_
 refine WO_op (x := .c (cL eU a1.b)) rfl rfl rfl ?_; simp only [putT,st,ev,gt,hp,ofV,constT,intT,lm]
 iterate 2 (refine WO_op rfl rfl rfl ?_; simp only [putT,st,ev,gt,hp,ofV,constT,intT,lm])
 refine WO_nil ?_
 refine W_cond rfl (fun hc => ?_) (fun hc => ?_)
 ·
  replace H := tr hc H
  refine W_seq ?_
  refine W_draw (by kernel_rfl) (by kernel_rfl) ?_
  iterate 3 (refine WO_op rfl rfl rfl ?_; simp only [putT,st,ev,gt,hp,ofV,constT,intT,lm])
  refine WO_op (x := .bp 0 0) rfl rfl rfl ?_
  refine WO_op (x := .c (cL eU a1.b)) rfl rfl rfl ?_; simp only [putT,st,ev,gt,hp,ofV,constT,intT,lm]
  iterate 2 (refine WO_op rfl rfl rfl ?_; simp only [putT,st,ev,gt,hp,ofV,constT,intT,lm])
  refine WO_op (x := .bp 0 1) rfl rfl rfl ?_
  refine WO_op (x := qi a1.i) rfl rfl rfl ?_; simp only [putT,st,ev,gt,hp,ofV,constT,intT,lm]
  obtain ⟨x2, hx2, H⟩ := bnd H
  refine WO_op rfl rfl (ev_ix (en := eU) hx2 rfl rfl rfl rfl rfl rfl rfl) ?_; simp only [putT,st,ev,gt,hp,ofV,constT,intT,lm]
  refine WO_op (x := .c (cI .u8 x2)) rfl rfl rfl ?_; simp only [putT,st,ev,gt,hp,ofV,constT,intT,lm]
  refine WO_op rfl rfl (ev_ii (j := .u8) (k' := .i64) rfl rfl rfl rfl) ?_; simp only [putT,st,ev,gt,hp,ofV,constT,intT,lm]
  refine WO_op rfl rfl rfl ?_
  refine WO_op (x := qi (band (IntKind.i64.wrap ((band (bxor (Int.fdiv (IntKind.i64.wrap ((IntKind.i64.wrap (a1.h * 6364136223846793005)) + 1442695040888963407)) (2 ^ 33)) (Int.fdiv (IntKind.i64.wrap ((IntKind.i64.wrap (a1.h * 6364136223846793005)) + 1442695040888963407)) (2 ^ 45))) 255) + (IntKind.i64.wrap (x2)))) 255)) rfl rfl rfl ?_
  refine WO_op rfl rfl rfl ?_; simp only [putT,st,ev,gt,hp,ofV,constT,intT,lm]
  refine WO_nil (W_region ?_)
  iterate 3 (refine WO_op rfl rfl rfl ?_; simp only [putT,st,ev,gt,hp,ofV,constT,intT,lm])
  refine WO_op (x := .bp 0 1) rfl rfl rfl ?_
  refine WO_op (x := qi a1.i) rfl rfl rfl ?_; simp only [putT,st,ev,gt,hp,ofV,constT,intT,lm]
  iterate 2 (refine WO_op rfl rfl rfl ?_; simp only [putT,st,ev,gt,hp,ofV,constT,intT,lm])
  refine WO_op (x := .bp 0 1) rfl rfl rfl ?_
  refine WO_op (x := .no) (σ' := ⟨[], [some [.c (cL eU a1.b), qi (IntKind.i64.wrap (a1.i + 1)), qi (IntKind.i64.wrap ((IntKind.i64.wrap (a1.h * 6364136223846793005)) + 1442695040888963407))]], []⟩) rfl rfl rfl ?_; simp only [putT,st,ev,gt,hp,ofV,constT,intT,lm]
  refine WO_nil (W_seq (W_region ?_))
  iterate 2 (refine WO_op rfl rfl rfl ?_; simp only [putT,st,ev,gt,hp,ofV,constT,intT,lm])
  refine WO_nil ?_
  refine W_ret ?_
  obtain rfl := Option.some.inj H
  exact told3 rfl
 ·
  replace H := fl hc H
  refine W_skip ?_
  refine W_seq (W_region ?_)
  iterate 2 (refine WO_op rfl rfl rfl ?_; simp only [putT,st,ev,gt,hp,ofV,constT,intT,lm])
  refine WO_nil ?_
  refine W_ret ?_
  obtain rfl := Option.some.inj H
  exact told3 rfl
theorem spec_l1Below_ok {a1 : L1Cur} {a2 : Int} {r : Int × L1Cur} (H : spec_l1Below a1 a2 = some r) : R 131 [.p [(cL eU a1.b, none), (cI .i64 a1.i, none), (cI .i64 a1.h, none)], .c (cI .i64 a2) none] = some (.c (cI .i64 r.1) none, [some [(cL eU r.2.b, none), (cI .i64 r.2.i, none), (cI .i64 r.2.h, none)]]) := by
 unfold spec_l1Below at H
 refine Fz_walk 37 rfl rfl Try.func131 rfl (by kernel_rfl) rfl rfl rfl rfl ?_
 simp only [tellVs, tellV, tells, tell, st0, padT, SX.newRow, SX.newBox, List.length_cons, List.length_nil, Nat.reduceAdd, Nat.reduceSub, List.replicate, List.cons_append, List.nil_append, List.foldl_cons, List.foldl_nil]
 refine W_seq (W_region ?_)
 refine WO_op rfl rfl rfl ?_; simp only [putT,st,ev,gt,hp,ofV,constT,intT,lm]
 refine WO_nil (W_seq (W_seq (W_region ?_)))
 iterate 2 (refine WO_op rfl rfl rfl ?_; simp only [putT,st,ev,gt,hp,ofV,constT,intT,lm])
 refine WO_nil ?_
 refine W_cond rfl (fun hc => ?_) (fun hc => ?_)
 ·
  replace H := tr hc H
  refine W_seq (W_region ?_)
  refine WO_op rfl rfl rfl ?_; simp only [putT,st,ev,gt,hp,ofV,constT,intT,lm]
  refine WO_nil ?_
  refine W_ret ?_
  obtain rfl := Option.some.inj H
  exact told3 rfl
 ·
  replace H := fl hc H
  refine W_skip ?_
  refine W_seq (W_seq (W_region ?_))
  iterate 2 (refine WO_op rfl rfl rfl ?_; simp only [putT,st,ev,gt,hp,ofV,constT,intT,lm])
  refine WO_nil ?_
  refine W_cond rfl (fun hc => ?_) (fun hc => ?_)
  ·
   replace H := tr hc H
   refine W_seq (W_region ?_)
   refine WO_op rfl rfl rfl ?_; simp only [putT,st,ev,gt,hp,ofV,constT,intT,lm]
   obtain ⟨x3, hx3, H⟩ := bnd H
   refine WO_op (x := qi x3.1) (σ' := ⟨[], [some [.c (cL eU x3.2.b), qi x3.2.i, qi x3.2.h]], []⟩) rfl rfl (ev_callG (al := [.bp 0 0]) (ls := [.b 0]) (spec_l1Byte_ok hx3) rfl rfl rfl rfl rfl (by decide) rfl rfl rfl rfl rfl rfl) ?_; simp only [putT,st,ev,gt,hp,ofV,constT,intT,lm]
   refine WO_op rfl rfl rfl ?_; simp only [putT,st,ev,gt,hp,ofV,constT,intT,lm]
   obtain ⟨q4, hq4, H⟩ := bnd H
   refine WO_op rfl rfl (ev_rem hq4 rfl rfl rfl) ?_; simp only [putT,st,ev,gt,hp,ofV,constT,intT,lm]
   refine WO_op rfl rfl rfl ?_; simp only [putT,st,ev,gt,hp,ofV,constT,intT,lm]
   refine WO_nil ?_
   refine W_ret ?_
   obtain rfl := Option.some.inj H
   exact told3 rfl
  ·
   replace H := fl hc H
   refine W_skip ?_
   refine W_seq (W_region ?_)
   refine WO_op rfl rfl rfl ?_; simp only [putT,st,ev,gt,hp,ofV,constT,intT,lm]
   obtain ⟨x5, hx5, H⟩ := bnd H
   refine WO_op (x := qi x5.1) (σ' := ⟨[], [some [.c (cL eU x5.2.b), qi x5.2.i, qi x5.2.h]], []⟩) rfl rfl (ev_callG (al := [.bp 0 0]) (ls := [.b 0]) (spec_l1Byte_ok hx5) rfl rfl rfl rfl rfl (by decide) rfl rfl rfl rfl rfl rfl) ?_; simp only [putT,st,ev,gt,hp,ofV,constT,intT,lm]
   refine WO_op rfl rfl rfl ?_; simp only [putT,st,ev,gt,hp,ofV,constT,intT,lm]
   refine WO_nil (W_seq (W_region ?_))
   refine WO_op rfl rfl rfl ?_; simp only [putT,st,ev,gt,hp,ofV,constT,intT,lm]
   obtain ⟨x6, hx6, H⟩ := bnd H
   refine WO_op (x := qi x6.1) (σ' := ⟨[], [some [.c (cL eU x6.2.b), qi x6.2.i, qi x6.2.h]], []⟩) rfl rfl (ev_callG (al := [.bp 0 0]) (ls := [.b 0]) (spec_l1Byte_ok hx6) rfl rfl rfl rfl rfl (by decide) rfl rfl rfl rfl rfl rfl) ?_; simp only [putT,st,ev,gt,hp,ofV,constT,intT,lm]
   refine WO_op rfl rfl rfl ?_; simp only [putT,st,ev,gt,hp,ofV,constT,intT,lm]
   refine WO_nil (W_seq (W_region ?_))
   refine WO_op rfl rfl rfl ?_; simp only [putT,st,ev,gt,hp,ofV,constT,intT,lm]
   obtain ⟨x7, hx7, H⟩ := bnd H
   refine WO_op (x := qi x7.1) (σ' := ⟨[], [some [.c (cL eU x7.2.b), qi x7.2.i, qi x7.2.h]], []⟩) rfl rfl (ev_callG (al := [.bp 0 0]) (ls := [.b 0]) (spec_l1Byte_ok hx7) rfl rfl rfl rfl rfl (by decide) rfl rfl rfl rfl rfl rfl) ?_; simp only [putT,st,ev,gt,hp,ofV,constT,intT,lm]
   refine WO_op rfl rfl rfl ?_; simp only [putT,st,ev,gt,hp,ofV,constT,intT,lm]
   refine WO_nil (W_seq (W_region ?_))
   refine WO_op rfl rfl rfl ?_; simp only [putT,st,ev,gt,hp,ofV,constT,intT,lm]
   obtain ⟨x8, hx8, H⟩ := bnd H
   refine WO_op (x := qi x8.1) (σ' := ⟨[], [some [.c (cL eU x8.2.b), qi x8.2.i, qi x8.2.h]], []⟩) rfl rfl (ev_callG (al := [.bp 0 0]) (ls := [.b 0]) (spec_l1Byte_ok hx8) rfl rfl rfl rfl rfl (by decide) rfl rfl rfl rfl rfl rfl) ?_; simp only [putT,st,ev,gt,hp,ofV,constT,intT,lm]
   refine WO_op rfl rfl rfl ?_; simp only [putT,st,ev,gt,hp,ofV,constT,intT,lm]
   refine WO_nil (W_seq (W_region ?_))
   iterate 11 (refine WO_op rfl rfl rfl ?_; simp only [putT,st,ev,gt,hp,ofV,constT,intT,lm])
   obtain ⟨q9, hq9, H⟩ := bnd H
   refine WO_op rfl rfl (ev_rem hq9 rfl rfl rfl) ?_; simp only [putT,st,ev,gt,hp,ofV,constT,intT,lm]
   refine WO_op rfl rfl rfl ?_; simp only [putT,st,ev,gt,hp,ofV,constT,intT,lm]
   refine WO_nil ?_
   refine W_ret ?_
   obtain rfl := Option.some.inj H
   exact told3 rfl
theorem spec_l1Pick_ok {a1 : L1Cur} {a2 : List Str} {r : Str × L1Cur} (H : spec_l1Pick a1 a2 = some r) : R 79 [.p [(cL eU a1.b, none), (cI .i64 a1.i, none), (cI .i64 a1.h, none)], .c (cL eS a2) none] = some (.c (cS r.1) none, [some [(cL eU r.2.b, none), (cI .i64 r.2.i, none), (cI .i64 r.2.h, none)]]) := by
 unfold spec_l1Pick at H
 refine Fz_walk 12 rfl rfl Try.func79 rfl (by kernel_rfl) rfl rfl rfl rfl ?_
 simp only [tellVs, tellV, tells, tell, st0, padT, SX.newRow, SX.newBox, List.length_cons, List.length_nil, Nat.reduceAdd, Nat.reduceSub, List.replicate, List.cons_append, List.nil_append, List.foldl_cons, List.foldl_nil]
 refine W_seq (W_region ?_)
 refine WO_op rfl rfl rfl ?_; simp only [putT,st,ev,gt,hp,ofV,constT,intT,lm]
 refine WO_nil (W_seq (W_region ?_))
 iterate 4 (refine WO_op rfl rfl rfl ?_; simp only [putT,st,ev,gt,hp,ofV,constT,intT,lm])
 obtain ⟨x3, hx3, H⟩ := bnd H
 refine WO_op (x := qi x3.1) (σ' := ⟨[], [some [.c (cL eU x3.2.b), qi x3.2.i, qi x3.2.h]], []⟩) rfl rfl (ev_callG (al := [.bp 0 0, qi (a2.length : Int)]) (ls := [.b 0]) (spec_l1Below_ok hx3) rfl rfl rfl rfl rfl (by decide) rfl rfl rfl rfl rfl rfl) ?_; simp only [putT,st,ev,gt,hp,ofV,constT,intT,lm]
 obtain ⟨x4, hx4, H⟩ := bnd H
 refine WO_op rfl rfl (ev_ix (en := eS) hx4 rfl rfl rfl rfl rfl rfl rfl) ?_; simp only [putT,st,ev,gt,hp,ofV,constT,intT,lm]
 refine WO_op (x := qs x4) rfl rfl rfl ?_
 refine WO_op rfl rfl rfl ?_; simp only [putT,st,ev,gt,hp,ofV,constT,intT,lm]
 refine WO_nil ?_
 refine W_ret ?_
 obtain rfl := Option.some.inj H
 exact told3 rfl
theorem spec_l1PickInt_ok {a1 : L1Cur} {a2 : List Int} {r : Int × L1Cur} (H : spec_l1PickInt a1 a2 = some r) : R 72 [.p [(cL eU a1.b, none), (cI .i64 a1.i, none), (cI .i64 a1.h, none)], .c (cL eI a2) none] = some (.c (cI .i64 r.1) none, [some [(cL eU r.2.b, none), (cI .i64 r.2.i, none), (cI .i64 r.2.h, none)]]) := by
 unfold spec_l1PickInt at H
 refine Fz_walk 12 rfl rfl Try.func72 rfl (by kernel_rfl) rfl rfl rfl rfl ?_
 simp only [tellVs, tellV, tells, tell, st0, padT, SX.newRow, SX.newBox, List.length_cons, List.length_nil, Nat.reduceAdd, Nat.reduceSub, List.replicate, List.cons_append, List.nil_append, List.foldl_cons, List.foldl_nil]
 refine W_seq (W_region ?_)
 refine WO_op rfl rfl rfl ?_; simp only [putT,st,ev,gt,hp,ofV,constT,intT,lm]
 refine WO_nil (W_seq (W_region ?_))
 iterate 4 (refine WO_op rfl rfl rfl ?_; simp only [putT,st,ev,gt,hp,ofV,constT,intT,lm])
 obtain ⟨x3, hx3, H⟩ := bnd H
 refine WO_op (x := qi x3.1) (σ' := ⟨[], [some [.c (cL eU x3.2.b), qi x3.2.i, qi x3.2.h]], []⟩) rfl rfl (ev_callG (al := [.bp 0 0, qi (a2.length : Int)]) (ls := [.b 0]) (spec_l1Below_ok hx3) rfl rfl rfl rfl rfl (by decide) rfl rfl rfl rfl rfl rfl) ?_; simp only [putT,st,ev,gt,hp,ofV,constT,intT,lm]
 obtain ⟨x4, hx4, H⟩ := bnd H
 refine WO_op rfl rfl (ev_ix (en := eI) hx4 rfl rfl rfl rfl rfl rfl rfl) ?_; simp only [putT,st,ev,gt,hp,ofV,constT,intT,lm]
 refine WO_op (x := qi x4) rfl rfl rfl ?_
 refine WO_op rfl rfl rfl ?_; simp only [putT,st,ev,gt,hp,ofV,constT,intT,lm]
 refine WO_nil ?_
 refine W_ret ?_
 obtain rfl := Option.some.inj H
 exact told3 rfl
theorem spec_l1Once_ok {a1 : L1Cur} {a2 : Int} {r : Bool × L1Cur} (H : spec_l1Once a1 a2 = some r) : R 133 [.p [(cL eU a1.b, none), (cI .i64 a1.i, none), (cI .i64 a1.h, none)], .c (cI .i64 a2) none] = some (.c (cB r.1) none, [some [(cL eU r.2.b, none), (cI .i64 r.2.i, none), (cI .i64 r.2.h, none)]]) := by
 unfold spec_l1Once at H
 refine Fz_walk 9 rfl rfl Try.func133 rfl (by kernel_rfl) rfl rfl rfl rfl ?_
 simp only [tellVs, tellV, tells, tell, st0, padT, SX.newRow, SX.newBox, List.length_cons, List.length_nil, Nat.reduceAdd, Nat.reduceSub, List.replicate, List.cons_append, List.nil_append, List.foldl_cons, List.foldl_nil]
 refine W_seq (W_region ?_)
 refine WO_op rfl rfl rfl ?_; simp only [putT,st,ev,gt,hp,ofV,constT,intT,lm]
 refine WO_nil (W_seq (W_region ?_))
 iterate 2 (refine WO_op rfl rfl rfl ?_; simp only [putT,st,ev,gt,hp,ofV,constT,intT,lm])
 obtain ⟨x3, hx3, H⟩ := bnd H
 refine WO_op (x := qi x3.1) (σ' := ⟨[], [some [.c (cL eU x3.2.b), qi x3.2.i, qi x3.2.h]], []⟩) rfl rfl (ev_callG (al := [.bp 0 0, qi a2]) (ls := [.b 0]) (spec_l1Below_ok hx3) rfl rfl rfl rfl rfl (by decide) rfl rfl rfl rfl rfl rfl) ?_; simp only [putT,st,ev,gt,hp,ofV,constT,intT,lm]
 iterate 2 (refine WO_op rfl rfl rfl ?_; simp only [putT,st,ev,gt,hp,ofV,constT,intT,lm])
 refine WO_nil ?_
 refine W_ret ?_
 obtain rfl := Option.some.inj H
 exact told3 rfl
theorem spec_PaceNew_ok  {r : Pace} (H : spec_PaceNew = some r) : R 177 [] = some (.ag [(cI .i64 r.Up, none), (cI .i64 r.Down, none), (cI .i64 r.UpSpan, none), (cI .i64 r.DownSpan, none)], []) := by
 unfold spec_PaceNew at H
 refine Fz_walk 2 rfl rfl Try.func177 rfl (by kernel_rfl) rfl rfl rfl rfl ?_
 simp only [tellVs, tellV, tells, tell, st0, padT, SX.newRow, SX.newBox, List.length_cons, List.length_nil, Nat.reduceAdd, Nat.reduceSub, List.replicate, List.cons_append, List.nil_append, List.foldl_cons, List.foldl_nil]
 refine W_seq (W_region ?_)
 refine WO_op (x := .bp 0 0) (σ' := ⟨[], [some [qi 0, qi 0, qi 0, qi 0]], []⟩) rfl rfl rfl ?_; simp only [putT,st,ev,gt,hp,ofV,constT,intT,lm]
 refine WO_nil (W_seq (W_region ?_))
 refine WO_op (x := .ag [qi 0, qi 0, qi 0, qi 300]) rfl rfl rfl ?_
 refine WO_op (x := .no) (σ' := ⟨[], [some [qi 0, qi 0, qi 0, qi 300]], []⟩) rfl rfl rfl ?_; simp only [putT,st,ev,gt,hp,ofV,constT,intT,lm]
 refine WO_nil ?_
 refine W_ret ?_
 obtain rfl := Option.some.inj H
 exact told3 rfl
theorem spec_l6DrawPace_ok {a1 : L1Cur} {r : Pace × L1Cur} (H : spec_l6DrawPace a1 = some r) : R 162 [.p [(cL eU a1.b, none), (cI .i64 a1.i, none), (cI .i64 a1.h, none)]] = some (.ag [(cI .i64 r.1.Up, none), (cI .i64 r.1.Down, none), (cI .i64 r.1.UpSpan, none), (cI .i64 r.1.DownSpan, none)], [some [(cL eU r.2.b, none), (cI .i64 r.2.i, none), (cI .i64 r.2.h, none)]]) := by
 unfold spec_l6DrawPace at H
 refine Fz_walk 25 rfl rfl Try.func162 rfl (by kernel_rfl) rfl rfl rfl rfl ?_
 simp only [tellVs, tellV, tells, tell, st0, padT, SX.newRow, SX.newBox, List.length_cons, List.length_nil, Nat.reduceAdd, Nat.reduceSub, List.replicate, List.cons_append, List.nil_append, List.foldl_cons, List.foldl_nil]
 refine W_seq (W_region ?_)
 refine WO_op (x := .bp 1 0) (σ' := ⟨[], [some [.c (cL eU a1.b), qi a1.i, qi a1.h], some [qi 0, qi 0, qi 0, qi 0]], []⟩) rfl rfl rfl ?_; simp only [putT,st,ev,gt,hp,ofV,constT,intT,lm]
 refine WO_nil (W_seq (W_seq (W_region ?_)))
 refine WO_op rfl rfl rfl ?_; simp only [putT,st,ev,gt,hp,ofV,constT,intT,lm]
 obtain ⟨x2, hx2, H⟩ := bnd H
 refine WO_op (x := qb x2.1) (σ' := ⟨[], [some [.c (cL eU x2.2.b), qi x2.2.i, qi x2.2.h], some [qi 0, qi 0, qi 0, qi 0]], []⟩) rfl rfl (ev_callG (al := [.bp 0 0, qi 3]) (ls := [.b 0]) (spec_l1Once_ok hx2) rfl rfl rfl rfl rfl (by decide) rfl rfl rfl rfl rfl rfl) ?_; simp only [putT,st,ev,gt,hp,ofV,constT,intT,lm]
 refine WO_nil ?_
 refine W_cond rfl (fun hc => ?_) (fun hc => ?_)
 ·
  replace H := tr hc H
  refine W_seq (W_region ?_)
  obtain ⟨x3, hx3, H⟩ := bnd H
  refine WO_op (x := .ag [qi x3.Up, qi x3.Down, qi x3.UpSpan, qi x3.DownSpan]) (σ' := ⟨[], [some [.c (cL eU x2.2.b), qi x2.2.i, qi x2.2.h], some [qi 0, qi 0, qi 0, qi 0]], []⟩) rfl rfl (ev_callG (al := []) (ls := []) (spec_PaceNew_ok hx3) rfl rfl rfl rfl rfl (by decide) rfl rfl rfl rfl rfl rfl) ?_; simp only [putT,st,ev,gt,hp,ofV,constT,intT,lm]
  refine WO_op (x := .no) (σ' := ⟨[], [some [.c (cL eU x2.2.b), qi x2.2.i, qi x2.2.h], some [qi x3.Up, qi x3.Down, qi x3.UpSpan, qi x3.DownSpan]], []⟩) rfl rfl rfl ?_; simp only [putT,st,ev,gt,hp,ofV,constT,intT,lm]
  refine WO_nil ?_
  refine W_ret ?_
  obtain rfl := Option.some.inj H
  exact told3 rfl
 ·
  replace H := fl hc H
  refine W_skip ?_
  refine W_seq (W_region ?_)
  refine WO_op rfl rfl rfl ?_; simp only [putT,st,ev,gt,hp,ofV,constT,intT,lm]
  refine WO_op (x := .row 0) (σ' := ⟨[], [some [.c (cL eU x2.2.b), qi x2.2.i, qi x2.2.h], some [qi 0, qi 0, qi 0, qi 0]], [rr 1 eI ([0, 1, 4] : List Int) true]⟩) rfl rfl (ev_bs ([0, 1, 4] : List Int) eI rfl rfl rfl rfl) ?_; simp only [putT,st,ev,gt,hp,ofV,constT,intT,lm]
  obtain ⟨x4, hx4, H⟩ := bnd H
  refine WO_op (x := qi x4.1) (σ' := ⟨[], [some [.c (cL eU x4.2.b), qi x4.2.i, qi x4.2.h], some [qi 0, qi 0, qi 0, qi 0]], [rr 1 eI ([0, 1, 4] : List Int) false]⟩) rfl rfl (ev_callG (al := [.bp 0 0, .row 0]) (ls := [.b 0]) (spec_l1PickInt_ok hx4) rfl rfl rfl rfl rfl (by decide) rfl rfl rfl rfl rfl rfl) ?_; simp only [putT,st,ev,gt,hp,ofV,constT,intT,lm]
  refine WO_op rfl rfl rfl ?_; simp only [putT,st,ev,gt,hp,ofV,constT,intT,lm]
  refine WO_nil (W_seq (W_region ?_))
  refine WO_op rfl rfl rfl ?_; simp only [putT,st,ev,gt,hp,ofV,constT,intT,lm]
  refine WO_op (x := .row 1) (σ' := ⟨[], [some [.c (cL eU x4.2.b), qi x4.2.i, qi x4.2.h], some [qi 0, qi 0, qi 0, qi 0]], [rr 1 eI ([0, 1, 4] : List Int) false, rr 1 eI ([0, 1, 2] : List Int) true]⟩) rfl rfl (ev_bs ([0, 1, 2] : List Int) eI rfl rfl rfl rfl) ?_; simp only [putT,st,ev,gt,hp,ofV,constT,intT,lm]
  obtain ⟨x5, hx5, H⟩ := bnd H
  refine WO_op (x := qi x5.1) (σ' := ⟨[], [some [.c (cL eU x5.2.b), qi x5.2.i, qi x5.2.h], some [qi 0, qi 0, qi 0, qi 0]], [rr 1 eI ([0, 1, 4] : List Int) false, rr 1 eI ([0, 1, 2] : List Int) false]⟩) rfl rfl (ev_callG (al := [.bp 0 0, .row 1]) (ls := [.b 0]) (spec_l1PickInt_ok hx5) rfl rfl rfl rfl rfl (by decide) rfl rfl rfl rfl rfl rfl) ?_; simp only [putT,st,ev,gt,hp,ofV,constT,intT,lm]
  refine WO_op rfl rfl rfl ?_; simp only [putT,st,ev,gt,hp,ofV,constT,intT,lm]
  refine WO_nil (W_seq (W_region ?_))
  refine WO_op rfl rfl rfl ?_; simp only [putT,st,ev,gt,hp,ofV,constT,intT,lm]
  refine WO_op (x := .row 2) (σ' := ⟨[], [some [.c (cL eU x5.2.b), qi x5.2.i, qi x5.2.h], some [qi 0, qi 0, qi 0, qi 0]], [rr 1 eI ([0, 1, 4] : List Int) false, rr 1 eI ([0, 1, 2] : List Int) false, rr 1 eI kl0 true]⟩) rfl rfl (ev_bs kl0 eI rfl rfl rfl rfl) ?_; simp only [putT,st,ev,gt,hp,ofV,constT,intT,lm]
  obtain ⟨x6, hx6, H⟩ := bnd H
  refine WO_op (x := qi x6.1) (σ' := ⟨[], [some [.c (cL eU x6.2.b), qi x6.2.i, qi x6.2.h], some [qi 0, qi 0, qi 0, qi 0]], [rr 1 eI ([0, 1, 4] : List Int) false, rr 1 eI ([0, 1, 2] : List Int) false, rr 1 eI kl0 false]⟩) rfl rfl (ev_callG (al := [.bp 0 0, .row 2]) (ls := [.b 0]) (spec_l1PickInt_ok hx6) rfl rfl rfl rfl rfl (by decide) rfl rfl rfl rfl rfl rfl) ?_; simp only [putT,st,ev,gt,hp,ofV,constT,intT,lm]
  refine WO_op rfl rfl rfl ?_; simp only [putT,st,ev,gt,hp,ofV,constT,intT,lm]
  refine WO_nil (W_seq (W_region ?_))
  iterate 4 (refine WO_op rfl rfl rfl ?_; simp only [putT,st,ev,gt,hp,ofV,constT,intT,lm])
  refine WO_op (x := .row 3) (σ' := ⟨[], [some [.c (cL eU x6.2.b), qi x6.2.i, qi x6.2.h], some [qi 0, qi 0, qi 0, qi 0]], [rr 1 eI ([0, 1, 4] : List Int) false, rr 1 eI ([0, 1, 2] : List Int) false, rr 1 eI kl0 false, rr 1 eI kl1 true]⟩) rfl rfl (by kernel_rfl) ?_; simp only [putT,st,ev,gt,hp,ofV,constT,intT,lm]
  obtain ⟨x7, hx7, H⟩ := bnd H
  refine WO_op (x := qi x7.1) (σ' := ⟨[], [some [.c (cL eU x7.2.b), qi x7.2.i, qi x7.2.h], some [qi 0, qi 0, qi 0, qi 0]], [rr 1 eI ([0, 1, 4] : List Int) false, rr 1 eI ([0, 1, 2] : List Int) false, rr 1 eI kl0 false, rr 1 eI kl1 false]⟩) rfl rfl (ev_callG (al := [.bp 0 0, .row 3]) (ls := [.b 0]) (spec_l1PickInt_ok hx7) rfl rfl rfl rfl rfl (by decide) rfl rfl rfl rfl rfl rfl) ?_; simp only [putT,st,ev,gt,hp,ofV,constT,intT,lm]
  refine WO_op (x := .ag [qi x4.1, qi x5.1, qi x6.1, qi x7.1]) rfl rfl rfl ?_
  refine WO_op (x := .no) (σ' := ⟨[], [some [.c (cL eU x7.2.b), qi x7.2.i, qi x7.2.h], some [qi x4.1, qi x5.1, qi x6.1, qi x7.1]], [rr 1 eI ([0, 1, 4] : List Int) false, rr 1 eI ([0, 1, 2] : List Int) false, rr 1 eI kl0 false, rr 1 eI kl1 false]⟩) rfl rfl rfl ?_; simp only [putT,st,ev,gt,hp,ofV,constT,intT,lm]
  refine WO_nil ?_
  refine W_ret ?_
  obtain rfl := Option.some.inj H
  exact told3 rfl
theorem spec_l6DrawMetric_ok {a1 : L1Cur} {r : Metric × L1Cur} (H : spec_l6DrawMetric a1 = some r) : R 132 [.p [(cL eU a1.b, none), (cI .i64 a1.i, none), (cI .i64 a1.h, none)]] = some (.ag [(cS r.1.Name, none), (cI .i64 r.1.Kind, none), (cI .i64 r.1.Goal, none)], [some [(cL eU r.2.b, none), (cI .i64 r.2.i, none), (cI .i64 r.2.h, none)]]) := by
 unfold spec_l6DrawMetric at H
 refine Fz_walk 17 rfl rfl Try.func132 rfl (by kernel_rfl) rfl rfl rfl rfl ?_
 simp only [tellVs, tellV, tells, tell, st0, padT, SX.newRow, SX.newBox, List.length_cons, List.length_nil, Nat.reduceAdd, Nat.reduceSub, List.replicate, List.cons_append, List.nil_append, List.foldl_cons, List.foldl_nil]
 refine W_seq (W_region ?_)
 refine WO_op (x := .bp 1 0) (σ' := ⟨[], [some [.c (cL eU a1.b), qi a1.i, qi a1.h], some [qs [], qi 0, qi 0]], []⟩) rfl rfl rfl ?_; simp only [putT,st,ev,gt,hp,ofV,constT,intT,lm]
 refine WO_nil (W_seq (W_region ?_))
 refine WO_op rfl rfl rfl ?_; simp only [putT,st,ev,gt,hp,ofV,constT,intT,lm]
 refine WO_op (x := .row 0) (σ' := ⟨[], [some [.c (cL eU a1.b), qi a1.i, qi a1.h], some [qs [], qi 0, qi 0]], [rr 1 eS kl2 true]⟩) rfl rfl (by kernel_rfl) ?_; simp only [putT,st,ev,gt,hp,ofV,constT,intT,lm]
 obtain ⟨x2, hx2, H⟩ := bnd H
 refine WO_op (x := qs x2.1) (σ' := ⟨[], [some [.c (cL eU x2.2.b), qi x2.2.i, qi x2.2.h], some [qs [], qi 0, qi 0]], [rr 1 eS kl2 false]⟩) rfl rfl (ev_callG (al := [.bp 0 0, .row 0]) (ls := [.b 0]) (spec_l1Pick_ok hx2) rfl rfl rfl rfl rfl (by decide) rfl rfl rfl rfl rfl rfl) ?_; simp only [putT,st,ev,gt,hp,ofV,constT,intT,lm]
 refine WO_op rfl rfl rfl ?_; simp only [putT,st,ev,gt,hp,ofV,constT,intT,lm]
 refine WO_nil (W_seq (W_region ?_))
 refine WO_op rfl rfl rfl ?_; simp only [putT,st,ev,gt,hp,ofV,constT,intT,lm]
 obtain ⟨x3, hx3, H⟩ := bnd H
 refine WO_op (x := qi x3.1) (σ' := ⟨[], [some [.c (cL eU x3.2.b), qi x3.2.i, qi x3.2.h], some [qs [], qi 0, qi 0]], [rr 1 eS kl2 false]⟩) rfl rfl (ev_callG (al := [.bp 0 0, qi 3]) (ls := [.b 0]) (spec_l1Below_ok hx3) rfl rfl rfl rfl rfl (by decide) rfl rfl rfl rfl rfl rfl) ?_; simp only [putT,st,ev,gt,hp,ofV,constT,intT,lm]
 iterate 2 (refine WO_op rfl rfl rfl ?_; simp only [putT,st,ev,gt,hp,ofV,constT,intT,lm])
 refine WO_nil (W_seq (W_region ?_))
 iterate 3 (refine WO_op rfl rfl rfl ?_; simp only [putT,st,ev,gt,hp,ofV,constT,intT,lm])
 refine WO_op (x := .row 1) (σ' := ⟨[], [some [.c (cL eU x3.2.b), qi x3.2.i, qi x3.2.h], some [qs [], qi 0, qi 0]], [rr 1 eS kl2 false, rr 1 eI kl3 true]⟩) rfl rfl (by kernel_rfl) ?_; simp only [putT,st,ev,gt,hp,ofV,constT,intT,lm]
 obtain ⟨x4, hx4, H⟩ := bnd H
 refine WO_op (x := qi x4.1) (σ' := ⟨[], [some [.c (cL eU x4.2.b), qi x4.2.i, qi x4.2.h], some [qs [], qi 0, qi 0]], [rr 1 eS kl2 false, rr 1 eI kl3 false]⟩) rfl rfl (ev_callG (al := [.bp 0 0, .row 1]) (ls := [.b 0]) (spec_l1PickInt_ok hx4) rfl rfl rfl rfl rfl (by decide) rfl rfl rfl rfl rfl rfl) ?_; simp only [putT,st,ev,gt,hp,ofV,constT,intT,lm]
 refine WO_op (x := .ag [qs x2.1, qi (IntKind.i64.wrap (1 + x3.1)), qi x4.1]) rfl rfl rfl ?_
 refine WO_op (x := .no) (σ' := ⟨[], [some [.c (cL eU x4.2.b), qi x4.2.i, qi x4.2.h], some [qs x2.1, qi (IntKind.i64.wrap (1 + x3.1)), qi x4.1]], [rr 1 eS kl2 false, rr 1 eI kl3 false]⟩) rfl rfl rfl ?_; simp only [putT,st,ev,gt,hp,ofV,constT,intT,lm]
 refine WO_nil ?_
 refine W_ret ?_
 obtain rfl := Option.some.inj H
 exact told3 rfl
theorem spec_l3DrawText_ok {a1 : L1Cur} {r : Str × L1Cur} (H : spec_l3DrawText a1 = some r) : R 163 [.p [(cL eU a1.b, none), (cI .i64 a1.i, none), (cI .i64 a1.h, none)]] = some (.c (cS r.1) none, [some [(cL eU r.2.b, none), (cI .i64 r.2.i, none), (cI .i64 r.2.h, none)]]) := by
 unfold spec_l3DrawText at H
 refine Fz_walk 6 rfl rfl Try.func163 rfl (by kernel_rfl) rfl rfl rfl rfl ?_
 simp only [tellVs, tellV, tells, tell, st0, padT, SX.newRow, SX.newBox, List.length_cons, List.length_nil, Nat.reduceAdd, Nat.reduceSub, List.replicate, List.cons_append, List.nil_append, List.foldl_cons, List.foldl_nil]
 refine W_seq (W_region ?_)
 refine WO_op rfl rfl rfl ?_; simp only [putT,st,ev,gt,hp,ofV,constT,intT,lm]
 refine WO_nil (W_seq (W_region ?_))
 refine WO_op rfl rfl rfl ?_; simp only [putT,st,ev,gt,hp,ofV,constT,intT,lm]
 refine WO_op (x := .row 0) (σ' := ⟨[], [some [.c (cL eU a1.b), qi a1.i, qi a1.h]], [rr 1 eS kl4 true]⟩) rfl rfl (by kernel_rfl) ?_; simp only [putT,st,ev,gt,hp,ofV,constT,intT,lm]
 obtain ⟨x2, hx2, H⟩ := bnd H
 refine WO_op (x := qs x2.1) (σ' := ⟨[], [some [.c (cL eU x2.2.b), qi x2.2.i, qi x2.2.h]], [rr 1 eS kl4 false]⟩) rfl rfl (ev_callG (al := [.bp 0 0, .row 0]) (ls := [.b 0]) (spec_l1Pick_ok hx2) rfl rfl rfl rfl rfl (by decide) rfl rfl rfl rfl rfl rfl) ?_; simp only [putT,st,ev,gt,hp,ofV,constT,intT,lm]
 refine WO_op rfl rfl rfl ?_; simp only [putT,st,ev,gt,hp,ofV,constT,intT,lm]
 refine WO_nil ?_
 refine W_ret ?_
 obtain rfl := Option.some.inj H
 exact told3 rfl
theorem spec_l6DrawRight_ok {a1 : L1Cur} {r : Order × L1Cur} (H : spec_l6DrawRight a1 = some r) : R 130 [.p [(cL eU a1.b, none), (cI .i64 a1.i, none), (cI .i64 a1.h, none)]] = some (.ag [(cS r.1.Name, none), (cS r.1.Target, none), (cI .i64 r.1.Low, none), (cI .i64 r.1.High, none), (cL enc_Metric r.1.Metrics, some 3), (cI .i64 r.1.Pace.Up, none), (cI .i64 r.1.Pace.Down, none), (cI .i64 r.1.Pace.UpSpan, none), (cI .i64 r.1.Pace.DownSpan, none), (cL enc_Note r.1.Notes, some 2)], [some [(cL eU r.2.b, none), (cI .i64 r.2.i, none), (cI .i64 r.2.h, none)]]) := by
 unfold spec_l6DrawRight at H
 refine Fz_walk 72 rfl rfl Try.func130 rfl (by kernel_rfl) rfl rfl rfl rfl ?_
 simp only [tellVs, tellV, tells, tell, st0, padT, SX.newRow, SX.newBox, List.length_cons, List.length_nil, Nat.reduceAdd, Nat.reduceSub, List.replicate, List.cons_append, List.nil_append, List.foldl_cons, List.foldl_nil]
 refine W_seq (W_region ?_)
 refine WO_op (x := .bp 1 0) (σ' := ⟨[], [some [.c (cL eU a1.b), qi a1.i, qi a1.h], some [qs [], qs [], qi 0, qi 0, .nil, qi 0, qi 0, qi 0, qi 0, .nil]], []⟩) rfl rfl rfl ?_; simp only [putT,st,ev,gt,hp,ofV,constT,intT,lm]
 refine WO_nil (W_seq (W_region ?_))
 refine WO_op rfl rfl rfl ?_; simp only [putT,st,ev,gt,hp,ofV,constT,intT,lm]
 obtain ⟨x2, hx2, H⟩ := bnd H
 refine WO_op (x := qi x2.1) (σ' := ⟨[], [some [.c (cL eU x2.2.b), qi x2.2.i, qi x2.2.h], some [qs [], qs [], qi 0, qi 0, .nil, qi 0, qi 0, qi 0, qi 0, .nil]], []⟩) rfl rfl (ev_callG (al := [.bp 0 0, qi 4]) (ls := [.b 0]) (spec_l1Below_ok hx2) rfl rfl rfl rfl rfl (by decide) rfl rfl rfl rfl rfl rfl) ?_; simp only [putT,st,ev,gt,hp,ofV,constT,intT,lm]
 iterate 2 (refine WO_op rfl rfl rfl ?_; simp only [putT,st,ev,gt,hp,ofV,constT,intT,lm])
 refine WO_nil (W_seq (W_region ?_))
 refine WO_op rfl rfl rfl ?_; simp only [putT,st,ev,gt,hp,ofV,constT,intT,lm]
 refine WO_op (x := .row 0) (σ' := ⟨[], [some [.c (cL eU x2.2.b), qi x2.2.i, qi x2.2.h], some [qs [], qs [], qi 0, qi 0, .nil, qi 0, qi 0, qi 0, qi 0, .nil]], [rr 1 eS kl5 true]⟩) rfl rfl (ev_bs kl5 eS rfl rfl rfl rfl) ?_; simp only [putT,st,ev,gt,hp,ofV,constT,intT,lm]
 obtain ⟨x3, hx3, H⟩ := bnd H
 refine WO_op (x := qs x3.1) (σ' := ⟨[], [some [.c (cL eU x3.2.b), qi x3.2.i, qi x3.2.h], some [qs [], qs [], qi 0, qi 0, .nil, qi 0, qi 0, qi 0, qi 0, .nil]], [rr 1 eS kl5 false]⟩) rfl rfl (ev_callG (al := [.bp 0 0, .row 0]) (ls := [.b 0]) (spec_l1Pick_ok hx3) rfl rfl rfl rfl rfl (by decide) rfl rfl rfl rfl rfl rfl) ?_; simp only [putT,st,ev,gt,hp,ofV,constT,intT,lm]
 refine WO_op rfl rfl rfl ?_; simp only [putT,st,ev,gt,hp,ofV,constT,intT,lm]
 refine WO_op (x := .row 1) (σ' := ⟨[], [some [.c (cL eU x3.2.b), qi x3.2.i, qi x3.2.h], some [qs [], qs [], qi 0, qi 0, .nil, qi 0, qi 0, qi 0, qi 0, .nil]], [rr 1 eS kl5 false, rr 1 eS kl6 true]⟩) rfl rfl (ev_bs kl6 eS rfl rfl rfl rfl) ?_; simp only [putT,st,ev,gt,hp,ofV,constT,intT,lm]
 obtain ⟨x4, hx4, H⟩ := bnd H
 refine WO_op (x := qs x4.1) (σ' := ⟨[], [some [.c (cL eU x4.2.b), qi x4.2.i, qi x4.2.h], some [qs [], qs [], qi 0, qi 0, .nil, qi 0, qi 0, qi 0, qi 0, .nil]], [rr 1 eS kl5 false, rr 1 eS kl6 false]⟩) rfl rfl (ev_callG (al := [.bp 0 0, .row 1]) (ls := [.b 0]) (spec_l1Pick_ok hx4) rfl rfl rfl rfl rfl (by decide) rfl rfl rfl rfl rfl rfl) ?_; simp only [putT,st,ev,gt,hp,ofV,constT,intT,lm]
 iterate 3 (refine WO_op rfl rfl rfl ?_; simp only [putT,st,ev,gt,hp,ofV,constT,intT,lm])
 refine WO_op (x := .row 2) (σ' := ⟨[], [some [.c (cL eU x4.2.b), qi x4.2.i, qi x4.2.h], some [qs [], qs [], qi 0, qi 0, .nil, qi 0, qi 0, qi 0, qi 0, .nil]], [rr 1 eS kl5 false, rr 1 eS kl6 false, rr 1 eI kl7 true]⟩) rfl rfl (by kernel_rfl) ?_; simp only [putT,st,ev,gt,hp,ofV,constT,intT,lm]
 obtain ⟨x5, hx5, H⟩ := bnd H
 refine WO_op (x := qi x5.1) (σ' := ⟨[], [some [.c (cL eU x5.2.b), qi x5.2.i, qi x5.2.h], some [qs [], qs [], qi 0, qi 0, .nil, qi 0, qi 0, qi 0, qi 0, .nil]], [rr 1 eS kl5 false, rr 1 eS kl6 false, rr 1 eI kl7 false]⟩) rfl rfl (ev_callG (al := [.bp 0 0, .row 2]) (ls := [.b 0]) (spec_l1PickInt_ok hx5) rfl rfl rfl rfl rfl (by decide) rfl rfl rfl rfl rfl rfl) ?_; simp only [putT,st,ev,gt,hp,ofV,constT,intT,lm]
 iterate 2 (refine WO_op rfl rfl rfl ?_; simp only [putT,st,ev,gt,hp,ofV,constT,intT,lm])
 obtain ⟨x6, hx6, H⟩ := bnd H
 refine WO_op (x := .ag [qi x6.1.Up, qi x6.1.Down, qi x6.1.UpSpan, qi x6.1.DownSpan]) (σ' := ⟨[], [some [.c (cL eU x6.2.b), qi x6.2.i, qi x6.2.h], some [qs [], qs [], qi 0, qi 0, .nil, qi 0, qi 0, qi 0, qi 0, .nil]], [rr 1 eS kl5 false, rr 1 eS kl6 false, rr 1 eI kl7 false]⟩) rfl rfl (ev_callG (al := [.bp 0 0]) (ls := [.b 0]) (spec_l6DrawPace_ok hx6) rfl rfl rfl rfl rfl (by decide) rfl rfl rfl rfl rfl rfl) ?_; simp only [putT,st,ev,gt,hp,ofV,constT,intT,lm]
 refine WO_op (x := .ag [qs x3.1, qs x4.1, qi (IntKind.i64.wrap (1 + x2.1)), qi (IntKind.i64.wrap ((IntKind.i64.wrap (1 + x2.1)) + x5.1)), .nil, qi x6.1.Up, qi x6.1.Down, qi x6.1.UpSpan, qi x6.1.DownSpan, .nil]) rfl rfl rfl ?_
 refine WO_op (x := .bp 2 0) (σ' := ⟨[], [some [.c (cL eU x6.2.b), qi x6.2.i, qi x6.2.h], some [qs [], qs [], qi 0, qi 0, .nil, qi 0, qi 0, qi 0, qi 0, .nil], some [qs [], qs [], qi 0, qi 0, .nil, qi 0, qi 0, qi 0, qi 0, .nil]], [rr 1 eS kl5 false, rr 1 eS kl6 false, rr 1 eI kl7 false]⟩) rfl rfl rfl ?_
 refine WO_op (x := .no) (σ' := ⟨[], [some [.c (cL eU x6.2.b), qi x6.2.i, qi x6.2.h], some [qs [], qs [], qi 0, qi 0, .nil, qi 0, qi 0, qi 0, qi 0, .nil], some [qs x3.1, qs x4.1, qi (IntKind.i64.wrap (1 + x2.1)), qi (IntKind.i64.wrap ((IntKind.i64.wrap (1 + x2.1)) + x5.1)), .nil, qi x6.1.Up, qi x6.1.Down, qi x6.1.UpSpan, qi x6.1.DownSpan, .nil]], [rr 1 eS kl5 false, rr 1 eS kl6 false, rr 1 eI kl7 false]⟩) rfl rfl rfl ?_; simp only [putT,st,ev,gt,hp,ofV,constT,intT,lm]
 refine WO_nil (W_seq (W_region ?_))
 refine WO_op (x := .row 3) (σ' := ⟨[], [some [.c (cL eU x6.2.b), qi x6.2.i, qi x6.2.h], some [qs [], qs [], qi 0, qi 0, .nil, qi 0, qi 0, qi 0, qi 0, .nil], some [qs x3.1, qs x4.1, qi (IntKind.i64.wrap (1 + x2.1)), qi (IntKind.i64.wrap ((IntKind.i64.wrap (1 + x2.1)) + x5.1)), .nil, qi x6.1.Up, qi x6.1.Down, qi x6.1.UpSpan, qi x6.1.DownSpan, .nil]], [rr 1 eS kl5 false, rr 1 eS kl6 false, rr 1 eI kl7 false, rr 1 eS kl8 true]⟩) rfl rfl (by kernel_rfl) ?_; simp only [putT,st,ev,gt,hp,ofV,constT,intT,lm]
 refine WO_op rfl rfl rfl ?_; simp only [putT,st,ev,gt,hp,ofV,constT,intT,lm]
 refine WO_nil (W_seq (W_seq (W_region ?_)))
 refine WO_op rfl rfl rfl ?_; simp only [putT,st,ev,gt,hp,ofV,constT,intT,lm]
 refine WO_nil ?_
 refine W_block ?_
 obtain ⟨t16, ht16, H⟩ := bnd H
 refine loop_ruleM (ls := [.b 0]) 0 (fun (i : Nat) (t16 : List Int × Int × Int × List Metric) => match i with | 0 => ⟨[.bp 0 0, .no, .bp 1 0, .no, .bp 2 0], [some [.c (cL eU t16.1), qi t16.2.1, qi t16.2.2.1], some [qs [], qs [], qi 0, qi 0, .nil, qi 0, qi 0, qi 0, qi 0, .nil], some [qs x3.1, qs x4.1, qi (IntKind.i64.wrap (1 + x2.1)), qi (IntKind.i64.wrap ((IntKind.i64.wrap (1 + x2.1)) + x5.1)), .nil, qi x6.1.Up, qi x6.1.Down, qi x6.1.UpSpan, qi x6.1.DownSpan, .nil]], []⟩ | _ => ⟨[.bp 0 0, .no, .bp 1 0, .no, .bp 2 0], [some [.c (cL eU t16.1), qi t16.2.1, qi t16.2.2.1], some [qs [], qs [], qi 0, qi 0, .nil, qi 0, qi 0, qi 0, qi 0, .nil], some [qs x3.1, qs x4.1, qi (IntKind.i64.wrap (1 + x2.1)), qi (IntKind.i64.wrap ((IntKind.i64.wrap (1 + x2.1)) + x5.1)), .row 0, qi x6.1.Up, qi x6.1.Down, qi x6.1.UpSpan, qi x6.1.DownSpan, .nil]], [rr 3 enc_Metric t16.2.2.2 true]⟩) (fun (i : Nat) t => match i with | 0 => t16 = t ∧ t.2.2.2 = [] | 1 => t16 = t | _ => False) ⟨[.bp 0 0, .no, .bp 1 0, .no, .bp 2 0, .row 0, qi 0], [some [.c (cL eU x6.2.b), qi x6.2.i, qi x6.2.h], some [qs [], qs [], qi 0, qi 0, .nil, qi 0, qi 0, qi 0, qi 0, .nil], some [qs x3.1, qs x4.1, qi (IntKind.i64.wrap (1 + x2.1)), qi (IntKind.i64.wrap ((IntKind.i64.wrap (1 + x2.1)) + x5.1)), .nil, qi x6.1.Up, qi x6.1.Down, qi x6.1.UpSpan, qi x6.1.DownSpan, .nil]], [rr 1 eS kl8 true]⟩ (by repeat (first | exact mono_told | refine mono_seq ?_ | refine mono_blk ?_ | refine mono_lp ?_)) (le_intro [0, 1, 2] [3] (by decide) (by decide) rfl (by simp [leS, leT, leA, gt]) (by simp [leB, leT, leA]) (by simp [leR])) ?_ ?_
 ·
  intro i t1 hp
  rcases i with _ | _ | i
  ·
   obtain ⟨rfl, hz_t16_3⟩ := hp
   refine W_seq (W_region ?_)
   refine WO_op (x := .row 0) (σ' := ⟨[], [some [.c (cL eU t16.1), qi t16.2.1, qi t16.2.2.1], some [qs [], qs [], qi 0, qi 0, .nil, qi 0, qi 0, qi 0, qi 0, .nil], some [qs x3.1, qs x4.1, qi (IntKind.i64.wrap (1 + x2.1)), qi (IntKind.i64.wrap ((IntKind.i64.wrap (1 + x2.1)) + x5.1)), .nil, qi x6.1.Up, qi x6.1.Down, qi x6.1.UpSpan, qi x6.1.DownSpan, .nil]], [rr 1 eS kl9 true]⟩) rfl rfl (ev_bs kl9 eS rfl rfl rfl rfl) ?_; simp only [putT,st,ev,gt,hp,ofV,constT,intT,lm]
   refine WO_op rfl rfl rfl ?_; simp only [putT,st,ev,gt,hp,ofV,constT,intT,lm]
   refine WO_nil (W_seq (W_seq (W_region ?_)))
   refine WO_op rfl rfl rfl ?_; simp only [putT,st,ev,gt,hp,ofV,constT,intT,lm]
   refine WO_nil ?_
   refine W_block ?_
   obtain ⟨t26, ht26, H⟩ := bnd H
   refine loop_ruleM (ls := [.b 0]) 2 (fun (i : Nat) (t26 : List Int × Int × Int × List Note) => match i with | 0 => ⟨[.no, .no, .bp 1 0, .no, .bp 2 0], [some [.c (cL eU t26.1), qi t26.2.1, qi t26.2.2.1], some [qs [], qs [], qi 0, qi 0, .nil, qi 0, qi 0, qi 0, qi 0, .nil], some [qs x3.1, qs x4.1, qi (IntKind.i64.wrap (1 + x2.1)), qi (IntKind.i64.wrap ((IntKind.i64.wrap (1 + x2.1)) + x5.1)), .nil, qi x6.1.Up, qi x6.1.Down, qi x6.1.UpSpan, qi x6.1.DownSpan, .nil]], []⟩ | _ => ⟨[.no, .no, .bp 1 0, .no, .bp 2 0], [some [.c (cL eU t26.1), qi t26.2.1, qi t26.2.2.1], some [qs [], qs [], qi 0, qi 0, .nil, qi 0, qi 0, qi 0, qi 0, .nil], some [qs x3.1, qs x4.1, qi (IntKind.i64.wrap (1 + x2.1)), qi (IntKind.i64.wrap ((IntKind.i64.wrap (1 + x2.1)) + x5.1)), .nil, qi x6.1.Up, qi x6.1.Down, qi x6.1.UpSpan, qi x6.1.DownSpan, .row 0]], [rr 2 enc_Note t26.2.2.2 true]⟩) (fun (i : Nat) t => match i with | 0 => t26 = t ∧ t.2.2.2 = [] | 1 => t26 = t | _ => False) ⟨[.bp 0 0, .no, .bp 1 0, .no, .bp 2 0, .no, .no, .no, .row 0, qi 0], [some [.c (cL eU t16.1), qi t16.2.1, qi t16.2.2.1], some [qs [], qs [], qi 0, qi 0, .nil, qi 0, qi 0, qi 0, qi 0, .nil], some [qs x3.1, qs x4.1, qi (IntKind.i64.wrap (1 + x2.1)), qi (IntKind.i64.wrap ((IntKind.i64.wrap (1 + x2.1)) + x5.1)), .nil, qi x6.1.Up, qi x6.1.Down, qi x6.1.UpSpan, qi x6.1.DownSpan, .nil]], [rr 1 eS kl9 true]⟩ (by repeat (first | exact mono_told | refine mono_seq ?_ | refine mono_blk ?_ | refine mono_lp ?_)) (le_intro [0, 1, 2] [0] (by decide) (by decide) rfl (by simp [leS, leT, leA, gt]) (by simp [leB, leT, leA]) (by simp [leR])) ?_ ?_
   ·
    intro i t1 hp
    rcases i with _ | _ | i
    ·
     obtain ⟨rfl, hz_t26_3⟩ := hp
     refine W_seq (W_region ?_)
     refine WO_op (x := .ag [qs x3.1, qs x4.1, qi (IntKind.i64.wrap (1 + x2.1)), qi (IntKind.i64.wrap ((IntKind.i64.wrap (1 + x2.1)) + x5.1)), .nil, qi x6.1.Up, qi x6.1.Down, qi x6.1.UpSpan, qi x6.1.DownSpan, .nil]) rfl rfl rfl ?_
     refine WO_op (x := .no) (σ' := ⟨[], [some [.c (cL eU t26.1), qi t26.2.1, qi t26.2.2.1], some [qs x3.1, qs x4.1, qi (IntKind.i64.wrap (1 + x2.1)), qi (IntKind.i64.wrap ((IntKind.i64.wrap (1 + x2.1)) + x5.1)), .nil, qi x6.1.Up, qi x6.1.Down, qi x6.1.UpSpan, qi x6.1.DownSpan, .nil], some [qs x3.1, qs x4.1, qi (IntKind.i64.wrap (1 + x2.1)), qi (IntKind.i64.wrap ((IntKind.i64.wrap (1 + x2.1)) + x5.1)), .nil, qi x6.1.Up, qi x6.1.Down, qi x6.1.UpSpan, qi x6.1.DownSpan, .nil]], []⟩) rfl rfl rfl ?_; simp only [putT,st,ev,gt,hp,ofV,constT,intT,lm]
     refine WO_nil ?_
     refine W_ret ?_
     obtain rfl := Option.some.inj H
     exact told5 rfl rfl rfl rfl rfl (by simp only [hz_t16_3, hz_t26_3]; try rfl)
    ·
     obtain rfl := hp
     refine W_seq (W_region ?_)
     refine WO_op (x := .ag [qs x3.1, qs x4.1, qi (IntKind.i64.wrap (1 + x2.1)), qi (IntKind.i64.wrap ((IntKind.i64.wrap (1 + x2.1)) + x5.1)), .nil, qi x6.1.Up, qi x6.1.Down, qi x6.1.UpSpan, qi x6.1.DownSpan, .row 0]) rfl rfl rfl ?_
     refine WO_op (x := .no) (σ' := ⟨[], [some [.c (cL eU t26.1), qi t26.2.1, qi t26.2.2.1], some [qs x3.1, qs x4.1, qi (IntKind.i64.wrap (1 + x2.1)), qi (IntKind.i64.wrap ((IntKind.i64.wrap (1 + x2.1)) + x5.1)), .nil, qi x6.1.Up, qi x6.1.Down, qi x6.1.UpSpan, qi x6.1.DownSpan, .row 0], some [qs x3.1, qs x4.1, qi (IntKind.i64.wrap (1 + x2.1)), qi (IntKind.i64.wrap ((IntKind.i64.wrap (1 + x2.1)) + x5.1)), .nil, qi x6.1.Up, qi x6.1.Down, qi x6.1.UpSpan, qi x6.1.DownSpan, .row 0]], [rr 2 enc_Note t26.2.2.2 true]⟩) rfl rfl rfl ?_; simp only [putT,st,ev,gt,hp,ofV,constT,intT,lm]
     refine WO_nil ?_
     refine W_ret ?_
     obtain rfl := Option.some.inj H
     exact told5 rfl rfl rfl rfl (by have er : Try.f130.resultTypes.toList = [37] := rfl; have e37 : sizes Try.prog 8 37 = [0, 0, 0, 0, 3, 0, 0, 0, 0, 2] := (by kernel_rfl); simp only [er, fitAs, e37, fitA, fit_s, fit_n, fit_o, fit_z, fit_e, if_true]; try rfl) (by simp only [hz_t16_3]; try rfl)
    · exact hp.elim
   ·
    intro V1 hV1 hW1 hX1
    refine (spec_l6DrawRight.l1.partial_correctness (fun v17 v18 v19 v20 v21 s' => s' = t26 → (v21 = [] → V1 ⟨[.bp 0 0, .no, .bp 1 0, .no, .bp 2 0, .no, .no, .no, .row 0, qi v17], [some [.c (cL eU v18), qi v19, qi v20], some [qs [], qs [], qi 0, qi 0, .nil, qi 0, qi 0, qi 0, qi 0, .nil], some [qs x3.1, qs x4.1, qi (IntKind.i64.wrap (1 + x2.1)), qi (IntKind.i64.wrap ((IntKind.i64.wrap (1 + x2.1)) + x5.1)), .nil, qi x6.1.Up, qi x6.1.Down, qi x6.1.UpSpan, qi x6.1.DownSpan, .nil]], [rr 1 eS kl9 true]⟩) ∧ (V1 ⟨[.bp 0 0, .no, .bp 1 0, .no, .bp 2 0, .no, .no, .no, .row 0, qi v17], [some [.c (cL eU v18), qi v19, qi v20], some [qs [], qs [], qi 0, qi 0, .nil, qi 0, qi 0, qi 0, qi 0, .nil], some [qs x3.1, qs x4.1, qi (IntKind.i64.wrap (1 + x2.1)), qi (IntKind.i64.wrap ((IntKind.i64.wrap (1 + x2.1)) + x5.1)), .nil, qi x6.1.Up, qi x6.1.Down, qi x6.1.UpSpan, qi x6.1.DownSpan, .row 1]], [rr 1 eS kl9 true, rr 2 enc_Note v21 true]⟩)) ?_ _ _ _ _ _ _ ht26 rfl).1 rfl
    intro l0 IH1 v17 v18 v19 v20 v21 s' H1 e
    subst e
    refine ⟨?_, ?_⟩
    ·
     intro hn_v21
     refine hV1 _ ?_
     refine W_seq (W_seq (W_region ?_))
     iterate 4 (refine WO_op rfl rfl rfl ?_; simp only [putT,st,ev,gt,hp,ofV,constT,intT,lm])
     refine WO_nil ?_
     refine W_cond rfl (fun hc => ?_) (fun hc => ?_)
     ·
      replace H1 := tr hc H1
      refine W_skip ?_
      refine W_seq ?_
      refine W_block ?_
      refine W_seq (W_region ?_)
      refine WO_op rfl rfl rfl ?_; simp only [putT,st,ev,gt,hp,ofV,constT,intT,lm]
      obtain ⟨x22, hx22, H1⟩ := bnd H1
      refine WO_op (x := qb x22.1) (σ' := ⟨[], [some [.c (cL eU x22.2.b), qi x22.2.i, qi x22.2.h], some [qs [], qs [], qi 0, qi 0, .nil, qi 0, qi 0, qi 0, qi 0, .nil], some [qs x3.1, qs x4.1, qi (IntKind.i64.wrap (1 + x2.1)), qi (IntKind.i64.wrap ((IntKind.i64.wrap (1 + x2.1)) + x5.1)), .nil, qi x6.1.Up, qi x6.1.Down, qi x6.1.UpSpan, qi x6.1.DownSpan, .nil]], [rr 1 eS kl9 true]⟩) rfl rfl (ev_callG (al := [.bp 0 0, qi 3]) (ls := [.b 0]) (spec_l1Once_ok hx22) rfl rfl rfl rfl rfl (by decide) rfl rfl rfl rfl rfl rfl) ?_; simp only [putT,st,ev,gt,hp,ofV,constT,intT,lm]
      refine WO_nil ?_
      refine W_cond rfl (fun hc => ?_) (fun hc => ?_)
      ·
       replace H1 := tr hc H1
       refine W_drawL (by kernel_rfl) (by decide +kernel) ?_
       refine WL_op (x := .bp 2 9) rfl rfl rfl rfl ?_
       refine WL_op (x := .nil) rfl rfl rfl rfl ?_; simp only [putT,st,ev,gt,hp,ofV,constT,intT,lm]
       iterate 2 (refine WL_op rfl rfl rfl rfl ?_; simp only [putT,st,ev,gt,hp,ofV,constT,intT,lm])
       obtain ⟨x23, hx23, H1⟩ := bnd H1
       refine WL_op rfl rfl rfl (ev_ixR (en := eS) hx23 rfl rfl rfl rfl rfl rfl rfl) ?_; simp only [putT,st,ev,gt,hp,ofV,constT,intT,lm]
       refine WL_op (x := qs x23) rfl rfl rfl (ev_ldR (en := eS) hx23 rfl rfl rfl rfl) ?_; simp only [putT,st,ev,gt,hp,ofV,constT,intT,lm]
       refine WL_op rfl rfl rfl rfl ?_; simp only [putT,st,ev,gt,hp,ofV,constT,intT,lm]
       obtain ⟨x24, hx24, H1⟩ := bnd H1
       refine WL_op (x := qs x24.1) (σ' := ⟨[], [some [.c (cL eU x24.2.b), qi x24.2.i, qi x24.2.h], some [qs [], qs [], qi 0, qi 0, .nil, qi 0, qi 0, qi 0, qi 0, .nil], some [qs x3.1, qs x4.1, qi (IntKind.i64.wrap (1 + x2.1)), qi (IntKind.i64.wrap ((IntKind.i64.wrap (1 + x2.1)) + x5.1)), .nil, qi x6.1.Up, qi x6.1.Down, qi x6.1.UpSpan, qi x6.1.DownSpan, .nil]], [rr 1 eS kl9 true]⟩) rfl rfl rfl (ev_callG (al := [.bp 0 0]) (ls := [.b 0]) (spec_l3DrawText_ok hx24) rfl rfl rfl rfl rfl (by decide) rfl rfl rfl rfl rfl rfl) ?_; simp only [putT,st,ev,gt,hp,ofV,constT,intT,lm]
       refine WL_op (x := .ag [qs x23, qs x24.1]) rfl rfl rfl rfl ?_; simp only [putT,st,ev,gt,hp,ofV,constT,intT,lm]
       refine WL_op (x := .row 1) (σ' := ⟨[], [some [.c (cL eU x24.2.b), qi x24.2.i, qi x24.2.h], some [qs [], qs [], qi 0, qi 0, .nil, qi 0, qi 0, qi 0, qi 0, .nil], some [qs x3.1, qs x4.1, qi (IntKind.i64.wrap (1 + x2.1)), qi (IntKind.i64.wrap ((IntKind.i64.wrap (1 + x2.1)) + x5.1)), .nil, qi x6.1.Up, qi x6.1.Down, qi x6.1.UpSpan, qi x6.1.DownSpan, .nil]], [rr 1 eS kl9 true, rr 2 enc_Note ([(Note.mk x23 x24.1)] : List Note) true]⟩) rfl rfl rfl (ev_bs ([(Note.mk x23 x24.1)] : List Note) enc_Note rfl rfl rfl rfl) ?_; simp only [putT,st,ev,gt,hp,ofV,constT,intT,lm]
       obtain ⟨m25, hm25, H1⟩ := bnd H1
       refine WL_op (x := .row 2) (σ' := ⟨[], [some [.c (cL eU x24.2.b), qi x24.2.i, qi x24.2.h], some [qs [], qs [], qi 0, qi 0, .nil, qi 0, qi 0, qi 0, qi 0, .nil], some [qs x3.1, qs x4.1, qi (IntKind.i64.wrap (1 + x2.1)), qi (IntKind.i64.wrap ((IntKind.i64.wrap (1 + x2.1)) + x5.1)), .nil, qi x6.1.Up, qi x6.1.Down, qi x6.1.UpSpan, qi x6.1.DownSpan, .nil]], [rr 1 eS kl9 true, rr 2 enc_Note ([(Note.mk x23 x24.1)] : List Note) true, rr 2 enc_Note m25 true]⟩) rfl rfl rfl (ev_appN (en := enc_Note) hm25 hn_v21 rfl rfl rfl rfl (Or.inl rfl) rfl rfl rfl rfl rfl rfl rfl rfl rfl (fun _ => rfl) rfl) ?_; simp only [putT,st,ev,gt,hp,ofV,constT,intT,lm]
       refine WL_op (x := .bp 2 9) rfl rfl rfl rfl ?_
       refine WL_op (x := .no) (σ' := ⟨[], [some [.c (cL eU x24.2.b), qi x24.2.i, qi x24.2.h], some [qs [], qs [], qi 0, qi 0, .nil, qi 0, qi 0, qi 0, qi 0, .nil], some [qs x3.1, qs x4.1, qi (IntKind.i64.wrap (1 + x2.1)), qi (IntKind.i64.wrap ((IntKind.i64.wrap (1 + x2.1)) + x5.1)), .nil, qi x6.1.Up, qi x6.1.Down, qi x6.1.UpSpan, qi x6.1.DownSpan, .row 2]], [rr 1 eS kl9 true, rr 2 enc_Note ([(Note.mk x23 x24.1)] : List Note) true, rr 2 enc_Note m25 true]⟩) rfl rfl rfl rfl ?_; simp only [putT,st,ev,gt,hp,ofV,constT,intT,lm]
       refine WL_nil (by kernel_rfl) ?_
       refine W_region ?_
       iterate 3 (refine WO_op rfl rfl rfl ?_; simp only [putT,st,ev,gt,hp,ofV,constT,intT,lm])
       refine WO_nil ?_
       exact hW1 _ _ ((IH1 _ _ _ _ _ _ H1 rfl).2) (le_intro [0, 1, 2] [0, 2] (by decide) (by decide) rfl (by simp [leS, leT, leA, gt]) (by simp [leB, leT, leA]) (by simp [leR]))
      ·
       replace H1 := fl hc H1
       refine W_skip ?_
       refine W_region ?_
       iterate 3 (refine WO_op rfl rfl rfl ?_; simp only [putT,st,ev,gt,hp,ofV,constT,intT,lm])
       refine WO_nil ?_
       exact hW1 _ _ ((IH1 _ _ _ _ _ _ H1 rfl).1 hn_v21) (le_intro [0, 1, 2] [0] (by decide) (by decide) rfl (by simp [leS, leT, leA, gt]) (by simp [leB, leT, leA]) (by simp [leR]))
     ·
      replace H1 := fl hc H1
      refine W_exit ?_
      obtain rfl := Option.some.inj H1
      exact hX1 0 (v18, v19, v20, v21) _ ⟨rfl, hn_v21⟩ (le_intro [0, 1, 2] [] (by decide) (by decide) rfl (by simp [leS, leT, leA, gt]) (by simp [leB, leT, leA]) (by simp [leR]))
    ·
     skip
     refine hV1 _ ?_
     refine W_seq (W_seq (W_region ?_))
     iterate 4 (refine WO_op rfl rfl rfl ?_; simp only [putT,st,ev,gt,hp,ofV,constT,intT,lm])
     refine WO_nil ?_
     refine W_cond rfl (fun hc => ?_) (fun hc => ?_)
     ·
      replace H1 := tr hc H1
      refine W_skip ?_
      refine W_seq ?_
      refine W_block ?_
      refine W_seq (W_region ?_)
      refine WO_op rfl rfl rfl ?_; simp only [putT,st,ev,gt,hp,ofV,constT,intT,lm]
      obtain ⟨x22, hx22, H1⟩ := bnd H1
      refine WO_op (x := qb x22.1) (σ' := ⟨[], [some [.c (cL eU x22.2.b), qi x22.2.i, qi x22.2.h], some [qs [], qs [], qi 0, qi 0, .nil, qi 0, qi 0, qi 0, qi 0, .nil], some [qs x3.1, qs x4.1, qi (IntKind.i64.wrap (1 + x2.1)), qi (IntKind.i64.wrap ((IntKind.i64.wrap (1 + x2.1)) + x5.1)), .nil, qi x6.1.Up, qi x6.1.Down, qi x6.1.UpSpan, qi x6.1.DownSpan, .row 1]], [rr 1 eS kl9 true, rr 2 enc_Note v21 true]⟩) rfl rfl (ev_callG (al := [.bp 0 0, qi 3]) (ls := [.b 0]) (spec_l1Once_ok hx22) rfl rfl rfl rfl rfl (by decide) rfl rfl rfl rfl rfl rfl) ?_; simp only [putT,st,ev,gt,hp,ofV,constT,intT,lm]
      refine WO_nil ?_
      refine W_cond rfl (fun hc => ?_) (fun hc => ?_)
      ·
       replace H1 := tr hc H1
       refine W_drawL (by kernel_rfl) (by decide +kernel) ?_
       refine WL_op (x := .bp 2 9) rfl rfl rfl rfl ?_
       refine WL_op (x := .row 1) rfl rfl rfl rfl ?_; simp only [putT,st,ev,gt,hp,ofV,constT,intT,lm]
       iterate 2 (refine WL_op rfl rfl rfl rfl ?_; simp only [putT,st,ev,gt,hp,ofV,constT,intT,lm])
       obtain ⟨x23, hx23, H1⟩ := bnd H1
       refine WL_op rfl rfl rfl (ev_ixR (en := eS) hx23 rfl rfl rfl rfl rfl rfl rfl) ?_; simp only [putT,st,ev,gt,hp,ofV,constT,intT,lm]
       refine WL_op (x := qs x23) rfl rfl rfl (ev_ldR (en := eS) hx23 rfl rfl rfl rfl) ?_; simp only [putT,st,ev,gt,hp,ofV,constT,intT,lm]
       refine WL_op rfl rfl rfl rfl ?_; simp only [putT,st,ev,gt,hp,ofV,constT,intT,lm]
       obtain ⟨x24, hx24, H1⟩ := bnd H1
       refine WL_op (x := qs x24.1) (σ' := ⟨[], [some [.c (cL eU x24.2.b), qi x24.2.i, qi x24.2.h], some [qs [], qs [], qi 0, qi 0, .nil, qi 0, qi 0, qi 0, qi 0, .nil], some [qs x3.1, qs x4.1, qi (IntKind.i64.wrap (1 + x2.1)), qi (IntKind.i64.wrap ((IntKind.i64.wrap (1 + x2.1)) + x5.1)), .nil, qi x6.1.Up, qi x6.1.Down, qi x6.1.UpSpan, qi x6.1.DownSpan, .row 1]], [rr 1 eS kl9 true, rr 2 enc_Note v21 true]⟩) rfl rfl rfl (ev_callG (al := [.bp 0 0]) (ls := [.b 0]) (spec_l3DrawText_ok hx24) rfl rfl rfl rfl rfl (by decide) rfl rfl rfl rfl rfl rfl) ?_; simp only [putT,st,ev,gt,hp,ofV,constT,intT,lm]
       refine WL_op (x := .ag [qs x23, qs x24.1]) rfl rfl rfl rfl ?_; simp only [putT,st,ev,gt,hp,ofV,constT,intT,lm]
       refine WL_op (x := .row 2) (σ' := ⟨[], [some [.c (cL eU x24.2.b), qi x24.2.i, qi x24.2.h], some [qs [], qs [], qi 0, qi 0, .nil, qi 0, qi 0, qi 0, qi 0, .nil], some [qs x3.1, qs x4.1, qi (IntKind.i64.wrap (1 + x2.1)), qi (IntKind.i64.wrap ((IntKind.i64.wrap (1 + x2.1)) + x5.1)), .nil, qi x6.1.Up, qi x6.1.Down, qi x6.1.UpSpan, qi x6.1.DownSpan, .row 1]], [rr 1 eS kl9 true, rr 2 enc_Note v21 true, rr 2 enc_Note ([(Note.mk x23 x24.1)] : List Note) true]⟩) rfl rfl rfl (ev_bs ([(Note.mk x23 x24.1)] : List Note) enc_Note rfl rfl rfl rfl) ?_; simp only [putT,st,ev,gt,hp,ofV,constT,intT,lm]
       obtain ⟨m25, hm25, H1⟩ := bnd H1
       refine WL_op (x := .row 3) (σ' := ⟨[], [some [.c (cL eU x24.2.b), qi x24.2.i, qi x24.2.h], some [qs [], qs [], qi 0, qi 0, .nil, qi 0, qi 0, qi 0, qi 0, .nil], some [qs x3.1, qs x4.1, qi (IntKind.i64.wrap (1 + x2.1)), qi (IntKind.i64.wrap ((IntKind.i64.wrap (1 + x2.1)) + x5.1)), .nil, qi x6.1.Up, qi x6.1.Down, qi x6.1.UpSpan, qi x6.1.DownSpan, .row 1]], [rr 1 eS kl9 true, none, rr 2 enc_Note ([(Note.mk x23 x24.1)] : List Note) true, rr 2 enc_Note m25 true]⟩) rfl rfl rfl (ev_app (en := enc_Note) hm25 rfl rfl rfl rfl (Or.inl rfl) rfl rfl rfl rfl rfl rfl rfl rfl rfl rfl rfl (fun _ => rfl) rfl (Or.inr rfl) rfl) ?_; simp only [putT,st,ev,gt,hp,ofV,constT,intT,lm]
       refine WL_op (x := .bp 2 9) rfl rfl rfl rfl ?_
       refine WL_op (x := .no) (σ' := ⟨[], [some [.c (cL eU x24.2.b), qi x24.2.i, qi x24.2.h], some [qs [], qs [], qi 0, qi 0, .nil, qi 0, qi 0, qi 0, qi 0, .nil], some [qs x3.1, qs x4.1, qi (IntKind.i64.wrap (1 + x2.1)), qi (IntKind.i64.wrap ((IntKind.i64.wrap (1 + x2.1)) + x5.1)), .nil, qi x6.1.Up, qi x6.1.Down, qi x6.1.UpSpan, qi x6.1.DownSpan, .row 3]], [rr 1 eS kl9 true, none, rr 2 enc_Note ([(Note.mk x23 x24.1)] : List Note) true, rr 2 enc_Note m25 true]⟩) rfl rfl rfl rfl ?_; simp only [putT,st,ev,gt,hp,ofV,constT,intT,lm]
       refine WL_nil (by kernel_rfl) ?_
       refine W_region ?_
       iterate 3 (refine WO_op rfl rfl rfl ?_; simp only [putT,st,ev,gt,hp,ofV,constT,intT,lm])
       refine WO_nil ?_
       exact hW1 _ _ ((IH1 _ _ _ _ _ _ H1 rfl).2) (le_intro [0, 1, 2] [0, 3] (by decide) (by decide) rfl (by simp [leS, leT, leA, gt]) (by simp [leB, leT, leA]) (by simp [leR]))
      ·
       replace H1 := fl hc H1
       refine W_skip ?_
       refine W_region ?_
       iterate 3 (refine WO_op rfl rfl rfl ?_; simp only [putT,st,ev,gt,hp,ofV,constT,intT,lm])
       refine WO_nil ?_
       exact hW1 _ _ ((IH1 _ _ _ _ _ _ H1 rfl).2) (le_intro [0, 1, 2] [0, 1] (by decide) (by decide) rfl (by simp [leS, leT, leA, gt]) (by simp [leB, leT, leA]) (by simp [leR]))
     ·
      replace H1 := fl hc H1
      refine W_exit ?_
      obtain rfl := Option.some.inj H1
      exact hX1 1 (v18, v19, v20, v21) _ rfl (le_intro [0, 1, 2] [1] (by decide) (by decide) rfl (by simp [leS, leT, leA, gt]) (by simp [leB, leT, leA]) (by simp [leR]))
  ·
   obtain rfl := hp
   refine W_seq (W_region ?_)
   refine WO_op (x := .row 1) (σ' := ⟨[], [some [.c (cL eU t16.1), qi t16.2.1, qi t16.2.2.1], some [qs [], qs [], qi 0, qi 0, .nil, qi 0, qi 0, qi 0, qi 0, .nil], some [qs x3.1, qs x4.1, qi (IntKind.i64.wrap (1 + x2.1)), qi (IntKind.i64.wrap ((IntKind.i64.wrap (1 + x2.1)) + x5.1)), .row 0, qi x6.1.Up, qi x6.1.Down, qi x6.1.UpSpan, qi x6.1.DownSpan, .nil]], [rr 3 enc_Metric t16.2.2.2 true, rr 1 eS kl9 true]⟩) rfl rfl (ev_bs kl9 eS rfl rfl rfl rfl) ?_; simp only [putT,st,ev,gt,hp,ofV,constT,intT,lm]
   refine WO_op rfl rfl rfl ?_; simp only [putT,st,ev,gt,hp,ofV,constT,intT,lm]
   refine WO_nil (W_seq (W_seq (W_region ?_)))
   refine WO_op rfl rfl rfl ?_; simp only [putT,st,ev,gt,hp,ofV,constT,intT,lm]
   refine WO_nil ?_
   refine W_block ?_
   obtain ⟨t26, ht26, H⟩ := bnd H
   refine loop_ruleM (ls := [.b 0]) 2 (fun (i : Nat) (t26 : List Int × Int × Int × List Note) => match i with | 0 => ⟨[.no, .no, .bp 1 0, .no, .bp 2 0], [some [.c (cL eU t26.1), qi t26.2.1, qi t26.2.2.1], some [qs [], qs [], qi 0, qi 0, .nil, qi 0, qi 0, qi 0, qi 0, .nil], some [qs x3.1, qs x4.1, qi (IntKind.i64.wrap (1 + x2.1)), qi (IntKind.i64.wrap ((IntKind.i64.wrap (1 + x2.1)) + x5.1)), .row 0, qi x6.1.Up, qi x6.1.Down, qi x6.1.UpSpan, qi x6.1.DownSpan, .nil]], [rr 3 enc_Metric t16.2.2.2 true]⟩ | _ => ⟨[.no, .no, .bp 1 0, .no, .bp 2 0], [some [.c (cL eU t26.1), qi t26.2.1, qi t26.2.2.1], some [qs [], qs [], qi 0, qi 0, .nil, qi 0, qi 0, qi 0, qi 0, .nil], some [qs x3.1, qs x4.1, qi (IntKind.i64.wrap (1 + x2.1)), qi (IntKind.i64.wrap ((IntKind.i64.wrap (1 + x2.1)) + x5.1)), .row 0, qi x6.1.Up, qi x6.1.Down, qi x6.1.UpSpan, qi x6.1.DownSpan, .row 1]], [rr 3 enc_Metric t16.2.2.2 true, rr 2 enc_Note t26.2.2.2 true]⟩) (fun (i : Nat) t => match i with | 0 => t26 = t ∧ t.2.2.2 = [] | 1 => t26 = t | _ => False) ⟨[.bp 0 0, .no, .bp 1 0, .no, .bp 2 0, .no, .no, .no, .row 0, qi 0], [some [.c (cL eU t16.1), qi t16.2.1, qi t16.2.2.1], some [qs [], qs [], qi 0, qi 0, .nil, qi 0, qi 0, qi 0, qi 0, .nil], some [qs x3.1, qs x4.1, qi (IntKind.i64.wrap (1 + x2.1)), qi (IntKind.i64.wrap ((IntKind.i64.wrap (1 + x2.1)) + x5.1)), .row 1, qi x6.1.Up, qi x6.1.Down, qi x6.1.UpSpan, qi x6.1.DownSpan, .nil]], [rr 1 eS kl9 true, rr 3 enc_Metric t16.2.2.2 true]⟩ (by repeat (first | exact mono_told | refine mono_seq ?_ | refine mono_blk ?_ | refine mono_lp ?_)) (le_intro [0, 1, 2] [1, 0] (by decide) (by decide) rfl (by simp [leS, leT, leA, gt]) (by simp [leB, leT, leA]) (by simp [leR])) ?_ ?_
   ·
    intro i t1 hp
    rcases i with _ | _ | i
    ·
     obtain ⟨rfl, hz_t26_3⟩ := hp
     refine W_seq (W_region ?_)
     refine WO_op (x := .ag [qs x3.1, qs x4.1, qi (IntKind.i64.wrap (1 + x2.1)), qi (IntKind.i64.wrap ((IntKind.i64.wrap (1 + x2.1)) + x5.1)), .row 0, qi x6.1.Up, qi x6.1.Down, qi x6.1.UpSpan, qi x6.1.DownSpan, .nil]) rfl rfl rfl ?_
     refine WO_op (x := .no) (σ' := ⟨[], [some [.c (cL eU t26.1), qi t26.2.1, qi t26.2.2.1], some [qs x3.1, qs x4.1, qi (IntKind.i64.wrap (1 + x2.1)), qi (IntKind.i64.wrap ((IntKind.i64.wrap (1 + x2.1)) + x5.1)), .row 0, qi x6.1.Up, qi x6.1.Down, qi x6.1.UpSpan, qi x6.1.DownSpan, .nil], some [qs x3.1, qs x4.1, qi (IntKind.i64.wrap (1 + x2.1)), qi (IntKind.i64.wrap ((IntKind.i64.wrap (1 + x2.1)) + x5.1)), .row 0, qi x6.1.Up, qi x6.1.Down, qi x6.1.UpSpan, qi x6.1.DownSpan, .nil]], [rr 3 enc_Metric t16.2.2.2 true]⟩) rfl rfl rfl ?_; simp only [putT,st,ev,gt,hp,ofV,constT,intT,lm]
     refine WO_nil ?_
     refine W_ret ?_
     obtain rfl := Option.some.inj H
     exact told5 rfl rfl rfl rfl (by have er : Try.f130.resultTypes.toList = [37] := rfl; have e37 : sizes Try.prog 8 37 = [0, 0, 0, 0, 3, 0, 0, 0, 0, 2] := (by kernel_rfl); simp only [er, fitAs, e37, fitA, fit_s, fit_n, fit_o, fit_z, fit_e, if_true]; try rfl) (by simp only [hz_t26_3]; try rfl)
    ·
     obtain rfl := hp
     refine W_seq (W_region ?_)
     refine WO_op (x := .ag [qs x3.1, qs x4.1, qi (IntKind.i64.wrap (1 + x2.1)), qi (IntKind.i64.wrap ((IntKind.i64.wrap (1 + x2.1)) + x5.1)), .row 0, qi x6.1.Up, qi x6.1.Down, qi x6.1.UpSpan, qi x6.1.DownSpan, .row 1]) rfl rfl rfl ?_
     refine WO_op (x := .no) (σ' := ⟨[], [some [.c (cL eU t26.1), qi t26.2.1, qi t26.2.2.1], some [qs x3.1, qs x4.1, qi (IntKind.i64.wrap (1 + x2.1)), qi (IntKind.i64.wrap ((IntKind.i64.wrap (1 + x2.1)) + x5.1)), .row 0, qi x6.1.Up, qi x6.1.Down, qi x6.1.UpSpan, qi x6.1.DownSpan, .row 1], some [qs x3.1, qs x4.1, qi (IntKind.i64.wrap (1 + x2.1)), qi (IntKind.i64.wrap ((IntKind.i64.wrap (1 + x2.1)) + x5.1)), .row 0, qi x6.1.Up, qi x6.1.Down, qi x6.1.UpSpan, qi x6.1.DownSpan, .row 1]], [rr 3 enc_Metric t16.2.2.2 true, rr 2 enc_Note t26.2.2.2 true]⟩) rfl rfl rfl ?_; simp only [putT,st,ev,gt,hp,ofV,constT,intT,lm]
     refine WO_nil ?_
     refine W_ret ?_
     obtain rfl := Option.some.inj H
     exact told5 rfl rfl rfl rfl (fitAs_nz rfl) rfl
    · exact hp.elim
   ·
    intro V1 hV1 hW1 hX1
    refine (spec_l6DrawRight.l1.partial_correctness (fun v17 v18 v19 v20 v21 s' => s' = t26 → (v21 = [] → V1 ⟨[.bp 0 0, .no, .bp 1 0, .no, .bp 2 0, .no, .no, .no, .row 0, qi v17], [some [.c (cL eU v18), qi v19, qi v20], some [qs [], qs [], qi 0, qi 0, .nil, qi 0, qi 0, qi 0, qi 0, .nil], some [qs x3.1, qs x4.1, qi (IntKind.i64.wrap (1 + x2.1)), qi (IntKind.i64.wrap ((IntKind.i64.wrap (1 + x2.1)) + x5.1)), .row 1, qi x6.1.Up, qi x6.1.Down, qi x6.1.UpSpan, qi x6.1.DownSpan, .nil]], [rr 1 eS kl9 true, rr 3 enc_Metric t16.2.2.2 true]⟩) ∧ (V1 ⟨[.bp 0 0, .no, .bp 1 0, .no, .bp 2 0, .no, .no, .no, .row 0, qi v17], [some [.c (cL eU v18), qi v19, qi v20], some [qs [], qs [], qi 0, qi 0, .nil, qi 0, qi 0, qi 0, qi 0, .nil], some [qs x3.1, qs x4.1, qi (IntKind.i64.wrap (1 + x2.1)), qi (IntKind.i64.wrap ((IntKind.i64.wrap (1 + x2.1)) + x5.1)), .row 1, qi x6.1.Up, qi x6.1.Down, qi x6.1.UpSpan, qi x6.1.DownSpan, .row 2]], [rr 1 eS kl9 true, rr 3 enc_Metric t16.2.2.2 true, rr 2 enc_Note v21 true]⟩)) ?_ _ _ _ _ _ _ ht26 rfl).1 rfl
    intro l0 IH1 v17 v18 v19 v20 v21 s' H1 e
    subst e
    refine ⟨?_, ?_⟩
    ·
     intro hn_v21
     refine hV1 _ ?_
     refine W_seq (W_seq (W_region ?_))
     iterate 4 (refine WO_op rfl rfl rfl ?_; simp only [putT,st,ev,gt,hp,ofV,constT,intT,lm])
     refine WO_nil ?_
     refine W_cond rfl (fun hc => ?_) (fun hc => ?_)
     ·
      replace H1 := tr hc H1
      refine W_skip ?_
      refine W_seq ?_
      refine W_block ?_
      refine W_seq (W_region ?_)
      refine WO_op rfl rfl rfl ?_; simp only [putT,st,ev,gt,hp,ofV,constT,intT,lm]
      obtain ⟨x22, hx22, H1⟩ := bnd H1
      refine WO_op (x := qb x22.1) (σ' := ⟨[], [some [.c (cL eU x22.2.b), qi x22.2.i, qi x22.2.h], some [qs [], qs [], qi 0, qi 0, .nil, qi 0, qi 0, qi 0, qi 0, .nil], some [qs x3.1, qs x4.1, qi (IntKind.i64.wrap (1 + x2.1)), qi (IntKind.i64.wrap ((IntKind.i64.wrap (1 + x2.1)) + x5.1)), .row 1, qi x6.1.Up, qi x6.1.Down, qi x6.1.UpSpan, qi x6.1.DownSpan, .nil]], [rr 1 eS kl9 true, rr 3 enc_Metric t16.2.2.2 true]⟩) rfl rfl (ev_callG (al := [.bp 0 0, qi 3]) (ls := [.b 0]) (spec_l1Once_ok hx22) rfl rfl rfl rfl rfl (by decide) rfl rfl rfl rfl rfl rfl) ?_; simp only [putT,st,ev,gt,hp,ofV,constT,intT,lm]
      refine WO_nil ?_
      refine W_cond rfl (fun hc => ?_) (fun hc => ?_)
      ·
       replace H1 := tr hc H1
       refine W_drawL (by kernel_rfl) (by decide +kernel) ?_
       refine WL_op (x := .bp 2 9) rfl rfl rfl rfl ?_
       refine WL_op (x := .nil) rfl rfl rfl rfl ?_; simp only [putT,st,ev,gt,hp,ofV,constT,intT,lm]
       iterate 2 (refine WL_op rfl rfl rfl rfl ?_; simp only [putT,st,ev,gt,hp,ofV,constT,intT,lm])
       obtain ⟨x23, hx23, H1⟩ := bnd H1
       refine WL_op rfl rfl rfl (ev_ixR (en := eS) hx23 rfl rfl rfl rfl rfl rfl rfl) ?_; simp only [putT,st,ev,gt,hp,ofV,constT,intT,lm]
       refine WL_op (x := qs x23) rfl rfl rfl (ev_ldR (en := eS) hx23 rfl rfl rfl rfl) ?_; simp only [putT,st,ev,gt,hp,ofV,constT,intT,lm]
       refine WL_op rfl rfl rfl rfl ?_; simp only [putT,st,ev,gt,hp,ofV,constT,intT,lm]
       obtain ⟨x24, hx24, H1⟩ := bnd H1
       refine WL_op (x := qs x24.1) (σ' := ⟨[], [some [.c (cL eU x24.2.b), qi x24.2.i, qi x24.2.h], some [qs [], qs [], qi 0, qi 0, .nil, qi 0, qi 0, qi 0, qi 0, .nil], some [qs x3.1, qs x4.1, qi (IntKind.i64.wrap (1 + x2.1)), qi (IntKind.i64.wrap ((IntKind.i64.wrap (1 + x2.1)) + x5.1)), .row 1, qi x6.1.Up, qi x6.1.Down, qi x6.1.UpSpan, qi x6.1.DownSpan, .nil]], [rr 1 eS kl9 true, rr 3 enc_Metric t16.2.2.2 true]⟩) rfl rfl rfl (ev_callG (al := [.bp 0 0]) (ls := [.b 0]) (spec_l3DrawText_ok hx24) rfl rfl rfl rfl rfl (by decide) rfl rfl rfl rfl rfl rfl) ?_; simp only [putT,st,ev,gt,hp,ofV,constT,intT,lm]
       refine WL_op (x := .ag [qs x23, qs x24.1]) rfl rfl rfl rfl ?_; simp only [putT,st,ev,gt,hp,ofV,constT,intT,lm]
       refine WL_op (x := .row 2) (σ' := ⟨[], [some [.c (cL eU x24.2.b), qi x24.2.i, qi x24.2.h], some [qs [], qs [], qi 0, qi 0, .nil, qi 0, qi 0, qi 0, qi 0, .nil], some [qs x3.1, qs x4.1, qi (IntKind.i64.wrap (1 + x2.1)), qi (IntKind.i64.wrap ((IntKind.i64.wrap (1 + x2.1)) + x5.1)), .row 1, qi x6.1.Up, qi x6.1.Down, qi x6.1.UpSpan, qi x6.1.DownSpan, .nil]], [rr 1 eS kl9 true, rr 3 enc_Metric t16.2.2.2 true, rr 2 enc_Note ([(Note.mk x23 x24.1)] : List Note) true]⟩) rfl rfl rfl (ev_bs ([(Note.mk x23 x24.1)] : List Note) enc_Note rfl rfl rfl rfl) ?_; simp only [putT,st,ev,gt,hp,ofV,constT,intT,lm]
       obtain ⟨m25, hm25, H1⟩ := bnd H1
       refine WL_op (x := .row 3) (σ' := ⟨[], [some [.c (cL eU x24.2.b), qi x24.2.i, qi x24.2.h], some [qs [], qs [], qi 0, qi 0, .nil, qi 0, qi 0, qi 0, qi 0, .nil], some [qs x3.1, qs x4.1, qi (IntKind.i64.wrap (1 + x2.1)), qi (IntKind.i64.wrap ((IntKind.i64.wrap (1 + x2.1)) + x5.1)), .row 1, qi x6.1.Up, qi x6.1.Down, qi x6.1.UpSpan, qi x6.1.DownSpan, .nil]], [rr 1 eS kl9 true, rr 3 enc_Metric t16.2.2.2 true, rr 2 enc_Note ([(Note.mk x23 x24.1)] : List Note) true, rr 2 enc_Note m25 true]⟩) rfl rfl rfl (ev_appN (en := enc_Note) hm25 hn_v21 rfl rfl rfl rfl (Or.inl rfl) rfl rfl rfl rfl rfl rfl rfl rfl rfl (fun _ => rfl) rfl) ?_; simp only [putT,st,ev,gt,hp,ofV,constT,intT,lm]
       refine WL_op (x := .bp 2 9) rfl rfl rfl rfl ?_
       refine WL_op (x := .no) (σ' := ⟨[], [some [.c (cL eU x24.2.b), qi x24.2.i, qi x24.2.h], some [qs [], qs [], qi 0, qi 0, .nil, qi 0, qi 0, qi 0, qi 0, .nil], some [qs x3.1, qs x4.1, qi (IntKind.i64.wrap (1 + x2.1)), qi (IntKind.i64.wrap ((IntKind.i64.wrap (1 + x2.1)) + x5.1)), .row 1, qi x6.1.Up, qi x6.1.Down, qi x6.1.UpSpan, qi x6.1.DownSpan, .row 3]], [rr 1 eS kl9 true, rr 3 enc_Metric t16.2.2.2 true, rr 2 enc_Note ([(Note.mk x23 x24.1)] : List Note) true, rr 2 enc_Note m25 true]⟩) rfl rfl rfl rfl ?_; simp only [putT,st,ev,gt,hp,ofV,constT,intT,lm]
       refine WL_nil (by kernel_rfl) ?_
       refine W_region ?_
       iterate 3 (refine WO_op rfl rfl rfl ?_; simp only [putT,st,ev,gt,hp,ofV,constT,intT,lm])
       refine WO_nil ?_
       exact hW1 _ _ ((IH1 _ _ _ _ _ _ H1 rfl).2) (le_intro [0, 1, 2] [0, 1, 3] (by decide) (by decide) rfl (by simp [leS, leT, leA, gt]) (by simp [leB, leT, leA]) (by simp [leR]))
      ·
       replace H1 := fl hc H1
       refine W_skip ?_
       refine W_region ?_
       iterate 3 (refine WO_op rfl rfl rfl ?_; simp only [putT,st,ev,gt,hp,ofV,constT,intT,lm])
       refine WO_nil ?_
       exact hW1 _ _ ((IH1 _ _ _ _ _ _ H1 rfl).1 hn_v21) (le_intro [0, 1, 2] [0, 1] (by decide) (by decide) rfl (by simp [leS, leT, leA, gt]) (by simp [leB, leT, leA]) (by simp [leR]))
     ·
      replace H1 := fl hc H1
      refine W_exit ?_
      obtain rfl := Option.some.inj H1
      exact hX1 0 (v18, v19, v20, v21) _ ⟨rfl, hn_v21⟩ (le_intro [0, 1, 2] [1] (by decide) (by decide) rfl (by simp [leS, leT, leA, gt]) (by simp [leB, leT, leA]) (by simp [leR]))
    ·
     skip
     refine hV1 _ ?_
     refine W_seq (W_seq (W_region ?_))
     iterate 4 (refine WO_op rfl rfl rfl ?_; simp only [putT,st,ev,gt,hp,ofV,constT,intT,lm])
     refine WO_nil ?_
     refine W_cond rfl (fun hc => ?_) (fun hc => ?_)
     ·
      replace H1 := tr hc H1
      refine W_skip ?_
      refine W_seq ?_
      refine W_block ?_
      refine W_seq (W_region ?_)
      refine WO_op rfl rfl rfl ?_; simp only [putT,st,ev,gt,hp,ofV,constT,intT,lm]
      obtain ⟨x22, hx22, H1⟩ := bnd H1
      refine WO_op (x := qb x22.1) (σ' := ⟨[], [some [.c (cL eU x22.2.b), qi x22.2.i, qi x22.2.h], some [qs [], qs [], qi 0, qi 0, .nil, qi 0, qi 0, qi 0, qi 0, .nil], some [qs x3.1, qs x4.1, qi (IntKind.i64.wrap (1 + x2.1)), qi (IntKind.i64.wrap ((IntKind.i64.wrap (1 + x2.1)) + x5.1)), .row 1, qi x6.1.Up, qi x6.1.Down, qi x6.1.UpSpan, qi x6.1.DownSpan, .row 2]], [rr 1 eS kl9 true, rr 3 enc_Metric t16.2.2.2 true, rr 2 enc_Note v21 true]⟩) rfl rfl (ev_callG (al := [.bp 0 0, qi 3]) (ls := [.b 0]) (spec_l1Once_ok hx22) rfl rfl rfl rfl rfl (by decide) rfl rfl rfl rfl rfl rfl) ?_; simp only [putT,st,ev,gt,hp,ofV,constT,intT,lm]
      refine WO_nil ?_
      refine W_cond rfl (fun hc => ?_) (fun hc => ?_)
      ·
       replace H1 := tr hc H1
       refine W_drawL (by kernel_rfl) (by decide +kernel) ?_
       refine WL_op (x := .bp 2 9) rfl rfl rfl rfl ?_
       refine WL_op (x := .row 2) rfl rfl rfl rfl ?_; simp only [putT,st,ev,gt,hp,ofV,constT,intT,lm]
       iterate 2 (refine WL_op rfl rfl rfl rfl ?_; simp only [putT,st,ev,gt,hp,ofV,constT,intT,lm])
       obtain ⟨x23, hx23, H1⟩ := bnd H1
       refine WL_op rfl rfl rfl (ev_ixR (en := eS) hx23 rfl rfl rfl rfl rfl rfl rfl) ?_; simp only [putT,st,ev,gt,hp,ofV,constT,intT,lm]
       refine WL_op (x := qs x23) rfl rfl rfl (ev_ldR (en := eS) hx23 rfl rfl rfl rfl) ?_; simp only [putT,st,ev,gt,hp,ofV,constT,intT,lm]
       refine WL_op rfl rfl rfl rfl ?_; simp only [putT,st,ev,gt,hp,ofV,constT,intT,lm]
       obtain ⟨x24, hx24, H1⟩ := bnd H1
       refine WL_op (x := qs x24.1) (σ' := ⟨[], [some [.c (cL eU x24.2.b), qi x24.2.i, qi x24.2.h], some [qs [], qs [], qi 0, qi 0, .nil, qi 0, qi 0, qi 0, qi 0, .nil], some [qs x3.1, qs x4.1, qi (IntKind.i64.wrap (1 + x2.1)), qi (IntKind.i64.wrap ((IntKind.i64.wrap (1 + x2.1)) + x5.1)), .row 1, qi x6.1.Up, qi x6.1.Down, qi x6.1.UpSpan, qi x6.1.DownSpan, .row 2]], [rr 1 eS kl9 true, rr 3 enc_Metric t16.2.2.2 true, rr 2 enc_Note v21 true]⟩) rfl rfl rfl (ev_callG (al := [.bp 0 0]) (ls := [.b 0]) (spec_l3DrawText_ok hx24) rfl rfl rfl rfl rfl (by decide) rfl rfl rfl rfl rfl rfl) ?_; simp only [putT,st,ev,gt,hp,ofV,constT,intT,lm]
       refine WL_op (x := .ag [qs x23, qs x24.1]) rfl rfl rfl rfl ?_; simp only [putT,st,ev,gt,hp,ofV,constT,intT,lm]
       refine WL_op (x := .row 3) (σ' := ⟨[], [some [.c (cL eU x24.2.b), qi x24.2.i, qi x24.2.h], some [qs [], qs [], qi 0, qi 0, .nil, qi 0, qi 0, qi 0, qi 0, .nil], some [qs x3.1, qs x4.1, qi (IntKind.i64.wrap (1 + x2.1)), qi (IntKind.i64.wrap ((IntKind.i64.wrap (1 + x2.1)) + x5.1)), .row 1, qi x6.1.Up, qi x6.1.Down, qi x6.1.UpSpan, qi x6.1.DownSpan, .row 2]], [rr 1 eS kl9 true, rr 3 enc_Metric t16.2.2.2 true, rr 2 enc_Note v21 true, rr 2 enc_Note ([(Note.mk x23 x24.1)] : List Note) true]⟩) rfl rfl rfl (ev_bs ([(Note.mk x23 x24.1)] : List Note) enc_Note rfl rfl rfl rfl) ?_; simp only [putT,st,ev,gt,hp,ofV,constT,intT,lm]
       obtain ⟨m25, hm25, H1⟩ := bnd H1
       refine WL_op (x := .row 4) (σ' := ⟨[], [some [.c (cL eU x24.2.b), qi x24.2.i, qi x24.2.h], some [qs [], qs [], qi 0, qi 0, .nil, qi 0, qi 0, qi 0, qi 0, .nil], some [qs x3.1, qs x4.1, qi (IntKind.i64.wrap (1 + x2.1)), qi (IntKind.i64.wrap ((IntKind.i64.wrap (1 + x2.1)) + x5.1)), .row 1, qi x6.1.Up, qi x6.1.Down, qi x6.1.UpSpan, qi x6.1.DownSpan, .row 2]], [rr 1 eS kl9 true, rr 3 enc_Metric t16.2.2.2 true, none, rr 2 enc_Note ([(Note.mk x23 x24.1)] : List Note) true, rr 2 enc_Note m25 true]⟩) rfl rfl rfl (ev_app (en := enc_Note) hm25 rfl rfl rfl rfl (Or.inl rfl) rfl rfl rfl rfl rfl rfl rfl rfl rfl rfl rfl (fun _ => rfl) rfl (Or.inr rfl) rfl) ?_; simp only [putT,st,ev,gt,hp,ofV,constT,intT,lm]
       refine WL_op (x := .bp 2 9) rfl rfl rfl rfl ?_
       refine WL_op (x := .no) (σ' := ⟨[], [some [.c (cL eU x24.2.b), qi x24.2.i, qi x24.2.h], some [qs [], qs [], qi 0, qi 0, .nil, qi 0, qi 0, qi 0, qi 0, .nil], some [qs x3.1, qs x4.1, qi (IntKind.i64.wrap (1 + x2.1)), qi (IntKind.i64.wrap ((IntKind.i64.wrap (1 + x2.1)) + x5.1)), .row 1, qi x6.1.Up, qi x6.1.Down, qi x6.1.UpSpan, qi x6.1.DownSpan, .row 4]], [rr 1 eS kl9 true, rr 3 enc_Metric t16.2.2.2 true, none, rr 2 enc_Note ([(Note.mk x23 x24.1)] : List Note) true, rr 2 enc_Note m25 true]⟩) rfl rfl rfl rfl ?_; simp only [putT,st,ev,gt,hp,ofV,constT,intT,lm]
       refine WL_nil (by kernel_rfl) ?_
       refine W_region ?_
       iterate 3 (refine WO_op rfl rfl rfl ?_; simp only [putT,st,ev,gt,hp,ofV,constT,intT,lm])
       refine WO_nil ?_
       exact hW1 _ _ ((IH1 _ _ _ _ _ _ H1 rfl).2) (le_intro [0, 1, 2] [0, 1, 4] (by decide) (by decide) rfl (by simp [leS, leT, leA, gt]) (by simp [leB, leT, leA]) (by simp [leR]))
      ·
       replace H1 := fl hc H1
       refine W_skip ?_
       refine W_region ?_
       iterate 3 (refine WO_op rfl rfl rfl ?_; simp only [putT,st,ev,gt,hp,ofV,constT,intT,lm])
       refine WO_nil ?_
       exact hW1 _ _ ((IH1 _ _ _ _ _ _ H1 rfl).2) (le_intro [0, 1, 2] [0, 1, 2] (by decide) (by decide) rfl (by simp [leS, leT, leA, gt]) (by simp [leB, leT, leA]) (by simp [leR]))
     ·
      replace H1 := fl hc H1
      refine W_exit ?_
      obtain rfl := Option.some.inj H1
      exact hX1 1 (v18, v19, v20, v21) _ rfl (le_intro [0, 1, 2] [1, 2] (by decide) (by decide) rfl (by simp [leS, leT, leA, gt]) (by simp [leB, leT, leA]) (by simp [leR]))
  · exact hp.elim
 ·
  intro V1 hV1 hW1 hX1
  refine (spec_l6DrawRight.l0.partial_correctness (fun v7 v8 v9 v10 v11 s' => s' = t16 → (v11 = [] → V1 ⟨[.bp 0 0, .no, .bp 1 0, .no, .bp 2 0, .row 0, qi v7], [some [.c (cL eU v8), qi v9, qi v10], some [qs [], qs [], qi 0, qi 0, .nil, qi 0, qi 0, qi 0, qi 0, .nil], some [qs x3.1, qs x4.1, qi (IntKind.i64.wrap (1 + x2.1)), qi (IntKind.i64.wrap ((IntKind.i64.wrap (1 + x2.1)) + x5.1)), .nil, qi x6.1.Up, qi x6.1.Down, qi x6.1.UpSpan, qi x6.1.DownSpan, .nil]], [rr 1 eS kl8 true]⟩) ∧ (V1 ⟨[.bp 0 0, .no, .bp 1 0, .no, .bp 2 0, .row 0, qi v7], [some [.c (cL eU v8), qi v9, qi v10], some [qs [], qs [], qi 0, qi 0, .nil, qi 0, qi 0, qi 0, qi 0, .nil], some [qs x3.1, qs x4.1, qi (IntKind.i64.wrap (1 + x2.1)), qi (IntKind.i64.wrap ((IntKind.i64.wrap (1 + x2.1)) + x5.1)), .row 1, qi x6.1.Up, qi x6.1.Down, qi x6.1.UpSpan, qi x6.1.DownSpan, .nil]], [rr 1 eS kl8 true, rr 3 enc_Metric v11 true]⟩)) ?_ _ _ _ _ _ _ ht16 rfl).1 rfl
  intro l0 IH1 v7 v8 v9 v10 v11 s' H1 e
  subst e
  refine ⟨?_, ?_⟩
  ·
   intro hn_v11
   refine hV1 _ ?_
   refine W_seq (W_seq (W_region ?_))
   iterate 4 (refine WO_op rfl rfl rfl ?_; simp only [putT,st,ev,gt,hp,ofV,constT,intT,lm])
   refine WO_nil ?_
   refine W_cond rfl (fun hc => ?_) (fun hc => ?_)
   ·
    replace H1 := tr hc H1
    refine W_skip ?_
    refine W_seq ?_
    refine W_block ?_
    refine W_seq (W_region ?_)
    refine WO_op rfl rfl rfl ?_; simp only [putT,st,ev,gt,hp,ofV,constT,intT,lm]
    obtain ⟨x12, hx12, H1⟩ := bnd H1
    refine WO_op (x := qb x12.1) (σ' := ⟨[], [some [.c (cL eU x12.2.b), qi x12.2.i, qi x12.2.h], some [qs [], qs [], qi 0, qi 0, .nil, qi 0, qi 0, qi 0, qi 0, .nil], some [qs x3.1, qs x4.1, qi (IntKind.i64.wrap (1 + x2.1)), qi (IntKind.i64.wrap ((IntKind.i64.wrap (1 + x2.1)) + x5.1)), .nil, qi x6.1.Up, qi x6.1.Down, qi x6.1.UpSpan, qi x6.1.DownSpan, .nil]], [rr 1 eS kl8 true]⟩) rfl rfl (ev_callG (al := [.bp 0 0, qi 2]) (ls := [.b 0]) (spec_l1Once_ok hx12) rfl rfl rfl rfl rfl (by decide) rfl rfl rfl rfl rfl rfl) ?_; simp only [putT,st,ev,gt,hp,ofV,constT,intT,lm]
    refine WO_nil ?_
    refine W_cond rfl (fun hc => ?_) (fun hc => ?_)
    ·
     replace H1 := tr hc H1
     refine W_seq (W_region ?_)
     refine WO_op rfl rfl rfl ?_; simp only [putT,st,ev,gt,hp,ofV,constT,intT,lm]
     obtain ⟨x13, hx13, H1⟩ := bnd H1
     refine WO_op (x := .ag [qs x13.1.Name, qi x13.1.Kind, qi x13.1.Goal]) (σ' := ⟨[], [some [.c (cL eU x13.2.b), qi x13.2.i, qi x13.2.h], some [qs [], qs [], qi 0, qi 0, .nil, qi 0, qi 0, qi 0, qi 0, .nil], some [qs x3.1, qs x4.1, qi (IntKind.i64.wrap (1 + x2.1)), qi (IntKind.i64.wrap ((IntKind.i64.wrap (1 + x2.1)) + x5.1)), .nil, qi x6.1.Up, qi x6.1.Down, qi x6.1.UpSpan, qi x6.1.DownSpan, .nil]], [rr 1 eS kl8 true]⟩) rfl rfl (ev_callG (al := [.bp 0 0]) (ls := [.b 0]) (spec_l6DrawMetric_ok hx13) rfl rfl rfl rfl rfl (by decide) rfl rfl rfl rfl rfl rfl) ?_; simp only [putT,st,ev,gt,hp,ofV,constT,intT,lm]
     refine WO_op (x := .bp 3 0) (σ' := ⟨[], [some [.c (cL eU x13.2.b), qi x13.2.i, qi x13.2.h], some [qs [], qs [], qi 0, qi 0, .nil, qi 0, qi 0, qi 0, qi 0, .nil], some [qs x3.1, qs x4.1, qi (IntKind.i64.wrap (1 + x2.1)), qi (IntKind.i64.wrap ((IntKind.i64.wrap (1 + x2.1)) + x5.1)), .nil, qi x6.1.Up, qi x6.1.Down, qi x6.1.UpSpan, qi x6.1.DownSpan, .nil], some [qs [], qi 0, qi 0]], [rr 1 eS kl8 true]⟩) rfl rfl rfl ?_
     refine WO_op (x := .no) (σ' := ⟨[], [some [.c (cL eU x13.2.b), qi x13.2.i, qi x13.2.h], some [qs [], qs [], qi 0, qi 0, .nil, qi 0, qi 0, qi 0, qi 0, .nil], some [qs x3.1, qs x4.1, qi (IntKind.i64.wrap (1 + x2.1)), qi (IntKind.i64.wrap ((IntKind.i64.wrap (1 + x2.1)) + x5.1)), .nil, qi x6.1.Up, qi x6.1.Down, qi x6.1.UpSpan, qi x6.1.DownSpan, .nil], some [qs x13.1.Name, qi x13.1.Kind, qi x13.1.Goal]], [rr 1 eS kl8 true]⟩) rfl rfl rfl ?_; simp only [putT,st,ev,gt,hp,ofV,constT,intT,lm]
     refine WO_nil (W_seq (W_region ?_))
     iterate 2 (refine WO_op rfl rfl rfl ?_; simp only [putT,st,ev,gt,hp,ofV,constT,intT,lm])
     obtain ⟨x14, hx14, H1⟩ := bnd H1
     refine WO_op rfl rfl (ev_ixR (en := eS) hx14 rfl rfl rfl rfl rfl rfl rfl) ?_; simp only [putT,st,ev,gt,hp,ofV,constT,intT,lm]
     refine WO_op (x := qs x14) rfl rfl (ev_ldR (en := eS) hx14 rfl rfl rfl rfl) ?_; simp only [putT,st,ev,gt,hp,ofV,constT,intT,lm]
     refine WO_op (x := .bp 3 0) rfl rfl rfl ?_
     refine WO_op (x := .no) (σ' := ⟨[], [some [.c (cL eU x13.2.b), qi x13.2.i, qi x13.2.h], some [qs [], qs [], qi 0, qi 0, .nil, qi 0, qi 0, qi 0, qi 0, .nil], some [qs x3.1, qs x4.1, qi (IntKind.i64.wrap (1 + x2.1)), qi (IntKind.i64.wrap ((IntKind.i64.wrap (1 + x2.1)) + x5.1)), .nil, qi x6.1.Up, qi x6.1.Down, qi x6.1.UpSpan, qi x6.1.DownSpan, .nil], some [qs x14, qi x13.1.Kind, qi x13.1.Goal]], [rr 1 eS kl8 true]⟩) rfl rfl rfl ?_; simp only [putT,st,ev,gt,hp,ofV,constT,intT,lm]
     refine WO_nil (W_region ?_)
     refine WO_op (x := .bp 2 4) rfl rfl rfl ?_
     refine WO_op (x := .nil) rfl rfl rfl ?_
     refine WO_op (x := .ag [qs x14, qi x13.1.Kind, qi x13.1.Goal]) rfl rfl rfl ?_; simp only [putT,st,ev,gt,hp,ofV,constT,intT,lm]
     refine WO_op (x := .row 1) (σ' := ⟨[], [some [.c (cL eU x13.2.b), qi x13.2.i, qi x13.2.h], some [qs [], qs [], qi 0, qi 0, .nil, qi 0, qi 0, qi 0, qi 0, .nil], some [qs x3.1, qs x4.1, qi (IntKind.i64.wrap (1 + x2.1)), qi (IntKind.i64.wrap ((IntKind.i64.wrap (1 + x2.1)) + x5.1)), .nil, qi x6.1.Up, qi x6.1.Down, qi x6.1.UpSpan, qi x6.1.DownSpan, .nil], some [qs x14, qi x13.1.Kind, qi x13.1.Goal]], [rr 1 eS kl8 true, rr 3 enc_Metric ([(Metric.mk x14 x13.1.Kind x13.1.Goal)] : List Metric) true]⟩) rfl rfl (ev_bs ([(Metric.mk x14 x13.1.Kind x13.1.Goal)] : List Metric) enc_Metric rfl rfl rfl rfl) ?_; simp only [putT,st,ev,gt,hp,ofV,constT,intT,lm]
     obtain ⟨m15, hm15, H1⟩ := bnd H1
     refine WO_op (x := .row 2) (σ' := ⟨[], [some [.c (cL eU x13.2.b), qi x13.2.i, qi x13.2.h], some [qs [], qs [], qi 0, qi 0, .nil, qi 0, qi 0, qi 0, qi 0, .nil], some [qs x3.1, qs x4.1, qi (IntKind.i64.wrap (1 + x2.1)), qi (IntKind.i64.wrap ((IntKind.i64.wrap (1 + x2.1)) + x5.1)), .nil, qi x6.1.Up, qi x6.1.Down, qi x6.1.UpSpan, qi x6.1.DownSpan, .nil], some [qs x14, qi x13.1.Kind, qi x13.1.Goal]], [rr 1 eS kl8 true, rr 3 enc_Metric ([(Metric.mk x14 x13.1.Kind x13.1.Goal)] : List Metric) true, rr 3 enc_Metric m15 true]⟩) rfl rfl (ev_appN (en := enc_Metric) hm15 hn_v11 rfl rfl rfl rfl (Or.inl rfl) rfl rfl rfl rfl rfl rfl rfl rfl rfl (fun _ => rfl) rfl) ?_; simp only [putT,st,ev,gt,hp,ofV,constT,intT,lm]
     refine WO_op (x := .bp 2 4) rfl rfl rfl ?_
     refine WO_op (x := .no) (σ' := ⟨[], [some [.c (cL eU x13.2.b), qi x13.2.i, qi x13.2.h], some [qs [], qs [], qi 0, qi 0, .nil, qi 0, qi 0, qi 0, qi 0, .nil], some [qs x3.1, qs x4.1, qi (IntKind.i64.wrap (1 + x2.1)), qi (IntKind.i64.wrap ((IntKind.i64.wrap (1 + x2.1)) + x5.1)), .row 2, qi x6.1.Up, qi x6.1.Down, qi x6.1.UpSpan, qi x6.1.DownSpan, .nil], some [qs x14, qi x13.1.Kind, qi x13.1.Goal]], [rr 1 eS kl8 true, rr 3 enc_Metric ([(Metric.mk x14 x13.1.Kind x13.1.Goal)] : List Metric) true, rr 3 enc_Metric m15 true]⟩) rfl rfl rfl ?_; simp only [putT,st,ev,gt,hp,ofV,constT,intT,lm]
     refine WO_nil (W_region ?_)
     iterate 3 (refine WO_op rfl rfl rfl ?_; simp only [putT,st,ev,gt,hp,ofV,constT,intT,lm])
     refine WO_nil ?_
     exact hW1 _ _ ((IH1 _ _ _ _ _ _ H1 rfl).2) (le_intro [0, 1, 2] [0, 2] (by decide) (by decide) rfl (by simp [leS, leT, leA, gt]) (by simp [leB, leT, leA]) (by simp [leR]))
    ·
     replace H1 := fl hc H1
     refine W_skip ?_
     refine W_region ?_
     iterate 3 (refine WO_op rfl rfl rfl ?_; simp only [putT,st,ev,gt,hp,ofV,constT,intT,lm])
     refine WO_nil ?_
     exact hW1 _ _ ((IH1 _ _ _ _ _ _ H1 rfl).1 hn_v11) (le_intro [0, 1, 2] [0] (by decide) (by decide) rfl (by simp [leS, leT, leA, gt]) (by simp [leB, leT, leA]) (by simp [leR]))
   ·
    replace H1 := fl hc H1
    refine W_exit ?_
    obtain rfl := Option.some.inj H1
    exact hX1 0 (v8, v9, v10, v11) _ ⟨rfl, hn_v11⟩ (le_intro [0, 1, 2] [] (by decide) (by decide) rfl (by simp [leS, leT, leA, gt]) (by simp [leB, leT, leA]) (by simp [leR]))
  ·
   skip
   refine hV1 _ ?_
   refine W_seq (W_seq (W_region ?_))
   iterate 4 (refine WO_op rfl rfl rfl ?_; simp only [putT,st,ev,gt,hp,ofV,constT,intT,lm])
   refine WO_nil ?_
   refine W_cond rfl (fun hc => ?_) (fun hc => ?_)
   ·
    replace H1 := tr hc H1
    refine W_skip ?_
    refine W_seq ?_
    refine W_block ?_
    refine W_seq (W_region ?_)
    refine WO_op rfl rfl rfl ?_; simp only [putT,st,ev,gt,hp,ofV,constT,intT,lm]
    obtain ⟨x12, hx12, H1⟩ := bnd H1
    refine WO_op (x := qb x12.1) (σ' := ⟨[], [some [.c (cL eU x12.2.b), qi x12.2.i, qi x12.2.h], some [qs [], qs [], qi 0, qi 0, .nil, qi 0, qi 0, qi 0, qi 0, .nil], some [qs x3.1, qs x4.1, qi (IntKind.i64.wrap (1 + x2.1)), qi (IntKind.i64.wrap ((IntKind.i64.wrap (1 + x2.1)) + x5.1)), .row 1, qi x6.1.Up, qi x6.1.Down, qi x6.1.UpSpan, qi x6.1.DownSpan, .nil]], [rr 1 eS kl8 true, rr 3 enc_Metric v11 true]⟩) rfl rfl (ev_callG (al := [.bp 0 0, qi 2]) (ls := [.b 0]) (spec_l1Once_ok hx12) rfl rfl rfl rfl rfl (by decide) rfl rfl rfl rfl rfl rfl) ?_; simp only [putT,st,ev,gt,hp,ofV,constT,intT,lm]
    refine WO_nil ?_
    refine W_cond rfl (fun hc => ?_) (fun hc => ?_)
    ·
     replace H1 := tr hc H1
     refine W_seq (W_region ?_)
     refine WO_op rfl rfl rfl ?_; simp only [putT,st,ev,gt,hp,ofV,constT,intT,lm]
     obtain ⟨x13, hx13, H1⟩ := bnd H1
     refine WO_op (x := .ag [qs x13.1.Name, qi x13.1.Kind, qi x13.1.Goal]) (σ' := ⟨[], [some [.c (cL eU x13.2.b), qi x13.2.i, qi x13.2.h], some [qs [], qs [], qi 0, qi 0, .nil, qi 0, qi 0, qi 0, qi 0, .nil], some [qs x3.1, qs x4.1, qi (IntKind.i64.wrap (1 + x2.1)), qi (IntKind.i64.wrap ((IntKind.i64.wrap (1 + x2.1)) + x5.1)), .row 1, qi x6.1.Up, qi x6.1.Down, qi x6.1.UpSpan, qi x6.1.DownSpan, .nil]], [rr 1 eS kl8 true, rr 3 enc_Metric v11 true]⟩) rfl rfl (ev_callG (al := [.bp 0 0]) (ls := [.b 0]) (spec_l6DrawMetric_ok hx13) rfl rfl rfl rfl rfl (by decide) rfl rfl rfl rfl rfl rfl) ?_; simp only [putT,st,ev,gt,hp,ofV,constT,intT,lm]
     refine WO_op (x := .bp 3 0) (σ' := ⟨[], [some [.c (cL eU x13.2.b), qi x13.2.i, qi x13.2.h], some [qs [], qs [], qi 0, qi 0, .nil, qi 0, qi 0, qi 0, qi 0, .nil], some [qs x3.1, qs x4.1, qi (IntKind.i64.wrap (1 + x2.1)), qi (IntKind.i64.wrap ((IntKind.i64.wrap (1 + x2.1)) + x5.1)), .row 1, qi x6.1.Up, qi x6.1.Down, qi x6.1.UpSpan, qi x6.1.DownSpan, .nil], some [qs [], qi 0, qi 0]], [rr 1 eS kl8 true, rr 3 enc_Metric v11 true]⟩) rfl rfl rfl ?_
     refine WO_op (x := .no) (σ' := ⟨[], [some [.c (cL eU x13.2.b), qi x13.2.i, qi x13.2.h], some [qs [], qs [], qi 0, qi 0, .nil, qi 0, qi 0, qi 0, qi 0, .nil], some [qs x3.1, qs x4.1, qi (IntKind.i64.wrap (1 + x2.1)), qi (IntKind.i64.wrap ((IntKind.i64.wrap (1 + x2.1)) + x5.1)), .row 1, qi x6.1.Up, qi x6.1.Down, qi x6.1.UpSpan, qi x6.1.DownSpan, .nil], some [qs x13.1.Name, qi x13.1.Kind, qi x13.1.Goal]], [rr 1 eS kl8 true, rr 3 enc_Metric v11 true]⟩) rfl rfl rfl ?_; simp only [putT,st,ev,gt,hp,ofV,constT,intT,lm]
     refine WO_nil (W_seq (W_region ?_))
     iterate 2 (refine WO_op rfl rfl rfl ?_; simp only [putT,st,ev,gt,hp,ofV,constT,intT,lm])
     obtain ⟨x14, hx14, H1⟩ := bnd H1
     refine WO_op rfl rfl (ev_ixR (en := eS) hx14 rfl rfl rfl rfl rfl rfl rfl) ?_; simp only [putT,st,ev,gt,hp,ofV,constT,intT,lm]
     refine WO_op (x := qs x14) rfl rfl (ev_ldR (en := eS) hx14 rfl rfl rfl rfl) ?_; simp only [putT,st,ev,gt,hp,ofV,constT,intT,lm]
     refine WO_op (x := .bp 3 0) rfl rfl rfl ?_
     refine WO_op (x := .no) (σ' := ⟨[], [some [.c (cL eU x13.2.b), qi x13.2.i, qi x13.2.h], some [qs [], qs [], qi 0, qi 0, .nil, qi 0, qi 0, qi 0, qi 0, .nil], some [qs x3.1, qs x4.1, qi (IntKind.i64.wrap (1 + x2.1)), qi (IntKind.i64.wrap ((IntKind.i64.wrap (1 + x2.1)) + x5.1)), .row 1, qi x6.1.Up, qi x6.1.Down, qi x6.1.UpSpan, qi x6.1.DownSpan, .nil], some [qs x14, qi x13.1.Kind, qi x13.1.Goal]], [rr 1 eS kl8 true, rr 3 enc_Metric v11 true]⟩) rfl rfl rfl ?_; simp only [putT,st,ev,gt,hp,ofV,constT,intT,lm]
     refine WO_nil (W_region ?_)
     refine WO_op (x := .bp 2 4) rfl rfl rfl ?_
     refine WO_op (x := .row 1) rfl rfl rfl ?_
     refine WO_op (x := .ag [qs x14, qi x13.1.Kind, qi x13.1.Goal]) rfl rfl rfl ?_; simp only [putT,st,ev,gt,hp,ofV,constT,intT,lm]
     refine WO_op (x := .row 2) (σ' := ⟨[], [some [.c (cL eU x13.2.b), qi x13.2.i, qi x13.2.h], some [qs [], qs [], qi 0, qi 0, .nil, qi 0, qi 0, qi 0, qi 0, .nil], some [qs x3.1, qs x4.1, qi (IntKind.i64.wrap (1 + x2.1)), qi (IntKind.i64.wrap ((IntKind.i64.wrap (1 + x2.1)) + x5.1)), .row 1, qi x6.1.Up, qi x6.1.Down, qi x6.1.UpSpan, qi x6.1.DownSpan, .nil], some [qs x14, qi x13.1.Kind, qi x13.1.Goal]], [rr 1 eS kl8 true, rr 3 enc_Metric v11 true, rr 3 enc_Metric ([(Metric.mk x14 x13.1.Kind x13.1.Goal)] : List Metric) true]⟩) rfl rfl (ev_bs ([(Metric.mk x14 x13.1.Kind x13.1.Goal)] : List Metric) enc_Metric rfl rfl rfl rfl) ?_; simp only [putT,st,ev,gt,hp,ofV,constT,intT,lm]
     obtain ⟨m15, hm15, H1⟩ := bnd H1
     refine WO_op (x := .row 3) (σ' := ⟨[], [some [.c (cL eU x13.2.b), qi x13.2.i, qi x13.2.h], some [qs [], qs [], qi 0, qi 0, .nil, qi 0, qi 0, qi 0, qi 0, .nil], some [qs x3.1, qs x4.1, qi (IntKind.i64.wrap (1 + x2.1)), qi (IntKind.i64.wrap ((IntKind.i64.wrap (1 + x2.1)) + x5.1)), .row 1, qi x6.1.Up, qi x6.1.Down, qi x6.1.UpSpan, qi x6.1.DownSpan, .nil], some [qs x14, qi x13.1.Kind, qi x13.1.Goal]], [rr 1 eS kl8 true, none, rr 3 enc_Metric ([(Metric.mk x14 x13.1.Kind x13.1.Goal)] : List Metric) true, rr 3 enc_Metric m15 true]⟩) rfl rfl (ev_app (en := enc_Metric) hm15 rfl rfl rfl rfl (Or.inl rfl) rfl rfl rfl rfl rfl rfl rfl rfl rfl rfl rfl (fun _ => rfl) rfl (Or.inr rfl) rfl) ?_; simp only [putT,st,ev,gt,hp,ofV,constT,intT,lm]
     refine WO_op (x := .bp 2 4) rfl rfl rfl ?_
     refine WO_op (x := .no) (σ' := ⟨[], [some [.c (cL eU x13.2.b), qi x13.2.i, qi x13.2.h], some [qs [], qs [], qi 0, qi 0, .nil, qi 0, qi 0, qi 0, qi 0, .nil], some [qs x3.1, qs x4.1, qi (IntKind.i64.wrap (1 + x2.1)), qi (IntKind.i64.wrap ((IntKind.i64.wrap (1 + x2.1)) + x5.1)), .row 3, qi x6.1.Up, qi x6.1.Down, qi x6.1.UpSpan, qi x6.1.DownSpan, .nil], some [qs x14, qi x13.1.Kind, qi x13.1.Goal]], [rr 1 eS kl8 true, none, rr 3 enc_Metric ([(Metric.mk x14 x13.1.Kind x13.1.Goal)] : List Metric) true, rr 3 enc_Metric m15 true]⟩) rfl rfl rfl ?_; simp only [putT,st,ev,gt,hp,ofV,constT,intT,lm]
     refine WO_nil (W_region ?_)
     iterate 3 (refine WO_op rfl rfl rfl ?_; simp only [putT,st,ev,gt,hp,ofV,constT,intT,lm])
     refine WO_nil ?_
     exact hW1 _ _ ((IH1 _ _ _ _ _ _ H1 rfl).2) (le_intro [0, 1, 2] [0, 3] (by decide) (by decide) rfl (by simp [leS, leT, leA, gt]) (by simp [leB, leT, leA]) (by simp [leR]))
    ·
     replace H1 := fl hc H1
     refine W_skip ?_
     refine W_region ?_
     iterate 3 (refine WO_op rfl rfl rfl ?_; simp only [putT,st,ev,gt,hp,ofV,constT,intT,lm])
     refine WO_nil ?_
     exact hW1 _ _ ((IH1 _ _ _ _ _ _ H1 rfl).2) (le_intro [0, 1, 2] [0, 1] (by decide) (by decide) rfl (by simp [leS, leT, leA, gt]) (by simp [leB, leT, leA]) (by simp [leR]))
   ·
    replace H1 := fl hc H1
    refine W_exit ?_
    obtain rfl := Option.some.inj H1
    exact hX1 1 (v8, v9, v10, v11) _ rfl (le_intro [0, 1, 2] [1] (by decide) (by decide) rfl (by simp [leS, leT, leA, gt]) (by simp [leB, leT, leA]) (by simp [leR]))
theorem spec_l6Draw_ok {a1 : L1Cur} {r : Order × L1Cur} (H : spec_l6Draw a1 = some r) : R 71 [.p [(cL eU a1.b, none), (cI .i64 a1.i, none), (cI .i64 a1.h, none)]] = some (.ag [(cS r.1.Name, none), (cS r.1.Target, none), (cI .i64 r.1.Low, none), (cI .i64 r.1.High, none), (cL enc_Metric r.1.Metrics, some 3), (cI .i64 r.1.Pace.Up, none), (cI .i64 r.1.Pace.Down, none), (cI .i64 r.1.Pace.UpSpan, none), (cI .i64 r.1.Pace.DownSpan, none), (cL enc_Note r.1.Notes, some 2)], [some [(cL eU r.2.b, none), (cI .i64 r.2.i, none), (cI .i64 r.2.h, none)]]) := by
 unfold spec_l6Draw at H
 refine Fz_walk 74 rfl rfl Try.func71 rfl (by kernel_rfl) rfl rfl rfl rfl ?_
 simp only [tellVs, tellV, tells, tell, st0, padT, SX.newRow, SX.newBox, List.length_cons, List.length_nil, Nat.reduceAdd, Nat.reduceSub, List.replicate, List.cons_append, List.nil_append, List.foldl_cons, List.foldl_nil]
 refine W_seq (W_region ?_)
 refine WO_op (x := .bp 1 0) (σ' := ⟨[], [some [.c (cL eU a1.b), qi a1.i, qi a1.h], some [qs [], qs [], qi 0, qi 0, .nil, qi 0, qi 0, qi 0, qi 0, .nil]], []⟩) rfl rfl rfl ?_; simp only [putT,st,ev,gt,hp,ofV,constT,intT,lm]
 refine WO_nil (W_seq (W_region ?_))
 refine WO_op rfl rfl rfl ?_; simp only [putT,st,ev,gt,hp,ofV,constT,intT,lm]
 obtain ⟨x2, hx2, H⟩ := bnd H
 refine WO_op (x := .ag [qs x2.1.Name, qs x2.1.Target, qi x2.1.Low, qi x2.1.High, .row 0, qi x2.1.Pace.Up, qi x2.1.Pace.Down, qi x2.1.Pace.UpSpan, qi x2.1.Pace.DownSpan, .row 1]) (σ' := ⟨[], [some [.c (cL eU x2.2.b), qi x2.2.i, qi x2.2.h], some [qs [], qs [], qi 0, qi 0, .nil, qi 0, qi 0, qi 0, qi 0, .nil]], [rr 3 enc_Metric x2.1.Metrics true, rr 2 enc_Note x2.1.Notes true]⟩) rfl rfl (ev_callG (al := [.bp 0 0]) (ls := [.b 0]) (spec_l6DrawRight_ok hx2) rfl rfl rfl rfl rfl (by decide) rfl rfl rfl rfl rfl rfl) ?_; simp only [putT,st,ev,gt,hp,ofV,constT,intT,lm]
 refine WO_op (x := .bp 2 0) (σ' := ⟨[], [some [.c (cL eU x2.2.b), qi x2.2.i, qi x2.2.h], some [qs [], qs [], qi 0, qi 0, .nil, qi 0, qi 0, qi 0, qi 0, .nil], some [qs [], qs [], qi 0, qi 0, .nil, qi 0, qi 0, qi 0, qi 0, .nil]], [rr 3 enc_Metric x2.1.Metrics true, rr 2 enc_Note x2.1.Notes true]⟩) rfl rfl rfl ?_
 refine WO_op (x := .no) (σ' := ⟨[], [some [.c (cL eU x2.2.b), qi x2.2.i, qi x2.2.h], some [qs [], qs [], qi 0, qi 0, .nil, qi 0, qi 0, qi 0, qi 0, .nil], some [qs x2.1.Name, qs x2.1.Target, qi x2.1.Low, qi x2.1.High, .row 0, qi x2.1.Pace.Up, qi x2.1.Pace.Down, qi x2.1.Pace.UpSpan, qi x2.1.Pace.DownSpan, .row 1]], [rr 3 enc_Metric x2.1.Metrics true, rr 2 enc_Note x2.1.Notes true]⟩) rfl rfl rfl ?_; simp only [putT,st,ev,gt,hp,ofV,constT,intT,lm]
 refine WO_nil (W_seq (W_seq (W_region ?_)))
 refine WO_op rfl rfl rfl ?_; simp only [putT,st,ev,gt,hp,ofV,constT,intT,lm]
 obtain ⟨x3, hx3, H⟩ := bnd H
 refine WO_op (x := qi x3.1) (σ' := ⟨[], [some [.c (cL eU x3.2.b), qi x3.2.i, qi x3.2.h], some [qs [], qs [], qi 0, qi 0, .nil, qi 0, qi 0, qi 0, qi 0, .nil], some [qs x2.1.Name, qs x2.1.Target, qi x2.1.Low, qi x2.1.High, .row 0, qi x2.1.Pace.Up, qi x2.1.Pace.Down, qi x2.1.Pace.UpSpan, qi x2.1.Pace.DownSpan, .row 1]], [rr 3 enc_Metric x2.1.Metrics true, rr 2 enc_Note x2.1.Notes true]⟩) rfl rfl (ev_callG (al := [.bp 0 0, qi 16]) (ls := [.b 0]) (spec_l1Below_ok hx3) rfl rfl rfl rfl rfl (by decide) rfl rfl rfl rfl rfl rfl) ?_; simp only [putT,st,ev,gt,hp,ofV,constT,intT,lm]
 refine WO_nil ?_
 refine W_block ?_
 refine W_seq (W_region ?_)
 iterate 2 (refine WO_op rfl rfl rfl ?_; simp only [putT,st,ev,gt,hp,ofV,constT,intT,lm])
 refine WO_nil ?_
 refine W_cond rfl (fun hc => ?_) (fun hc => ?_)
 ·
  replace H := tr hc H
  refine W_region ?_
  refine WO_op rfl rfl rfl ?_; simp only [putT,st,ev,gt,hp,ofV,constT,intT,lm]
  refine WO_op (x := .row 2) (σ' := ⟨[], [some [.c (cL eU x3.2.b), qi x3.2.i, qi x3.2.h], some [qs [], qs [], qi 0, qi 0, .nil, qi 0, qi 0, qi 0, qi 0, .nil], some [qs x2.1.Name, qs x2.1.Target, qi x2.1.Low, qi x2.1.High, .row 0, qi x2.1.Pace.Up, qi x2.1.Pace.Down, qi x2.1.Pace.UpSpan, qi x2.1.Pace.DownSpan, .row 1]], [rr 3 enc_Metric x2.1.Metrics true, rr 2 enc_Note x2.1.Notes true, rr 1 eS kl10 true]⟩) rfl rfl (by kernel_rfl) ?_; simp only [putT,st,ev,gt,hp,ofV,constT,intT,lm]
  obtain ⟨x4, hx4, H⟩ := bnd H
  refine WO_op (x := qs x4.1) (σ' := ⟨[], [some [.c (cL eU x4.2.b), qi x4.2.i, qi x4.2.h], some [qs [], qs [], qi 0, qi 0, .nil, qi 0, qi 0, qi 0, qi 0, .nil], some [qs x2.1.Name, qs x2.1.Target, qi x2.1.Low, qi x2.1.High, .row 0, qi x2.1.Pace.Up, qi x2.1.Pace.Down, qi x2.1.Pace.UpSpan, qi x2.1.Pace.DownSpan, .row 1]], [rr 3 enc_Metric x2.1.Metrics true, rr 2 enc_Note x2.1.Notes true, rr 1 eS kl10 false]⟩) rfl rfl (ev_callG (al := [.bp 0 0, .row 2]) (ls := [.b 0]) (spec_l1Pick_ok hx4) rfl rfl rfl rfl rfl (by decide) rfl rfl rfl rfl rfl rfl) ?_; simp only [putT,st,ev,gt,hp,ofV,constT,intT,lm]
  refine WO_op (x := .bp 2 0) rfl rfl rfl ?_
  refine WO_op (x := .no) (σ' := ⟨[], [some [.c (cL eU x4.2.b), qi x4.2.i, qi x4.2.h], some [qs [], qs [], qi 0, qi 0, .nil, qi 0, qi 0, qi 0, qi 0, .nil], some [qs x4.1, qs x2.1.Target, qi x2.1.Low, qi x2.1.High, .row 0, qi x2.1.Pace.Up, qi x2.1.Pace.Down, qi x2.1.Pace.UpSpan, qi x2.1.Pace.DownSpan, .row 1]], [rr 3 enc_Metric x2.1.Metrics true, rr 2 enc_Note x2.1.Notes true, rr 1 eS kl10 false]⟩) rfl rfl rfl ?_; simp only [putT,st,ev,gt,hp,ofV,constT,intT,lm]
  refine WO_nil (W_seq (W_region ?_))
  refine WO_op (x := .ag [qs x4.1, qs x2.1.Target, qi x2.1.Low, qi x2.1.High, .row 0, qi x2.1.Pace.Up, qi x2.1.Pace.Down, qi x2.1.Pace.UpSpan, qi x2.1.Pace.DownSpan, .row 1]) rfl rfl rfl ?_
  refine WO_op (x := .no) (σ' := ⟨[], [some [.c (cL eU x4.2.b), qi x4.2.i, qi x4.2.h], some [qs x4.1, qs x2.1.Target, qi x2.1.Low, qi x2.1.High, .row 0, qi x2.1.Pace.Up, qi x2.1.Pace.Down, qi x2.1.Pace.UpSpan, qi x2.1.Pace.DownSpan, .row 1], some [qs x4.1, qs x2.1.Target, qi x2.1.Low, qi x2.1.High, .row 0, qi x2.1.Pace.Up, qi x2.1.Pace.Down, qi x2.1.Pace.UpSpan, qi x2.1.Pace.DownSpan, .row 1]], [rr 3 enc_Metric x2.1.Metrics true, rr 2 enc_Note x2.1.Notes true, rr 1 eS kl10 false]⟩) rfl rfl rfl ?_; simp only [putT,st,ev,gt,hp,ofV,constT,intT,lm]
  refine WO_nil ?_
  refine W_ret ?_
  obtain rfl := Option.some.inj H
  exact told5 rfl rfl rfl rfl (fitAs_nz rfl) rfl
 ·
  replace H := fl hc H
  refine W_seq (W_region ?_)
  iterate 2 (refine WO_op rfl rfl rfl ?_; simp only [putT,st,ev,gt,hp,ofV,constT,intT,lm])
  refine WO_nil ?_
  refine W_cond rfl (fun hc => ?_) (fun hc => ?_)
  ·
   replace H := tr hc H
   refine W_region ?_
   refine WO_op rfl rfl rfl ?_; simp only [putT,st,ev,gt,hp,ofV,constT,intT,lm]
   refine WO_op (x := .row 2) (σ' := ⟨[], [some [.c (cL eU x3.2.b), qi x3.2.i, qi x3.2.h], some [qs [], qs [], qi 0, qi 0, .nil, qi 0, qi 0, qi 0, qi 0, .nil], some [qs x2.1.Name, qs x2.1.Target, qi x2.1.Low, qi x2.1.High, .row 0, qi x2.1.Pace.Up, qi x2.1.Pace.Down, qi x2.1.Pace.UpSpan, qi x2.1.Pace.DownSpan, .row 1]], [rr 3 enc_Metric x2.1.Metrics true, rr 2 enc_Note x2.1.Notes true, rr 1 eI kl11 true]⟩) rfl rfl (ev_bs kl11 eI rfl rfl rfl rfl) ?_; simp only [putT,st,ev,gt,hp,ofV,constT,intT,lm]
   obtain ⟨x5, hx5, H⟩ := bnd H
   refine WO_op (x := qi x5.1) (σ' := ⟨[], [some [.c (cL eU x5.2.b), qi x5.2.i, qi x5.2.h], some [qs [], qs [], qi 0, qi 0, .nil, qi 0, qi 0, qi 0, qi 0, .nil], some [qs x2.1.Name, qs x2.1.Target, qi x2.1.Low, qi x2.1.High, .row 0, qi x2.1.Pace.Up, qi x2.1.Pace.Down, qi x2.1.Pace.UpSpan, qi x2.1.Pace.DownSpan, .row 1]], [rr 3 enc_Metric x2.1.Metrics true, rr 2 enc_Note x2.1.Notes true, rr 1 eI kl11 false]⟩) rfl rfl (ev_callG (al := [.bp 0 0, .row 2]) (ls := [.b 0]) (spec_l1PickInt_ok hx5) rfl rfl rfl rfl rfl (by decide) rfl rfl rfl rfl rfl rfl) ?_; simp only [putT,st,ev,gt,hp,ofV,constT,intT,lm]
   refine WO_op (x := .bp 2 2) rfl rfl rfl ?_
   refine WO_op (x := .no) (σ' := ⟨[], [some [.c (cL eU x5.2.b), qi x5.2.i, qi x5.2.h], some [qs [], qs [], qi 0, qi 0, .nil, qi 0, qi 0, qi 0, qi 0, .nil], some [qs x2.1.Name, qs x2.1.Target, qi x5.1, qi x2.1.High, .row 0, qi x2.1.Pace.Up, qi x2.1.Pace.Down, qi x2.1.Pace.UpSpan, qi x2.1.Pace.DownSpan, .row 1]], [rr 3 enc_Metric x2.1.Metrics true, rr 2 enc_Note x2.1.Notes true, rr 1 eI kl11 false]⟩) rfl rfl rfl ?_; simp only [putT,st,ev,gt,hp,ofV,constT,intT,lm]
   refine WO_nil (W_seq (W_region ?_))
   refine WO_op (x := .ag [qs x2.1.Name, qs x2.1.Target, qi x5.1, qi x2.1.High, .row 0, qi x2.1.Pace.Up, qi x2.1.Pace.Down, qi x2.1.Pace.UpSpan, qi x2.1.Pace.DownSpan, .row 1]) rfl rfl rfl ?_
   refine WO_op (x := .no) (σ' := ⟨[], [some [.c (cL eU x5.2.b), qi x5.2.i, qi x5.2.h], some [qs x2.1.Name, qs x2.1.Target, qi x5.1, qi x2.1.High, .row 0, qi x2.1.Pace.Up, qi x2.1.Pace.Down, qi x2.1.Pace.UpSpan, qi x2.1.Pace.DownSpan, .row 1], some [qs x2.1.Name, qs x2.1.Target, qi x5.1, qi x2.1.High, .row 0, qi x2.1.Pace.Up, qi x2.1.Pace.Down, qi x2.1.Pace.UpSpan, qi x2.1.Pace.DownSpan, .row 1]], [rr 3 enc_Metric x2.1.Metrics true, rr 2 enc_Note x2.1.Notes true, rr 1 eI kl11 false]⟩) rfl rfl rfl ?_; simp only [putT,st,ev,gt,hp,ofV,constT,intT,lm]
   refine WO_nil ?_
   refine W_ret ?_
   obtain rfl := Option.some.inj H
   exact told5 rfl rfl rfl rfl (fitAs_nz rfl) rfl
  ·
   replace H := fl hc H
   refine W_seq (W_region ?_)
   iterate 2 (refine WO_op rfl rfl rfl ?_; simp only [putT,st,ev,gt,hp,ofV,constT,intT,lm])
   refine WO_nil ?_
   refine W_cond rfl (fun hc => ?_) (fun hc => ?_)
   ·
    replace H := tr hc H
    refine W_region ?_
    refine WO_op rfl rfl rfl ?_; simp only [putT,st,ev,gt,hp,ofV,constT,intT,lm]
    refine WO_op (x := .row 2) (σ' := ⟨[], [some [.c (cL eU x3.2.b), qi x3.2.i, qi x3.2.h], some [qs [], qs [], qi 0, qi 0, .nil, qi 0, qi 0, qi 0, qi 0, .nil], some [qs x2.1.Name, qs x2.1.Target, qi x2.1.Low, qi x2.1.High, .row 0, qi x2.1.Pace.Up, qi x2.1.Pace.Down, qi x2.1.Pace.UpSpan, qi x2.1.Pace.DownSpan, .row 1]], [rr 3 enc_Metric x2.1.Metrics true, rr 2 enc_Note x2.1.Notes true, rr 1 eI kl12 true]⟩) rfl rfl (ev_bs kl12 eI rfl rfl rfl rfl) ?_; simp only [putT,st,ev,gt,hp,ofV,constT,intT,lm]
    obtain ⟨x6, hx6, H⟩ := bnd H
    refine WO_op (x := qi x6.1) (σ' := ⟨[], [some [.c (cL eU x6.2.b), qi x6.2.i, qi x6.2.h], some [qs [], qs [], qi 0, qi 0, .nil, qi 0, qi 0, qi 0, qi 0, .nil], some [qs x2.1.Name, qs x2.1.Target, qi x2.1.Low, qi x2.1.High, .row 0, qi x2.1.Pace.Up, qi x2.1.Pace.Down, qi x2.1.Pace.UpSpan, qi x2.1.Pace.DownSpan, .row 1]], [rr 3 enc_Metric x2.1.Metrics true, rr 2 enc_Note x2.1.Notes true, rr 1 eI kl12 false]⟩) rfl rfl (ev_callG (al := [.bp 0 0, .row 2]) (ls := [.b 0]) (spec_l1PickInt_ok hx6) rfl rfl rfl rfl rfl (by decide) rfl rfl rfl rfl rfl rfl) ?_; simp only [putT,st,ev,gt,hp,ofV,constT,intT,lm]
    refine WO_op (x := .bp 2 3) rfl rfl rfl ?_
    refine WO_op (x := .no) (σ' := ⟨[], [some [.c (cL eU x6.2.b), qi x6.2.i, qi x6.2.h], some [qs [], qs [], qi 0, qi 0, .nil, qi 0, qi 0, qi 0, qi 0, .nil], some [qs x2.1.Name, qs x2.1.Target, qi x2.1.Low, qi x6.1, .row 0, qi x2.1.Pace.Up, qi x2.1.Pace.Down, qi x2.1.Pace.UpSpan, qi x2.1.Pace.DownSpan, .row 1]], [rr 3 enc_Metric x2.1.Metrics true, rr 2 enc_Note x2.1.Notes true, rr 1 eI kl12 false]⟩) rfl rfl rfl ?_; simp only [putT,st,ev,gt,hp,ofV,constT,intT,lm]
    refine WO_nil (W_seq (W_region ?_))
    refine WO_op (x := .ag [qs x2.1.Name, qs x2.1.Target, qi x2.1.Low, qi x6.1, .row 0, qi x2.1.Pace.Up, qi x2.1.Pace.Down, qi x2.1.Pace.UpSpan, qi x2.1.Pace.DownSpan, .row 1]) rfl rfl rfl ?_
    refine WO_op (x := .no) (σ' := ⟨[], [some [.c (cL eU x6.2.b), qi x6.2.i, qi x6.2.h], some [qs x2.1.Name, qs x2.1.Target, qi x2.1.Low, qi x6.1, .row 0, qi x2.1.Pace.Up, qi x2.1.Pace.Down, qi x2.1.Pace.UpSpan, qi x2.1.Pace.DownSpan, .row 1], some [qs x2.1.Name, qs x2.1.Target, qi x2.1.Low, qi x6.1, .row 0, qi x2.1.Pace.Up, qi x2.1.Pace.Down, qi x2.1.Pace.UpSpan, qi x2.1.Pace.DownSpan, .row 1]], [rr 3 enc_Metric x2.1.Metrics true, rr 2 enc_Note x2.1.Notes true, rr 1 eI kl12 false]⟩) rfl rfl rfl ?_; simp only [putT,st,ev,gt,hp,ofV,constT,intT,lm]
    refine WO_nil ?_
    refine W_ret ?_
    obtain rfl := Option.some.inj H
    exact told5 rfl rfl rfl rfl (fitAs_nz rfl) rfl
   ·
    replace H := fl hc H
    refine W_seq (W_region ?_)
    iterate 2 (refine WO_op rfl rfl rfl ?_; simp only [putT,st,ev,gt,hp,ofV,constT,intT,lm])
    refine WO_nil ?_
    refine W_cond rfl (fun hc => ?_) (fun hc => ?_)
    ·
     replace H := tr hc H
     refine W_drawL (by kernel_rfl) (by decide +kernel) ?_
     refine WL_op (x := .bp 2 4) rfl rfl rfl rfl ?_
     refine WL_op (x := .row 0) rfl rfl rfl rfl ?_
     refine WL_op rfl rfl rfl rfl ?_; simp only [putT,st,ev,gt,hp,ofV,constT,intT,lm]
     obtain ⟨x7, hx7, H⟩ := bnd H
     refine WL_op (x := .ag [qs x7.1.Name, qi x7.1.Kind, qi x7.1.Goal]) (σ' := ⟨[], [some [.c (cL eU x7.2.b), qi x7.2.i, qi x7.2.h], some [qs [], qs [], qi 0, qi 0, .nil, qi 0, qi 0, qi 0, qi 0, .nil], some [qs x2.1.Name, qs x2.1.Target, qi x2.1.Low, qi x2.1.High, .row 0, qi x2.1.Pace.Up, qi x2.1.Pace.Down, qi x2.1.Pace.UpSpan, qi x2.1.Pace.DownSpan, .row 1]], [rr 3 enc_Metric x2.1.Metrics true, rr 2 enc_Note x2.1.Notes true]⟩) rfl rfl rfl (ev_callG (al := [.bp 0 0]) (ls := [.b 0]) (spec_l6DrawMetric_ok hx7) rfl rfl rfl rfl rfl (by decide) rfl rfl rfl rfl rfl rfl) ?_; simp only [putT,st,ev,gt,hp,ofV,constT,intT,lm]
     refine WL_op (x := .row 2) (σ' := ⟨[], [some [.c (cL eU x7.2.b), qi x7.2.i, qi x7.2.h], some [qs [], qs [], qi 0, qi 0, .nil, qi 0, qi 0, qi 0, qi 0, .nil], some [qs x2.1.Name, qs x2.1.Target, qi x2.1.Low, qi x2.1.High, .row 0, qi x2.1.Pace.Up, qi x2.1.Pace.Down, qi x2.1.Pace.UpSpan, qi x2.1.Pace.DownSpan, .row 1]], [rr 3 enc_Metric x2.1.Metrics true, rr 2 enc_Note x2.1.Notes true, rr 3 enc_Metric ([(Metric.mk x7.1.Name x7.1.Kind x7.1.Goal)] : List Metric) true]⟩) rfl rfl rfl (ev_bs ([(Metric.mk x7.1.Name x7.1.Kind x7.1.Goal)] : List Metric) enc_Metric rfl rfl rfl rfl) ?_; simp only [putT,st,ev,gt,hp,ofV,constT,intT,lm]
     obtain ⟨m8, hm8, H⟩ := bnd H
     refine WL_op (x := .row 3) (σ' := ⟨[], [some [.c (cL eU x7.2.b), qi x7.2.i, qi x7.2.h], some [qs [], qs [], qi 0, qi 0, .nil, qi 0, qi 0, qi 0, qi 0, .nil], some [qs x2.1.Name, qs x2.1.Target, qi x2.1.Low, qi x2.1.High, .row 0, qi x2.1.Pace.Up, qi x2.1.Pace.Down, qi x2.1.Pace.UpSpan, qi x2.1.Pace.DownSpan, .row 1]], [none, rr 2 enc_Note x2.1.Notes true, rr 3 enc_Metric ([(Metric.mk x7.1.Name x7.1.Kind x7.1.Goal)] : List Metric) true, rr 3 enc_Metric m8 true]⟩) rfl rfl rfl (ev_app (en := enc_Metric) hm8 rfl rfl rfl rfl (Or.inl rfl) rfl rfl rfl rfl rfl rfl rfl rfl rfl rfl rfl (fun _ => rfl) rfl (Or.inr rfl) rfl) ?_; simp only [putT,st,ev,gt,hp,ofV,constT,intT,lm]
     refine WL_op (x := .bp 2 4) rfl rfl rfl rfl ?_
     refine WL_op (x := .no) (σ' := ⟨[], [some [.c (cL eU x7.2.b), qi x7.2.i, qi x7.2.h], some [qs [], qs [], qi 0, qi 0, .nil, qi 0, qi 0, qi 0, qi 0, .nil], some [qs x2.1.Name, qs x2.1.Target, qi x2.1.Low, qi x2.1.High, .row 3, qi x2.1.Pace.Up, qi x2.1.Pace.Down, qi x2.1.Pace.UpSpan, qi x2.1.Pace.DownSpan, .row 1]], [none, rr 2 enc_Note x2.1.Notes true, rr 3 enc_Metric ([(Metric.mk x7.1.Name x7.1.Kind x7.1.Goal)] : List Metric) true, rr 3 enc_Metric m8 true]⟩) rfl rfl rfl rfl ?_; simp only [putT,st,ev,gt,hp,ofV,constT,intT,lm]
     refine WL_nil (by kernel_rfl) ?_
     refine W_seq (W_region ?_)
     refine WO_op (x := .ag [qs x2.1.Name, qs x2.1.Target, qi x2.1.Low, qi x2.1.High, .row 3, qi x2.1.Pace.Up, qi x2.1.Pace.Down, qi x2.1.Pace.UpSpan, qi x2.1.Pace.DownSpan, .row 1]) rfl rfl rfl ?_
     refine WO_op (x := .no) (σ' := ⟨[], [some [.c (cL eU x7.2.b), qi x7.2.i, qi x7.2.h], some [qs x2.1.Name, qs x2.1.Target, qi x2.1.Low, qi x2.1.High, .row 3, qi x2.1.Pace.Up, qi x2.1.Pace.Down, qi x2.1.Pace.UpSpan, qi x2.1.Pace.DownSpan, .row 1], some [qs x2.1.Name, qs x2.1.Target, qi x2.1.Low, qi x2.1.High, .row 3, qi x2.1.Pace.Up, qi x2.1.Pace.Down, qi x2.1.Pace.UpSpan, qi x2.1.Pace.DownSpan, .row 1]], [none, rr 2 enc_Note x2.1.Notes true, rr 3 enc_Metric ([(Metric.mk x7.1.Name x7.1.Kind x7.1.Goal)] : List Metric) true, rr 3 enc_Metric m8 true]⟩) rfl rfl rfl ?_; simp only [putT,st,ev,gt,hp,ofV,constT,intT,lm]
     refine WO_nil ?_
     refine W_ret ?_
     obtain rfl := Option.some.inj H
     exact told5 rfl rfl rfl rfl (fitAs_nz rfl) rfl
    ·
     replace H := fl hc H
     refine W_seq (W_region ?_)
     iterate 2 (refine WO_op rfl rfl rfl ?_; simp only [putT,st,ev,gt,hp,ofV,constT,intT,lm])
     refine WO_nil ?_
     refine W_cond rfl (fun hc => ?_) (fun hc => ?_)
     ·
      replace H := tr hc H
      refine W_region ?_
      refine WO_op rfl rfl rfl ?_; simp only [putT,st,ev,gt,hp,ofV,constT,intT,lm]
      refine WO_op (x := .row 2) (σ' := ⟨[], [some [.c (cL eU x3.2.b), qi x3.2.i, qi x3.2.h], some [qs [], qs [], qi 0, qi 0, .nil, qi 0, qi 0, qi 0, qi 0, .nil], some [qs x2.1.Name, qs x2.1.Target, qi x2.1.Low, qi x2.1.High, .row 0, qi x2.1.Pace.Up, qi x2.1.Pace.Down, qi x2.1.Pace.UpSpan, qi x2.1.Pace.DownSpan, .row 1]], [rr 3 enc_Metric x2.1.Metrics true, rr 2 enc_Note x2.1.Notes true, rr 1 eI kl13 true]⟩) rfl rfl (ev_bs kl13 eI rfl rfl rfl rfl) ?_; simp only [putT,st,ev,gt,hp,ofV,constT,intT,lm]
      obtain ⟨x9, hx9, H⟩ := bnd H
      refine WO_op (x := qi x9.1) (σ' := ⟨[], [some [.c (cL eU x9.2.b), qi x9.2.i, qi x9.2.h], some [qs [], qs [], qi 0, qi 0, .nil, qi 0, qi 0, qi 0, qi 0, .nil], some [qs x2.1.Name, qs x2.1.Target, qi x2.1.Low, qi x2.1.High, .row 0, qi x2.1.Pace.Up, qi x2.1.Pace.Down, qi x2.1.Pace.UpSpan, qi x2.1.Pace.DownSpan, .row 1]], [rr 3 enc_Metric x2.1.Metrics true, rr 2 enc_Note x2.1.Notes true, rr 1 eI kl13 false]⟩) rfl rfl (ev_callG (al := [.bp 0 0, .row 2]) (ls := [.b 0]) (spec_l1PickInt_ok hx9) rfl rfl rfl rfl rfl (by decide) rfl rfl rfl rfl rfl rfl) ?_; simp only [putT,st,ev,gt,hp,ofV,constT,intT,lm]
      iterate 2 (refine WO_op (x := .bp 2 5) rfl rfl rfl ?_; simp only [putT,st,ev,gt,hp,ofV,constT,intT,lm])
      refine WO_op (x := .no) (σ' := ⟨[], [some [.c (cL eU x9.2.b), qi x9.2.i, qi x9.2.h], some [qs [], qs [], qi 0, qi 0, .nil, qi 0, qi 0, qi 0, qi 0, .nil], some [qs x2.1.Name, qs x2.1.Target, qi x2.1.Low, qi x2.1.High, .row 0, qi x9.1, qi x2.1.Pace.Down, qi x2.1.Pace.UpSpan, qi x2.1.Pace.DownSpan, .row 1]], [rr 3 enc_Metric x2.1.Metrics true, rr 2 enc_Note x2.1.Notes true, rr 1 eI kl13 false]⟩) rfl rfl rfl ?_; simp only [putT,st,ev,gt,hp,ofV,constT,intT,lm]
      refine WO_nil (W_seq (W_region ?_))
      refine WO_op (x := .ag [qs x2.1.Name, qs x2.1.Target, qi x2.1.Low, qi x2.1.High, .row 0, qi x9.1, qi x2.1.Pace.Down, qi x2.1.Pace.UpSpan, qi x2.1.Pace.DownSpan, .row 1]) rfl rfl rfl ?_
      refine WO_op (x := .no) (σ' := ⟨[], [some [.c (cL eU x9.2.b), qi x9.2.i, qi x9.2.h], some [qs x2.1.Name, qs x2.1.Target, qi x2.1.Low, qi x2.1.High, .row 0, qi x9.1, qi x2.1.Pace.Down, qi x2.1.Pace.UpSpan, qi x2.1.Pace.DownSpan, .row 1], some [qs x2.1.Name, qs x2.1.Target, qi x2.1.Low, qi x2.1.High, .row 0, qi x9.1, qi x2.1.Pace.Down, qi x2.1.Pace.UpSpan, qi x2.1.Pace.DownSpan, .row 1]], [rr 3 enc_Metric x2.1.Metrics true, rr 2 enc_Note x2.1.Notes true, rr 1 eI kl13 false]⟩) rfl rfl rfl ?_; simp only [putT,st,ev,gt,hp,ofV,constT,intT,lm]
      refine WO_nil ?_
      refine W_ret ?_
      obtain rfl := Option.some.inj H
      exact told5 rfl rfl rfl rfl (fitAs_nz rfl) rfl
     ·
      replace H := fl hc H
      refine W_seq (W_region ?_)
      iterate 2 (refine WO_op rfl rfl rfl ?_; simp only [putT,st,ev,gt,hp,ofV,constT,intT,lm])
      refine WO_nil ?_
      refine W_cond rfl (fun hc => ?_) (fun hc => ?_)
      ·
       replace H := tr hc H
       refine W_drawL (by kernel_rfl) (by decide +kernel) ?_
       refine WL_op (x := .bp 2 9) rfl rfl rfl rfl ?_
       refine WL_op (x := .row 1) rfl rfl rfl rfl ?_
       refine WL_op rfl rfl rfl rfl ?_; simp only [putT,st,ev,gt,hp,ofV,constT,intT,lm]
       refine WL_op (x := .row 2) (σ' := ⟨[], [some [.c (cL eU x3.2.b), qi x3.2.i, qi x3.2.h], some [qs [], qs [], qi 0, qi 0, .nil, qi 0, qi 0, qi 0, qi 0, .nil], some [qs x2.1.Name, qs x2.1.Target, qi x2.1.Low, qi x2.1.High, .row 0, qi x2.1.Pace.Up, qi x2.1.Pace.Down, qi x2.1.Pace.UpSpan, qi x2.1.Pace.DownSpan, .row 1]], [rr 3 enc_Metric x2.1.Metrics true, rr 2 enc_Note x2.1.Notes true, rr 1 eS kl14 true]⟩) rfl rfl rfl (by kernel_rfl) ?_; simp only [putT,st,ev,gt,hp,ofV,constT,intT,lm]
       obtain ⟨x10, hx10, H⟩ := bnd H
       refine WL_op (x := qs x10.1) (σ' := ⟨[], [some [.c (cL eU x10.2.b), qi x10.2.i, qi x10.2.h], some [qs [], qs [], qi 0, qi 0, .nil, qi 0, qi 0, qi 0, qi 0, .nil], some [qs x2.1.Name, qs x2.1.Target, qi x2.1.Low, qi x2.1.High, .row 0, qi x2.1.Pace.Up, qi x2.1.Pace.Down, qi x2.1.Pace.UpSpan, qi x2.1.Pace.DownSpan, .row 1]], [rr 3 enc_Metric x2.1.Metrics true, rr 2 enc_Note x2.1.Notes true, rr 1 eS kl14 false]⟩) rfl rfl rfl (ev_callG (al := [.bp 0 0, .row 2]) (ls := [.b 0]) (spec_l1Pick_ok hx10) rfl rfl rfl rfl rfl (by decide) rfl rfl rfl rfl rfl rfl) ?_; simp only [putT,st,ev,gt,hp,ofV,constT,intT,lm]
       refine WL_op (x := .ag [qs x10.1, qs [120]]) rfl rfl rfl rfl ?_; simp only [putT,st,ev,gt,hp,ofV,constT,intT,lm]
       refine WL_op (x := .row 3) (σ' := ⟨[], [some [.c (cL eU x10.2.b), qi x10.2.i, qi x10.2.h], some [qs [], qs [], qi 0, qi 0, .nil, qi 0, qi 0, qi 0, qi 0, .nil], some [qs x2.1.Name, qs x2.1.Target, qi x2.1.Low, qi x2.1.High, .row 0, qi x2.1.Pace.Up, qi x2.1.Pace.Down, qi x2.1.Pace.UpSpan, qi x2.1.Pace.DownSpan, .row 1]], [rr 3 enc_Metric x2.1.Metrics true, rr 2 enc_Note x2.1.Notes true, rr 1 eS kl14 false, rr 2 enc_Note ([(Note.mk x10.1 [120])] : List Note) true]⟩) rfl rfl rfl (ev_bs ([(Note.mk x10.1 [120])] : List Note) enc_Note rfl rfl rfl rfl) ?_; simp only [putT,st,ev,gt,hp,ofV,constT,intT,lm]
       obtain ⟨m11, hm11, H⟩ := bnd H
       refine WL_op (x := .row 4) (σ' := ⟨[], [some [.c (cL eU x10.2.b), qi x10.2.i, qi x10.2.h], some [qs [], qs [], qi 0, qi 0, .nil, qi 0, qi 0, qi 0, qi 0, .nil], some [qs x2.1.Name, qs x2.1.Target, qi x2.1.Low, qi x2.1.High, .row 0, qi x2.1.Pace.Up, qi x2.1.Pace.Down, qi x2.1.Pace.UpSpan, qi x2.1.Pace.DownSpan, .row 1]], [rr 3 enc_Metric x2.1.Metrics true, none, rr 1 eS kl14 false, rr 2 enc_Note ([(Note.mk x10.1 [120])] : List Note) true, rr 2 enc_Note m11 true]⟩) rfl rfl rfl (ev_app (en := enc_Note) hm11 rfl rfl rfl rfl (Or.inl rfl) rfl rfl rfl rfl rfl rfl rfl rfl rfl rfl rfl (fun _ => rfl) rfl (Or.inr rfl) rfl) ?_; simp only [putT,st,ev,gt,hp,ofV,constT,intT,lm]
       refine WL_op (x := .bp 2 9) rfl rfl rfl rfl ?_
       refine WL_op (x := .no) (σ' := ⟨[], [some [.c (cL eU x10.2.b), qi x10.2.i, qi x10.2.h], some [qs [], qs [], qi 0, qi 0, .nil, qi 0, qi 0, qi 0, qi 0, .nil], some [qs x2.1.Name, qs x2.1.Target, qi x2.1.Low, qi x2.1.High, .row 0, qi x2.1.Pace.Up, qi x2.1.Pace.Down, qi x2.1.Pace.UpSpan, qi x2.1.Pace.DownSpan, .row 4]], [rr 3 enc_Metric x2.1.Metrics true, none, rr 1 eS kl14 false, rr 2 enc_Note ([(Note.mk x10.1 [120])] : List Note) true, rr 2 enc_Note m11 true]⟩) rfl rfl rfl rfl ?_; simp only [putT,st,ev,gt,hp,ofV,constT,intT,lm]
       refine WL_nil (by kernel_rfl) ?_
       refine W_seq (W_region ?_)
       refine WO_op (x := .ag [qs x2.1.Name, qs x2.1.Target, qi x2.1.Low, qi x2.1.High, .row 0, qi x2.1.Pace.Up, qi x2.1.Pace.Down, qi x2.1.Pace.UpSpan, qi x2.1.Pace.DownSpan, .row 4]) rfl rfl rfl ?_
       refine WO_op (x := .no) (σ' := ⟨[], [some [.c (cL eU x10.2.b), qi x10.2.i, qi x10.2.h], some [qs x2.1.Name, qs x2.1.Target, qi x2.1.Low, qi x2.1.High, .row 0, qi x2.1.Pace.Up, qi x2.1.Pace.Down, qi x2.1.Pace.UpSpan, qi x2.1.Pace.DownSpan, .row 4], some [qs x2.1.Name, qs x2.1.Target, qi x2.1.Low, qi x2.1.High, .row 0, qi x2.1.Pace.Up, qi x2.1.Pace.Down, qi x2.1.Pace.UpSpan, qi x2.1.Pace.DownSpan, .row 4]], [rr 3 enc_Metric x2.1.Metrics true, none, rr 1 eS kl14 false, rr 2 enc_Note ([(Note.mk x10.1 [120])] : List Note) true, rr 2 enc_Note m11 true]⟩) rfl rfl rfl ?_; simp only [putT,st,ev,gt,hp,ofV,constT,intT,lm]
       refine WO_nil ?_
       refine W_ret ?_
       obtain rfl := Option.some.inj H
       exact told5 rfl rfl rfl rfl (fitAs_nz rfl) rfl
      ·
       replace H := fl hc H
       refine W_seq (W_region ?_)
       iterate 2 (refine WO_op rfl rfl rfl ?_; simp only [putT,st,ev,gt,hp,ofV,constT,intT,lm])
       refine WO_nil ?_
       refine W_cond rfl (fun hc => ?_) (fun hc => ?_)
       ·
        replace H := tr hc H
        refine W_region ?_
        refine WO_op rfl rfl rfl ?_; simp only [putT,st,ev,gt,hp,ofV,constT,intT,lm]
        refine WO_op (x := .row 2) (σ' := ⟨[], [some [.c (cL eU x3.2.b), qi x3.2.i, qi x3.2.h], some [qs [], qs [], qi 0, qi 0, .nil, qi 0, qi 0, qi 0, qi 0, .nil], some [qs x2.1.Name, qs x2.1.Target, qi x2.1.Low, qi x2.1.High, .row 0, qi x2.1.Pace.Up, qi x2.1.Pace.Down, qi x2.1.Pace.UpSpan, qi x2.1.Pace.DownSpan, .row 1]], [rr 3 enc_Metric x2.1.Metrics true, rr 2 enc_Note x2.1.Notes true, rr 1 eI kl15 true]⟩) rfl rfl (ev_bs kl15 eI rfl rfl rfl rfl) ?_; simp only [putT,st,ev,gt,hp,ofV,constT,intT,lm]
        obtain ⟨x12, hx12, H⟩ := bnd H
        refine WO_op (x := qi x12.1) (σ' := ⟨[], [some [.c (cL eU x12.2.b), qi x12.2.i, qi x12.2.h], some [qs [], qs [], qi 0, qi 0, .nil, qi 0, qi 0, qi 0, qi 0, .nil], some [qs x2.1.Name, qs x2.1.Target, qi x2.1.Low, qi x2.1.High, .row 0, qi x2.1.Pace.Up, qi x2.1.Pace.Down, qi x2.1.Pace.UpSpan, qi x2.1.Pace.DownSpan, .row 1]], [rr 3 enc_Metric x2.1.Metrics true, rr 2 enc_Note x2.1.Notes true, rr 1 eI kl15 false]⟩) rfl rfl (ev_callG (al := [.bp 0 0, .row 2]) (ls := [.b 0]) (spec_l1PickInt_ok hx12) rfl rfl rfl rfl rfl (by decide) rfl rfl rfl rfl rfl rfl) ?_; simp only [putT,st,ev,gt,hp,ofV,constT,intT,lm]
        refine WO_op (x := .bp 2 5) rfl rfl rfl ?_
        refine WO_op (x := .bp 2 8) rfl rfl rfl ?_
        refine WO_op (x := .no) (σ' := ⟨[], [some [.c (cL eU x12.2.b), qi x12.2.i, qi x12.2.h], some [qs [], qs [], qi 0, qi 0, .nil, qi 0, qi 0, qi 0, qi 0, .nil], some [qs x2.1.Name, qs x2.1.Target, qi x2.1.Low, qi x2.1.High, .row 0, qi x2.1.Pace.Up, qi x2.1.Pace.Down, qi x2.1.Pace.UpSpan, qi x12.1, .row 1]], [rr 3 enc_Metric x2.1.Metrics true, rr 2 enc_Note x2.1.Notes true, rr 1 eI kl15 false]⟩) rfl rfl rfl ?_; simp only [putT,st,ev,gt,hp,ofV,constT,intT,lm]
        refine WO_nil (W_seq (W_region ?_))
        refine WO_op (x := .ag [qs x2.1.Name, qs x2.1.Target, qi x2.1.Low, qi x2.1.High, .row 0, qi x2.1.Pace.Up, qi x2.1.Pace.Down, qi x2.1.Pace.UpSpan, qi x12.1, .row 1]) rfl rfl rfl ?_
        refine WO_op (x := .no) (σ' := ⟨[], [some [.c (cL eU x12.2.b), qi x12.2.i, qi x12.2.h], some [qs x2.1.Name, qs x2.1.Target, qi x2.1.Low, qi x2.1.High, .row 0, qi x2.1.Pace.Up, qi x2.1.Pace.Down, qi x2.1.Pace.UpSpan, qi x12.1, .row 1], some [qs x2.1.Name, qs x2.1.Target, qi x2.1.Low, qi x2.1.High, .row 0, qi x2.1.Pace.Up, qi x2.1.Pace.Down, qi x2.1.Pace.UpSpan, qi x12.1, .row 1]], [rr 3 enc_Metric x2.1.Metrics true, rr 2 enc_Note x2.1.Notes true, rr 1 eI kl15 false]⟩) rfl rfl rfl ?_; simp only [putT,st,ev,gt,hp,ofV,constT,intT,lm]
        refine WO_nil ?_
        refine W_ret ?_
        obtain rfl := Option.some.inj H
        exact told5 rfl rfl rfl rfl (fitAs_nz rfl) rfl
       ·
        replace H := fl hc H
        refine W_seq (W_region ?_)
        iterate 2 (refine WO_op rfl rfl rfl ?_; simp only [putT,st,ev,gt,hp,ofV,constT,intT,lm])
        refine WO_nil ?_
        refine W_cond rfl (fun hc => ?_) (fun hc => ?_)
        ·
         replace H := tr hc H
         refine W_seq (W_region ?_)
         refine WO_op (x := .bp 2 4) rfl rfl rfl ?_
         refine WO_op (x := .row 0) rfl rfl rfl ?_; simp only [putT,st,ev,gt,hp,ofV,constT,intT,lm]
         iterate 2 (refine WO_op rfl rfl rfl ?_; simp only [putT,st,ev,gt,hp,ofV,constT,intT,lm])
         refine WO_nil ?_
         refine W_cond rfl (fun hc => ?_) (fun hc => ?_)
         ·
          replace H := tr hc H
          refine W_drawL (by kernel_rfl) (by decide +kernel) ?_
          refine WL_op (x := .bp 2 4) rfl rfl rfl rfl ?_
          refine WL_op (x := .row 0) rfl rfl rfl rfl ?_
          refine WL_op rfl rfl rfl rfl ?_; simp only [putT,st,ev,gt,hp,ofV,constT,intT,lm]
          refine WL_op (x := .row 2) (σ' := ⟨[], [some [.c (cL eU x3.2.b), qi x3.2.i, qi x3.2.h], some [qs [], qs [], qi 0, qi 0, .nil, qi 0, qi 0, qi 0, qi 0, .nil], some [qs x2.1.Name, qs x2.1.Target, qi x2.1.Low, qi x2.1.High, .row 0, qi x2.1.Pace.Up, qi x2.1.Pace.Down, qi x2.1.Pace.UpSpan, qi x2.1.Pace.DownSpan, .row 1]], [rr 3 enc_Metric x2.1.Metrics true, rr 2 enc_Note x2.1.Notes true, rr 1 eI kl16 true]⟩) rfl rfl rfl (by kernel_rfl) ?_; simp only [putT,st,ev,gt,hp,ofV,constT,intT,lm]
          obtain ⟨x13, hx13, H⟩ := bnd H
          refine WL_op (x := qi x13.1) (σ' := ⟨[], [some [.c (cL eU x13.2.b), qi x13.2.i, qi x13.2.h], some [qs [], qs [], qi 0, qi 0, .nil, qi 0, qi 0, qi 0, qi 0, .nil], some [qs x2.1.Name, qs x2.1.Target, qi x2.1.Low, qi x2.1.High, .row 0, qi x2.1.Pace.Up, qi x2.1.Pace.Down, qi x2.1.Pace.UpSpan, qi x2.1.Pace.DownSpan, .row 1]], [rr 3 enc_Metric x2.1.Metrics true, rr 2 enc_Note x2.1.Notes true, rr 1 eI kl16 false]⟩) rfl rfl rfl (ev_callG (al := [.bp 0 0, .row 2]) (ls := [.b 0]) (spec_l1PickInt_ok hx13) rfl rfl rfl rfl rfl (by decide) rfl rfl rfl rfl rfl rfl) ?_; simp only [putT,st,ev,gt,hp,ofV,constT,intT,lm]
          obtain ⟨x14, hx14, H⟩ := bnd H
          refine WL_op rfl rfl rfl (ev_ixR (en := enc_Metric) hx14 rfl rfl rfl rfl rfl rfl rfl) ?_; simp only [putT,st,ev,gt,hp,ofV,constT,intT,lm]
          refine WL_op (x := .rp 0 (0 : Int).toNat 2) rfl rfl rfl rfl ?_; simp only [putT,st,ev,gt,hp,ofV,constT,intT,lm]
          obtain ⟨m15, hm15, H⟩ := bnd H
          refine WL_op (x := .no) (σ' := ⟨[], [some [.c (cL eU x13.2.b), qi x13.2.i, qi x13.2.h], some [qs [], qs [], qi 0, qi 0, .nil, qi 0, qi 0, qi 0, qi 0, .nil], some [qs x2.1.Name, qs x2.1.Target, qi x2.1.Low, qi x2.1.High, .row 0, qi x2.1.Pace.Up, qi x2.1.Pace.Down, qi x2.1.Pace.UpSpan, qi x2.1.Pace.DownSpan, .row 1]], [rr 3 enc_Metric m15 true, rr 2 enc_Note x2.1.Notes true, rr 1 eI kl16 false]⟩) rfl rfl rfl (ev_stR (en := enc_Metric) hm15 hx14 rfl rfl rfl rfl rfl rfl rfl rfl) ?_; simp only [putT,st,ev,gt,hp,ofV,constT,intT,lm]
          refine WL_nil (by kernel_rfl) ?_
          refine W_seq (W_region ?_)
          refine WO_op (x := .ag [qs x2.1.Name, qs x2.1.Target, qi x2.1.Low, qi x2.1.High, .row 0, qi x2.1.Pace.Up, qi x2.1.Pace.Down, qi x2.1.Pace.UpSpan, qi x2.1.Pace.DownSpan, .row 1]) rfl rfl rfl ?_
          refine WO_op (x := .no) (σ' := ⟨[], [some [.c (cL eU x13.2.b), qi x13.2.i, qi x13.2.h], some [qs x2.1.Name, qs x2.1.Target, qi x2.1.Low, qi x2.1.High, .row 0, qi x2.1.Pace.Up, qi x2.1.Pace.Down, qi x2.1.Pace.UpSpan, qi x2.1.Pace.DownSpan, .row 1], some [qs x2.1.Name, qs x2.1.Target, qi x2.1.Low, qi x2.1.High, .row 0, qi x2.1.Pace.Up, qi x2.1.Pace.Down, qi x2.1.Pace.UpSpan, qi x2.1.Pace.DownSpan, .row 1]], [rr 3 enc_Metric m15 true, rr 2 enc_Note x2.1.Notes true, rr 1 eI kl16 false]⟩) rfl rfl rfl ?_; simp only [putT,st,ev,gt,hp,ofV,constT,intT,lm]
          refine WO_nil ?_
          refine W_ret ?_
          obtain rfl := Option.some.inj H
          exact told5 rfl rfl rfl rfl (fitAs_nz rfl) rfl
         ·
          replace H := fl hc H
          refine W_skip ?_
          refine W_seq (W_region ?_)
          refine WO_op (x := .ag [qs x2.1.Name, qs x2.1.Target, qi x2.1.Low, qi x2.1.High, .row 0, qi x2.1.Pace.Up, qi x2.1.Pace.Down, qi x2.1.Pace.UpSpan, qi x2.1.Pace.DownSpan, .row 1]) rfl rfl rfl ?_
          refine WO_op (x := .no) (σ' := ⟨[], [some [.c (cL eU x3.2.b), qi x3.2.i, qi x3.2.h], some [qs x2.1.Name, qs x2.1.Target, qi x2.1.Low, qi x2.1.High, .row 0, qi x2.1.Pace.Up, qi x2.1.Pace.Down, qi x2.1.Pace.UpSpan, qi x2.1.Pace.DownSpan, .row 1], some [qs x2.1.Name, qs x2.1.Target, qi x2.1.Low, qi x2.1.High, .row 0, qi x2.1.Pace.Up, qi x2.1.Pace.Down, qi x2.1.Pace.UpSpan, qi x2.1.Pace.DownSpan, .row 1]], [rr 3 enc_Metric x2.1.Metrics true, rr 2 enc_Note x2.1.Notes true]⟩) rfl rfl rfl ?_; simp only [putT,st,ev,gt,hp,ofV,constT,intT,lm]
          refine WO_nil ?_
          refine W_ret ?_
          obtain rfl := Option.some.inj H
          exact told5 rfl rfl rfl rfl (fitAs_nz rfl) rfl
        ·
         replace H := fl hc H
         refine W_skip ?_
         refine W_seq (W_region ?_)
         refine WO_op (x := .ag [qs x2.1.Name, qs x2.1.Target, qi x2.1.Low, qi x2.1.High, .row 0, qi x2.1.Pace.Up, qi x2.1.Pace.Down, qi x2.1.Pace.UpSpan, qi x2.1.Pace.DownSpan, .row 1]) rfl rfl rfl ?_
         refine WO_op (x := .no) (σ' := ⟨[], [some [.c (cL eU x3.2.b), qi x3.2.i, qi x3.2.h], some [qs x2.1.Name, qs x2.1.Target, qi x2.1.Low, qi x2.1.High, .row 0, qi x2.1.Pace.Up, qi x2.1.Pace.Down, qi x2.1.Pace.UpSpan, qi x2.1.Pace.DownSpan, .row 1], some [qs x2.1.Name, qs x2.1.Target, qi x2.1.Low, qi x2.1.High, .row 0, qi x2.1.Pace.Up, qi x2.1.Pace.Down, qi x2.1.Pace.UpSpan, qi x2.1.Pace.DownSpan, .row 1]], [rr 3 enc_Metric x2.1.Metrics true, rr 2 enc_Note x2.1.Notes true]⟩) rfl rfl rfl ?_; simp only [putT,st,ev,gt,hp,ofV,constT,intT,lm]
         refine WO_nil ?_
         refine W_ret ?_
         obtain rfl := Option.some.inj H
         exact told5 rfl rfl rfl rfl (fitAs_nz rfl) rfl
theorem spec_l1In_ok {a1 : Int} {a2 : Int} {a3 : Int} {r : Bool} (H : spec_l1In a1 a2 a3 = some r) : R 81 [.c (cI .i64 a1) none, .c (cI .i64 a2) none, .c (cI .i64 a3) none] = some (.c (cB r) none, []) := by
 unfold spec_l1In at H
 refine Fz_walk 15 rfl rfl Try.func81 rfl (by kernel_rfl) rfl rfl rfl rfl ?_
 simp only [tellVs, tellV, tells, tell, st0, padT, SX.newRow, SX.newBox, List.length_cons, List.length_nil, Nat.reduceAdd, Nat.reduceSub, List.replicate, List.cons_append, List.nil_append, List.foldl_cons, List.foldl_nil]
 refine W_seq (W_region ?_)
 refine WO_op rfl rfl rfl ?_; simp only [putT,st,ev,gt,hp,ofV,constT,intT,lm]
 refine WO_nil (W_seq (W_region ?_))
 iterate 4 (refine WO_op rfl rfl rfl ?_; simp only [putT,st,ev,gt,hp,ofV,constT,intT,lm])
 refine WO_if rfl rfl rfl (fun hc => ?_) (fun hc => ?_)
 ·
  replace H := tr hc H
  simp only [putT,st,ev,gt,hp,ofV,constT,intT,lm]
  iterate 3 (refine WO_want rfl rfl rfl ?_; simp only [putT,st,ev,gt,hp,ofV,constT,intT,lm])
  refine WO_op (x := qb (decide (a1 ≤ a3))) rfl rfl rfl ?_
  refine WO_op rfl rfl rfl ?_; simp only [putT,st,ev,gt,hp,ofV,constT,intT,lm]
  refine WO_nil ?_
  refine W_ret ?_
  obtain rfl := Option.some.inj H
  exact told3 rfl
 ·
  replace H := fl hc H
  simp only [putT,st,ev,gt,hp,ofV,constT,intT,lm]
  iterate 3 refine WO_skip rfl rfl ?_
  refine WO_op (x := qb false) rfl rfl rfl ?_
  refine WO_op rfl rfl rfl ?_; simp only [putT,st,ev,gt,hp,ofV,constT,intT,lm]
  refine WO_nil ?_
  refine W_ret ?_
  obtain rfl := Option.some.inj H
  exact told3 rfl
theorem spec_RecsOk_ok {a1 : List Rec} {r : Bool} (H : spec_RecsOk a1 = some r) : R 102 [.c (cL enc_Rec a1) none] = some (.c (cB r) none, []) := by
 unfold spec_RecsOk at H
 refine Fz_walk 47 rfl rfl Try.func102 rfl (by kernel_rfl) rfl rfl rfl rfl ?_
 simp only [tellVs, tellV, tells, tell, st0, padT, SX.newRow, SX.newBox, List.length_cons, List.length_nil, Nat.reduceAdd, Nat.reduceSub, List.replicate, List.cons_append, List.nil_append, List.foldl_cons, List.foldl_nil]
 refine W_seq (W_region ?_)
 refine WO_op rfl rfl rfl ?_; simp only [putT,st,ev,gt,hp,ofV,constT,intT,lm]
 refine WO_nil (W_seq (W_seq (W_region ?_)))
 refine WO_op rfl rfl rfl ?_; simp only [putT,st,ev,gt,hp,ofV,constT,intT,lm]
 refine WO_nil ?_
 refine W_block ?_
 obtain ⟨s10, hs10, H⟩ := bnd H
 refine loop_rule (ls := []) 0 (fun t9 : Unit => ⟨[.c (cL enc_Rec a1)], [], []⟩) (fun t => s10 = .inr t) ⟨[.c (cL enc_Rec a1), .no, .no, qi 0], [], []⟩ (by repeat (first | exact mono_told | refine mono_seq ?_ | refine mono_blk ?_ | refine mono_lp ?_)) (le_intro [] [] (by decide) (by decide) rfl (by simp [leS, leT, leA, gt]) (by simp [leB, leT, leA]) (by simp [leR])) ?_ ?_
 ·
  rintro t9 rfl
  refine W_seq (W_region ?_)
  iterate 4 (refine WO_op rfl rfl rfl ?_; simp only [putT,st,ev,gt,hp,ofV,constT,intT,lm])
  refine WO_nil ?_
  refine W_ret ?_
  obtain rfl := Option.some.inj H
  exact told3 rfl
 ·
  intro V1 hV1 hW1 hX1
  refine (spec_RecsOk.l0.partial_correctness a1 (fun v2 s' => s' = s10 → (V1 ⟨[.c (cL enc_Rec a1), .no, .no, qi v2], [], []⟩)) ?_ _ _ hs10 rfl)
  intro l0 IH1 v2 s' H1 e
  subst e
  refine hV1 _ ?_
  refine W_seq (W_seq (W_region ?_))
  iterate 4 (refine WO_op rfl rfl rfl ?_; simp only [putT,st,ev,gt,hp,ofV,constT,intT,lm])
  refine WO_nil ?_
  refine W_cond rfl (fun hc => ?_) (fun hc => ?_)
  ·
   replace H1 := tr hc H1
   refine W_skip ?_
   refine W_seq ?_
   refine W_block ?_
   refine W_seq ?_
   refine W_draw (by kernel_rfl) (by kernel_rfl) ?_
   iterate 2 (refine WO_op rfl rfl rfl ?_; simp only [putT,st,ev,gt,hp,ofV,constT,intT,lm])
   obtain ⟨x3, hx3, H1⟩ := bnd H1
   refine WO_op rfl rfl (ev_ix (en := enc_Rec) hx3 rfl rfl rfl rfl rfl rfl rfl) ?_; simp only [putT,st,ev,gt,hp,ofV,constT,intT,lm]
   refine WO_op (x := .cp (enc_Rec x3) 0) rfl rfl rfl ?_
   refine WO_op (x := qi x3.Time) rfl rfl rfl ?_; simp only [putT,st,ev,gt,hp,ofV,constT,intT,lm]
   obtain ⟨x4, hx4, H1⟩ := bnd H1
   refine WO_op (x := qb x4) (σ' := ⟨[], [], []⟩) rfl rfl (ev_callG (al := [qi x3.Time, qi 0, qi 1000000]) (ls := []) (spec_l1In_ok hx4) rfl rfl rfl rfl rfl (by decide) rfl rfl rfl rfl rfl rfl) ?_; simp only [putT,st,ev,gt,hp,ofV,constT,intT,lm]
   iterate 2 (refine WO_op rfl rfl rfl ?_; simp only [putT,st,ev,gt,hp,ofV,constT,intT,lm])
   refine WO_if rfl rfl rfl (fun hc => ?_) (fun hc => ?_)
   ·
    replace H1 := tr hc H1
    simp only [putT,st,ev,gt,hp,ofV,constT,intT,lm]
    iterate 7 refine WO_skip rfl rfl ?_
    refine WO_op (x := qb true) rfl rfl rfl ?_
    refine WO_op rfl rfl rfl ?_; simp only [putT,st,ev,gt,hp,ofV,constT,intT,lm]
    iterate 16 refine WO_skip rfl rfl ?_
    refine WO_op (x := qb true) rfl rfl rfl ?_; simp only [putT,st,ev,gt,hp,ofV,constT,intT,lm]
    refine WO_nil ?_
    refine W_cond (t := true) rfl (fun _ => ?_) (fun h => by cases h)
    refine W_seq (W_region ?_)
    refine WO_op rfl rfl rfl ?_; simp only [putT,st,ev,gt,hp,ofV,constT,intT,lm]
    refine WO_nil ?_
    refine W_ret ?_
    obtain rfl := Option.some.inj H1
    obtain rfl := Option.some.inj H
    exact told3 rfl
   ·
    replace H1 := fl hc H1
    simp only [putT,st,ev,gt,hp,ofV,constT,intT,lm]
    iterate 2 (refine WO_want rfl rfl rfl ?_; simp only [putT,st,ev,gt,hp,ofV,constT,intT,lm])
    obtain ⟨x5, hx5, H1⟩ := bnd H1
    refine WO_want rfl rfl (ev_ix (en := enc_Rec) hx5 rfl rfl rfl rfl rfl rfl rfl) ?_; simp only [putT,st,ev,gt,hp,ofV,constT,intT,lm]
    refine WO_want (x := .cp (enc_Rec x5) 1) rfl rfl rfl ?_
    refine WO_want (x := qi x5.N) rfl rfl rfl ?_; simp only [putT,st,ev,gt,hp,ofV,constT,intT,lm]
    obtain ⟨x6, hx6, H1⟩ := bnd H1
    refine WO_want (x := qb x6) (σ' := ⟨[], [], []⟩) rfl rfl (ev_callG (al := [qi x5.N, qi 0, qi 1000]) (ls := []) (spec_l1In_ok hx6) rfl rfl rfl rfl rfl (by decide) rfl rfl rfl rfl rfl rfl) ?_; simp only [putT,st,ev,gt,hp,ofV,constT,intT,lm]
    refine WO_want rfl rfl rfl ?_
    refine WO_op (x := qb (!x6)) rfl rfl rfl ?_
    refine WO_op rfl rfl rfl ?_; simp only [putT,st,ev,gt,hp,ofV,constT,intT,lm]
    refine WO_if rfl rfl rfl (fun hc => ?_) (fun hc => ?_)
    ·
     replace H1 := tr hc H1
     simp only [putT,st,ev,gt,hp,ofV,constT,intT,lm]
     iterate 16 refine WO_skip rfl rfl ?_
     refine WO_op (x := qb true) rfl rfl rfl ?_; simp only [putT,st,ev,gt,hp,ofV,constT,intT,lm]
     refine WO_nil ?_
     refine W_cond (t := true) rfl (fun _ => ?_) (fun h => by cases h)
     refine W_seq (W_region ?_)
     refine WO_op rfl rfl rfl ?_; simp only [putT,st,ev,gt,hp,ofV,constT,intT,lm]
     refine WO_nil ?_
     refine W_ret ?_
     obtain rfl := Option.some.inj H1
     obtain rfl := Option.some.inj H
     exact told3 rfl
    ·
     replace H1 := fl hc H1
     simp only [putT,st,ev,gt,hp,ofV,constT,intT,lm]
     iterate 3 (refine WO_want rfl rfl rfl ?_; simp only [putT,st,ev,gt,hp,ofV,constT,intT,lm])
     refine WO_if rfl rfl rfl (fun hc => ?_) (fun hc => ?_)
     ·
      replace H1 := tr hc H1
      simp only [putT,st,ev,gt,hp,ofV,constT,intT,lm]
      iterate 3 (refine WO_want rfl rfl rfl ?_; simp only [putT,st,ev,gt,hp,ofV,constT,intT,lm])
      obtain ⟨x7, hx7, H1⟩ := bnd H1
      refine WO_want rfl rfl (ev_ix (en := enc_Rec) hx7 rfl rfl rfl rfl rfl rfl rfl) ?_; simp only [putT,st,ev,gt,hp,ofV,constT,intT,lm]
      refine WO_want (x := .cp (enc_Rec x7) 0) rfl rfl rfl ?_
      refine WO_want (x := qi x7.Time) rfl rfl rfl ?_; simp only [putT,st,ev,gt,hp,ofV,constT,intT,lm]
      iterate 2 (refine WO_want rfl rfl rfl ?_; simp only [putT,st,ev,gt,hp,ofV,constT,intT,lm])
      obtain ⟨x8, hx8, H1⟩ := bnd H1
      refine WO_want rfl rfl (ev_ix (en := enc_Rec) hx8 rfl rfl rfl rfl rfl rfl rfl) ?_; simp only [putT,st,ev,gt,hp,ofV,constT,intT,lm]
      refine WO_want (x := .cp (enc_Rec x8) 0) rfl rfl rfl ?_
      refine WO_want (x := qi x8.Time) rfl rfl rfl ?_
      refine WO_want rfl rfl rfl ?_
      refine WO_want (x := qb (decide (x7.Time > x8.Time))) rfl rfl rfl ?_; simp only [putT,st,ev,gt,hp,ofV,constT,intT,lm]
      refine WO_op (x := qb (decide (x7.Time > x8.Time))) rfl rfl rfl ?_; simp only [putT,st,ev,gt,hp,ofV,constT,intT,lm]
      refine WO_nil ?_
      refine W_cond rfl (fun hc => ?_) (fun hc => ?_)
      ·
       replace H1 := tr hc H1
       refine W_seq (W_region ?_)
       refine WO_op rfl rfl rfl ?_; simp only [putT,st,ev,gt,hp,ofV,constT,intT,lm]
       refine WO_nil ?_
       refine W_ret ?_
       obtain rfl := Option.some.inj H1
       obtain rfl := Option.some.inj H
       exact told3 rfl
      ·
       replace H1 := fl hc H1
       refine W_skip ?_
       refine W_region ?_
       iterate 3 (refine WO_op rfl rfl rfl ?_; simp only [putT,st,ev,gt,hp,ofV,constT,intT,lm])
       refine WO_nil ?_
       exact hW1 _ _ ((IH1 _ _ H1 rfl)) (le_intro [] [] (by decide) (by decide) rfl (by simp [leS, leT, leA, gt]) (by simp [leB, leT, leA]) (by simp [leR]))
     ·
      replace H1 := fl hc H1
      simp only [putT,st,ev,gt,hp,ofV,constT,intT,lm]
      iterate 12 refine WO_skip rfl rfl ?_
      refine WO_want (x := qb false) rfl rfl rfl ?_
      refine WO_op (x := qb false) rfl rfl rfl ?_; simp only [putT,st,ev,gt,hp,ofV,constT,intT,lm]
      refine WO_nil ?_
      refine W_cond (t := false) rfl (fun h => by cases h) (fun _ => ?_)
      refine W_skip ?_
      refine W_region ?_
      iterate 3 (refine WO_op rfl rfl rfl ?_; simp only [putT,st,ev,gt,hp,ofV,constT,intT,lm])
      refine WO_nil ?_
      exact hW1 _ _ ((IH1 _ _ H1 rfl)) (le_intro [] [] (by decide) (by decide) rfl (by simp [leS, leT, leA, gt]) (by simp [leB, leT, leA]) (by simp [leR]))
  ·
   replace H1 := fl hc H1
   refine W_exit ?_
   obtain rfl := Option.some.inj H1
   exact hX1 () _ rfl (le_intro [] [] (by decide) (by decide) rfl (by simp [leS, leT, leA, gt]) (by simp [leB, leT, leA]) (by simp [leR]))
theorem spec_RecAdd_ok {a1 : List Rec} {a2 : Int} {a3 : Int} {r : List Rec} (H : spec_RecAdd a1 a2 a3 = some r) : R 98 [.c (cL enc_Rec a1) none, .c (cI .i64 a2) none, .c (cI .i64 a3) none] = some (.c (cL enc_Rec r) (some 2), []) := by
 unfold spec_RecAdd at H
 refine Fz_walk 31 rfl rfl Try.func98 rfl (by kernel_rfl) rfl rfl rfl rfl ?_
 simp only [tellVs, tellV, tells, tell, st0, padT, SX.newRow, SX.newBox, List.length_cons, List.length_nil, Nat.reduceAdd, Nat.reduceSub, List.replicate, List.cons_append, List.nil_append, List.foldl_cons, List.foldl_nil]
 refine W_seq (W_region ?_)
 refine WO_op rfl rfl rfl ?_; simp only [putT,st,ev,gt,hp,ofV,constT,intT,lm]
 refine WO_nil (W_seq (W_region ?_))
 refine WO_op (x := .row 0) (σ' := ⟨[], [], [rr 2 enc_Rec ([] : List Rec) true]⟩) rfl rfl (ev_bs ([] : List Rec) enc_Rec rfl rfl rfl rfl) ?_; simp only [putT,st,ev,gt,hp,ofV,constT,intT,lm]
 refine WO_op rfl rfl rfl ?_; simp only [putT,st,ev,gt,hp,ofV,constT,intT,lm]
 obtain ⟨m4, hm4, H⟩ := bnd H
 refine WO_op (x := .row 1) (σ' := ⟨[], [], [none, rr 2 enc_Rec m4 true]⟩) rfl rfl (ev_app (en := enc_Rec) hm4 rfl rfl rfl rfl (Or.inl rfl) rfl rfl rfl rfl rfl rfl rfl rfl rfl rfl rfl (fun _ => rfl) rfl (Or.inr rfl) rfl) ?_; simp only [putT,st,ev,gt,hp,ofV,constT,intT,lm]
 refine WO_op rfl rfl rfl ?_; simp only [putT,st,ev,gt,hp,ofV,constT,intT,lm]
 refine WO_nil (W_seq (W_region ?_))
 iterate 3 (refine WO_op rfl rfl rfl ?_; simp only [putT,st,ev,gt,hp,ofV,constT,intT,lm])
 refine WO_op (x := .ag [qi a2, qi a3]) rfl rfl rfl ?_; simp only [putT,st,ev,gt,hp,ofV,constT,intT,lm]
 refine WO_op (x := .row 2) (σ' := ⟨[], [], [none, rr 2 enc_Rec m4 true, rr 2 enc_Rec ([(Rec.mk a2 a3)] : List Rec) true]⟩) rfl rfl (ev_bs ([(Rec.mk a2 a3)] : List Rec) enc_Rec rfl rfl rfl rfl) ?_; simp only [putT,st,ev,gt,hp,ofV,constT,intT,lm]
 obtain ⟨m5, hm5, H⟩ := bnd H
 refine WO_op (x := .row 3) (σ' := ⟨[], [], [none, none, rr 2 enc_Rec ([(Rec.mk a2 a3)] : List Rec) true, rr 2 enc_Rec m5 true]⟩) rfl rfl (ev_app (en := enc_Rec) hm5 rfl rfl rfl rfl (Or.inl rfl) rfl rfl rfl rfl rfl rfl rfl rfl rfl rfl rfl (fun _ => rfl) rfl (Or.inr rfl) rfl) ?_; simp only [putT,st,ev,gt,hp,ofV,constT,intT,lm]
 refine WO_op rfl rfl rfl ?_; simp only [putT,st,ev,gt,hp,ofV,constT,intT,lm]
 refine WO_nil (W_seq (W_seq (W_region ?_)))
 iterate 3 (refine WO_op rfl rfl rfl ?_; simp only [putT,st,ev,gt,hp,ofV,constT,intT,lm])
 refine WO_nil ?_
 refine W_cond rfl (fun hc => ?_) (fun hc => ?_)
 ·
  replace H := tr hc H
  refine W_region ?_
  refine WO_op (x := .row 4) (σ' := ⟨[], [], [none, none, rr 2 enc_Rec ([(Rec.mk a2 a3)] : List Rec) true, rr 2 enc_Rec m5 true, rr 2 enc_Rec ([] : List Rec) true]⟩) rfl rfl (ev_bs ([] : List Rec) enc_Rec rfl rfl rfl rfl) ?_; simp only [putT,st,ev,gt,hp,ofV,constT,intT,lm]
  refine WO_op rfl rfl rfl ?_; simp only [putT,st,ev,gt,hp,ofV,constT,intT,lm]
  obtain ⟨s6, hs6, H⟩ := bnd H
  refine WO_op rfl rfl (ev_slR (en := enc_Rec) hs6 rfl rfl rfl rfl rfl ⟨_, rfl⟩ rfl) ?_; simp only [putT,st,ev,gt,hp,ofV,constT,intT,lm]
  obtain ⟨m7, hm7, H⟩ := bnd H
  refine WO_op (x := .row 5) (σ' := ⟨[], [], [none, none, rr 2 enc_Rec ([(Rec.mk a2 a3)] : List Rec) true, rr 2 enc_Rec m5 true, none, rr 2 enc_Rec m7 true]⟩) rfl rfl (ev_app (en := enc_Rec) hm7 rfl rfl rfl rfl (Or.inl rfl) rfl rfl rfl rfl rfl rfl (el_sl (en := enc_Rec) hs6 rfl rfl rfl) rfl rfl rfl rfl (fun _ => rfl) rfl (Or.inr rfl) rfl) ?_; simp only [putT,st,ev,gt,hp,ofV,constT,intT,lm]
  refine WO_op rfl rfl rfl ?_; simp only [putT,st,ev,gt,hp,ofV,constT,intT,lm]
  refine WO_nil (W_seq (W_seq (W_region ?_)))
  refine WO_op rfl rfl rfl ?_; simp only [putT,st,ev,gt,hp,ofV,constT,intT,lm]
  obtain ⟨x8, hx8, H⟩ := bnd H
  refine WO_op (x := qb x8) (σ' := ⟨[], [], [none, none, rr 2 enc_Rec ([(Rec.mk a2 a3)] : List Rec) true, rr 2 enc_Rec m5 true, none, rr 2 enc_Rec m7 true]⟩) rfl rfl (ev_callG (al := [.row 5]) (ls := []) (spec_RecsOk_ok hx8) rfl rfl rfl rfl rfl (by decide) rfl rfl rfl rfl rfl rfl) ?_; simp only [putT,st,ev,gt,hp,ofV,constT,intT,lm]
  refine WO_op rfl rfl rfl ?_; simp only [putT,st,ev,gt,hp,ofV,constT,intT,lm]
  refine WO_nil ?_
  refine W_cond rfl (fun hc => ?_) (fun hc => ?_)
  ·
   replace H := tr hc H
   refine W_seq (W_region ?_)
   refine WO_op (x := .row 6) (σ' := ⟨[], [], [none, none, rr 2 enc_Rec ([(Rec.mk a2 a3)] : List Rec) true, rr 2 enc_Rec m5 true, none, rr 2 enc_Rec m7 true, rr 2 enc_Rec ([] : List Rec) true]⟩) rfl rfl (ev_bs ([] : List Rec) enc_Rec rfl rfl rfl rfl) ?_; simp only [putT,st,ev,gt,hp,ofV,constT,intT,lm]
   refine WO_op rfl rfl rfl ?_; simp only [putT,st,ev,gt,hp,ofV,constT,intT,lm]
   obtain ⟨m9, hm9, H⟩ := bnd H
   refine WO_op (x := .row 7) (σ' := ⟨[], [], [none, none, rr 2 enc_Rec ([(Rec.mk a2 a3)] : List Rec) true, rr 2 enc_Rec m5 true, none, rr 2 enc_Rec m7 true, none, rr 2 enc_Rec m9 true]⟩) rfl rfl (ev_app (en := enc_Rec) hm9 rfl rfl rfl rfl (Or.inl rfl) rfl rfl rfl rfl rfl rfl rfl rfl rfl rfl rfl (fun _ => rfl) rfl (Or.inr rfl) rfl) ?_; simp only [putT,st,ev,gt,hp,ofV,constT,intT,lm]
   refine WO_op rfl rfl rfl ?_; simp only [putT,st,ev,gt,hp,ofV,constT,intT,lm]
   refine WO_nil ?_
   refine W_ret ?_
   obtain rfl := Option.some.inj H
   exact told5 rfl rfl rfl rfl (fitAs_nz rfl) rfl
  ·
   replace H := fl hc H
   refine W_skip ?_
   refine W_seq (W_region ?_)
   iterate 2 (refine WO_op rfl rfl rfl ?_; simp only [putT,st,ev,gt,hp,ofV,constT,intT,lm])
   refine WO_nil ?_
   refine W_ret ?_
   obtain rfl := Option.some.inj H
   exact told5 rfl rfl rfl rfl (fitAs_nz rfl) rfl
 ·
  replace H := fl hc H
  refine W_skip ?_
  refine W_seq (W_seq (W_region ?_))
  refine WO_op rfl rfl rfl ?_; simp only [putT,st,ev,gt,hp,ofV,constT,intT,lm]
  obtain ⟨x10, hx10, H⟩ := bnd H
  refine WO_op (x := qb x10) (σ' := ⟨[], [], [none, none, rr 2 enc_Rec ([(Rec.mk a2 a3)] : List Rec) true, rr 2 enc_Rec m5 true]⟩) rfl rfl (ev_callG (al := [.row 3]) (ls := []) (spec_RecsOk_ok hx10) rfl rfl rfl rfl rfl (by decide) rfl rfl rfl rfl rfl rfl) ?_; simp only [putT,st,ev,gt,hp,ofV,constT,intT,lm]
  refine WO_op rfl rfl rfl ?_; simp only [putT,st,ev,gt,hp,ofV,constT,intT,lm]
  refine WO_nil ?_
  refine W_cond rfl (fun hc => ?_) (fun hc => ?_)
  ·
   replace H := tr hc H
   refine W_seq (W_region ?_)
   refine WO_op (x := .row 4) (σ' := ⟨[], [], [none, none, rr 2 enc_Rec ([(Rec.mk a2 a3)] : List Rec) true, rr 2 enc_Rec m5 true, rr 2 enc_Rec ([] : List Rec) true]⟩) rfl rfl (ev_bs ([] : List Rec) enc_Rec rfl rfl rfl rfl) ?_; simp only [putT,st,ev,gt,hp,ofV,constT,intT,lm]
   refine WO_op rfl rfl rfl ?_; simp only [putT,st,ev,gt,hp,ofV,constT,intT,lm]
   obtain ⟨m11, hm11, H⟩ := bnd H
   refine WO_op (x := .row 5) (σ' := ⟨[], [], [none, none, rr 2 enc_Rec ([(Rec.mk a2 a3)] : List Rec) true, rr 2 enc_Rec m5 true, none, rr 2 enc_Rec m11 true]⟩) rfl rfl (ev_app (en := enc_Rec) hm11 rfl rfl rfl rfl (Or.inl rfl) rfl rfl rfl rfl rfl rfl rfl rfl rfl rfl rfl (fun _ => rfl) rfl (Or.inr rfl) rfl) ?_; simp only [putT,st,ev,gt,hp,ofV,constT,intT,lm]
   refine WO_op rfl rfl rfl ?_; simp only [putT,st,ev,gt,hp,ofV,constT,intT,lm]
   refine WO_nil ?_
   refine W_ret ?_
   obtain rfl := Option.some.inj H
   exact told5 rfl rfl rfl rfl (fitAs_nz rfl) rfl
  ·
   replace H := fl hc H
   refine W_skip ?_
   refine W_seq (W_region ?_)
   iterate 2 (refine WO_op rfl rfl rfl ?_; simp only [putT,st,ev,gt,hp,ofV,constT,intT,lm])
   refine WO_nil ?_
   refine W_ret ?_
   obtain rfl := Option.some.inj H
   exact told5 rfl rfl rfl rfl (fitAs_nz rfl) rfl
theorem spec_l16DrawRecs_ok {a1 : L1Cur} {r : List Rec × L1Cur} (H : spec_l16DrawRecs a1 = some r) : R 165 [.p [(cL eU a1.b, none), (cI .i64 a1.i, none), (cI .i64 a1.h, none)]] = some (.c (cL enc_Rec r.1) (some 2), [some [(cL eU r.2.b, none), (cI .i64 r.2.i, none), (cI .i64 r.2.h, none)]]) := by
 unfold spec_l16DrawRecs at H
 refine Fz_walk 25 rfl rfl Try.func165 rfl (by kernel_rfl) rfl rfl rfl rfl ?_
 simp only [tellVs, tellV, tells, tell, st0, padT, SX.newRow, SX.newBox, List.length_cons, List.length_nil, Nat.reduceAdd, Nat.reduceSub, List.replicate, List.cons_append, List.nil_append, List.foldl_cons, List.foldl_nil]
 refine W_seq (W_region ?_)
 refine WO_op rfl rfl rfl ?_; simp only [putT,st,ev,gt,hp,ofV,constT,intT,lm]
 refine WO_nil (W_seq (W_region ?_))
 refine WO_op (x := .row 0) (σ' := ⟨[], [some [.c (cL eU a1.b), qi a1.i, qi a1.h]], [rr 2 enc_Rec ([] : List Rec) true]⟩) rfl rfl (ev_bs ([] : List Rec) enc_Rec rfl rfl rfl rfl) ?_; simp only [putT,st,ev,gt,hp,ofV,constT,intT,lm]
 refine WO_op rfl rfl rfl ?_; simp only [putT,st,ev,gt,hp,ofV,constT,intT,lm]
 refine WO_nil (W_seq (W_region ?_))
 refine WO_op rfl rfl rfl ?_; simp only [putT,st,ev,gt,hp,ofV,constT,intT,lm]
 refine WO_nil (W_seq (W_seq (W_region ?_)))
 refine WO_op rfl rfl rfl ?_; simp only [putT,st,ev,gt,hp,ofV,constT,intT,lm]
 refine WO_nil ?_
 refine W_block ?_
 obtain ⟨t12, ht12, H⟩ := bnd H
 refine loop_rule (ls := [.b 0]) 0 (fun t12 : List Int × Int × Int × List Rec => ⟨[.no, .no, .no, .row 0], [some [.c (cL eU t12.1), qi t12.2.1, qi t12.2.2.1]], [rr 2 enc_Rec t12.2.2.2 true]⟩) (fun t => t12 = t) ⟨[.bp 0 0, .no, .no, .row 0, qi 0, qi 0], [some [.c (cL eU a1.b), qi a1.i, qi a1.h]], [rr 2 enc_Rec ([] : List Rec) true]⟩ (by repeat (first | exact mono_told | refine mono_seq ?_ | refine mono_blk ?_ | refine mono_lp ?_)) (le_intro [0] [0] (by decide) (by decide) rfl (by simp [leS, leT, leA, gt]) (by simp [leB, leT, leA]) (by simp [leR])) ?_ ?_
 ·
  rintro t1 rfl
  refine W_seq (W_region ?_)
  iterate 2 (refine WO_op rfl rfl rfl ?_; simp only [putT,st,ev,gt,hp,ofV,constT,intT,lm])
  refine WO_nil ?_
  refine W_ret ?_
  obtain rfl := Option.some.inj H
  exact told5 rfl rfl rfl rfl (fitAs_nz rfl) rfl
 ·
  intro V1 hV1 hW1 hX1
  refine (spec_l16DrawRecs.l0.partial_correctness (fun v2 v3 v4 v5 v6 v7 s' => s' = t12 → (V1 ⟨[.bp 0 0, .no, .no, .row 0, qi v2, qi v3], [some [.c (cL eU v4), qi v5, qi v6]], [rr 2 enc_Rec v7 true]⟩)) ?_ _ _ _ _ _ _ _ ht12 rfl)
  intro l0 IH1 v2 v3 v4 v5 v6 v7 s' H1 e
  subst e
  refine hV1 _ ?_
  refine W_seq (W_seq (W_region ?_))
  iterate 2 (refine WO_op rfl rfl rfl ?_; simp only [putT,st,ev,gt,hp,ofV,constT,intT,lm])
  obtain ⟨x8, hx8, H1⟩ := bnd H1
  refine WO_op (x := qi x8.1) (σ' := ⟨[], [some [.c (cL eU x8.2.b), qi x8.2.i, qi x8.2.h]], [rr 2 enc_Rec v7 true]⟩) rfl rfl (ev_callG (al := [.bp 0 0, qi 8]) (ls := [.b 0]) (spec_l1Below_ok hx8) rfl rfl rfl rfl rfl (by decide) rfl rfl rfl rfl rfl rfl) ?_; simp only [putT,st,ev,gt,hp,ofV,constT,intT,lm]
  refine WO_op rfl rfl rfl ?_; simp only [putT,st,ev,gt,hp,ofV,constT,intT,lm]
  refine WO_nil ?_
  refine W_cond rfl (fun hc => ?_) (fun hc => ?_)
  ·
   replace H1 := tr hc H1
   refine W_skip ?_
   refine W_seq ?_
   refine W_block ?_
   refine W_seq (W_region ?_)
   iterate 2 (refine WO_op rfl rfl rfl ?_; simp only [putT,st,ev,gt,hp,ofV,constT,intT,lm])
   refine WO_op (x := .row 1) (σ' := ⟨[], [some [.c (cL eU x8.2.b), qi x8.2.i, qi x8.2.h]], [rr 2 enc_Rec v7 true, rr 1 eI kl17 true]⟩) rfl rfl (by kernel_rfl) ?_; simp only [putT,st,ev,gt,hp,ofV,constT,intT,lm]
   obtain ⟨x9, hx9, H1⟩ := bnd H1
   refine WO_op (x := qi x9.1) (σ' := ⟨[], [some [.c (cL eU x9.2.b), qi x9.2.i, qi x9.2.h]], [rr 2 enc_Rec v7 true, rr 1 eI kl17 false]⟩) rfl rfl (ev_callG (al := [.bp 0 0, .row 1]) (ls := [.b 0]) (spec_l1PickInt_ok hx9) rfl rfl rfl rfl rfl (by decide) rfl rfl rfl rfl rfl rfl) ?_; simp only [putT,st,ev,gt,hp,ofV,constT,intT,lm]
   iterate 2 (refine WO_op rfl rfl rfl ?_; simp only [putT,st,ev,gt,hp,ofV,constT,intT,lm])
   refine WO_nil (W_region ?_)
   iterate 3 (refine WO_op rfl rfl rfl ?_; simp only [putT,st,ev,gt,hp,ofV,constT,intT,lm])
   refine WO_op (x := .row 2) (σ' := ⟨[], [some [.c (cL eU x9.2.b), qi x9.2.i, qi x9.2.h]], [rr 2 enc_Rec v7 true, rr 1 eI kl17 false, rr 1 eI kl18 true]⟩) rfl rfl (by kernel_rfl) ?_; simp only [putT,st,ev,gt,hp,ofV,constT,intT,lm]
   obtain ⟨x10, hx10, H1⟩ := bnd H1
   refine WO_op (x := qi x10.1) (σ' := ⟨[], [some [.c (cL eU x10.2.b), qi x10.2.i, qi x10.2.h]], [rr 2 enc_Rec v7 true, rr 1 eI kl17 false, rr 1 eI kl18 false]⟩) rfl rfl (ev_callG (al := [.bp 0 0, .row 2]) (ls := [.b 0]) (spec_l1PickInt_ok hx10) rfl rfl rfl rfl rfl (by decide) rfl rfl rfl rfl rfl rfl) ?_; simp only [putT,st,ev,gt,hp,ofV,constT,intT,lm]
   obtain ⟨x11, hx11, H1⟩ := bnd H1
   refine WO_op (x := .row 3) (σ' := ⟨[], [some [.c (cL eU x10.2.b), qi x10.2.i, qi x10.2.h]], [rr 2 enc_Rec v7 true, rr 1 eI kl17 false, rr 1 eI kl18 false, rr 2 enc_Rec x11 true]⟩) rfl rfl (ev_callG (al := [.row 0, qi (IntKind.i64.wrap (v2 + x9.1)), qi x10.1]) (ls := []) (spec_RecAdd_ok hx11) rfl rfl rfl rfl rfl (by decide) rfl rfl (by simp only [flatA, flatV, flatC, List.all_cons, List.all_nil, Option.all_some, Bool.and_self, Bool.or_true, fl_Rec]) rfl rfl rfl) ?_; simp only [putT,st,ev,gt,hp,ofV,constT,intT,lm]
   refine WO_op rfl rfl rfl ?_; simp only [putT,st,ev,gt,hp,ofV,constT,intT,lm]
   refine WO_nil (W_region ?_)
   iterate 3 (refine WO_op rfl rfl rfl ?_; simp only [putT,st,ev,gt,hp,ofV,constT,intT,lm])
   refine WO_nil ?_
   exact hW1 _ _ ((IH1 _ _ _ _ _ _ _ H1 rfl)) (le_intro [0] [3] (by decide) (by decide) rfl (by simp [leS, leT, leA, gt]) (by simp [leB, leT, leA]) (by simp [leR]))
  ·
   replace H1 := fl hc H1
   refine W_exit ?_
   obtain rfl := Option.some.inj H1
   exact hX1 (x8.2.b, x8.2.i, x8.2.h, v7) _ rfl (le_intro [0] [0] (by decide) (by decide) rfl (by simp [leS, leT, leA, gt]) (by simp [leB, leT, leA]) (by simp [leR]))
theorem spec_l17DrawRight_ok {a1 : L1Cur} {a2 : Order} {r : Scale × L1Cur} (H : spec_l17DrawRight a1 a2 = some r) : R 135 [.p [(cL eU a1.b, none), (cI .i64 a1.i, none), (cI .i64 a1.h, none)], .ag [(cS a2.Name, none), (cS a2.Target, none), (cI .i64 a2.Low, none), (cI .i64 a2.High, none), (cL enc_Metric a2.Metrics, none), (cI .i64 a2.Pace.Up, none), (cI .i64 a2.Pace.Down, none), (cI .i64 a2.Pace.UpSpan, none), (cI .i64 a2.Pace.DownSpan, none), (cL enc_Note a2.Notes, none)]] = some (.ag [(cS r.1.Name, none), (cI .i64 r.1.Now, none), (cL enc_Rec r.1.Recs, some 2)], [some [(cL eU r.2.b, none), (cI .i64 r.2.i, none), (cI .i64 r.2.h, none)]]) := by
 unfold spec_l17DrawRight at H
 refine Fz_walk 20 rfl rfl Try.func135 rfl (by kernel_rfl) rfl rfl rfl rfl ?_
 simp only [tellVs, tellV, tells, tell, st0, padT, SX.newRow, SX.newBox, List.length_cons, List.length_nil, Nat.reduceAdd, Nat.reduceSub, List.replicate, List.cons_append, List.nil_append, List.foldl_cons, List.foldl_nil]
 refine W_seq (W_region ?_)
 refine WO_op (x := .bp 1 0) (σ' := ⟨[], [some [.c (cL eU a1.b), qi a1.i, qi a1.h], some [qs a2.Name, qs a2.Target, qi a2.Low, qi a2.High, .c (cL enc_Metric a2.Metrics), qi a2.Pace.Up, qi a2.Pace.Down, qi a2.Pace.UpSpan, qi a2.Pace.DownSpan, .c (cL enc_Note a2.Notes)]], []⟩) rfl rfl rfl ?_
 refine WO_op (x := .bp 2 0) (σ' := ⟨[], [some [.c (cL eU a1.b), qi a1.i, qi a1.h], some [qs a2.Name, qs a2.Target, qi a2.Low, qi a2.High, .c (cL enc_Metric a2.Metrics), qi a2.Pace.Up, qi a2.Pace.Down, qi a2.Pace.UpSpan, qi a2.Pace.DownSpan, .c (cL enc_Note a2.Notes)], some [qs [], qi 0, .nil]], []⟩) rfl rfl rfl ?_; simp only [putT,st,ev,gt,hp,ofV,constT,intT,lm]
 refine WO_nil (W_seq ?_)
 refine W_drawL (by kernel_rfl) (by decide +kernel) ?_
 refine WL_op (x := .bp 1 0) rfl rfl rfl rfl ?_
 refine WL_op (x := qs a2.Name) rfl rfl rfl rfl ?_
 refine WL_op rfl rfl rfl rfl ?_
 refine WL_op (x := .bp 1 2) rfl rfl rfl rfl ?_; simp only [putT,st,ev,gt,hp,ofV,constT,intT,lm]
 refine WL_op (x := qi a2.Low) rfl rfl rfl rfl ?_
 refine WL_op (x := .bp 1 3) rfl rfl rfl rfl ?_
 refine WL_op (x := qi a2.High) rfl rfl rfl rfl ?_
 refine WL_op (x := .bp 1 2) rfl rfl rfl rfl ?_; simp only [putT,st,ev,gt,hp,ofV,constT,intT,lm]
 refine WL_op (x := qi a2.Low) rfl rfl rfl rfl ?_
 refine WL_op rfl rfl rfl rfl ?_; simp only [putT,st,ev,gt,hp,ofV,constT,intT,lm]
 refine WL_op (x := .row 0) (σ' := ⟨[], [some [.c (cL eU a1.b), qi a1.i, qi a1.h], some [qs a2.Name, qs a2.Target, qi a2.Low, qi a2.High, .c (cL enc_Metric a2.Metrics), qi a2.Pace.Up, qi a2.Pace.Down, qi a2.Pace.UpSpan, qi a2.Pace.DownSpan, .c (cL enc_Note a2.Notes)], some [qs [], qi 0, .nil]], [rr 1 eI ([a2.Low, a2.High, IntKind.i64.wrap (a2.Low + 1), 0] : List Int) true]⟩) rfl rfl rfl (by kernel_rfl) ?_; simp only [putT,st,ev,gt,hp,ofV,constT,intT,lm]
 obtain ⟨x3, hx3, H⟩ := bnd H
 refine WL_op (x := qi x3.1) (σ' := ⟨[], [some [.c (cL eU x3.2.b), qi x3.2.i, qi x3.2.h], some [qs a2.Name, qs a2.Target, qi a2.Low, qi a2.High, .c (cL enc_Metric a2.Metrics), qi a2.Pace.Up, qi a2.Pace.Down, qi a2.Pace.UpSpan, qi a2.Pace.DownSpan, .c (cL enc_Note a2.Notes)], some [qs [], qi 0, .nil]], [rr 1 eI ([a2.Low, a2.High, IntKind.i64.wrap (a2.Low + 1), 0] : List Int) false]⟩) rfl rfl rfl (ev_callG (al := [.bp 0 0, .row 0]) (ls := [.b 0]) (spec_l1PickInt_ok hx3) rfl rfl rfl rfl rfl (by decide) rfl rfl rfl rfl rfl rfl) ?_; simp only [putT,st,ev,gt,hp,ofV,constT,intT,lm]
 refine WL_op rfl rfl rfl rfl ?_; simp only [putT,st,ev,gt,hp,ofV,constT,intT,lm]
 obtain ⟨x4, hx4, H⟩ := bnd H
 refine WL_op (x := .row 1) (σ' := ⟨[], [some [.c (cL eU x4.2.b), qi x4.2.i, qi x4.2.h], some [qs a2.Name, qs a2.Target, qi a2.Low, qi a2.High, .c (cL enc_Metric a2.Metrics), qi a2.Pace.Up, qi a2.Pace.Down, qi a2.Pace.UpSpan, qi a2.Pace.DownSpan, .c (cL enc_Note a2.Notes)], some [qs [], qi 0, .nil]], [rr 1 eI ([a2.Low, a2.High, IntKind.i64.wrap (a2.Low + 1), 0] : List Int) false, rr 2 enc_Rec x4.1 true]⟩) rfl rfl rfl (ev_callG (al := [.bp 0 0]) (ls := [.b 0]) (spec_l16DrawRecs_ok hx4) rfl rfl rfl rfl rfl (by decide) rfl rfl rfl rfl rfl rfl) ?_; simp only [putT,st,ev,gt,hp,ofV,constT,intT,lm]
 refine WL_op (x := .ag [qs a2.Name, qi x3.1, .row 1]) rfl rfl rfl rfl ?_
 refine WL_op (x := .no) (σ' := ⟨[], [some [.c (cL eU x4.2.b), qi x4.2.i, qi x4.2.h], some [qs a2.Name, qs a2.Target, qi a2.Low, qi a2.High, .c (cL enc_Metric a2.Metrics), qi a2.Pace.Up, qi a2.Pace.Down, qi a2.Pace.UpSpan, qi a2.Pace.DownSpan, .c (cL enc_Note a2.Notes)], some [qs a2.Name, qi x3.1, .row 1]], [rr 1 eI ([a2.Low, a2.High, IntKind.i64.wrap (a2.Low + 1), 0] : List Int) false, rr 2 enc_Rec x4.1 true]⟩) rfl rfl rfl rfl ?_; simp only [putT,st,ev,gt,hp,ofV,constT,intT,lm]
 refine WL_nil (by kernel_rfl) ?_
 refine W_ret ?_
 obtain rfl := Option.some.inj H
 exact told5 rfl rfl rfl rfl (fitAs_nz rfl) rfl
theorem spec_l16Draw_ok {a1 : L1Cur} {r : List Rec × L1Cur} (H : spec_l16Draw a1 = some r) : R 136 [.p [(cL eU a1.b, none), (cI .i64 a1.i, none), (cI .i64 a1.h, none)]] = some (.c (cL enc_Rec r.1) (some 2), [some [(cL eU r.2.b, none), (cI .i64 r.2.i, none), (cI .i64 r.2.h, none)]]) := by
 unfold spec_l16Draw at H
 refine Fz_walk 19 rfl rfl Try.func136 rfl (by kernel_rfl) rfl rfl rfl rfl ?_
 simp only [tellVs, tellV, tells, tell, st0, padT, SX.newRow, SX.newBox, List.length_cons, List.length_nil, Nat.reduceAdd, Nat.reduceSub, List.replicate, List.cons_append, List.nil_append, List.foldl_cons, List.foldl_nil]
 refine W_seq (W_region ?_)
 refine WO_op rfl rfl rfl ?_; simp only [putT,st,ev,gt,hp,ofV,constT,intT,lm]
 refine WO_nil (W_seq (W_region ?_))
 refine WO_op rfl rfl rfl ?_; simp only [putT,st,ev,gt,hp,ofV,constT,intT,lm]
 obtain ⟨x2, hx2, H⟩ := bnd H
 refine WO_op (x := .row 0) (σ' := ⟨[], [some [.c (cL eU x2.2.b), qi x2.2.i, qi x2.2.h]], [rr 2 enc_Rec x2.1 true]⟩) rfl rfl (ev_callG (al := [.bp 0 0]) (ls := [.b 0]) (spec_l16DrawRecs_ok hx2) rfl rfl rfl rfl rfl (by decide) rfl rfl rfl rfl rfl rfl) ?_; simp only [putT,st,ev,gt,hp,ofV,constT,intT,lm]
 refine WO_op rfl rfl rfl ?_; simp only [putT,st,ev,gt,hp,ofV,constT,intT,lm]
 refine WO_nil (W_seq (W_seq (W_region ?_)))
 refine WO_op rfl rfl rfl ?_; simp only [putT,st,ev,gt,hp,ofV,constT,intT,lm]
 obtain ⟨x3, hx3, H⟩ := bnd H
 refine WO_op (x := qb x3.1) (σ' := ⟨[], [some [.c (cL eU x3.2.b), qi x3.2.i, qi x3.2.h]], [rr 2 enc_Rec x2.1 true]⟩) rfl rfl (ev_callG (al := [.bp 0 0, qi 6]) (ls := [.b 0]) (spec_l1Once_ok hx3) rfl rfl rfl rfl rfl (by decide) rfl rfl rfl rfl rfl rfl) ?_; simp only [putT,st,ev,gt,hp,ofV,constT,intT,lm]
 refine WO_nil ?_
 refine W_cond rfl (fun hc => ?_) (fun hc => ?_)
 ·
  replace H := tr hc H
  refine W_seq (W_region ?_)
  iterate 2 (refine WO_op rfl rfl rfl ?_; simp only [putT,st,ev,gt,hp,ofV,constT,intT,lm])
  refine WO_op (x := .row 1) (σ' := ⟨[], [some [.c (cL eU x3.2.b), qi x3.2.i, qi x3.2.h]], [rr 2 enc_Rec x2.1 true, rr 1 eI kl19 true]⟩) rfl rfl (by kernel_rfl) ?_; simp only [putT,st,ev,gt,hp,ofV,constT,intT,lm]
  obtain ⟨x4, hx4, H⟩ := bnd H
  refine WO_op (x := qi x4.1) (σ' := ⟨[], [some [.c (cL eU x4.2.b), qi x4.2.i, qi x4.2.h]], [rr 2 enc_Rec x2.1 true, rr 1 eI kl19 false]⟩) rfl rfl (ev_callG (al := [.bp 0 0, .row 1]) (ls := [.b 0]) (spec_l1PickInt_ok hx4) rfl rfl rfl rfl rfl (by decide) rfl rfl rfl rfl rfl rfl) ?_; simp only [putT,st,ev,gt,hp,ofV,constT,intT,lm]
  refine WO_op rfl rfl rfl ?_; simp only [putT,st,ev,gt,hp,ofV,constT,intT,lm]
  refine WO_op (x := .row 2) (σ' := ⟨[], [some [.c (cL eU x4.2.b), qi x4.2.i, qi x4.2.h]], [rr 2 enc_Rec x2.1 true, rr 1 eI kl19 false, rr 1 eI kl20 true]⟩) rfl rfl (ev_bs kl20 eI rfl rfl rfl rfl) ?_; simp only [putT,st,ev,gt,hp,ofV,constT,intT,lm]
  obtain ⟨x5, hx5, H⟩ := bnd H
  refine WO_op (x := qi x5.1) (σ' := ⟨[], [some [.c (cL eU x5.2.b), qi x5.2.i, qi x5.2.h]], [rr 2 enc_Rec x2.1 true, rr 1 eI kl19 false, rr 1 eI kl20 false]⟩) rfl rfl (ev_callG (al := [.bp 0 0, .row 2]) (ls := [.b 0]) (spec_l1PickInt_ok hx5) rfl rfl rfl rfl rfl (by decide) rfl rfl rfl rfl rfl rfl) ?_; simp only [putT,st,ev,gt,hp,ofV,constT,intT,lm]
  refine WO_op (x := .ag [qi x4.1, qi x5.1]) rfl rfl rfl ?_; simp only [putT,st,ev,gt,hp,ofV,constT,intT,lm]
  refine WO_op (x := .row 3) (σ' := ⟨[], [some [.c (cL eU x5.2.b), qi x5.2.i, qi x5.2.h]], [rr 2 enc_Rec x2.1 true, rr 1 eI kl19 false, rr 1 eI kl20 false, rr 2 enc_Rec ([(Rec.mk x4.1 x5.1)] : List Rec) true]⟩) rfl rfl (ev_bs ([(Rec.mk x4.1 x5.1)] : List Rec) enc_Rec rfl rfl rfl rfl) ?_; simp only [putT,st,ev,gt,hp,ofV,constT,intT,lm]
  obtain ⟨m6, hm6, H⟩ := bnd H
  refine WO_op (x := .row 4) (σ' := ⟨[], [some [.c (cL eU x5.2.b), qi x5.2.i, qi x5.2.h]], [none, rr 1 eI kl19 false, rr 1 eI kl20 false, rr 2 enc_Rec ([(Rec.mk x4.1 x5.1)] : List Rec) true, rr 2 enc_Rec m6 true]⟩) rfl rfl (ev_app (en := enc_Rec) hm6 rfl rfl rfl rfl (Or.inl rfl) rfl rfl rfl rfl rfl rfl rfl rfl rfl rfl rfl (fun _ => rfl) rfl (Or.inr rfl) rfl) ?_; simp only [putT,st,ev,gt,hp,ofV,constT,intT,lm]
  refine WO_op rfl rfl rfl ?_; simp only [putT,st,ev,gt,hp,ofV,constT,intT,lm]
  refine WO_nil ?_
  refine W_ret ?_
  obtain rfl := Option.some.inj H
  exact told5 rfl rfl rfl rfl (fitAs_nz rfl) rfl
 ·
  replace H := fl hc H
  refine W_skip ?_
  refine W_seq (W_region ?_)
  iterate 2 (refine WO_op rfl rfl rfl ?_; simp only [putT,st,ev,gt,hp,ofV,constT,intT,lm])
  refine WO_nil ?_
  refine W_ret ?_
  obtain rfl := Option.some.inj H
  exact told5 rfl rfl rfl rfl (fitAs_nz rfl) rfl
theorem spec_l17Draw_ok {a1 : L1Cur} {r : Order × Scale × L1Cur} (H : spec_l17Draw a1 = some r) : R 85 [.p [(cL eU a1.b, none), (cI .i64 a1.i, none), (cI .i64 a1.h, none)]] = some (.tu [.ag [(cS r.1.Name, none), (cS r.1.Target, none), (cI .i64 r.1.Low, none), (cI .i64 r.1.High, none), (cL enc_Metric r.1.Metrics, none), (cI .i64 r.1.Pace.Up, none), (cI .i64 r.1.Pace.Down, none), (cI .i64 r.1.Pace.UpSpan, none), (cI .i64 r.1.Pace.DownSpan, none), (cL enc_Note r.1.Notes, none)], .ag [(cS r.2.1.Name, none), (cI .i64 r.2.1.Now, none), (cL enc_Rec r.2.1.Recs, some 2)]], [some [(cL eU r.2.2.b, none), (cI .i64 r.2.2.i, none), (cI .i64 r.2.2.h, none)]]) := by
 unfold spec_l17Draw at H
 refine Fz_walk 32 rfl rfl Try.func85 rfl (by kernel_rfl) rfl rfl rfl rfl ?_
 simp only [tellVs, tellV, tells, tell, st0, padT, SX.newRow, SX.newBox, List.length_cons, List.length_nil, Nat.reduceAdd, Nat.reduceSub, List.replicate, List.cons_append, List.nil_append, List.foldl_cons, List.foldl_nil]
 refine W_seq (W_region ?_)
 refine WO_op (x := .bp 1 0) (σ' := ⟨[], [some [.c (cL eU a1.b), qi a1.i, qi a1.h], some [qs [], qs [], qi 0, qi 0, .nil, qi 0, qi 0, qi 0, qi 0, .nil]], []⟩) rfl rfl rfl ?_
 refine WO_op (x := .bp 2 0) (σ' := ⟨[], [some [.c (cL eU a1.b), qi a1.i, qi a1.h], some [qs [], qs [], qi 0, qi 0, .nil, qi 0, qi 0, qi 0, qi 0, .nil], some [qs [], qi 0, .nil]], []⟩) rfl rfl rfl ?_; simp only [putT,st,ev,gt,hp,ofV,constT,intT,lm]
 refine WO_nil (W_seq (W_region ?_))
 refine WO_op rfl rfl rfl ?_; simp only [putT,st,ev,gt,hp,ofV,constT,intT,lm]
 obtain ⟨x2, hx2, H⟩ := bnd H
 refine WO_op (x := .ag [qs x2.1.Name, qs x2.1.Target, qi x2.1.Low, qi x2.1.High, .row 0, qi x2.1.Pace.Up, qi x2.1.Pace.Down, qi x2.1.Pace.UpSpan, qi x2.1.Pace.DownSpan, .row 1]) (σ' := ⟨[], [some [.c (cL eU x2.2.b), qi x2.2.i, qi x2.2.h], some [qs [], qs [], qi 0, qi 0, .nil, qi 0, qi 0, qi 0, qi 0, .nil], some [qs [], qi 0, .nil]], [rr 3 enc_Metric x2.1.Metrics true, rr 2 enc_Note x2.1.Notes true]⟩) rfl rfl (ev_callG (al := [.bp 0 0]) (ls := [.b 0]) (spec_l6Draw_ok hx2) rfl rfl rfl rfl rfl (by decide) rfl rfl rfl rfl rfl rfl) ?_; simp only [putT,st,ev,gt,hp,ofV,constT,intT,lm]
 refine WO_op (x := .bp 3 0) (σ' := ⟨[], [some [.c (cL eU x2.2.b), qi x2.2.i, qi x2.2.h], some [qs [], qs [], qi 0, qi 0, .nil, qi 0, qi 0, qi 0, qi 0, .nil], some [qs [], qi 0, .nil], some [qs [], qs [], qi 0, qi 0, .nil, qi 0, qi 0, qi 0, qi 0, .nil]], [rr 3 enc_Metric x2.1.Metrics true, rr 2 enc_Note x2.1.Notes true]⟩) rfl rfl rfl ?_
 refine WO_op (x := .no) (σ' := ⟨[], [some [.c (cL eU x2.2.b), qi x2.2.i, qi x2.2.h], some [qs [], qs [], qi 0, qi 0, .nil, qi 0, qi 0, qi 0, qi 0, .nil], some [qs [], qi 0, .nil], some [qs x2.1.Name, qs x2.1.Target, qi x2.1.Low, qi x2.1.High, .row 0, qi x2.1.Pace.Up, qi x2.1.Pace.Down, qi x2.1.Pace.UpSpan, qi x2.1.Pace.DownSpan, .row 1]], [rr 3 enc_Metric x2.1.Metrics true, rr 2 enc_Note x2.1.Notes true]⟩) rfl rfl rfl ?_; simp only [putT,st,ev,gt,hp,ofV,constT,intT,lm]
 refine WO_nil (W_seq (W_region ?_))
 refine WO_op rfl rfl rfl ?_
 refine WO_op (x := .ag [qs x2.1.Name, qs x2.1.Target, qi x2.1.Low, qi x2.1.High, .row 0, qi x2.1.Pace.Up, qi x2.1.Pace.Down, qi x2.1.Pace.UpSpan, qi x2.1.Pace.DownSpan, .row 1]) rfl rfl rfl ?_; simp only [putT,st,ev,gt,hp,ofV,constT,intT,lm]
 obtain ⟨x3, hx3, H⟩ := bnd H
 refine WO_op (x := .ag [qs x3.1.Name, qi x3.1.Now, .row 2]) (σ' := ⟨[], [some [.c (cL eU x3.2.b), qi x3.2.i, qi x3.2.h], some [qs [], qs [], qi 0, qi 0, .nil, qi 0, qi 0, qi 0, qi 0, .nil], some [qs [], qi 0, .nil], some [qs x2.1.Name, qs x2.1.Target, qi x2.1.Low, qi x2.1.High, .row 0, qi x2.1.Pace.Up, qi x2.1.Pace.Down, qi x2.1.Pace.UpSpan, qi x2.1.Pace.DownSpan, .row 1]], [rr 3 enc_Metric x2.1.Metrics false, rr 2 enc_Note x2.1.Notes false, rr 2 enc_Rec x3.1.Recs true]⟩) rfl rfl (ev_callG (al := [.bp 0 0, .ag [qs x2.1.Name, qs x2.1.Target, qi x2.1.Low, qi x2.1.High, .row 0, qi x2.1.Pace.Up, qi x2.1.Pace.Down, qi x2.1.Pace.UpSpan, qi x2.1.Pace.DownSpan, .row 1]]) (ls := [.b 0]) (spec_l17DrawRight_ok hx3) rfl rfl rfl rfl rfl (by decide) rfl rfl rfl rfl rfl rfl) ?_; simp only [putT,st,ev,gt,hp,ofV,constT,intT,lm]
 refine WO_op (x := .bp 4 0) (σ' := ⟨[], [some [.c (cL eU x3.2.b), qi x3.2.i, qi x3.2.h], some [qs [], qs [], qi 0, qi 0, .nil, qi 0, qi 0, qi 0, qi 0, .nil], some [qs [], qi 0, .nil], some [qs x2.1.Name, qs x2.1.Target, qi x2.1.Low, qi x2.1.High, .row 0, qi x2.1.Pace.Up, qi x2.1.Pace.Down, qi x2.1.Pace.UpSpan, qi x2.1.Pace.DownSpan, .row 1], some [qs [], qi 0, .nil]], [rr 3 enc_Metric x2.1.Metrics false, rr 2 enc_Note x2.1.Notes false, rr 2 enc_Rec x3.1.Recs true]⟩) rfl rfl rfl ?_
 refine WO_op (x := .no) (σ' := ⟨[], [some [.c (cL eU x3.2.b), qi x3.2.i, qi x3.2.h], some [qs [], qs [], qi 0, qi 0, .nil, qi 0, qi 0, qi 0, qi 0, .nil], some [qs [], qi 0, .nil], some [qs x2.1.Name, qs x2.1.Target, qi x2.1.Low, qi x2.1.High, .row 0, qi x2.1.Pace.Up, qi x2.1.Pace.Down, qi x2.1.Pace.UpSpan, qi x2.1.Pace.DownSpan, .row 1], some [qs x3.1.Name, qi x3.1.Now, .row 2]], [rr 3 enc_Metric x2.1.Metrics false, rr 2 enc_Note x2.1.Notes false, rr 2 enc_Rec x3.1.Recs true]⟩) rfl rfl rfl ?_; simp only [putT,st,ev,gt,hp,ofV,constT,intT,lm]
 refine WO_nil (W_seq (W_seq (W_region ?_)))
 refine WO_op rfl rfl rfl ?_; simp only [putT,st,ev,gt,hp,ofV,constT,intT,lm]
 obtain ⟨x4, hx4, H⟩ := bnd H
 refine WO_op (x := qi x4.1) (σ' := ⟨[], [some [.c (cL eU x4.2.b), qi x4.2.i, qi x4.2.h], some [qs [], qs [], qi 0, qi 0, .nil, qi 0, qi 0, qi 0, qi 0, .nil], some [qs [], qi 0, .nil], some [qs x2.1.Name, qs x2.1.Target, qi x2.1.Low, qi x2.1.High, .row 0, qi x2.1.Pace.Up, qi x2.1.Pace.Down, qi x2.1.Pace.UpSpan, qi x2.1.Pace.DownSpan, .row 1], some [qs x3.1.Name, qi x3.1.Now, .row 2]], [rr 3 enc_Metric x2.1.Metrics false, rr 2 enc_Note x2.1.Notes false, rr 2 enc_Rec x3.1.Recs true]⟩) rfl rfl (ev_callG (al := [.bp 0 0, qi 12]) (ls := [.b 0]) (spec_l1Below_ok hx4) rfl rfl rfl rfl rfl (by decide) rfl rfl rfl rfl rfl rfl) ?_; simp only [putT,st,ev,gt,hp,ofV,constT,intT,lm]
 refine WO_nil ?_
 refine W_block ?_
 refine W_seq (W_region ?_)
 iterate 2 (refine WO_op rfl rfl rfl ?_; simp only [putT,st,ev,gt,hp,ofV,constT,intT,lm])
 refine WO_nil ?_
 refine W_cond rfl (fun hc => ?_) (fun hc => ?_)
 ·
  replace H := tr hc H
  refine W_region ?_
  refine WO_op rfl rfl rfl ?_; simp only [putT,st,ev,gt,hp,ofV,constT,intT,lm]
  refine WO_op (x := .row 3) (σ' := ⟨[], [some [.c (cL eU x4.2.b), qi x4.2.i, qi x4.2.h], some [qs [], qs [], qi 0, qi 0, .nil, qi 0, qi 0, qi 0, qi 0, .nil], some [qs [], qi 0, .nil], some [qs x2.1.Name, qs x2.1.Target, qi x2.1.Low, qi x2.1.High, .row 0, qi x2.1.Pace.Up, qi x2.1.Pace.Down, qi x2.1.Pace.UpSpan, qi x2.1.Pace.DownSpan, .row 1], some [qs x3.1.Name, qi x3.1.Now, .row 2]], [rr 3 enc_Metric x2.1.Metrics false, rr 2 enc_Note x2.1.Notes false, rr 2 enc_Rec x3.1.Recs true, rr 1 eS kl21 true]⟩) rfl rfl (ev_bs kl21 eS rfl rfl rfl rfl) ?_; simp only [putT,st,ev,gt,hp,ofV,constT,intT,lm]
  obtain ⟨x5, hx5, H⟩ := bnd H
  refine WO_op (x := qs x5.1) (σ' := ⟨[], [some [.c (cL eU x5.2.b), qi x5.2.i, qi x5.2.h], some [qs [], qs [], qi 0, qi 0, .nil, qi 0, qi 0, qi 0, qi 0, .nil], some [qs [], qi 0, .nil], some [qs x2.1.Name, qs x2.1.Target, qi x2.1.Low, qi x2.1.High, .row 0, qi x2.1.Pace.Up, qi x2.1.Pace.Down, qi x2.1.Pace.UpSpan, qi x2.1.Pace.DownSpan, .row 1], some [qs x3.1.Name, qi x3.1.Now, .row 2]], [rr 3 enc_Metric x2.1.Metrics false, rr 2 enc_Note x2.1.Notes false, rr 2 enc_Rec x3.1.Recs true, rr 1 eS kl21 false]⟩) rfl rfl (ev_callG (al := [.bp 0 0, .row 3]) (ls := [.b 0]) (spec_l1Pick_ok hx5) rfl rfl rfl rfl rfl (by decide) rfl rfl rfl rfl rfl rfl) ?_; simp only [putT,st,ev,gt,hp,ofV,constT,intT,lm]
  refine WO_op (x := .bp 4 0) rfl rfl rfl ?_
  refine WO_op (x := .no) (σ' := ⟨[], [some [.c (cL eU x5.2.b), qi x5.2.i, qi x5.2.h], some [qs [], qs [], qi 0, qi 0, .nil, qi 0, qi 0, qi 0, qi 0, .nil], some [qs [], qi 0, .nil], some [qs x2.1.Name, qs x2.1.Target, qi x2.1.Low, qi x2.1.High, .row 0, qi x2.1.Pace.Up, qi x2.1.Pace.Down, qi x2.1.Pace.UpSpan, qi x2.1.Pace.DownSpan, .row 1], some [qs x5.1, qi x3.1.Now, .row 2]], [rr 3 enc_Metric x2.1.Metrics false, rr 2 enc_Note x2.1.Notes false, rr 2 enc_Rec x3.1.Recs true, rr 1 eS kl21 false]⟩) rfl rfl rfl ?_; simp only [putT,st,ev,gt,hp,ofV,constT,intT,lm]
  refine WO_nil (W_seq ?_)
  refine W_drawL (by kernel_rfl) (by decide +kernel) ?_
  refine WL_op (x := .ag [qs x2.1.Name, qs x2.1.Target, qi x2.1.Low, qi x2.1.High, .row 0, qi x2.1.Pace.Up, qi x2.1.Pace.Down, qi x2.1.Pace.UpSpan, qi x2.1.Pace.DownSpan, .row 1]) rfl rfl rfl rfl ?_
  refine WL_op (x := .ag [qs x5.1, qi x3.1.Now, .row 2]) rfl rfl rfl rfl ?_
  refine WL_op (x := .no) (σ' := ⟨[], [some [.c (cL eU x5.2.b), qi x5.2.i, qi x5.2.h], some [qs x2.1.Name, qs x2.1.Target, qi x2.1.Low, qi x2.1.High, .row 0, qi x2.1.Pace.Up, qi x2.1.Pace.Down, qi x2.1.Pace.UpSpan, qi x2.1.Pace.DownSpan, .row 1], some [qs [], qi 0, .nil], some [qs x2.1.Name, qs x2.1.Target, qi x2.1.Low, qi x2.1.High, .row 0, qi x2.1.Pace.Up, qi x2.1.Pace.Down, qi x2.1.Pace.UpSpan, qi x2.1.Pace.DownSpan, .row 1], some [qs x5.1, qi x3.1.Now, .row 2]], [rr 3 enc_Metric x2.1.Metrics false, rr 2 enc_Note x2.1.Notes false, rr 2 enc_Rec x3.1.Recs true, rr 1 eS kl21 false]⟩) rfl rfl rfl rfl ?_
  refine WL_op (x := .no) (σ' := ⟨[], [some [.c (cL eU x5.2.b), qi x5.2.i, qi x5.2.h], some [qs x2.1.Name, qs x2.1.Target, qi x2.1.Low, qi x2.1.High, .row 0, qi x2.1.Pace.Up, qi x2.1.Pace.Down, qi x2.1.Pace.UpSpan, qi x2.1.Pace.DownSpan, .row 1], some [qs x5.1, qi x3.1.Now, .row 2], some [qs x2.1.Name, qs x2.1.Target, qi x2.1.Low, qi x2.1.High, .row 0, qi x2.1.Pace.Up, qi x2.1.Pace.Down, qi x2.1.Pace.UpSpan, qi x2.1.Pace.DownSpan, .row 1], some [qs x5.1, qi x3.1.Now, .row 2]], [rr 3 enc_Metric x2.1.Metrics false, rr 2 enc_Note x2.1.Notes false, rr 2 enc_Rec x3.1.Recs true, rr 1 eS kl21 false]⟩) rfl rfl rfl rfl ?_; simp only [putT,st,ev,gt,hp,ofV,constT,intT,lm]
  refine WL_nil (by kernel_rfl) ?_
  refine W_ret ?_
  obtain rfl := Option.some.inj H
  exact told5 rfl rfl rfl rfl (fitAs_nz rfl) rfl
 ·
  replace H := fl hc H
  refine W_seq (W_region ?_)
  iterate 2 (refine WO_op rfl rfl rfl ?_; simp only [putT,st,ev,gt,hp,ofV,constT,intT,lm])
  refine WO_nil ?_
  refine W_cond rfl (fun hc => ?_) (fun hc => ?_)
  ·
   replace H := tr hc H
   refine W_region ?_
   refine WO_op rfl rfl rfl ?_; simp only [putT,st,ev,gt,hp,ofV,constT,intT,lm]
   refine WO_op (x := .row 3) (σ' := ⟨[], [some [.c (cL eU x4.2.b), qi x4.2.i, qi x4.2.h], some [qs [], qs [], qi 0, qi 0, .nil, qi 0, qi 0, qi 0, qi 0, .nil], some [qs [], qi 0, .nil], some [qs x2.1.Name, qs x2.1.Target, qi x2.1.Low, qi x2.1.High, .row 0, qi x2.1.Pace.Up, qi x2.1.Pace.Down, qi x2.1.Pace.UpSpan, qi x2.1.Pace.DownSpan, .row 1], some [qs x3.1.Name, qi x3.1.Now, .row 2]], [rr 3 enc_Metric x2.1.Metrics false, rr 2 enc_Note x2.1.Notes false, rr 2 enc_Rec x3.1.Recs true, rr 1 eI kl13 true]⟩) rfl rfl (ev_bs kl13 eI rfl rfl rfl rfl) ?_; simp only [putT,st,ev,gt,hp,ofV,constT,intT,lm]
   obtain ⟨x6, hx6, H⟩ := bnd H
   refine WO_op (x := qi x6.1) (σ' := ⟨[], [some [.c (cL eU x6.2.b), qi x6.2.i, qi x6.2.h], some [qs [], qs [], qi 0, qi 0, .nil, qi 0, qi 0, qi 0, qi 0, .nil], some [qs [], qi 0, .nil], some [qs x2.1.Name, qs x2.1.Target, qi x2.1.Low, qi x2.1.High, .row 0, qi x2.1.Pace.Up, qi x2.1.Pace.Down, qi x2.1.Pace.UpSpan, qi x2.1.Pace.DownSpan, .row 1], some [qs x3.1.Name, qi x3.1.Now, .row 2]], [rr 3 enc_Metric x2.1.Metrics false, rr 2 enc_Note x2.1.Notes false, rr 2 enc_Rec x3.1.Recs true, rr 1 eI kl13 false]⟩) rfl rfl (ev_callG (al := [.bp 0 0, .row 3]) (ls := [.b 0]) (spec_l1PickInt_ok hx6) rfl rfl rfl rfl rfl (by decide) rfl rfl rfl rfl rfl rfl) ?_; simp only [putT,st,ev,gt,hp,ofV,constT,intT,lm]
   refine WO_op (x := .bp 4 1) rfl rfl rfl ?_
   refine WO_op (x := .no) (σ' := ⟨[], [some [.c (cL eU x6.2.b), qi x6.2.i, qi x6.2.h], some [qs [], qs [], qi 0, qi 0, .nil, qi 0, qi 0, qi 0, qi 0, .nil], some [qs [], qi 0, .nil], some [qs x2.1.Name, qs x2.1.Target, qi x2.1.Low, qi x2.1.High, .row 0, qi x2.1.Pace.Up, qi x2.1.Pace.Down, qi x2.1.Pace.UpSpan, qi x2.1.Pace.DownSpan, .row 1], some [qs x3.1.Name, qi x6.1, .row 2]], [rr 3 enc_Metric x2.1.Metrics false, rr 2 enc_Note x2.1.Notes false, rr 2 enc_Rec x3.1.Recs true, rr 1 eI kl13 false]⟩) rfl rfl rfl ?_; simp only [putT,st,ev,gt,hp,ofV,constT,intT,lm]
   refine WO_nil (W_seq ?_)
   refine W_drawL (by kernel_rfl) (by decide +kernel) ?_
   refine WL_op (x := .ag [qs x2.1.Name, qs x2.1.Target, qi x2.1.Low, qi x2.1.High, .row 0, qi x2.1.Pace.Up, qi x2.1.Pace.Down, qi x2.1.Pace.UpSpan, qi x2.1.Pace.DownSpan, .row 1]) rfl rfl rfl rfl ?_
   refine WL_op (x := .ag [qs x3.1.Name, qi x6.1, .row 2]) rfl rfl rfl rfl ?_
   refine WL_op (x := .no) (σ' := ⟨[], [some [.c (cL eU x6.2.b), qi x6.2.i, qi x6.2.h], some [qs x2.1.Name, qs x2.1.Target, qi x2.1.Low, qi x2.1.High, .row 0, qi x2.1.Pace.Up, qi x2.1.Pace.Down, qi x2.1.Pace.UpSpan, qi x2.1.Pace.DownSpan, .row 1], some [qs [], qi 0, .nil], some [qs x2.1.Name, qs x2.1.Target, qi x2.1.Low, qi x2.1.High, .row 0, qi x2.1.Pace.Up, qi x2.1.Pace.Down, qi x2.1.Pace.UpSpan, qi x2.1.Pace.DownSpan, .row 1], some [qs x3.1.Name, qi x6.1, .row 2]], [rr 3 enc_Metric x2.1.Metrics false, rr 2 enc_Note x2.1.Notes false, rr 2 enc_Rec x3.1.Recs true, rr 1 eI kl13 false]⟩) rfl rfl rfl rfl ?_
   refine WL_op (x := .no) (σ' := ⟨[], [some [.c (cL eU x6.2.b), qi x6.2.i, qi x6.2.h], some [qs x2.1.Name, qs x2.1.Target, qi x2.1.Low, qi x2.1.High, .row 0, qi x2.1.Pace.Up, qi x2.1.Pace.Down, qi x2.1.Pace.UpSpan, qi x2.1.Pace.DownSpan, .row 1], some [qs x3.1.Name, qi x6.1, .row 2], some [qs x2.1.Name, qs x2.1.Target, qi x2.1.Low, qi x2.1.High, .row 0, qi x2.1.Pace.Up, qi x2.1.Pace.Down, qi x2.1.Pace.UpSpan, qi x2.1.Pace.DownSpan, .row 1], some [qs x3.1.Name, qi x6.1, .row 2]], [rr 3 enc_Metric x2.1.Metrics false, rr 2 enc_Note x2.1.Notes false, rr 2 enc_Rec x3.1.Recs true, rr 1 eI kl13 false]⟩) rfl rfl rfl rfl ?_; simp only [putT,st,ev,gt,hp,ofV,constT,intT,lm]
   refine WL_nil (by kernel_rfl) ?_
   refine W_ret ?_
   obtain rfl := Option.some.inj H
   exact told5 rfl rfl rfl rfl (fitAs_nz rfl) rfl
  ·
   replace H := fl hc H
   refine W_seq (W_region ?_)
   iterate 2 (refine WO_op rfl rfl rfl ?_; simp only [putT,st,ev,gt,hp,ofV,constT,intT,lm])
   refine WO_nil ?_
   refine W_cond rfl (fun hc => ?_) (fun hc => ?_)
   ·
    replace H := tr hc H
    refine W_region ?_
    refine WO_op rfl rfl rfl ?_; simp only [putT,st,ev,gt,hp,ofV,constT,intT,lm]
    obtain ⟨x7, hx7, H⟩ := bnd H
    refine WO_op (x := .row 3) (σ' := ⟨[], [some [.c (cL eU x7.2.b), qi x7.2.i, qi x7.2.h], some [qs [], qs [], qi 0, qi 0, .nil, qi 0, qi 0, qi 0, qi 0, .nil], some [qs [], qi 0, .nil], some [qs x2.1.Name, qs x2.1.Target, qi x2.1.Low, qi x2.1.High, .row 0, qi x2.1.Pace.Up, qi x2.1.Pace.Down, qi x2.1.Pace.UpSpan, qi x2.1.Pace.DownSpan, .row 1], some [qs x3.1.Name, qi x3.1.Now, .row 2]], [rr 3 enc_Metric x2.1.Metrics false, rr 2 enc_Note x2.1.Notes false, rr 2 enc_Rec x3.1.Recs true, rr 2 enc_Rec x7.1 true]⟩) rfl rfl (ev_callG (al := [.bp 0 0]) (ls := [.b 0]) (spec_l16Draw_ok hx7) rfl rfl rfl rfl rfl (by decide) rfl rfl rfl rfl rfl rfl) ?_; simp only [putT,st,ev,gt,hp,ofV,constT,intT,lm]
    refine WO_op (x := .bp 4 2) rfl rfl rfl ?_
    refine WO_op (x := .no) (σ' := ⟨[], [some [.c (cL eU x7.2.b), qi x7.2.i, qi x7.2.h], some [qs [], qs [], qi 0, qi 0, .nil, qi 0, qi 0, qi 0, qi 0, .nil], some [qs [], qi 0, .nil], some [qs x2.1.Name, qs x2.1.Target, qi x2.1.Low, qi x2.1.High, .row 0, qi x2.1.Pace.Up, qi x2.1.Pace.Down, qi x2.1.Pace.UpSpan, qi x2.1.Pace.DownSpan, .row 1], some [qs x3.1.Name, qi x3.1.Now, .row 3]], [rr 3 enc_Metric x2.1.Metrics false, rr 2 enc_Note x2.1.Notes false, rr 2 enc_Rec x3.1.Recs true, rr 2 enc_Rec x7.1 true]⟩) rfl rfl rfl ?_; simp only [putT,st,ev,gt,hp,ofV,constT,intT,lm]
    refine WO_nil (W_seq ?_)
    refine W_drawL (by kernel_rfl) (by decide +kernel) ?_
    refine WL_op (x := .ag [qs x2.1.Name, qs x2.1.Target, qi x2.1.Low, qi x2.1.High, .row 0, qi x2.1.Pace.Up, qi x2.1.Pace.Down, qi x2.1.Pace.UpSpan, qi x2.1.Pace.DownSpan, .row 1]) rfl rfl rfl rfl ?_
    refine WL_op (x := .ag [qs x3.1.Name, qi x3.1.Now, .row 3]) rfl rfl rfl rfl ?_
    refine WL_op (x := .no) (σ' := ⟨[], [some [.c (cL eU x7.2.b), qi x7.2.i, qi x7.2.h], some [qs x2.1.Name, qs x2.1.Target, qi x2.1.Low, qi x2.1.High, .row 0, qi x2.1.Pace.Up, qi x2.1.Pace.Down, qi x2.1.Pace.UpSpan, qi x2.1.Pace.DownSpan, .row 1], some [qs [], qi 0, .nil], some [qs x2.1.Name, qs x2.1.Target, qi x2.1.Low, qi x2.1.High, .row 0, qi x2.1.Pace.Up, qi x2.1.Pace.Down, qi x2.1.Pace.UpSpan, qi x2.1.Pace.DownSpan, .row 1], some [qs x3.1.Name, qi x3.1.Now, .row 3]], [rr 3 enc_Metric x2.1.Metrics false, rr 2 enc_Note x2.1.Notes false, rr 2 enc_Rec x3.1.Recs true, rr 2 enc_Rec x7.1 true]⟩) rfl rfl rfl rfl ?_
    refine WL_op (x := .no) (σ' := ⟨[], [some [.c (cL eU x7.2.b), qi x7.2.i, qi x7.2.h], some [qs x2.1.Name, qs x2.1.Target, qi x2.1.Low, qi x2.1.High, .row 0, qi x2.1.Pace.Up, qi x2.1.Pace.Down, qi x2.1.Pace.UpSpan, qi x2.1.Pace.DownSpan, .row 1], some [qs x3.1.Name, qi x3.1.Now, .row 3], some [qs x2.1.Name, qs x2.1.Target, qi x2.1.Low, qi x2.1.High, .row 0, qi x2.1.Pace.Up, qi x2.1.Pace.Down, qi x2.1.Pace.UpSpan, qi x2.1.Pace.DownSpan, .row 1], some [qs x3.1.Name, qi x3.1.Now, .row 3]], [rr 3 enc_Metric x2.1.Metrics false, rr 2 enc_Note x2.1.Notes false, rr 2 enc_Rec x3.1.Recs true, rr 2 enc_Rec x7.1 true]⟩) rfl rfl rfl rfl ?_; simp only [putT,st,ev,gt,hp,ofV,constT,intT,lm]
    refine WL_nil (by kernel_rfl) ?_
    refine W_ret ?_
    obtain rfl := Option.some.inj H
    exact told5 rfl rfl rfl rfl (fitAs_nz rfl) rfl
   ·
    replace H := fl hc H
    refine W_skip ?_
    refine W_seq ?_
    refine W_drawL (by kernel_rfl) (by decide +kernel) ?_
    refine WL_op (x := .ag [qs x2.1.Name, qs x2.1.Target, qi x2.1.Low, qi x2.1.High, .row 0, qi x2.1.Pace.Up, qi x2.1.Pace.Down, qi x2.1.Pace.UpSpan, qi x2.1.Pace.DownSpan, .row 1]) rfl rfl rfl rfl ?_
    refine WL_op (x := .ag [qs x3.1.Name, qi x3.1.Now, .row 2]) rfl rfl rfl rfl ?_
    refine WL_op (x := .no) (σ' := ⟨[], [some [.c (cL eU x4.2.b), qi x4.2.i, qi x4.2.h], some [qs x2.1.Name, qs x2.1.Target, qi x2.1.Low, qi x2.1.High, .row 0, qi x2.1.Pace.Up, qi x2.1.Pace.Down, qi x2.1.Pace.UpSpan, qi x2.1.Pace.DownSpan, .row 1], some [qs [], qi 0, .nil], some [qs x2.1.Name, qs x2.1.Target, qi x2.1.Low, qi x2.1.High, .row 0, qi x2.1.Pace.Up, qi x2.1.Pace.Down, qi x2.1.Pace.UpSpan, qi x2.1.Pace.DownSpan, .row 1], some [qs x3.1.Name, qi x3.1.Now, .row 2]], [rr 3 enc_Metric x2.1.Metrics false, rr 2 enc_Note x2.1.Notes false, rr 2 enc_Rec x3.1.Recs true]⟩) rfl rfl rfl rfl ?_
    refine WL_op (x := .no) (σ' := ⟨[], [some [.c (cL eU x4.2.b), qi x4.2.i, qi x4.2.h], some [qs x2.1.Name, qs x2.1.Target, qi x2.1.Low, qi x2.1.High, .row 0, qi x2.1.Pace.Up, qi x2.1.Pace.Down, qi x2.1.Pace.UpSpan, qi x2.1.Pace.DownSpan, .row 1], some [qs x3.1.Name, qi x3.1.Now, .row 2], some [qs x2.1.Name, qs x2.1.Target, qi x2.1.Low, qi x2.1.High, .row 0, qi x2.1.Pace.Up, qi x2.1.Pace.Down, qi x2.1.Pace.UpSpan, qi x2.1.Pace.DownSpan, .row 1], some [qs x3.1.Name, qi x3.1.Now, .row 2]], [rr 3 enc_Metric x2.1.Metrics false, rr 2 enc_Note x2.1.Notes false, rr 2 enc_Rec x3.1.Recs true]⟩) rfl rfl rfl rfl ?_; simp only [putT,st,ev,gt,hp,ofV,constT,intT,lm]
    refine WL_nil (by kernel_rfl) ?_
    refine W_ret ?_
    obtain rfl := Option.some.inj H
    exact told5 rfl rfl rfl rfl (fitAs_nz rfl) rfl
end Go.Pu
