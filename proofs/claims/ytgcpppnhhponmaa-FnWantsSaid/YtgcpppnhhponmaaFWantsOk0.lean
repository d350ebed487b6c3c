import Derived.Test.YtgcpppnhhponmaaFWantsEn
set_option linter.unusedVariables false
set_option linter.unusedSimpArgs false
set_option synthInstance.maxSize 1000000000
set_option maxRecDepth 20000
set_option maxHeartbeats 1000000
namespace Go.Pu
open Go Go.SX Go.Nt Go.Proofs
theorem laws_big_ok {a1 : List Int} {r : Bool} (H : laws_big a1 = some r) : R 20 [.c (cL eU a1) none] = some (.c (cB r) none, []) := by
 unfold laws_big at H
 refine Fz_walk 6 rfl rfl Try.func20 rfl (by kernel_rfl) rfl rfl rfl rfl ?_
 simp only [tellVs, tellV, tells, tell, st0, padT, SX.newRow, SX.newBox, List.length_cons, List.length_nil, Nat.reduceAdd, Nat.reduceSub, List.replicate, List.cons_append, List.nil_append, List.foldl_cons, List.foldl_nil]
 refine W_seq (W_region ?_)
 refine WO_op rfl rfl rfl ?_; simp only [putT,st,ev,gt,hp,ofV,constT,intT,lm]
 refine WO_nil (W_seq (W_region ?_))
 iterate 4 (refine WO_op rfl rfl rfl ?_; simp only [putT,st,ev,gt,hp,ofV,constT,intT,lm])
 refine WO_nil ?_
 refine W_ret ?_
 obtain rfl := Option.some.inj H
 exact told3 rfl
theorem spec_l1New_ok {a1 : List Int} {r : L1Cur} (H : spec_l1New a1 = some r) : R 70 [.c (cL eU a1) none] = some (.p [(cL eU r.b, none), (cI .i64 r.i, none), (cI .i64 r.h, none)], []) := by
 unfold spec_l1New at H
 refine Fz_walk 32 rfl rfl Try.func70 rfl (by kernel_rfl) rfl rfl rfl rfl ?_
 simp only [tellVs, tellV, tells, tell, st0, padT, SX.newRow, SX.newBox, List.length_cons, List.length_nil, Nat.reduceAdd, Nat.reduceSub, List.replicate, List.cons_append, List.nil_append, List.foldl_cons, List.foldl_nil]
 refine W_seq (W_region ?_)
 refine WO_op rfl rfl rfl ?_; simp only [putT,st,ev,gt,hp,ofV,constT,intT,lm]
 refine WO_nil (W_seq (W_region ?_))
 iterate 4 (refine WO_op rfl rfl rfl ?_; simp only [putT,st,ev,gt,hp,ofV,constT,intT,lm])
 refine WO_nil (W_seq (W_seq (W_region ?_)))
 refine WO_op rfl rfl rfl ?_; simp only [putT,st,ev,gt,hp,ofV,constT,intT,lm]
 refine WO_nil ?_
 refine W_block ?_
 obtain ⟨t5, ht5, H⟩ := bnd H
 refine loop_rule (ls := []) 0 (fun t5 : Int => ⟨[.c (cL eU a1), .no, .no, qi t5], [], []⟩) (fun t => t5 = t) ⟨[.c (cL eU a1), .no, .no, qi (IntKind.i64.wrap (27212 + (a1.length : Int))), qi 0], [], []⟩ (by repeat (first | exact mono_told | refine mono_seq ?_ | refine mono_blk ?_ | refine mono_lp ?_)) (le_intro [] [] (by decide) (by decide) rfl (by simp [leS, leT, leA, gt]) (by simp [leB, leT, leA]) (by simp [leR])) ?_ ?_
 ·
  rintro t1 rfl
  refine W_seq (W_region ?_)
  iterate 2 (refine WO_op rfl rfl rfl ?_; simp only [putT,st,ev,gt,hp,ofV,constT,intT,lm])
  refine WO_op (x := .ag [.c (cL eU a1), qi 0, qi t5]) rfl rfl rfl ?_
  refine WO_op (x := .bp 0 0) (σ' := ⟨[], [some [.c (cL eU a1), qi 0, qi t5]], []⟩) rfl rfl rfl ?_
  refine WO_op rfl rfl rfl ?_; simp only [putT,st,ev,gt,hp,ofV,constT,intT,lm]
  refine WO_nil ?_
  refine W_ret ?_
  obtain rfl := Option.some.inj H
  exact told3 rfl
 ·
  intro V1 hV1 hW1 hX1
  refine (spec_l1New.l0.partial_correctness a1 (fun v2 v3 s' => s' = t5 → (V1 ⟨[.c (cL eU a1), .no, .no, qi v2, qi v3], [], []⟩)) ?_ _ _ _ ht5 rfl)
  intro l0 IH1 v2 v3 s' H1 e
  subst e
  refine hV1 _ ?_
  refine W_seq (W_seq (W_region ?_))
  iterate 5 (refine WO_op rfl rfl rfl ?_; simp only [putT,st,ev,gt,hp,ofV,constT,intT,lm])
  refine WO_if rfl rfl rfl (fun hc => ?_) (fun hc => ?_)
  ·
   replace H1 := tr hc H1
   simp only [putT,st,ev,gt,hp,ofV,constT,intT,lm]
   iterate 2 (refine WO_want rfl rfl rfl ?_; simp only [putT,st,ev,gt,hp,ofV,constT,intT,lm])
   refine WO_op (x := qb (decide (v3 < 4000))) rfl rfl rfl ?_; simp only [putT,st,ev,gt,hp,ofV,constT,intT,lm]
   refine WO_nil ?_
   refine W_cond rfl (fun hc => ?_) (fun hc => ?_)
   ·
    replace H1 := tr hc H1
    refine W_skip ?_
    refine W_seq ?_
    refine W_block ?_
    refine W_region ?_
    iterate 4 (refine WO_op rfl rfl rfl ?_; simp only [putT,st,ev,gt,hp,ofV,constT,intT,lm])
    obtain ⟨x4, hx4, H1⟩ := bnd H1
    refine WO_op rfl rfl (ev_ix (en := eU) hx4 rfl rfl rfl rfl rfl rfl rfl) ?_; simp only [putT,st,ev,gt,hp,ofV,constT,intT,lm]
    refine WO_op (x := .c (cI .u8 x4)) rfl rfl rfl ?_; simp only [putT,st,ev,gt,hp,ofV,constT,intT,lm]
    refine WO_op rfl rfl (ev_ii (j := .u8) (k' := .i64) rfl rfl rfl rfl) ?_; simp only [putT,st,ev,gt,hp,ofV,constT,intT,lm]
    iterate 2 (refine WO_op rfl rfl rfl ?_; simp only [putT,st,ev,gt,hp,ofV,constT,intT,lm])
    refine WO_op (x := qi (band (IntKind.i64.wrap ((IntKind.i64.wrap ((IntKind.i64.wrap (v2 * 131)) + (IntKind.i64.wrap (x4)))) + 7)) 1073741823)) rfl rfl rfl ?_
    refine WO_op rfl rfl rfl ?_; simp only [putT,st,ev,gt,hp,ofV,constT,intT,lm]
    refine WO_nil (W_region ?_)
    iterate 3 (refine WO_op rfl rfl rfl ?_; simp only [putT,st,ev,gt,hp,ofV,constT,intT,lm])
    refine WO_nil ?_
    exact hW1 _ _ ((IH1 _ _ _ H1 rfl)) (le_intro [] [] (by decide) (by decide) rfl (by simp [leS, leT, leA, gt]) (by simp [leB, leT, leA]) (by simp [leR]))
   ·
    replace H1 := fl hc H1
    refine W_exit ?_
    obtain rfl := Option.some.inj H1
    exact hX1 v2 _ rfl (le_intro [] [] (by decide) (by decide) rfl (by simp [leS, leT, leA, gt]) (by simp [leB, leT, leA]) (by simp [leR]))
  ·
   replace H1 := fl hc H1
   simp only [putT,st,ev,gt,hp,ofV,constT,intT,lm]
   iterate 2 refine WO_skip rfl rfl ?_
   refine WO_op (x := qb false) rfl rfl rfl ?_; simp only [putT,st,ev,gt,hp,ofV,constT,intT,lm]
   refine WO_nil ?_
   refine W_cond (t := false) rfl (fun h => by cases h) (fun _ => ?_)
   refine W_exit ?_
   obtain rfl := Option.some.inj H1
   exact hX1 v2 _ rfl (le_intro [] [] (by decide) (by decide) rfl (by simp [leS, leT, leA, gt]) (by simp [leB, leT, leA]) (by simp [leR]))
theorem spec_l1Byte_ok {a1 : L1Cur} {r : Int × L1Cur} (H : spec_l1Byte a1 = some r) : R 164 [.p [(cL eU a1.b, none), (cI .i64 a1.i, none), (cI .i64 a1.h, none)]] = some (.c (cI .i64 r.1) none, [some [(cL eU r.2.b, none), (cI .i64 r.2.i, none), (cI .i64 r.2.h, none)]]) := by
 unfold spec_l1Byte at H
 refine Fz_walk 58 rfl rfl Try.func164 rfl (by kernel_rfl) rfl rfl rfl rfl ?_
 simp only [tellVs, tellV, tells, tell, st0, padT, SX.newRow, SX.newBox, List.length_cons, List.length_nil, Nat.reduceAdd, Nat.reduceSub, List.replicate, List.cons_append, List.nil_append, List.foldl_cons, List.foldl_nil]
 refine W_seq (W_region ?_)
 refine WO_op rfl rfl rfl ?_; simp only [putT,st,ev,gt,hp,ofV,constT,intT,lm]
 refine WO_nil (W_seq (W_region ?_))
 iterate 3 (refine WO_op rfl rfl rfl ?_; simp only [putT,st,ev,gt,hp,ofV,constT,intT,lm])
 refine WO_op (x := .bp 0 2) rfl rfl rfl ?_
 refine WO_op (x := qi a1.h) rfl rfl rfl ?_; simp only [putT,st,ev,gt,hp,ofV,constT,intT,lm]
 iterate 3 (refine WO_op rfl rfl rfl ?_; simp only [putT,st,ev,gt,hp,ofV,constT,intT,lm])
 refine WO_op (x := .bp 0 2) rfl rfl rfl ?_
 refine WO_op (x := .no) (σ' := ⟨[], [some [.c (cL eU a1.b), qi a1.i, qi (IntKind.i64.wrap ((IntKind.i64.wrap (a1.h * 6364136223846793005)) + 1442695040888963407))]], []⟩) rfl rfl rfl ?_; simp only [putT,st,ev,gt,hp,ofV,constT,intT,lm]
 refine WO_nil (W_seq ?_)
 refine W_draw (by kernel_rfl) (by kernel_rfl) ?_
 iterate 2 (refine WO_op rfl rfl rfl ?_; simp only [putT,st,ev,gt,hp,ofV,constT,intT,lm])
 refine WO_op (x := .bp 0 2) rfl rfl rfl ?_
 refine WO_op (x := qi (IntKind.i64.wrap ((IntKind.i64.wrap (a1.h * 6364136223846793005)) + 1442695040888963407))) rfl rfl rfl ?_
 refine WO_op (x := qi (Int.fdiv (IntKind.i64.wrap ((IntKind.i64.wrap (a1.h * 6364136223846793005)) + 1442695040888963407)) (2 ^ 33))) rfl rfl rfl ?_; simp only [putT,st,ev,gt,hp,ofV,constT,intT,lm]
 iterate 2 (refine WO_op rfl rfl rfl ?_; simp only [putT,st,ev,gt,hp,ofV,constT,intT,lm])
 refine WO_op (x := .bp 0 2) rfl rfl rfl ?_
 refine WO_op (x := qi (IntKind.i64.wrap ((IntKind.i64.wrap (a1.h * 6364136223846793005)) + 1442695040888963407))) rfl rfl rfl ?_
 refine WO_op (x := qi (Int.fdiv (IntKind.i64.wrap ((IntKind.i64.wrap (a1.h * 6364136223846793005)) + 1442695040888963407)) (2 ^ 45))) rfl rfl rfl ?_
 refine WO_op (x := qi (bxor (Int.fdiv (IntKind.i64.wrap ((IntKind.i64.wrap (a1.h * 6364136223846793005)) + 1442695040888963407)) (2 ^ 33)) (Int.fdiv (IntKind.i64.wrap ((IntKind.i64.wrap (a1.h * 6364136223846793005)) + 1442695040888963407)) (2 ^ 45)))) rfl rfl rfl ?_; simp only [putT,st,ev,gt,hp,ofV,constT,intT,lm]
 refine WO_op (x := qi (band (bxor (Int.fdiv (IntKind.i64.wrap ((IntKind.i64.wrap (a1.h * 6364136223846793005)) + 1442695040888963407)) (2 ^ 33)) (Int.fdiv (IntKind.i64.wrap ((IntKind.i64.wrap (a1.h * 6364136223846793005)) + 1442695040888963407)) (2 ^ 45))) 255)) rfl rfl rfl ?_
 refine WO_op rfl rfl rfl ?_; simp only [putT,st,ev,gt,hp,ofV,constT,intT,lm]
 refine WO_nil (W_seq (W_seq ?_))
 refine W_draw (by kernel_rfl) (by kernel_rfl) ?_
 iterate 2 (refine WO_op rfl rfl rfl ?_; simp only [putT,st,ev,gt,hp,ofV,constT,intT,lm])
 refine WO_op (x := .bp 0 1) rfl rfl rfl ?_
 refine WO_op (x := qi a1.i) rfl rfl rfl ?_; simp only [putT,st,ev,gt,hp,ofV,constT,intT,lm]
 iterate 2 (refine WO_op rfl rfl rfl ?_; simp only [putT,st,ev,gt,hp,ofV,constT,intT,lm])
 refine WO_op (x := .bp 0 0) rfl rfl rfl ?_
 refine WO_op (x := .c (cL eU a1.b)) rfl rfl rfl ?_; simp only [putT,st,ev,gt,hp,ofV,constT,intT,lm]
 iterate 2 (refine WO_op rfl rfl rfl ?_; simp only [putT,st,ev,gt,hp,ofV,constT,intT,lm])
 refine WO_nil ?_
 refine W_cond rfl (fun hc => ?_) (fun hc => ?_)
 ·
  replace H := tr hc H
  refine W_seq ?_
  refine W_draw (by kernel_rfl) (by kernel_rfl) ?_
  iterate 3 (refine WO_op rfl rfl rfl ?_; simp only [putT,st,ev,gt,hp,ofV,constT,intT,lm])
  refine WO_op (x := .bp 0 0) rfl rfl rfl ?_
  refine WO_op (x := .c (cL eU a1.b)) rfl rfl rfl ?_; simp only [putT,st,ev,gt,hp,ofV,constT,intT,lm]
  iterate 2 (refine WO_op rfl rfl rfl ?_; simp only [putT,st,ev,gt,hp,ofV,constT,intT,lm])
  refine WO_op (x := .bp 0 1) rfl rfl rfl ?_
  refine WO_op (x := qi a1.i) rfl rfl rfl ?_; simp only [putT,st,ev,gt,hp,ofV,constT,intT,lm]
  obtain ⟨x2, hx2, H⟩ := bnd H
  refine WO_op rfl rfl (ev_ix (en := eU) hx2 rfl rfl rfl rfl rfl rfl rfl) ?_; simp only [putT,st,ev,gt,hp,ofV,constT,intT,lm]
  refine WO_op (x := .c (cI .u8 x2)) rfl rfl rfl ?_; simp only [putT,st,ev,gt,hp,ofV,constT,intT,lm]
  refine WO_op rfl rfl (ev_ii (j := .u8) (k' := .i64) rfl rfl rfl rfl) ?_; simp only [putT,st,ev,gt,hp,ofV,constT,intT,lm]
  refine WO_op rfl rfl rfl ?_
  refine WO_op (x := qi (band (IntKind.i64.wrap ((band (bxor (Int.fdiv (IntKind.i64.wrap ((IntKind.i64.wrap (a1.h * 6364136223846793005)) + 1442695040888963407)) (2 ^ 33)) (Int.fdiv (IntKind.i64.wrap ((IntKind.i64.wrap (a1.h * 6364136223846793005)) + 1442695040888963407)) (2 ^ 45))) 255) + (IntKind.i64.wrap (x2)))) 255)) rfl rfl rfl ?_
  refine WO_op rfl rfl rfl ?_; simp only [putT,st,ev,gt,hp,ofV,constT,intT,lm]
  refine WO_nil (W_region ?_)
  iterate 3 (refine WO_op rfl rfl rfl ?_; simp only [putT,st,ev,gt,hp,ofV,constT,intT,lm])
  refine WO_op (x := .bp 0 1) rfl rfl rfl ?_
  refine WO_op (x := qi a1.i) rfl rfl rfl ?_; simp only [putT,st,ev,gt,hp,ofV,constT,intT,lm]
  iterate 2 (refine WO_op rfl rfl rfl ?_; simp only [putT,st,ev,gt,hp,ofV,constT,intT,lm])
  refine WO_op (x := .bp 0 1) rfl rfl rfl ?_
  refine WO_op (x := .no) (σ' := ⟨[], [some [.c (cL eU a1.b), qi (IntKind.i64.wrap (a1.i + 1)), qi (IntKind.i64.wrap ((IntKind.i64.wrap (a1.h * 6364136223846793005)) + 1442695040888963407))]], []⟩) rfl rfl rfl ?_; simp only [putT,st,ev,gt,hp,ofV,constT,intT,lm]
  refine WO_nil (W_seq (W_region ?_))
  iterate 2 (refine WO_op rfl rfl rfl ?_; simp only [putT,st,ev,gt,hp,ofV,constT,intT,lm])
  refine WO_nil ?_
  refine W_ret ?_
  obtain rfl := Option.some.inj H
  exact told3 rfl
 ·
  replace H := fl hc H
  refine W_skip ?_
  refine W_seq (W_region ?_)
  iterate 2 (refine WO_op rfl rfl rfl ?_; simp only [putT,st,ev,gt,hp,ofV,constT,intT,lm])
  refine WO_nil ?_
  refine W_ret ?_
  obtain rfl := Option.some.inj H
  exact told3 rfl
theorem spec_l1Below_ok {a1 : L1Cur} {a2 : Int} {r : Int × L1Cur} (H : spec_l1Below a1 a2 = some r) : R 131 [.p [(cL eU a1.b, none), (cI .i64 a1.i, none), (cI .i64 a1.h, none)], .c (cI .i64 a2) none] = some (.c (cI .i64 r.1) none, [some [(cL eU r.2.b, none), (cI .i64 r.2.i, none), (cI .i64 r.2.h, none)]]) := by
 unfold spec_l1Below at H
 refine Fz_walk 37 rfl rfl Try.func131 rfl (by kernel_rfl) rfl rfl rfl rfl ?_
 simp only [tellVs, tellV, tells, tell, st0, padT, SX.newRow, SX.newBox, List.length_cons, List.length_nil, Nat.reduceAdd, Nat.reduceSub, List.replicate, List.cons_append, List.nil_append, List.foldl_cons, List.foldl_nil]
 refine W_seq (W_region ?_)
 refine WO_op rfl rfl rfl ?_; simp only [putT,st,ev,gt,hp,ofV,constT,intT,lm]
 refine WO_nil (W_seq (W_seq (W_region ?_)))
 iterate 2 (refine WO_op rfl rfl rfl ?_; simp only [putT,st,ev,gt,hp,ofV,constT,intT,lm])
 refine WO_nil ?_
 refine W_cond rfl (fun hc => ?_) (fun hc => ?_)
 ·
  replace H := tr hc H
  refine W_seq (W_region ?_)
  refine WO_op rfl rfl rfl ?_; simp only [putT,st,ev,gt,hp,ofV,constT,intT,lm]
  refine WO_nil ?_
  refine W_ret ?_
  obtain rfl := Option.some.inj H
  exact told3 rfl
 ·
  replace H := fl hc H
  refine W_skip ?_
  refine W_seq (W_seq (W_region ?_))
  iterate 2 (refine WO_op rfl rfl rfl ?_; simp only [putT,st,ev,gt,hp,ofV,constT,intT,lm])
  refine WO_nil ?_
  refine W_cond rfl (fun hc => ?_) (fun hc => ?_)
  ·
   replace H := tr hc H
   refine W_seq (W_region ?_)
   refine WO_op rfl rfl rfl ?_; simp only [putT,st,ev,gt,hp,ofV,constT,intT,lm]
   obtain ⟨x3, hx3, H⟩ := bnd H
   refine WO_op (x := qi x3.1) (σ' := ⟨[], [some [.c (cL eU x3.2.b), qi x3.2.i, qi x3.2.h]], []⟩) rfl rfl (ev_callG (al := [.bp 0 0]) (ls := [.b 0]) (spec_l1Byte_ok hx3) rfl rfl rfl rfl rfl (by decide) rfl rfl rfl rfl rfl rfl) ?_; simp only [putT,st,ev,gt,hp,ofV,constT,intT,lm]
   refine WO_op rfl rfl rfl ?_; simp only [putT,st,ev,gt,hp,ofV,constT,intT,lm]
   obtain ⟨q4, hq4, H⟩ := bnd H
   refine WO_op rfl rfl (ev_rem hq4 rfl rfl rfl) ?_; simp only [putT,st,ev,gt,hp,ofV,constT,intT,lm]
   refine WO_op rfl rfl rfl ?_; simp only [putT,st,ev,gt,hp,ofV,constT,intT,lm]
   refine WO_nil ?_
   refine W_ret ?_
   obtain rfl := Option.some.inj H
   exact told3 rfl
  ·
   replace H := fl hc H
   refine W_skip ?_
   refine W_seq (W_region ?_)
   refine WO_op rfl rfl rfl ?_; simp only [putT,st,ev,gt,hp,ofV,constT,intT,lm]
   obtain ⟨x5, hx5, H⟩ := bnd H
   refine WO_op (x := qi x5.1) (σ' := ⟨[], [some [.c (cL eU x5.2.b), qi x5.2.i, qi x5.2.h]], []⟩) rfl rfl (ev_callG (al := [.bp 0 0]) (ls := [.b 0]) (spec_l1Byte_ok hx5) rfl rfl rfl rfl rfl (by decide) rfl rfl rfl rfl rfl rfl) ?_; simp only [putT,st,ev,gt,hp,ofV,constT,intT,lm]
   refine WO_op rfl rfl rfl ?_; simp only [putT,st,ev,gt,hp,ofV,constT,intT,lm]
   refine WO_nil (W_seq (W_region ?_))
   refine WO_op rfl rfl rfl ?_; simp only [putT,st,ev,gt,hp,ofV,constT,intT,lm]
   obtain ⟨x6, hx6, H⟩ := bnd H
   refine WO_op (x := qi x6.1) (σ' := ⟨[], [some [.c (cL eU x6.2.b), qi x6.2.i, qi x6.2.h]], []⟩) rfl rfl (ev_callG (al := [.bp 0 0]) (ls := [.b 0]) (spec_l1Byte_ok hx6) rfl rfl rfl rfl rfl (by decide) rfl rfl rfl rfl rfl rfl) ?_; simp only [putT,st,ev,gt,hp,ofV,constT,intT,lm]
   refine WO_op rfl rfl rfl ?_; simp only [putT,st,ev,gt,hp,ofV,constT,intT,lm]
   refine WO_nil (W_seq (W_region ?_))
   refine WO_op rfl rfl rfl ?_; simp only [putT,st,ev,gt,hp,ofV,constT,intT,lm]
   obtain ⟨x7, hx7, H⟩ := bnd H
   refine WO_op (x := qi x7.1) (σ' := ⟨[], [some [.c (cL eU x7.2.b), qi x7.2.i, qi x7.2.h]], []⟩) rfl rfl (ev_callG (al := [.bp 0 0]) (ls := [.b 0]) (spec_l1Byte_ok hx7) rfl rfl rfl rfl rfl (by decide) rfl rfl rfl rfl rfl rfl) ?_; simp only [putT,st,ev,gt,hp,ofV,constT,intT,lm]
   refine WO_op rfl rfl rfl ?_; simp only [putT,st,ev,gt,hp,ofV,constT,intT,lm]
   refine WO_nil (W_seq (W_region ?_))
   refine WO_op rfl rfl rfl ?_; simp only [putT,st,ev,gt,hp,ofV,constT,intT,lm]
   obtain ⟨x8, hx8, H⟩ := bnd H
   refine WO_op (x := qi x8.1) (σ' := ⟨[], [some [.c (cL eU x8.2.b), qi x8.2.i, qi x8.2.h]], []⟩) rfl rfl (ev_callG (al := [.bp 0 0]) (ls := [.b 0]) (spec_l1Byte_ok hx8) rfl rfl rfl rfl rfl (by decide) rfl rfl rfl rfl rfl rfl) ?_; simp only [putT,st,ev,gt,hp,ofV,constT,intT,lm]
   refine WO_op rfl rfl rfl ?_; simp only [putT,st,ev,gt,hp,ofV,constT,intT,lm]
   refine WO_nil (W_seq (W_region ?_))
   iterate 11 (refine WO_op rfl rfl rfl ?_; simp only [putT,st,ev,gt,hp,ofV,constT,intT,lm])
   obtain ⟨q9, hq9, H⟩ := bnd H
   refine WO_op rfl rfl (ev_rem hq9 rfl rfl rfl) ?_; simp only [putT,st,ev,gt,hp,ofV,constT,intT,lm]
   refine WO_op rfl rfl rfl ?_; simp only [putT,st,ev,gt,hp,ofV,constT,intT,lm]
   refine WO_nil ?_
   refine W_ret ?_
   obtain rfl := Option.some.inj H
   exact told3 rfl
theorem spec_l1Pick_ok {a1 : L1Cur} {a2 : List Str} {r : Str × L1Cur} (H : spec_l1Pick a1 a2 = some r) : R 79 [.p [(cL eU a1.b, none), (cI .i64 a1.i, none), (cI .i64 a1.h, none)], .c (cL eS a2) none] = some (.c (cS r.1) none, [some [(cL eU r.2.b, none), (cI .i64 r.2.i, none), (cI .i64 r.2.h, none)]]) := by
 unfold spec_l1Pick at H
 refine Fz_walk 12 rfl rfl Try.func79 rfl (by kernel_rfl) rfl rfl rfl rfl ?_
 simp only [tellVs, tellV, tells, tell, st0, padT, SX.newRow, SX.newBox, List.length_cons, List.length_nil, Nat.reduceAdd, Nat.reduceSub, List.replicate, List.cons_append, List.nil_append, List.foldl_cons, List.foldl_nil]
 refine W_seq (W_region ?_)
 refine WO_op rfl rfl rfl ?_; simp only [putT,st,ev,gt,hp,ofV,constT,intT,lm]
 refine WO_nil (W_seq (W_region ?_))
 iterate 4 (refine WO_op rfl rfl rfl ?_; simp only [putT,st,ev,gt,hp,ofV,constT,intT,lm])
 obtain ⟨x3, hx3, H⟩ := bnd H
 refine WO_op (x := qi x3.1) (σ' := ⟨[], [some [.c (cL eU x3.2.b), qi x3.2.i, qi x3.2.h]], []⟩) rfl rfl (ev_callG (al := [.bp 0 0, qi (a2.length : Int)]) (ls := [.b 0]) (spec_l1Below_ok hx3) rfl rfl rfl rfl rfl (by decide) rfl rfl rfl rfl rfl rfl) ?_; simp only [putT,st,ev,gt,hp,ofV,constT,intT,lm]
 obtain ⟨x4, hx4, H⟩ := bnd H
 refine WO_op rfl rfl (ev_ix (en := eS) hx4 rfl rfl rfl rfl rfl rfl rfl) ?_; simp only [putT,st,ev,gt,hp,ofV,constT,intT,lm]
 refine WO_op (x := qs x4) rfl rfl rfl ?_
 refine WO_op rfl rfl rfl ?_; simp only [putT,st,ev,gt,hp,ofV,constT,intT,lm]
 refine WO_nil ?_
 refine W_ret ?_
 obtain rfl := Option.some.inj H
 exact told3 rfl
theorem spec_l1PickInt_ok {a1 : L1Cur} {a2 : List Int} {r : Int × L1Cur} (H : spec_l1PickInt a1 a2 = some r) : R 72 [.p [(cL eU a1.b, none), (cI .i64 a1.i, none), (cI .i64 a1.h, none)], .c (cL eI a2) none] = some (.c (cI .i64 r.1) none, [some [(cL eU r.2.b, none), (cI .i64 r.2.i, none), (cI .i64 r.2.h, none)]]) := by
 unfold spec_l1PickInt at H
 refine Fz_walk 12 rfl rfl Try.func72 rfl (by kernel_rfl) rfl rfl rfl rfl ?_
 simp only [tellVs, tellV, tells, tell, st0, padT, SX.newRow, SX.newBox, List.length_cons, List.length_nil, Nat.reduceAdd, Nat.reduceSub, List.replicate, List.cons_append, List.nil_append, List.foldl_cons, List.foldl_nil]
 refine W_seq (W_region ?_)
 refine WO_op rfl rfl rfl ?_; simp only [putT,st,ev,gt,hp,ofV,constT,intT,lm]
 refine WO_nil (W_seq (W_region ?_))
 iterate 4 (refine WO_op rfl rfl rfl ?_; simp only [putT,st,ev,gt,hp,ofV,constT,intT,lm])
 obtain ⟨x3, hx3, H⟩ := bnd H
 refine WO_op (x := qi x3.1) (σ' := ⟨[], [some [.c (cL eU x3.2.b), qi x3.2.i, qi x3.2.h]], []⟩) rfl rfl (ev_callG (al := [.bp 0 0, qi (a2.length : Int)]) (ls := [.b 0]) (spec_l1Below_ok hx3) rfl rfl rfl rfl rfl (by decide) rfl rfl rfl rfl rfl rfl) ?_; simp only [putT,st,ev,gt,hp,ofV,constT,intT,lm]
 obtain ⟨x4, hx4, H⟩ := bnd H
 refine WO_op rfl rfl (ev_ix (en := eI) hx4 rfl rfl rfl rfl rfl rfl rfl) ?_; simp only [putT,st,ev,gt,hp,ofV,constT,intT,lm]
 refine WO_op (x := qi x4) rfl rfl rfl ?_
 refine WO_op rfl rfl rfl ?_; simp only [putT,st,ev,gt,hp,ofV,constT,intT,lm]
 refine WO_nil ?_
 refine W_ret ?_
 obtain rfl := Option.some.inj H
 exact told3 rfl
theorem spec_l6DrawMetric_ok {a1 : L1Cur} {r : Metric × L1Cur} (H : spec_l6DrawMetric a1 = some r) : R 132 [.p [(cL eU a1.b, none), (cI .i64 a1.i, none), (cI .i64 a1.h, none)]] = some (.ag [(cS r.1.Name, none), (cI .i64 r.1.Kind, none), (cI .i64 r.1.Goal, none)], [some [(cL eU r.2.b, none), (cI .i64 r.2.i, none), (cI .i64 r.2.h, none)]]) := by
 unfold spec_l6DrawMetric at H
 refine Fz_walk 17 rfl rfl Try.func132 rfl (by kernel_rfl) rfl rfl rfl rfl ?_
 simp only [tellVs, tellV, tells, tell, st0, padT, SX.newRow, SX.newBox, List.length_cons, List.length_nil, Nat.reduceAdd, Nat.reduceSub, List.replicate, List.cons_append, List.nil_append, List.foldl_cons, List.foldl_nil]
 refine W_seq (W_region ?_)
 refine WO_op (x := .bp 1 0) (σ' := ⟨[], [some [.c (cL eU a1.b), qi a1.i, qi a1.h], some [qs [], qi 0, qi 0]], []⟩) rfl rfl rfl ?_; simp only [putT,st,ev,gt,hp,ofV,constT,intT,lm]
 refine WO_nil (W_seq (W_region ?_))
 refine WO_op rfl rfl rfl ?_; simp only [putT,st,ev,gt,hp,ofV,constT,intT,lm]
 refine WO_op (x := .row 0) (σ' := ⟨[], [some [.c (cL eU a1.b), qi a1.i, qi a1.h], some [qs [], qi 0, qi 0]], [rr 1 eS kl0 true]⟩) rfl rfl (by kernel_rfl) ?_; simp only [putT,st,ev,gt,hp,ofV,constT,intT,lm]
 obtain ⟨x2, hx2, H⟩ := bnd H
 refine WO_op (x := qs x2.1) (σ' := ⟨[], [some [.c (cL eU x2.2.b), qi x2.2.i, qi x2.2.h], some [qs [], qi 0, qi 0]], [rr 1 eS kl0 false]⟩) rfl rfl (ev_callG (al := [.bp 0 0, .row 0]) (ls := [.b 0]) (spec_l1Pick_ok hx2) rfl rfl rfl rfl rfl (by decide) rfl rfl rfl rfl rfl rfl) ?_; simp only [putT,st,ev,gt,hp,ofV,constT,intT,lm]
 refine WO_op rfl rfl rfl ?_; simp only [putT,st,ev,gt,hp,ofV,constT,intT,lm]
 refine WO_nil (W_seq (W_region ?_))
 refine WO_op rfl rfl rfl ?_; simp only [putT,st,ev,gt,hp,ofV,constT,intT,lm]
 obtain ⟨x3, hx3, H⟩ := bnd H
 refine WO_op (x := qi x3.1) (σ' := ⟨[], [some [.c (cL eU x3.2.b), qi x3.2.i, qi x3.2.h], some [qs [], qi 0, qi 0]], [rr 1 eS kl0 false]⟩) rfl rfl (ev_callG (al := [.bp 0 0, qi 3]) (ls := [.b 0]) (spec_l1Below_ok hx3) rfl rfl rfl rfl rfl (by decide) rfl rfl rfl rfl rfl rfl) ?_; simp only [putT,st,ev,gt,hp,ofV,constT,intT,lm]
 iterate 2 (refine WO_op rfl rfl rfl ?_; simp only [putT,st,ev,gt,hp,ofV,constT,intT,lm])
 refine WO_nil (W_seq (W_region ?_))
 iterate 3 (refine WO_op rfl rfl rfl ?_; simp only [putT,st,ev,gt,hp,ofV,constT,intT,lm])
 refine WO_op (x := .row 1) (σ' := ⟨[], [some [.c (cL eU x3.2.b), qi x3.2.i, qi x3.2.h], some [qs [], qi 0, qi 0]], [rr 1 eS kl0 false, rr 1 eI kl1 true]⟩) rfl rfl (by kernel_rfl) ?_; simp only [putT,st,ev,gt,hp,ofV,constT,intT,lm]
 obtain ⟨x4, hx4, H⟩ := bnd H
 refine WO_op (x := qi x4.1) (σ' := ⟨[], [some [.c (cL eU x4.2.b), qi x4.2.i, qi x4.2.h], some [qs [], qi 0, qi 0]], [rr 1 eS kl0 false, rr 1 eI kl1 false]⟩) rfl rfl (ev_callG (al := [.bp 0 0, .row 1]) (ls := [.b 0]) (spec_l1PickInt_ok hx4) rfl rfl rfl rfl rfl (by decide) rfl rfl rfl rfl rfl rfl) ?_; simp only [putT,st,ev,gt,hp,ofV,constT,intT,lm]
 refine WO_op (x := .ag [qs x2.1, qi (IntKind.i64.wrap (1 + x3.1)), qi x4.1]) rfl rfl rfl ?_
 refine WO_op (x := .no) (σ' := ⟨[], [some [.c (cL eU x4.2.b), qi x4.2.i, qi x4.2.h], some [qs x2.1, qi (IntKind.i64.wrap (1 + x3.1)), qi x4.1]], [rr 1 eS kl0 false, rr 1 eI kl1 false]⟩) rfl rfl rfl ?_; simp only [putT,st,ev,gt,hp,ofV,constT,intT,lm]
 refine WO_nil ?_
 refine W_ret ?_
 obtain rfl := Option.some.inj H
 exact told3 rfl
theorem spec_DrawMetricOk_ok {a1 : List Int} {r : Metric} (H : spec_DrawMetricOk a1 = some r) : R 78 [.c (cL eU a1) none] = some (.ag [(cS r.Name, none), (cI .i64 r.Kind, none), (cI .i64 r.Goal, none)], []) := by
 unfold spec_DrawMetricOk at H
 refine Fz_walk 24 rfl rfl Try.func78 rfl (by kernel_rfl) rfl rfl rfl rfl ?_
 simp only [tellVs, tellV, tells, tell, st0, padT, SX.newRow, SX.newBox, List.length_cons, List.length_nil, Nat.reduceAdd, Nat.reduceSub, List.replicate, List.cons_append, List.nil_append, List.foldl_cons, List.foldl_nil]
 refine W_seq (W_region ?_)
 refine WO_op (x := .bp 0 0) (σ' := ⟨[], [some [qs [], qi 0, qi 0]], []⟩) rfl rfl rfl ?_; simp only [putT,st,ev,gt,hp,ofV,constT,intT,lm]
 refine WO_nil (W_seq (W_region ?_))
 refine WO_op rfl rfl rfl ?_; simp only [putT,st,ev,gt,hp,ofV,constT,intT,lm]
 obtain ⟨x2, hx2, H⟩ := bnd H
 refine WO_op (x := .bp 1 0) (σ' := ⟨[], [some [qs [], qi 0, qi 0], some [.c (cL eU x2.b), qi x2.i, qi x2.h]], []⟩) rfl rfl (ev_callG (al := [.c (cL eU a1)]) (ls := []) (spec_l1New_ok hx2) rfl rfl rfl rfl rfl (by decide) rfl rfl rfl rfl rfl rfl) ?_; simp only [putT,st,ev,gt,hp,ofV,constT,intT,lm]
 refine WO_op rfl rfl rfl ?_; simp only [putT,st,ev,gt,hp,ofV,constT,intT,lm]
 refine WO_nil (W_seq (W_region ?_))
 refine WO_op rfl rfl rfl ?_; simp only [putT,st,ev,gt,hp,ofV,constT,intT,lm]
 obtain ⟨x3, hx3, H⟩ := bnd H
 refine WO_op (x := .ag [qs x3.1.Name, qi x3.1.Kind, qi x3.1.Goal]) (σ' := ⟨[], [some [qs [], qi 0, qi 0], some [.c (cL eU x3.2.b), qi x3.2.i, qi x3.2.h]], []⟩) rfl rfl (ev_callG (al := [.bp 1 0]) (ls := [.b 1]) (spec_l6DrawMetric_ok hx3) rfl rfl rfl rfl rfl (by decide) rfl rfl rfl rfl rfl rfl) ?_; simp only [putT,st,ev,gt,hp,ofV,constT,intT,lm]
 refine WO_op (x := .bp 2 0) (σ' := ⟨[], [some [qs [], qi 0, qi 0], some [.c (cL eU x3.2.b), qi x3.2.i, qi x3.2.h], some [qs [], qi 0, qi 0]], []⟩) rfl rfl rfl ?_
 refine WO_op (x := .no) (σ' := ⟨[], [some [qs [], qi 0, qi 0], some [.c (cL eU x3.2.b), qi x3.2.i, qi x3.2.h], some [qs x3.1.Name, qi x3.1.Kind, qi x3.1.Goal]], []⟩) rfl rfl rfl ?_; simp only [putT,st,ev,gt,hp,ofV,constT,intT,lm]
 refine WO_nil (W_seq (W_seq (W_region ?_)))
 refine WO_op rfl rfl rfl ?_; simp only [putT,st,ev,gt,hp,ofV,constT,intT,lm]
 obtain ⟨x4, hx4, H⟩ := bnd H
 refine WO_op (x := qi x4.1) (σ' := ⟨[], [some [qs [], qi 0, qi 0], some [.c (cL eU x4.2.b), qi x4.2.i, qi x4.2.h], some [qs x3.1.Name, qi x3.1.Kind, qi x3.1.Goal]], []⟩) rfl rfl (ev_callG (al := [.bp 1 0, qi 5]) (ls := [.b 1]) (spec_l1Below_ok hx4) rfl rfl rfl rfl rfl (by decide) rfl rfl rfl rfl rfl rfl) ?_; simp only [putT,st,ev,gt,hp,ofV,constT,intT,lm]
 refine WO_nil ?_
 refine W_block ?_
 refine W_seq (W_region ?_)
 iterate 2 (refine WO_op rfl rfl rfl ?_; simp only [putT,st,ev,gt,hp,ofV,constT,intT,lm])
 refine WO_nil ?_
 refine W_cond rfl (fun hc => ?_) (fun hc => ?_)
 ·
  replace H := tr hc H
  refine W_region ?_
  refine WO_op rfl rfl rfl ?_; simp only [putT,st,ev,gt,hp,ofV,constT,intT,lm]
  obtain ⟨x5, hx5, H⟩ := bnd H
  refine WO_op (x := qi x5.1) (σ' := ⟨[], [some [qs [], qi 0, qi 0], some [.c (cL eU x5.2.b), qi x5.2.i, qi x5.2.h], some [qs x3.1.Name, qi x3.1.Kind, qi x3.1.Goal]], []⟩) rfl rfl (ev_callG (al := [.bp 1 0, qi 6]) (ls := [.b 1]) (spec_l1Below_ok hx5) rfl rfl rfl rfl rfl (by decide) rfl rfl rfl rfl rfl rfl) ?_; simp only [putT,st,ev,gt,hp,ofV,constT,intT,lm]
  refine WO_op rfl rfl rfl ?_
  refine WO_op (x := .bp 2 1) rfl rfl rfl ?_
  refine WO_op (x := .no) (σ' := ⟨[], [some [qs [], qi 0, qi 0], some [.c (cL eU x5.2.b), qi x5.2.i, qi x5.2.h], some [qs x3.1.Name, qi (IntKind.i64.wrap (x5.1 - 1)), qi x3.1.Goal]], []⟩) rfl rfl rfl ?_; simp only [putT,st,ev,gt,hp,ofV,constT,intT,lm]
  refine WO_nil (W_seq (W_region ?_))
  refine WO_op (x := .ag [qs x3.1.Name, qi (IntKind.i64.wrap (x5.1 - 1)), qi x3.1.Goal]) rfl rfl rfl ?_
  refine WO_op (x := .no) (σ' := ⟨[], [some [qs x3.1.Name, qi (IntKind.i64.wrap (x5.1 - 1)), qi x3.1.Goal], some [.c (cL eU x5.2.b), qi x5.2.i, qi x5.2.h], some [qs x3.1.Name, qi (IntKind.i64.wrap (x5.1 - 1)), qi x3.1.Goal]], []⟩) rfl rfl rfl ?_; simp only [putT,st,ev,gt,hp,ofV,constT,intT,lm]
  refine WO_nil ?_
  refine W_ret ?_
  obtain rfl := Option.some.inj H
  exact told3 rfl
 ·
  replace H := fl hc H
  refine W_seq (W_region ?_)
  iterate 2 (refine WO_op rfl rfl rfl ?_; simp only [putT,st,ev,gt,hp,ofV,constT,intT,lm])
  refine WO_nil ?_
  refine W_cond rfl (fun hc => ?_) (fun hc => ?_)
  ·
   replace H := tr hc H
   refine W_region ?_
   refine WO_op rfl rfl rfl ?_; simp only [putT,st,ev,gt,hp,ofV,constT,intT,lm]
   refine WO_op (x := .row 0) (σ' := ⟨[], [some [qs [], qi 0, qi 0], some [.c (cL eU x4.2.b), qi x4.2.i, qi x4.2.h], some [qs x3.1.Name, qi x3.1.Kind, qi x3.1.Goal]], [rr 1 eI kl2 true]⟩) rfl rfl (by kernel_rfl) ?_; simp only [putT,st,ev,gt,hp,ofV,constT,intT,lm]
   obtain ⟨x6, hx6, H⟩ := bnd H
   refine WO_op (x := qi x6.1) (σ' := ⟨[], [some [qs [], qi 0, qi 0], some [.c (cL eU x6.2.b), qi x6.2.i, qi x6.2.h], some [qs x3.1.Name, qi x3.1.Kind, qi x3.1.Goal]], [rr 1 eI kl2 false]⟩) rfl rfl (ev_callG (al := [.bp 1 0, .row 0]) (ls := [.b 1]) (spec_l1PickInt_ok hx6) rfl rfl rfl rfl rfl (by decide) rfl rfl rfl rfl rfl rfl) ?_; simp only [putT,st,ev,gt,hp,ofV,constT,intT,lm]
   refine WO_op (x := .bp 2 2) rfl rfl rfl ?_
   refine WO_op (x := .no) (σ' := ⟨[], [some [qs [], qi 0, qi 0], some [.c (cL eU x6.2.b), qi x6.2.i, qi x6.2.h], some [qs x3.1.Name, qi x3.1.Kind, qi x6.1]], [rr 1 eI kl2 false]⟩) rfl rfl rfl ?_; simp only [putT,st,ev,gt,hp,ofV,constT,intT,lm]
   refine WO_nil (W_seq (W_region ?_))
   refine WO_op (x := .ag [qs x3.1.Name, qi x3.1.Kind, qi x6.1]) rfl rfl rfl ?_
   refine WO_op (x := .no) (σ' := ⟨[], [some [qs x3.1.Name, qi x3.1.Kind, qi x6.1], some [.c (cL eU x6.2.b), qi x6.2.i, qi x6.2.h], some [qs x3.1.Name, qi x3.1.Kind, qi x6.1]], [rr 1 eI kl2 false]⟩) rfl rfl rfl ?_; simp only [putT,st,ev,gt,hp,ofV,constT,intT,lm]
   refine WO_nil ?_
   refine W_ret ?_
   obtain rfl := Option.some.inj H
   exact told3 rfl
  ·
   replace H := fl hc H
   refine W_skip ?_
   refine W_seq (W_region ?_)
   refine WO_op (x := .ag [qs x3.1.Name, qi x3.1.Kind, qi x3.1.Goal]) rfl rfl rfl ?_
   refine WO_op (x := .no) (σ' := ⟨[], [some [qs x3.1.Name, qi x3.1.Kind, qi x3.1.Goal], some [.c (cL eU x4.2.b), qi x4.2.i, qi x4.2.h], some [qs x3.1.Name, qi x3.1.Kind, qi x3.1.Goal]], []⟩) rfl rfl rfl ?_; simp only [putT,st,ev,gt,hp,ofV,constT,intT,lm]
   refine WO_nil ?_
   refine W_ret ?_
   obtain rfl := Option.some.inj H
   exact told3 rfl
theorem spec_DrawByOne_ok {a1 : List Int} {r : Metric × Int × Int} (H : spec_DrawByOne a1 = some r) : R 24 [.c (cL eU a1) none] = some (.tu [.ag [(cS r.1.Name, none), (cI .i64 r.1.Kind, none), (cI .i64 r.1.Goal, none)], .c (cI .i64 r.2.1) none, .c (cI .i64 r.2.2) none], []) := by
 unfold spec_DrawByOne at H
 refine Fz_walk 20 rfl rfl Try.func24 rfl (by kernel_rfl) rfl rfl rfl rfl ?_
 simp only [tellVs, tellV, tells, tell, st0, padT, SX.newRow, SX.newBox, List.length_cons, List.length_nil, Nat.reduceAdd, Nat.reduceSub, List.replicate, List.cons_append, List.nil_append, List.foldl_cons, List.foldl_nil]
 refine W_seq (W_region ?_)
 refine WO_op (x := .bp 0 0) (σ' := ⟨[], [some [qs [], qi 0, qi 0]], []⟩) rfl rfl rfl ?_; simp only [putT,st,ev,gt,hp,ofV,constT,intT,lm]
 iterate 2 (refine WO_op rfl rfl rfl ?_; simp only [putT,st,ev,gt,hp,ofV,constT,intT,lm])
 refine WO_nil (W_seq (W_region ?_))
 refine WO_op rfl rfl rfl ?_; simp only [putT,st,ev,gt,hp,ofV,constT,intT,lm]
 obtain ⟨x2, hx2, H⟩ := bnd H
 refine WO_op (x := .bp 1 0) (σ' := ⟨[], [some [qs [], qi 0, qi 0], some [.c (cL eU x2.b), qi x2.i, qi x2.h]], []⟩) rfl rfl (ev_callG (al := [.c (cL eU a1)]) (ls := []) (spec_l1New_ok hx2) rfl rfl rfl rfl rfl (by decide) rfl rfl rfl rfl rfl rfl) ?_; simp only [putT,st,ev,gt,hp,ofV,constT,intT,lm]
 refine WO_op rfl rfl rfl ?_; simp only [putT,st,ev,gt,hp,ofV,constT,intT,lm]
 refine WO_nil (W_seq (W_region ?_))
 refine WO_op rfl rfl rfl ?_; simp only [putT,st,ev,gt,hp,ofV,constT,intT,lm]
 obtain ⟨x3, hx3, H⟩ := bnd H
 refine WO_op (x := .ag [qs x3.Name, qi x3.Kind, qi x3.Goal]) (σ' := ⟨[], [some [qs [], qi 0, qi 0], some [.c (cL eU x2.b), qi x2.i, qi x2.h]], []⟩) rfl rfl (ev_callG (al := [.c (cL eU a1)]) (ls := []) (spec_DrawMetricOk_ok hx3) rfl rfl rfl rfl rfl (by decide) rfl rfl rfl rfl rfl rfl) ?_; simp only [putT,st,ev,gt,hp,ofV,constT,intT,lm]
 refine WO_op (x := .bp 2 0) (σ' := ⟨[], [some [qs [], qi 0, qi 0], some [.c (cL eU x2.b), qi x2.i, qi x2.h], some [qs [], qi 0, qi 0]], []⟩) rfl rfl rfl ?_
 refine WO_op (x := .no) (σ' := ⟨[], [some [qs [], qi 0, qi 0], some [.c (cL eU x2.b), qi x2.i, qi x2.h], some [qs x3.Name, qi x3.Kind, qi x3.Goal]], []⟩) rfl rfl rfl ?_; simp only [putT,st,ev,gt,hp,ofV,constT,intT,lm]
 refine WO_nil (W_seq (W_region ?_))
 refine WO_op rfl rfl rfl ?_; simp only [putT,st,ev,gt,hp,ofV,constT,intT,lm]
 refine WO_op (x := .row 0) (σ' := ⟨[], [some [qs [], qi 0, qi 0], some [.c (cL eU x2.b), qi x2.i, qi x2.h], some [qs x3.Name, qi x3.Kind, qi x3.Goal]], [rr 1 eI kl3 true]⟩) rfl rfl (by kernel_rfl) ?_; simp only [putT,st,ev,gt,hp,ofV,constT,intT,lm]
 obtain ⟨x4, hx4, H⟩ := bnd H
 refine WO_op (x := qi x4.1) (σ' := ⟨[], [some [qs [], qi 0, qi 0], some [.c (cL eU x4.2.b), qi x4.2.i, qi x4.2.h], some [qs x3.Name, qi x3.Kind, qi x3.Goal]], [rr 1 eI kl3 false]⟩) rfl rfl (ev_callG (al := [.bp 1 0, .row 0]) (ls := [.b 1]) (spec_l1PickInt_ok hx4) rfl rfl rfl rfl rfl (by decide) rfl rfl rfl rfl rfl rfl) ?_; simp only [putT,st,ev,gt,hp,ofV,constT,intT,lm]
 refine WO_op rfl rfl rfl ?_; simp only [putT,st,ev,gt,hp,ofV,constT,intT,lm]
 refine WO_nil (W_seq ?_)
 refine W_drawL (by kernel_rfl) (by decide +kernel) ?_
 refine WL_op (x := .ag [qs x3.Name, qi x3.Kind, qi x3.Goal]) rfl rfl rfl rfl ?_; simp only [putT,st,ev,gt,hp,ofV,constT,intT,lm]
 iterate 2 (refine WL_op rfl rfl rfl rfl ?_; simp only [putT,st,ev,gt,hp,ofV,constT,intT,lm])
 refine WL_op (x := .row 1) (σ' := ⟨[], [some [qs [], qi 0, qi 0], some [.c (cL eU x4.2.b), qi x4.2.i, qi x4.2.h], some [qs x3.Name, qi x3.Kind, qi x3.Goal]], [rr 1 eI kl3 false, rr 1 eI kl4 true]⟩) rfl rfl rfl (by kernel_rfl) ?_; simp only [putT,st,ev,gt,hp,ofV,constT,intT,lm]
 obtain ⟨x5, hx5, H⟩ := bnd H
 refine WL_op (x := qi x5.1) (σ' := ⟨[], [some [qs [], qi 0, qi 0], some [.c (cL eU x5.2.b), qi x5.2.i, qi x5.2.h], some [qs x3.Name, qi x3.Kind, qi x3.Goal]], [rr 1 eI kl3 false, rr 1 eI kl4 false]⟩) rfl rfl rfl (ev_callG (al := [.bp 1 0, .row 1]) (ls := [.b 1]) (spec_l1PickInt_ok hx5) rfl rfl rfl rfl rfl (by decide) rfl rfl rfl rfl rfl rfl) ?_; simp only [putT,st,ev,gt,hp,ofV,constT,intT,lm]
 refine WL_op (x := .no) (σ' := ⟨[], [some [qs x3.Name, qi x3.Kind, qi x3.Goal], some [.c (cL eU x5.2.b), qi x5.2.i, qi x5.2.h], some [qs x3.Name, qi x3.Kind, qi x3.Goal]], [rr 1 eI kl3 false, rr 1 eI kl4 false]⟩) rfl rfl rfl rfl ?_; simp only [putT,st,ev,gt,hp,ofV,constT,intT,lm]
 iterate 2 (refine WL_op rfl rfl rfl rfl ?_; simp only [putT,st,ev,gt,hp,ofV,constT,intT,lm])
 refine WL_nil (by kernel_rfl) ?_
 refine W_ret ?_
 obtain rfl := Option.some.inj H
 exact told3 rfl
theorem impl_isDigit_ok {a1 : Int} {r : Bool} (H : impl_isDigit a1 = some r) : R 134 [.c (cI .u8 a1) none] = some (.c (cB r) none, []) := by
 unfold impl_isDigit at H
 refine Fz_walk 9 rfl rfl Try.func134 rfl (by kernel_rfl) rfl rfl rfl rfl ?_
 simp only [tellVs, tellV, tells, tell, st0, padT, SX.newRow, SX.newBox, List.length_cons, List.length_nil, Nat.reduceAdd, Nat.reduceSub, List.replicate, List.cons_append, List.nil_append, List.foldl_cons, List.foldl_nil]
 refine W_seq (W_region ?_)
 refine WO_op rfl rfl rfl ?_; simp only [putT,st,ev,gt,hp,ofV,constT,intT,lm]
 refine WO_nil (W_seq (W_region ?_))
 iterate 3 (refine WO_op rfl rfl rfl ?_; simp only [putT,st,ev,gt,hp,ofV,constT,intT,lm])
 refine WO_if rfl rfl rfl (fun hc => ?_) (fun hc => ?_)
 ·
  replace H := tr hc H
  simp only [putT,st,ev,gt,hp,ofV,constT,intT,lm]
  iterate 2 (refine WO_want rfl rfl rfl ?_; simp only [putT,st,ev,gt,hp,ofV,constT,intT,lm])
  refine WO_op (x := qb (decide (a1 ≤ 57))) rfl rfl rfl ?_
  refine WO_op rfl rfl rfl ?_; simp only [putT,st,ev,gt,hp,ofV,constT,intT,lm]
  refine WO_nil ?_
  refine W_ret ?_
  obtain rfl := Option.some.inj H
  exact told3 rfl
 ·
  replace H := fl hc H
  simp only [putT,st,ev,gt,hp,ofV,constT,intT,lm]
  iterate 2 refine WO_skip rfl rfl ?_
  refine WO_op (x := qb false) rfl rfl rfl ?_
  refine WO_op rfl rfl rfl ?_; simp only [putT,st,ev,gt,hp,ofV,constT,intT,lm]
  refine WO_nil ?_
  refine W_ret ?_
  obtain rfl := Option.some.inj H
  exact told3 rfl
theorem impl_from_ok {a1 : Int} {a2 : Int} {a3 : Int} {r : Bool} (H : impl_from a1 a2 a3 = some r) : R 77 [.c (cI .i64 a1) none, .c (cI .i64 a2) none, .c (cI .i64 a3) none] = some (.c (cB r) none, []) := by
 unfold impl_from at H
 refine Fz_walk 15 rfl rfl Try.func77 rfl (by kernel_rfl) rfl rfl rfl rfl ?_
 simp only [tellVs, tellV, tells, tell, st0, padT, SX.newRow, SX.newBox, List.length_cons, List.length_nil, Nat.reduceAdd, Nat.reduceSub, List.replicate, List.cons_append, List.nil_append, List.foldl_cons, List.foldl_nil]
 refine W_seq (W_region ?_)
 refine WO_op rfl rfl rfl ?_; simp only [putT,st,ev,gt,hp,ofV,constT,intT,lm]
 refine WO_nil (W_seq (W_region ?_))
 iterate 4 (refine WO_op rfl rfl rfl ?_; simp only [putT,st,ev,gt,hp,ofV,constT,intT,lm])
 refine WO_if rfl rfl rfl (fun hc => ?_) (fun hc => ?_)
 ·
  replace H := tr hc H
  simp only [putT,st,ev,gt,hp,ofV,constT,intT,lm]
  iterate 3 (refine WO_want rfl rfl rfl ?_; simp only [putT,st,ev,gt,hp,ofV,constT,intT,lm])
  refine WO_op (x := qb (decide (a1 ≤ a3))) rfl rfl rfl ?_
  refine WO_op rfl rfl rfl ?_; simp only [putT,st,ev,gt,hp,ofV,constT,intT,lm]
  refine WO_nil ?_
  refine W_ret ?_
  obtain rfl := Option.some.inj H
  exact told3 rfl
 ·
  replace H := fl hc H
  simp only [putT,st,ev,gt,hp,ofV,constT,intT,lm]
  iterate 3 refine WO_skip rfl rfl ?_
  refine WO_op (x := qb false) rfl rfl rfl ?_
  refine WO_op rfl rfl rfl ?_; simp only [putT,st,ev,gt,hp,ofV,constT,intT,lm]
  refine WO_nil ?_
  refine W_ret ?_
  obtain rfl := Option.some.inj H
  exact told3 rfl
theorem impl_NameOk_ok {a1 : Str} {r : Bool} (H : impl_NameOk a1 = some r) : R 83 [.c (cS a1) none] = some (.c (cB r) none, []) := by
 unfold impl_NameOk at H
 refine Fz_walk 43 rfl rfl Try.func83 rfl (by kernel_rfl) rfl rfl rfl rfl ?_
 simp only [tellVs, tellV, tells, tell, st0, padT, SX.newRow, SX.newBox, List.length_cons, List.length_nil, Nat.reduceAdd, Nat.reduceSub, List.replicate, List.cons_append, List.nil_append, List.foldl_cons, List.foldl_nil]
 refine W_seq (W_region ?_)
 refine WO_op rfl rfl rfl ?_; simp only [putT,st,ev,gt,hp,ofV,constT,intT,lm]
 refine WO_nil (W_seq (W_seq (W_region ?_)))
 refine WO_op rfl rfl rfl ?_
 refine WO_op (x := qi (a1.length : Int)) rfl rfl rfl ?_
 refine WO_op rfl rfl rfl ?_; simp only [putT,st,ev,gt,hp,ofV,constT,intT,lm]
 refine WO_nil ?_
 refine W_block ?_
 obtain ⟨s13, hs13, H⟩ := bnd H
 refine loop_rule (ls := []) 0 (fun t11 : Unit => ⟨[qs a1], [], []⟩) (fun t => s13 = .inr t) ⟨[qs a1, .no, .no, .no, .no, .no, qi (a1.length : Int), qi 0], [], []⟩ (by repeat (first | exact mono_told | refine mono_seq ?_ | refine mono_blk ?_ | refine mono_lp ?_)) (le_intro [] [] (by decide) (by decide) rfl (by simp [leS, leT, leA, gt]) (by simp [leB, leT, leA]) (by simp [leR])) ?_ ?_
 ·
  rintro t11 rfl
  refine W_seq (W_region ?_)
  refine WO_op rfl rfl rfl ?_
  refine WO_op (x := qi (a1.length : Int)) rfl rfl rfl ?_; simp only [putT,st,ev,gt,hp,ofV,constT,intT,lm]
  obtain ⟨x12, hx12, H⟩ := bnd H
  refine WO_op (x := qb x12) (σ' := ⟨[], [], []⟩) rfl rfl (ev_callG (al := [qi (a1.length : Int), qi 1, qi 20]) (ls := []) (impl_from_ok hx12) rfl rfl rfl rfl rfl (by decide) rfl rfl rfl rfl rfl rfl) ?_; simp only [putT,st,ev,gt,hp,ofV,constT,intT,lm]
  refine WO_op rfl rfl rfl ?_; simp only [putT,st,ev,gt,hp,ofV,constT,intT,lm]
  refine WO_nil ?_
  refine W_ret ?_
  obtain rfl := Option.some.inj H
  exact told3 rfl
 ·
  intro V1 hV1 hW1 hX1
  refine (impl_NameOk.l0.partial_correctness a1 (fun v2 s' => s' = s13 → (V1 ⟨[qs a1, .no, .no, .no, .no, .no, qi (a1.length : Int), qi v2], [], []⟩)) ?_ _ _ hs13 rfl)
  intro l0 IH1 v2 s' H1 e
  subst e
  refine hV1 _ ?_
  refine W_seq (W_region ?_)
  refine WO_op rfl rfl rfl ?_; simp only [putT,st,ev,gt,hp,ofV,constT,intT,lm]
  refine WO_nil (W_seq ?_)
  refine W_cond rfl (fun hc => ?_) (fun hc => ?_)
  ·
   replace H1 := tr hc H1
   refine W_skip ?_
   refine W_seq ?_
   refine W_block ?_
   refine W_seq (W_region ?_)
   iterate 2 (refine WO_op rfl rfl rfl ?_; simp only [putT,st,ev,gt,hp,ofV,constT,intT,lm])
   refine WO_nil (W_seq (W_region ?_))
   iterate 2 (refine WO_op rfl rfl rfl ?_; simp only [putT,st,ev,gt,hp,ofV,constT,intT,lm])
   obtain ⟨c3, hc3, H1⟩ := bnd H1
   refine WO_op rfl rfl (ev_sx hc3 rfl rfl rfl rfl) ?_; simp only [putT,st,ev,gt,hp,ofV,constT,intT,lm]
   iterate 2 (refine WO_op rfl rfl rfl ?_; simp only [putT,st,ev,gt,hp,ofV,constT,intT,lm])
   refine WO_if rfl rfl rfl (fun hc => ?_) (fun hc => ?_)
   ·
    replace H1 := tr hc H1
    simp only [putT,st,ev,gt,hp,ofV,constT,intT,lm]
    iterate 2 (refine WO_want rfl rfl rfl ?_; simp only [putT,st,ev,gt,hp,ofV,constT,intT,lm])
    obtain ⟨c4, hc4, H1⟩ := bnd H1
    refine WO_want rfl rfl (ev_sx hc4 rfl rfl rfl rfl) ?_; simp only [putT,st,ev,gt,hp,ofV,constT,intT,lm]
    refine WO_want rfl rfl rfl ?_
    refine WO_op (x := qb (decide ((byte c4) ≤ 122))) rfl rfl rfl ?_
    refine WO_op rfl rfl rfl ?_; simp only [putT,st,ev,gt,hp,ofV,constT,intT,lm]
    refine WO_nil (W_seq (W_region ?_))
    iterate 3 (refine WO_op rfl rfl rfl ?_; simp only [putT,st,ev,gt,hp,ofV,constT,intT,lm])
    refine WO_if rfl rfl rfl (fun hc => ?_) (fun hc => ?_)
    ·
     replace H1 := tr hc H1
     simp only [putT,st,ev,gt,hp,ofV,constT,intT,lm]
     iterate 3 (refine WO_want rfl rfl rfl ?_; simp only [putT,st,ev,gt,hp,ofV,constT,intT,lm])
     refine WO_if rfl rfl rfl (fun hc => ?_) (fun hc => ?_)
     ·
      replace H1 := tr hc H1
      simp only [putT,st,ev,gt,hp,ofV,constT,intT,lm]
      iterate 11 refine WO_skip rfl rfl ?_
      refine WO_want (x := qb true) rfl rfl rfl ?_
      refine WO_op (x := qb true) rfl rfl rfl ?_; simp only [putT,st,ev,gt,hp,ofV,constT,intT,lm]
      refine WO_nil ?_
      refine W_cond (t := true) rfl (fun _ => ?_) (fun h => by cases h)
      refine W_seq (W_region ?_)
      refine WO_op rfl rfl rfl ?_; simp only [putT,st,ev,gt,hp,ofV,constT,intT,lm]
      refine WO_nil ?_
      refine W_ret ?_
      obtain rfl := Option.some.inj H1
      obtain rfl := Option.some.inj H
      exact told3 rfl
     ·
      replace H1 := fl hc H1
      simp only [putT,st,ev,gt,hp,ofV,constT,intT,lm]
      iterate 2 (refine WO_want rfl rfl rfl ?_; simp only [putT,st,ev,gt,hp,ofV,constT,intT,lm])
      obtain ⟨c5, hc5, H1⟩ := bnd H1
      refine WO_want rfl rfl (ev_sx hc5 rfl rfl rfl rfl) ?_; simp only [putT,st,ev,gt,hp,ofV,constT,intT,lm]
      obtain ⟨x6, hx6, H1⟩ := bnd H1
      refine WO_want (x := qb x6) (σ' := ⟨[], [], []⟩) rfl rfl (ev_callG (al := [.c (cI .u8 (byte c5))]) (ls := []) (impl_isDigit_ok hx6) rfl rfl rfl rfl rfl (by decide) rfl rfl rfl rfl rfl rfl) ?_; simp only [putT,st,ev,gt,hp,ofV,constT,intT,lm]
      iterate 2 (refine WO_want rfl rfl rfl ?_; simp only [putT,st,ev,gt,hp,ofV,constT,intT,lm])
      refine WO_if rfl rfl rfl (fun hc => ?_) (fun hc => ?_)
      ·
       replace H1 := tr hc H1
       simp only [putT,st,ev,gt,hp,ofV,constT,intT,lm]
       iterate 2 (refine WO_want rfl rfl rfl ?_; simp only [putT,st,ev,gt,hp,ofV,constT,intT,lm])
       obtain ⟨c7, hc7, H1⟩ := bnd H1
       refine WO_want rfl rfl (ev_sx hc7 rfl rfl rfl rfl) ?_; simp only [putT,st,ev,gt,hp,ofV,constT,intT,lm]
       refine WO_want rfl rfl rfl ?_; simp only [putT,st,ev,gt,hp,ofV,constT,intT,lm]
       iterate 2 (refine WO_want (x := qb ((byte c7) != 45)) rfl rfl rfl ?_; simp only [putT,st,ev,gt,hp,ofV,constT,intT,lm])
       refine WO_op (x := qb ((byte c7) != 45)) rfl rfl rfl ?_; simp only [putT,st,ev,gt,hp,ofV,constT,intT,lm]
       refine WO_nil ?_
       refine W_cond rfl (fun hc => ?_) (fun hc => ?_)
       ·
        replace H1 := tr hc H1
        refine W_seq (W_region ?_)
        refine WO_op rfl rfl rfl ?_; simp only [putT,st,ev,gt,hp,ofV,constT,intT,lm]
        refine WO_nil ?_
        refine W_ret ?_
        obtain rfl := Option.some.inj H1
        obtain rfl := Option.some.inj H
        exact told3 rfl
       ·
        replace H1 := fl hc H1
        refine W_skip ?_
        refine W_region ?_
        iterate 2 (refine WO_op rfl rfl rfl ?_; simp only [putT,st,ev,gt,hp,ofV,constT,intT,lm])
        refine WO_nil ?_
        exact hW1 _ _ ((IH1 _ _ H1 rfl)) (le_intro [] [] (by decide) (by decide) rfl (by simp [leS, leT, leA, gt]) (by simp [leB, leT, leA]) (by simp [leR]))
      ·
       replace H1 := fl hc H1
       simp only [putT,st,ev,gt,hp,ofV,constT,intT,lm]
       iterate 4 refine WO_skip rfl rfl ?_
       simp only [putT,st,ev,gt,hp,ofV,constT,intT,lm]
       iterate 2 (refine WO_want (x := qb false) rfl rfl rfl ?_; simp only [putT,st,ev,gt,hp,ofV,constT,intT,lm])
       refine WO_op (x := qb false) rfl rfl rfl ?_; simp only [putT,st,ev,gt,hp,ofV,constT,intT,lm]
       refine WO_nil ?_
       refine W_cond (t := false) rfl (fun h => by cases h) (fun _ => ?_)
       refine W_skip ?_
       refine W_region ?_
       iterate 2 (refine WO_op rfl rfl rfl ?_; simp only [putT,st,ev,gt,hp,ofV,constT,intT,lm])
       refine WO_nil ?_
       exact hW1 _ _ ((IH1 _ _ H1 rfl)) (le_intro [] [] (by decide) (by decide) rfl (by simp [leS, leT, leA, gt]) (by simp [leB, leT, leA]) (by simp [leR]))
    ·
     replace H1 := fl hc H1
     simp only [putT,st,ev,gt,hp,ofV,constT,intT,lm]
     iterate 15 refine WO_skip rfl rfl ?_
     refine WO_op (x := qb false) rfl rfl rfl ?_; simp only [putT,st,ev,gt,hp,ofV,constT,intT,lm]
     refine WO_nil ?_
     refine W_cond (t := false) rfl (fun h => by cases h) (fun _ => ?_)
     refine W_skip ?_
     refine W_region ?_
     iterate 2 (refine WO_op rfl rfl rfl ?_; simp only [putT,st,ev,gt,hp,ofV,constT,intT,lm])
     refine WO_nil ?_
     exact hW1 _ _ ((IH1 _ _ H1 rfl)) (le_intro [] [] (by decide) (by decide) rfl (by simp [leS, leT, leA, gt]) (by simp [leB, leT, leA]) (by simp [leR]))
   ·
    replace H1 := fl hc H1
    simp only [putT,st,ev,gt,hp,ofV,constT,intT,lm]
    iterate 4 refine WO_skip rfl rfl ?_
    refine WO_op (x := qb false) rfl rfl rfl ?_
    refine WO_op rfl rfl rfl ?_; simp only [putT,st,ev,gt,hp,ofV,constT,intT,lm]
    refine WO_nil (W_seq (W_region ?_))
    iterate 3 (refine WO_op rfl rfl rfl ?_; simp only [putT,st,ev,gt,hp,ofV,constT,intT,lm])
    refine WO_if rfl rfl rfl (fun hc => ?_) (fun hc => ?_)
    ·
     replace H1 := tr hc H1
     simp only [putT,st,ev,gt,hp,ofV,constT,intT,lm]
     iterate 3 (refine WO_want rfl rfl rfl ?_; simp only [putT,st,ev,gt,hp,ofV,constT,intT,lm])
     refine WO_if rfl rfl rfl (fun hc => ?_) (fun hc => ?_)
     ·
      replace H1 := tr hc H1
      simp only [putT,st,ev,gt,hp,ofV,constT,intT,lm]
      iterate 11 refine WO_skip rfl rfl ?_
      refine WO_want (x := qb true) rfl rfl rfl ?_
      refine WO_op (x := qb true) rfl rfl rfl ?_; simp only [putT,st,ev,gt,hp,ofV,constT,intT,lm]
      refine WO_nil ?_
      refine W_cond (t := true) rfl (fun _ => ?_) (fun h => by cases h)
      refine W_seq (W_region ?_)
      refine WO_op rfl rfl rfl ?_; simp only [putT,st,ev,gt,hp,ofV,constT,intT,lm]
      refine WO_nil ?_
      refine W_ret ?_
      obtain rfl := Option.some.inj H1
      obtain rfl := Option.some.inj H
      exact told3 rfl
     ·
      replace H1 := fl hc H1
      simp only [putT,st,ev,gt,hp,ofV,constT,intT,lm]
      iterate 2 (refine WO_want rfl rfl rfl ?_; simp only [putT,st,ev,gt,hp,ofV,constT,intT,lm])
      obtain ⟨c8, hc8, H1⟩ := bnd H1
      refine WO_want rfl rfl (ev_sx hc8 rfl rfl rfl rfl) ?_; simp only [putT,st,ev,gt,hp,ofV,constT,intT,lm]
      obtain ⟨x9, hx9, H1⟩ := bnd H1
      refine WO_want (x := qb x9) (σ' := ⟨[], [], []⟩) rfl rfl (ev_callG (al := [.c (cI .u8 (byte c8))]) (ls := []) (impl_isDigit_ok hx9) rfl rfl rfl rfl rfl (by decide) rfl rfl rfl rfl rfl rfl) ?_; simp only [putT,st,ev,gt,hp,ofV,constT,intT,lm]
      iterate 2 (refine WO_want rfl rfl rfl ?_; simp only [putT,st,ev,gt,hp,ofV,constT,intT,lm])
      refine WO_if rfl rfl rfl (fun hc => ?_) (fun hc => ?_)
      ·
       replace H1 := tr hc H1
       simp only [putT,st,ev,gt,hp,ofV,constT,intT,lm]
       iterate 2 (refine WO_want rfl rfl rfl ?_; simp only [putT,st,ev,gt,hp,ofV,constT,intT,lm])
       obtain ⟨c10, hc10, H1⟩ := bnd H1
       refine WO_want rfl rfl (ev_sx hc10 rfl rfl rfl rfl) ?_; simp only [putT,st,ev,gt,hp,ofV,constT,intT,lm]
       refine WO_want rfl rfl rfl ?_; simp only [putT,st,ev,gt,hp,ofV,constT,intT,lm]
       iterate 2 (refine WO_want (x := qb ((byte c10) != 45)) rfl rfl rfl ?_; simp only [putT,st,ev,gt,hp,ofV,constT,intT,lm])
       refine WO_op (x := qb ((byte c10) != 45)) rfl rfl rfl ?_; simp only [putT,st,ev,gt,hp,ofV,constT,intT,lm]
       refine WO_nil ?_
       refine W_cond rfl (fun hc => ?_) (fun hc => ?_)
       ·
        replace H1 := tr hc H1
        refine W_seq (W_region ?_)
        refine WO_op rfl rfl rfl ?_; simp only [putT,st,ev,gt,hp,ofV,constT,intT,lm]
        refine WO_nil ?_
        refine W_ret ?_
        obtain rfl := Option.some.inj H1
        obtain rfl := Option.some.inj H
        exact told3 rfl
       ·
        replace H1 := fl hc H1
        refine W_skip ?_
        refine W_region ?_
        iterate 2 (refine WO_op rfl rfl rfl ?_; simp only [putT,st,ev,gt,hp,ofV,constT,intT,lm])
        refine WO_nil ?_
        exact hW1 _ _ ((IH1 _ _ H1 rfl)) (le_intro [] [] (by decide) (by decide) rfl (by simp [leS, leT, leA, gt]) (by simp [leB, leT, leA]) (by simp [leR]))
      ·
       replace H1 := fl hc H1
       simp only [putT,st,ev,gt,hp,ofV,constT,intT,lm]
       iterate 4 refine WO_skip rfl rfl ?_
       simp only [putT,st,ev,gt,hp,ofV,constT,intT,lm]
       iterate 2 (refine WO_want (x := qb false) rfl rfl rfl ?_; simp only [putT,st,ev,gt,hp,ofV,constT,intT,lm])
       refine WO_op (x := qb false) rfl rfl rfl ?_; simp only [putT,st,ev,gt,hp,ofV,constT,intT,lm]
       refine WO_nil ?_
       refine W_cond (t := false) rfl (fun h => by cases h) (fun _ => ?_)
       refine W_skip ?_
       refine W_region ?_
       iterate 2 (refine WO_op rfl rfl rfl ?_; simp only [putT,st,ev,gt,hp,ofV,constT,intT,lm])
       refine WO_nil ?_
       exact hW1 _ _ ((IH1 _ _ H1 rfl)) (le_intro [] [] (by decide) (by decide) rfl (by simp [leS, leT, leA, gt]) (by simp [leB, leT, leA]) (by simp [leR]))
    ·
     replace H1 := fl hc H1
     simp only [putT,st,ev,gt,hp,ofV,constT,intT,lm]
     iterate 15 refine WO_skip rfl rfl ?_
     refine WO_op (x := qb false) rfl rfl rfl ?_; simp only [putT,st,ev,gt,hp,ofV,constT,intT,lm]
     refine WO_nil ?_
     refine W_cond (t := false) rfl (fun h => by cases h) (fun _ => ?_)
     refine W_skip ?_
     refine W_region ?_
     iterate 2 (refine WO_op rfl rfl rfl ?_; simp only [putT,st,ev,gt,hp,ofV,constT,intT,lm])
     refine WO_nil ?_
     exact hW1 _ _ ((IH1 _ _ H1 rfl)) (le_intro [] [] (by decide) (by decide) rfl (by simp [leS, leT, leA, gt]) (by simp [leB, leT, leA]) (by simp [leR]))
  ·
   replace H1 := fl hc H1
   refine W_exit ?_
   obtain rfl := Option.some.inj H1
   exact hX1 () _ rfl (le_intro [] [] (by decide) (by decide) rfl (by simp [leS, leT, leA, gt]) (by simp [leB, leT, leA]) (by simp [leR]))
theorem impl_MetricOk_ok {a1 : Metric} {r : Bool} (H : impl_MetricOk a1 = some r) : R 30 [.ag [(cS a1.Name, none), (cI .i64 a1.Kind, none), (cI .i64 a1.Goal, none)]] = some (.c (cB r) none, []) := by
 unfold impl_MetricOk at H
 refine Fz_walk 16 rfl rfl Try.func30 rfl (by kernel_rfl) rfl rfl rfl rfl ?_
 simp only [tellVs, tellV, tells, tell, st0, padT, SX.newRow, SX.newBox, List.length_cons, List.length_nil, Nat.reduceAdd, Nat.reduceSub, List.replicate, List.cons_append, List.nil_append, List.foldl_cons, List.foldl_nil]
 refine W_seq (W_region ?_)
 refine WO_op (x := .bp 0 0) (σ' := ⟨[], [some [qs a1.Name, qi a1.Kind, qi a1.Goal]], []⟩) rfl rfl rfl ?_
 refine WO_op rfl rfl rfl ?_; simp only [putT,st,ev,gt,hp,ofV,constT,intT,lm]
 refine WO_nil (W_seq (W_region ?_))
 refine WO_op (x := .bp 0 0) rfl rfl rfl ?_
 refine WO_op (x := qs a1.Name) rfl rfl rfl ?_; simp only [putT,st,ev,gt,hp,ofV,constT,intT,lm]
 obtain ⟨x2, hx2, H⟩ := bnd H
 refine WO_op (x := qb x2) (σ' := ⟨[], [some [qs a1.Name, qi a1.Kind, qi a1.Goal]], []⟩) rfl rfl (ev_callG (al := [qs a1.Name]) (ls := []) (impl_NameOk_ok hx2) rfl rfl rfl rfl rfl (by decide) rfl rfl rfl rfl rfl rfl) ?_; simp only [putT,st,ev,gt,hp,ofV,constT,intT,lm]
 refine WO_op rfl rfl rfl ?_; simp only [putT,st,ev,gt,hp,ofV,constT,intT,lm]
 refine WO_if rfl rfl rfl (fun hc => ?_) (fun hc => ?_)
 ·
  replace H := tr hc H
  refine WO_want (x := .bp 0 1) rfl rfl rfl ?_
  refine WO_want (x := qi a1.Kind) rfl rfl rfl ?_; simp only [putT,st,ev,gt,hp,ofV,constT,intT,lm]
  obtain ⟨x3, hx3, H⟩ := bnd H
  refine WO_want (x := qb x3) (σ' := ⟨[], [some [qs a1.Name, qi a1.Kind, qi a1.Goal]], []⟩) rfl rfl (ev_callG (al := [qi a1.Kind, qi 1, qi 3]) (ls := []) (impl_from_ok hx3) rfl rfl rfl rfl rfl (by decide) rfl rfl rfl rfl rfl rfl) ?_; simp only [putT,st,ev,gt,hp,ofV,constT,intT,lm]
  refine WO_op (x := qb x3) rfl rfl rfl ?_
  refine WO_op rfl rfl rfl ?_; simp only [putT,st,ev,gt,hp,ofV,constT,intT,lm]
  refine WO_if rfl rfl rfl (fun hc => ?_) (fun hc => ?_)
  ·
   replace H := tr hc H
   refine WO_want (x := .bp 0 2) rfl rfl rfl ?_
   refine WO_want (x := qi a1.Goal) rfl rfl rfl ?_; simp only [putT,st,ev,gt,hp,ofV,constT,intT,lm]
   obtain ⟨x4, hx4, H⟩ := bnd H
   refine WO_want (x := qb x4) (σ' := ⟨[], [some [qs a1.Name, qi a1.Kind, qi a1.Goal]], []⟩) rfl rfl (ev_callG (al := [qi a1.Goal, qi 1, qi 1000000]) (ls := []) (impl_from_ok hx4) rfl rfl rfl rfl rfl (by decide) rfl rfl rfl rfl rfl rfl) ?_; simp only [putT,st,ev,gt,hp,ofV,constT,intT,lm]
   refine WO_op (x := qb x4) rfl rfl rfl ?_
   refine WO_op rfl rfl rfl ?_; simp only [putT,st,ev,gt,hp,ofV,constT,intT,lm]
   refine WO_nil ?_
   refine W_ret ?_
   obtain rfl := Option.some.inj H
   exact told3 rfl
  ·
   replace H := fl hc H
   simp only [putT,st,ev,gt,hp,ofV,constT,intT,lm]
   iterate 3 refine WO_skip rfl rfl ?_
   refine WO_op (x := qb false) rfl rfl rfl ?_
   refine WO_op rfl rfl rfl ?_; simp only [putT,st,ev,gt,hp,ofV,constT,intT,lm]
   refine WO_nil ?_
   refine W_ret ?_
   obtain rfl := Option.some.inj H
   exact told3 rfl
 ·
  replace H := fl hc H
  simp only [putT,st,ev,gt,hp,ofV,constT,intT,lm]
  iterate 3 refine WO_skip rfl rfl ?_
  refine WO_op (x := qb false) rfl rfl rfl ?_
  refine WO_op rfl rfl rfl ?_; simp only [putT,st,ev,gt,hp,ofV,constT,intT,lm]
  iterate 3 refine WO_skip rfl rfl ?_
  refine WO_op (x := qb false) rfl rfl rfl ?_
  refine WO_op rfl rfl rfl ?_; simp only [putT,st,ev,gt,hp,ofV,constT,intT,lm]
  refine WO_nil ?_
  refine W_ret ?_
  obtain rfl := Option.some.inj H
  exact told3 rfl
theorem impl_isMany_ok {a1 : Int} {r : Bool} (H : impl_isMany a1 = some r) : R 74 [.c (cI .i64 a1) none] = some (.c (cB r) none, []) := by
 unfold impl_isMany at H
 refine Fz_walk 5 rfl rfl Try.func74 rfl (by kernel_rfl) rfl rfl rfl rfl ?_
 simp only [tellVs, tellV, tells, tell, st0, padT, SX.newRow, SX.newBox, List.length_cons, List.length_nil, Nat.reduceAdd, Nat.reduceSub, List.replicate, List.cons_append, List.nil_append, List.foldl_cons, List.foldl_nil]
 refine W_seq (W_region ?_)
 refine WO_op rfl rfl rfl ?_; simp only [putT,st,ev,gt,hp,ofV,constT,intT,lm]
 refine WO_nil (W_seq (W_region ?_))
 refine WO_op rfl rfl rfl ?_; simp only [putT,st,ev,gt,hp,ofV,constT,intT,lm]
 obtain ⟨x2, hx2, H⟩ := bnd H
 refine WO_op (x := qb x2) (σ' := ⟨[], [], []⟩) rfl rfl (ev_callG (al := [qi a1, qi 0, qi 1000]) (ls := []) (impl_from_ok hx2) rfl rfl rfl rfl rfl (by decide) rfl rfl rfl rfl rfl rfl) ?_; simp only [putT,st,ev,gt,hp,ofV,constT,intT,lm]
 refine WO_op rfl rfl rfl ?_; simp only [putT,st,ev,gt,hp,ofV,constT,intT,lm]
 refine WO_nil ?_
 refine W_ret ?_
 obtain rfl := Option.some.inj H
 exact told3 rfl
theorem impl_isValue_ok {a1 : Int} {r : Bool} (H : impl_isValue a1 = some r) : R 75 [.c (cI .i64 a1) none] = some (.c (cB r) none, []) := by
 unfold impl_isValue at H
 refine Fz_walk 5 rfl rfl Try.func75 rfl (by kernel_rfl) rfl rfl rfl rfl ?_
 simp only [tellVs, tellV, tells, tell, st0, padT, SX.newRow, SX.newBox, List.length_cons, List.length_nil, Nat.reduceAdd, Nat.reduceSub, List.replicate, List.cons_append, List.nil_append, List.foldl_cons, List.foldl_nil]
 refine W_seq (W_region ?_)
 refine WO_op rfl rfl rfl ?_; simp only [putT,st,ev,gt,hp,ofV,constT,intT,lm]
 refine WO_nil (W_seq (W_region ?_))
 refine WO_op rfl rfl rfl ?_; simp only [putT,st,ev,gt,hp,ofV,constT,intT,lm]
 obtain ⟨x2, hx2, H⟩ := bnd H
 refine WO_op (x := qb x2) (σ' := ⟨[], [], []⟩) rfl rfl (ev_callG (al := [qi a1, qi 0, qi 1000000]) (ls := []) (impl_from_ok hx2) rfl rfl rfl rfl rfl (by decide) rfl rfl rfl rfl rfl rfl) ?_; simp only [putT,st,ev,gt,hp,ofV,constT,intT,lm]
 refine WO_op rfl rfl rfl ?_; simp only [putT,st,ev,gt,hp,ofV,constT,intT,lm]
 refine WO_nil ?_
 refine W_ret ?_
 obtain rfl := Option.some.inj H
 exact told3 rfl
theorem impl_CeilDiv_ok {a1 : Int} {a2 : Int} {r : Int} (H : impl_CeilDiv a1 a2 = some r) : R 76 [.c (cI .i64 a1) none, .c (cI .i64 a2) none] = some (.c (cI .i64 r) none, []) := by
 unfold impl_CeilDiv at H
 refine Fz_walk 19 rfl rfl Try.func76 rfl (by kernel_rfl) rfl rfl rfl rfl ?_
 simp only [tellVs, tellV, tells, tell, st0, padT, SX.newRow, SX.newBox, List.length_cons, List.length_nil, Nat.reduceAdd, Nat.reduceSub, List.replicate, List.cons_append, List.nil_append, List.foldl_cons, List.foldl_nil]
 refine W_seq (W_region ?_)
 refine WO_op rfl rfl rfl ?_; simp only [putT,st,ev,gt,hp,ofV,constT,intT,lm]
 refine WO_nil (W_seq (W_seq (W_region ?_)))
 refine WO_op rfl rfl rfl ?_; simp only [putT,st,ev,gt,hp,ofV,constT,intT,lm]
 obtain ⟨x3, hx3, H⟩ := bnd H
 refine WO_op (x := qb x3) (σ' := ⟨[], [], []⟩) rfl rfl (ev_callG (al := [qi a1, qi 0, qi 1000000000000]) (ls := []) (impl_from_ok hx3) rfl rfl rfl rfl rfl (by decide) rfl rfl rfl rfl rfl rfl) ?_; simp only [putT,st,ev,gt,hp,ofV,constT,intT,lm]
 iterate 2 (refine WO_op rfl rfl rfl ?_; simp only [putT,st,ev,gt,hp,ofV,constT,intT,lm])
 refine WO_if rfl rfl rfl (fun hc => ?_) (fun hc => ?_)
 ·
  replace H := tr hc H
  simp only [putT,st,ev,gt,hp,ofV,constT,intT,lm]
  iterate 3 refine WO_skip rfl rfl ?_
  refine WO_op (x := qb true) rfl rfl rfl ?_; simp only [putT,st,ev,gt,hp,ofV,constT,intT,lm]
  refine WO_nil ?_
  refine W_cond (t := true) rfl (fun _ => ?_) (fun h => by cases h)
  refine W_seq (W_region ?_)
  refine WO_op rfl rfl rfl ?_; simp only [putT,st,ev,gt,hp,ofV,constT,intT,lm]
  refine WO_nil ?_
  refine W_ret ?_
  obtain rfl := Option.some.inj H
  exact told3 rfl
 ·
  replace H := fl hc H
  refine WO_want rfl rfl rfl ?_; simp only [putT,st,ev,gt,hp,ofV,constT,intT,lm]
  obtain ⟨x4, hx4, H⟩ := bnd H
  refine WO_want (x := qb x4) (σ' := ⟨[], [], []⟩) rfl rfl (ev_callG (al := [qi a2, qi 1, qi 1000000000000]) (ls := []) (impl_from_ok hx4) rfl rfl rfl rfl rfl (by decide) rfl rfl rfl rfl rfl rfl) ?_; simp only [putT,st,ev,gt,hp,ofV,constT,intT,lm]
  refine WO_want rfl rfl rfl ?_
  refine WO_op (x := qb (!x4)) rfl rfl rfl ?_; simp only [putT,st,ev,gt,hp,ofV,constT,intT,lm]
  refine WO_nil ?_
  refine W_cond rfl (fun hc => ?_) (fun hc => ?_)
  ·
   replace H := tr hc H
   refine W_seq (W_region ?_)
   refine WO_op rfl rfl rfl ?_; simp only [putT,st,ev,gt,hp,ofV,constT,intT,lm]
   refine WO_nil ?_
   refine W_ret ?_
   obtain rfl := Option.some.inj H
   exact told3 rfl
  ·
   replace H := fl hc H
   refine W_skip ?_
   refine W_seq (W_region ?_)
   iterate 5 (refine WO_op rfl rfl rfl ?_; simp only [putT,st,ev,gt,hp,ofV,constT,intT,lm])
   obtain ⟨q5, hq5, H⟩ := bnd H
   refine WO_op rfl rfl (ev_quo hq5 rfl rfl rfl) ?_; simp only [putT,st,ev,gt,hp,ofV,constT,intT,lm]
   refine WO_op rfl rfl rfl ?_; simp only [putT,st,ev,gt,hp,ofV,constT,intT,lm]
   refine WO_nil ?_
   refine W_ret ?_
   obtain rfl := Option.some.inj H
   exact told3 rfl
theorem impl_ByOne_ok {a1 : Metric} {a2 : Int} {a3 : Int} {r : Int} (H : impl_ByOne a1 a2 a3 = some r) : R 23 [.ag [(cS a1.Name, none), (cI .i64 a1.Kind, none), (cI .i64 a1.Goal, none)], .c (cI .i64 a2) none, .c (cI .i64 a3) none] = some (.c (cI .i64 r) none, []) := by
 unfold impl_ByOne at H
 refine Fz_walk 46 rfl rfl Try.func23 rfl (by kernel_rfl) rfl rfl rfl rfl ?_
 simp only [tellVs, tellV, tells, tell, st0, padT, SX.newRow, SX.newBox, List.length_cons, List.length_nil, Nat.reduceAdd, Nat.reduceSub, List.replicate, List.cons_append, List.nil_append, List.foldl_cons, List.foldl_nil]
 refine W_seq (W_region ?_)
 refine WO_op (x := .bp 0 0) (σ' := ⟨[], [some [qs a1.Name, qi a1.Kind, qi a1.Goal]], []⟩) rfl rfl rfl ?_
 refine WO_op rfl rfl rfl ?_; simp only [putT,st,ev,gt,hp,ofV,constT,intT,lm]
 refine WO_nil (W_seq ?_)
 refine W_block ?_
 refine W_seq (W_region ?_)
 refine WO_op (x := .ag [qs a1.Name, qi a1.Kind, qi a1.Goal]) rfl rfl rfl ?_; simp only [putT,st,ev,gt,hp,ofV,constT,intT,lm]
 obtain ⟨x4, hx4, H⟩ := bnd H
 refine WO_op (x := qb x4) (σ' := ⟨[], [some [qs a1.Name, qi a1.Kind, qi a1.Goal]], []⟩) rfl rfl (ev_callG (al := [.ag [qs a1.Name, qi a1.Kind, qi a1.Goal]]) (ls := []) (impl_MetricOk_ok hx4) rfl rfl rfl rfl rfl (by decide) rfl rfl rfl rfl rfl rfl) ?_; simp only [putT,st,ev,gt,hp,ofV,constT,intT,lm]
 iterate 2 (refine WO_op rfl rfl rfl ?_; simp only [putT,st,ev,gt,hp,ofV,constT,intT,lm])
 refine WO_if rfl rfl rfl (fun hc => ?_) (fun hc => ?_)
 ·
  replace H := tr hc H
  simp only [putT,st,ev,gt,hp,ofV,constT,intT,lm]
  iterate 3 refine WO_skip rfl rfl ?_
  refine WO_op (x := qb true) rfl rfl rfl ?_
  refine WO_op rfl rfl rfl ?_; simp only [putT,st,ev,gt,hp,ofV,constT,intT,lm]
  iterate 3 refine WO_skip rfl rfl ?_
  refine WO_op (x := qb true) rfl rfl rfl ?_
  refine WO_op rfl rfl rfl ?_; simp only [putT,st,ev,gt,hp,ofV,constT,intT,lm]
  refine WO_nil ?_
  refine W_cond (t := true) rfl (fun _ => ?_) (fun h => by cases h)
  refine W_seq (W_region ?_)
  refine WO_op rfl rfl rfl ?_; simp only [putT,st,ev,gt,hp,ofV,constT,intT,lm]
  refine WO_nil ?_
  refine W_ret ?_
  obtain rfl := Option.some.inj H
  exact told3 rfl
 ·
  replace H := fl hc H
  refine WO_want rfl rfl rfl ?_; simp only [putT,st,ev,gt,hp,ofV,constT,intT,lm]
  obtain ⟨x5, hx5, H⟩ := bnd H
  refine WO_want (x := qb x5) (σ' := ⟨[], [some [qs a1.Name, qi a1.Kind, qi a1.Goal]], []⟩) rfl rfl (ev_callG (al := [qi a2]) (ls := []) (impl_isMany_ok hx5) rfl rfl rfl rfl rfl (by decide) rfl rfl rfl rfl rfl rfl) ?_; simp only [putT,st,ev,gt,hp,ofV,constT,intT,lm]
  refine WO_want rfl rfl rfl ?_
  refine WO_op (x := qb (!x5)) rfl rfl rfl ?_
  refine WO_op rfl rfl rfl ?_; simp only [putT,st,ev,gt,hp,ofV,constT,intT,lm]
  refine WO_if rfl rfl rfl (fun hc => ?_) (fun hc => ?_)
  ·
   replace H := tr hc H
   simp only [putT,st,ev,gt,hp,ofV,constT,intT,lm]
   iterate 3 refine WO_skip rfl rfl ?_
   refine WO_op (x := qb true) rfl rfl rfl ?_
   refine WO_op rfl rfl rfl ?_; simp only [putT,st,ev,gt,hp,ofV,constT,intT,lm]
   refine WO_nil ?_
   refine W_cond (t := true) rfl (fun _ => ?_) (fun h => by cases h)
   refine W_seq (W_region ?_)
   refine WO_op rfl rfl rfl ?_; simp only [putT,st,ev,gt,hp,ofV,constT,intT,lm]
   refine WO_nil ?_
   refine W_ret ?_
   obtain rfl := Option.some.inj H
   exact told3 rfl
  ·
   replace H := fl hc H
   refine WO_want rfl rfl rfl ?_; simp only [putT,st,ev,gt,hp,ofV,constT,intT,lm]
   obtain ⟨x6, hx6, H⟩ := bnd H
   refine WO_want (x := qb x6) (σ' := ⟨[], [some [qs a1.Name, qi a1.Kind, qi a1.Goal]], []⟩) rfl rfl (ev_callG (al := [qi a3]) (ls := []) (impl_isValue_ok hx6) rfl rfl rfl rfl rfl (by decide) rfl rfl rfl rfl rfl rfl) ?_; simp only [putT,st,ev,gt,hp,ofV,constT,intT,lm]
   refine WO_want rfl rfl rfl ?_
   refine WO_op (x := qb (!x6)) rfl rfl rfl ?_
   refine WO_op rfl rfl rfl ?_; simp only [putT,st,ev,gt,hp,ofV,constT,intT,lm]
   refine WO_nil ?_
   refine W_cond rfl (fun hc => ?_) (fun hc => ?_)
   ·
    replace H := tr hc H
    refine W_seq (W_region ?_)
    refine WO_op rfl rfl rfl ?_; simp only [putT,st,ev,gt,hp,ofV,constT,intT,lm]
    refine WO_nil ?_
    refine W_ret ?_
    obtain rfl := Option.some.inj H
    exact told3 rfl
   ·
    replace H := fl hc H
    refine W_seq (W_region ?_)
    refine WO_op (x := .bp 0 1) rfl rfl rfl ?_
    refine WO_op (x := qi a1.Kind) rfl rfl rfl ?_; simp only [putT,st,ev,gt,hp,ofV,constT,intT,lm]
    iterate 2 (refine WO_op rfl rfl rfl ?_; simp only [putT,st,ev,gt,hp,ofV,constT,intT,lm])
    refine WO_nil ?_
    refine W_cond rfl (fun hc => ?_) (fun hc => ?_)
    ·
     replace H := tr hc H
     refine W_seq (W_region ?_)
     refine WO_op rfl rfl rfl ?_
     refine WO_op (x := .bp 0 2) rfl rfl rfl ?_
     refine WO_op (x := qi a1.Goal) rfl rfl rfl ?_; simp only [putT,st,ev,gt,hp,ofV,constT,intT,lm]
     obtain ⟨x7, hx7, H⟩ := bnd H
     refine WO_op (x := qi x7) (σ' := ⟨[], [some [qs a1.Name, qi a1.Kind, qi a1.Goal]], []⟩) rfl rfl (ev_callG (al := [qi a3, qi a1.Goal]) (ls := []) (impl_CeilDiv_ok hx7) rfl rfl rfl rfl rfl (by decide) rfl rfl rfl rfl rfl rfl) ?_; simp only [putT,st,ev,gt,hp,ofV,constT,intT,lm]
     refine WO_op rfl rfl rfl ?_; simp only [putT,st,ev,gt,hp,ofV,constT,intT,lm]
     refine WO_nil ?_
     refine W_ret ?_
     obtain rfl := Option.some.inj H
     exact told3 rfl
    ·
     replace H := fl hc H
     refine W_seq (W_region ?_)
     iterate 2 (refine WO_op rfl rfl rfl ?_; simp only [putT,st,ev,gt,hp,ofV,constT,intT,lm])
     refine WO_op (x := .bp 0 2) rfl rfl rfl ?_
     refine WO_op (x := qi a1.Goal) rfl rfl rfl ?_
     refine WO_op rfl rfl rfl ?_
     refine WO_op (x := .bp 0 2) rfl rfl rfl ?_; simp only [putT,st,ev,gt,hp,ofV,constT,intT,lm]
     refine WO_op (x := qi a1.Goal) rfl rfl rfl ?_
     refine WO_op rfl rfl rfl ?_; simp only [putT,st,ev,gt,hp,ofV,constT,intT,lm]
     obtain ⟨x8, hx8, H⟩ := bnd H
     refine WO_op (x := qb x8) (σ' := ⟨[], [some [qs a1.Name, qi a1.Kind, qi a1.Goal]], []⟩) rfl rfl (ev_callG (al := [qi (IntKind.i64.wrap (10 * a3)), qi (IntKind.i64.wrap (9 * a1.Goal)), qi (IntKind.i64.wrap (11 * a1.Goal))]) (ls := []) (impl_from_ok hx8) rfl rfl rfl rfl rfl (by decide) rfl rfl rfl rfl rfl rfl) ?_; simp only [putT,st,ev,gt,hp,ofV,constT,intT,lm]
     refine WO_op rfl rfl rfl ?_; simp only [putT,st,ev,gt,hp,ofV,constT,intT,lm]
     refine WO_nil ?_
     refine W_cond rfl (fun hc => ?_) (fun hc => ?_)
     ·
      replace H := tr hc H
      refine W_seq (W_region ?_)
      iterate 2 (refine WO_op rfl rfl rfl ?_; simp only [putT,st,ev,gt,hp,ofV,constT,intT,lm])
      refine WO_nil ?_
      refine W_ret ?_
      obtain rfl := Option.some.inj H
      exact told3 rfl
     ·
      replace H := fl hc H
      refine W_skip ?_
      refine W_seq (W_region ?_)
      iterate 3 (refine WO_op rfl rfl rfl ?_; simp only [putT,st,ev,gt,hp,ofV,constT,intT,lm])
      refine WO_op (x := .bp 0 2) rfl rfl rfl ?_
      refine WO_op (x := qi a1.Goal) rfl rfl rfl ?_; simp only [putT,st,ev,gt,hp,ofV,constT,intT,lm]
      obtain ⟨x9, hx9, H⟩ := bnd H
      refine WO_op (x := qi x9) (σ' := ⟨[], [some [qs a1.Name, qi a1.Kind, qi a1.Goal]], []⟩) rfl rfl (ev_callG (al := [qi (IntKind.i64.wrap (a2 * a3)), qi a1.Goal]) (ls := []) (impl_CeilDiv_ok hx9) rfl rfl rfl rfl rfl (by decide) rfl rfl rfl rfl rfl rfl) ?_; simp only [putT,st,ev,gt,hp,ofV,constT,intT,lm]
      refine WO_op rfl rfl rfl ?_; simp only [putT,st,ev,gt,hp,ofV,constT,intT,lm]
      refine WO_nil ?_
      refine W_ret ?_
      obtain rfl := Option.some.inj H
      exact told3 rfl
theorem spec_l1Once_ok {a1 : L1Cur} {a2 : Int} {r : Bool × L1Cur} (H : spec_l1Once a1 a2 = some r) : R 133 [.p [(cL eU a1.b, none), (cI .i64 a1.i, none), (cI .i64 a1.h, none)], .c (cI .i64 a2) none] = some (.c (cB r.1) none, [some [(cL eU r.2.b, none), (cI .i64 r.2.i, none), (cI .i64 r.2.h, none)]]) := by
 unfold spec_l1Once at H
 refine Fz_walk 9 rfl rfl Try.func133 rfl (by kernel_rfl) rfl rfl rfl rfl ?_
 simp only [tellVs, tellV, tells, tell, st0, padT, SX.newRow, SX.newBox, List.length_cons, List.length_nil, Nat.reduceAdd, Nat.reduceSub, List.replicate, List.cons_append, List.nil_append, List.foldl_cons, List.foldl_nil]
 refine W_seq (W_region ?_)
 refine WO_op rfl rfl rfl ?_; simp only [putT,st,ev,gt,hp,ofV,constT,intT,lm]
 refine WO_nil (W_seq (W_region ?_))
 iterate 2 (refine WO_op rfl rfl rfl ?_; simp only [putT,st,ev,gt,hp,ofV,constT,intT,lm])
 obtain ⟨x3, hx3, H⟩ := bnd H
 refine WO_op (x := qi x3.1) (σ' := ⟨[], [some [.c (cL eU x3.2.b), qi x3.2.i, qi x3.2.h]], []⟩) rfl rfl (ev_callG (al := [.bp 0 0, qi a2]) (ls := [.b 0]) (spec_l1Below_ok hx3) rfl rfl rfl rfl rfl (by decide) rfl rfl rfl rfl rfl rfl) ?_; simp only [putT,st,ev,gt,hp,ofV,constT,intT,lm]
 iterate 2 (refine WO_op rfl rfl rfl ?_; simp only [putT,st,ev,gt,hp,ofV,constT,intT,lm])
 refine WO_nil ?_
 refine W_ret ?_
 obtain rfl := Option.some.inj H
 exact told3 rfl
theorem spec_PaceNew_ok  {r : Pace} (H : spec_PaceNew = some r) : R 177 [] = some (.ag [(cI .i64 r.Up, none), (cI .i64 r.Down, none), (cI .i64 r.UpSpan, none), (cI .i64 r.DownSpan, none)], []) := by
 unfold spec_PaceNew at H
 refine Fz_walk 2 rfl rfl Try.func177 rfl (by kernel_rfl) rfl rfl rfl rfl ?_
 simp only [tellVs, tellV, tells, tell, st0, padT, SX.newRow, SX.newBox, List.length_cons, List.length_nil, Nat.reduceAdd, Nat.reduceSub, List.replicate, List.cons_append, List.nil_append, List.foldl_cons, List.foldl_nil]
 refine W_seq (W_region ?_)
 refine WO_op (x := .bp 0 0) (σ' := ⟨[], [some [qi 0, qi 0, qi 0, qi 0]], []⟩) rfl rfl rfl ?_; simp only [putT,st,ev,gt,hp,ofV,constT,intT,lm]
 refine WO_nil (W_seq (W_region ?_))
 refine WO_op (x := .ag [qi 0, qi 0, qi 0, qi 300]) rfl rfl rfl ?_
 refine WO_op (x := .no) (σ' := ⟨[], [some [qi 0, qi 0, qi 0, qi 300]], []⟩) rfl rfl rfl ?_; simp only [putT,st,ev,gt,hp,ofV,constT,intT,lm]
 refine WO_nil ?_
 refine W_ret ?_
 obtain rfl := Option.some.inj H
 exact told3 rfl
theorem spec_l6DrawPace_ok {a1 : L1Cur} {r : Pace × L1Cur} (H : spec_l6DrawPace a1 = some r) : R 162 [.p [(cL eU a1.b, none), (cI .i64 a1.i, none), (cI .i64 a1.h, none)]] = some (.ag [(cI .i64 r.1.Up, none), (cI .i64 r.1.Down, none), (cI .i64 r.1.UpSpan, none), (cI .i64 r.1.DownSpan, none)], [some [(cL eU r.2.b, none), (cI .i64 r.2.i, none), (cI .i64 r.2.h, none)]]) := by
 unfold spec_l6DrawPace at H
 refine Fz_walk 25 rfl rfl Try.func162 rfl (by kernel_rfl) rfl rfl rfl rfl ?_
 simp only [tellVs, tellV, tells, tell, st0, padT, SX.newRow, SX.newBox, List.length_cons, List.length_nil, Nat.reduceAdd, Nat.reduceSub, List.replicate, List.cons_append, List.nil_append, List.foldl_cons, List.foldl_nil]
 refine W_seq (W_region ?_)
 refine WO_op (x := .bp 1 0) (σ' := ⟨[], [some [.c (cL eU a1.b), qi a1.i, qi a1.h], some [qi 0, qi 0, qi 0, qi 0]], []⟩) rfl rfl rfl ?_; simp only [putT,st,ev,gt,hp,ofV,constT,intT,lm]
 refine WO_nil (W_seq (W_seq (W_region ?_)))
 refine WO_op rfl rfl rfl ?_; simp only [putT,st,ev,gt,hp,ofV,constT,intT,lm]
 obtain ⟨x2, hx2, H⟩ := bnd H
 refine WO_op (x := qb x2.1) (σ' := ⟨[], [some [.c (cL eU x2.2.b), qi x2.2.i, qi x2.2.h], some [qi 0, qi 0, qi 0, qi 0]], []⟩) rfl rfl (ev_callG (al := [.bp 0 0, qi 3]) (ls := [.b 0]) (spec_l1Once_ok hx2) rfl rfl rfl rfl rfl (by decide) rfl rfl rfl rfl rfl rfl) ?_; simp only [putT,st,ev,gt,hp,ofV,constT,intT,lm]
 refine WO_nil ?_
 refine W_cond rfl (fun hc => ?_) (fun hc => ?_)
 ·
  replace H := tr hc H
  refine W_seq (W_region ?_)
  obtain ⟨x3, hx3, H⟩ := bnd H
  refine WO_op (x := .ag [qi x3.Up, qi x3.Down, qi x3.UpSpan, qi x3.DownSpan]) (σ' := ⟨[], [some [.c (cL eU x2.2.b), qi x2.2.i, qi x2.2.h], some [qi 0, qi 0, qi 0, qi 0]], []⟩) rfl rfl (ev_callG (al := []) (ls := []) (spec_PaceNew_ok hx3) rfl rfl rfl rfl rfl (by decide) rfl rfl rfl rfl rfl rfl) ?_; simp only [putT,st,ev,gt,hp,ofV,constT,intT,lm]
  refine WO_op (x := .no) (σ' := ⟨[], [some [.c (cL eU x2.2.b), qi x2.2.i, qi x2.2.h], some [qi x3.Up, qi x3.Down, qi x3.UpSpan, qi x3.DownSpan]], []⟩) rfl rfl rfl ?_; simp only [putT,st,ev,gt,hp,ofV,constT,intT,lm]
  refine WO_nil ?_
  refine W_ret ?_
  obtain rfl := Option.some.inj H
  exact told3 rfl
 ·
  replace H := fl hc H
  refine W_skip ?_
  refine W_seq (W_region ?_)
  refine WO_op rfl rfl rfl ?_; simp only [putT,st,ev,gt,hp,ofV,constT,intT,lm]
  refine WO_op (x := .row 0) (σ' := ⟨[], [some [.c (cL eU x2.2.b), qi x2.2.i, qi x2.2.h], some [qi 0, qi 0, qi 0, qi 0]], [rr 1 eI ([0, 1, 4] : List Int) true]⟩) rfl rfl (ev_bs ([0, 1, 4] : List Int) eI rfl rfl rfl rfl) ?_; simp only [putT,st,ev,gt,hp,ofV,constT,intT,lm]
  obtain ⟨x4, hx4, H⟩ := bnd H
  refine WO_op (x := qi x4.1) (σ' := ⟨[], [some [.c (cL eU x4.2.b), qi x4.2.i, qi x4.2.h], some [qi 0, qi 0, qi 0, qi 0]], [rr 1 eI ([0, 1, 4] : List Int) false]⟩) rfl rfl (ev_callG (al := [.bp 0 0, .row 0]) (ls := [.b 0]) (spec_l1PickInt_ok hx4) rfl rfl rfl rfl rfl (by decide) rfl rfl rfl rfl rfl rfl) ?_; simp only [putT,st,ev,gt,hp,ofV,constT,intT,lm]
  refine WO_op rfl rfl rfl ?_; simp only [putT,st,ev,gt,hp,ofV,constT,intT,lm]
  refine WO_nil (W_seq (W_region ?_))
  refine WO_op rfl rfl rfl ?_; simp only [putT,st,ev,gt,hp,ofV,constT,intT,lm]
  refine WO_op (x := .row 1) (σ' := ⟨[], [some [.c (cL eU x4.2.b), qi x4.2.i, qi x4.2.h], some [qi 0, qi 0, qi 0, qi 0]], [rr 1 eI ([0, 1, 4] : List Int) false, rr 1 eI ([0, 1, 2] : List Int) true]⟩) rfl rfl (ev_bs ([0, 1, 2] : List Int) eI rfl rfl rfl rfl) ?_; simp only [putT,st,ev,gt,hp,ofV,constT,intT,lm]
  obtain ⟨x5, hx5, H⟩ := bnd H
  refine WO_op (x := qi x5.1) (σ' := ⟨[], [some [.c (cL eU x5.2.b), qi x5.2.i, qi x5.2.h], some [qi 0, qi 0, qi 0, qi 0]], [rr 1 eI ([0, 1, 4] : List Int) false, rr 1 eI ([0, 1, 2] : List Int) false]⟩) rfl rfl (ev_callG (al := [.bp 0 0, .row 1]) (ls := [.b 0]) (spec_l1PickInt_ok hx5) rfl rfl rfl rfl rfl (by decide) rfl rfl rfl rfl rfl rfl) ?_; simp only [putT,st,ev,gt,hp,ofV,constT,intT,lm]
  refine WO_op rfl rfl rfl ?_; simp only [putT,st,ev,gt,hp,ofV,constT,intT,lm]
  refine WO_nil (W_seq (W_region ?_))
  refine WO_op rfl rfl rfl ?_; simp only [putT,st,ev,gt,hp,ofV,constT,intT,lm]
  refine WO_op (x := .row 2) (σ' := ⟨[], [some [.c (cL eU x5.2.b), qi x5.2.i, qi x5.2.h], some [qi 0, qi 0, qi 0, qi 0]], [rr 1 eI ([0, 1, 4] : List Int) false, rr 1 eI ([0, 1, 2] : List Int) false, rr 1 eI kl5 true]⟩) rfl rfl (ev_bs kl5 eI rfl rfl rfl rfl) ?_; simp only [putT,st,ev,gt,hp,ofV,constT,intT,lm]
  obtain ⟨x6, hx6, H⟩ := bnd H
  refine WO_op (x := qi x6.1) (σ' := ⟨[], [some [.c (cL eU x6.2.b), qi x6.2.i, qi x6.2.h], some [qi 0, qi 0, qi 0, qi 0]], [rr 1 eI ([0, 1, 4] : List Int) false, rr 1 eI ([0, 1, 2] : List Int) false, rr 1 eI kl5 false]⟩) rfl rfl (ev_callG (al := [.bp 0 0, .row 2]) (ls := [.b 0]) (spec_l1PickInt_ok hx6) rfl rfl rfl rfl rfl (by decide) rfl rfl rfl rfl rfl rfl) ?_; simp only [putT,st,ev,gt,hp,ofV,constT,intT,lm]
  refine WO_op rfl rfl rfl ?_; simp only [putT,st,ev,gt,hp,ofV,constT,intT,lm]
  refine WO_nil (W_seq (W_region ?_))
  iterate 4 (refine WO_op rfl rfl rfl ?_; simp only [putT,st,ev,gt,hp,ofV,constT,intT,lm])
  refine WO_op (x := .row 3) (σ' := ⟨[], [some [.c (cL eU x6.2.b), qi x6.2.i, qi x6.2.h], some [qi 0, qi 0, qi 0, qi 0]], [rr 1 eI ([0, 1, 4] : List Int) false, rr 1 eI ([0, 1, 2] : List Int) false, rr 1 eI kl5 false, rr 1 eI kl6 true]⟩) rfl rfl (by kernel_rfl) ?_; simp only [putT,st,ev,gt,hp,ofV,constT,intT,lm]
  obtain ⟨x7, hx7, H⟩ := bnd H
  refine WO_op (x := qi x7.1) (σ' := ⟨[], [some [.c (cL eU x7.2.b), qi x7.2.i, qi x7.2.h], some [qi 0, qi 0, qi 0, qi 0]], [rr 1 eI ([0, 1, 4] : List Int) false, rr 1 eI ([0, 1, 2] : List Int) false, rr 1 eI kl5 false, rr 1 eI kl6 false]⟩) rfl rfl (ev_callG (al := [.bp 0 0, .row 3]) (ls := [.b 0]) (spec_l1PickInt_ok hx7) rfl rfl rfl rfl rfl (by decide) rfl rfl rfl rfl rfl rfl) ?_; simp only [putT,st,ev,gt,hp,ofV,constT,intT,lm]
  refine WO_op (x := .ag [qi x4.1, qi x5.1, qi x6.1, qi x7.1]) rfl rfl rfl ?_
  refine WO_op (x := .no) (σ' := ⟨[], [some [.c (cL eU x7.2.b), qi x7.2.i, qi x7.2.h], some [qi x4.1, qi x5.1, qi x6.1, qi x7.1]], [rr 1 eI ([0, 1, 4] : List Int) false, rr 1 eI ([0, 1, 2] : List Int) false, rr 1 eI kl5 false, rr 1 eI kl6 false]⟩) rfl rfl rfl ?_; simp only [putT,st,ev,gt,hp,ofV,constT,intT,lm]
  refine WO_nil ?_
  refine W_ret ?_
  obtain rfl := Option.some.inj H
  exact told3 rfl
theorem spec_l3DrawText_ok {a1 : L1Cur} {r : Str × L1Cur} (H : spec_l3DrawText a1 = some r) : R 163 [.p [(cL eU a1.b, none), (cI .i64 a1.i, none), (cI .i64 a1.h, none)]] = some (.c (cS r.1) none, [some [(cL eU r.2.b, none), (cI .i64 r.2.i, none), (cI .i64 r.2.h, none)]]) := by
 unfold spec_l3DrawText at H
 refine Fz_walk 6 rfl rfl Try.func163 rfl (by kernel_rfl) rfl rfl rfl rfl ?_
 simp only [tellVs, tellV, tells, tell, st0, padT, SX.newRow, SX.newBox, List.length_cons, List.length_nil, Nat.reduceAdd, Nat.reduceSub, List.replicate, List.cons_append, List.nil_append, List.foldl_cons, List.foldl_nil]
 refine W_seq (W_region ?_)
 refine WO_op rfl rfl rfl ?_; simp only [putT,st,ev,gt,hp,ofV,constT,intT,lm]
 refine WO_nil (W_seq (W_region ?_))
 refine WO_op rfl rfl rfl ?_; simp only [putT,st,ev,gt,hp,ofV,constT,intT,lm]
 refine WO_op (x := .row 0) (σ' := ⟨[], [some [.c (cL eU a1.b), qi a1.i, qi a1.h]], [rr 1 eS kl7 true]⟩) rfl rfl (by kernel_rfl) ?_; simp only [putT,st,ev,gt,hp,ofV,constT,intT,lm]
 obtain ⟨x2, hx2, H⟩ := bnd H
 refine WO_op (x := qs x2.1) (σ' := ⟨[], [some [.c (cL eU x2.2.b), qi x2.2.i, qi x2.2.h]], [rr 1 eS kl7 false]⟩) rfl rfl (ev_callG (al := [.bp 0 0, .row 0]) (ls := [.b 0]) (spec_l1Pick_ok hx2) rfl rfl rfl rfl rfl (by decide) rfl rfl rfl rfl rfl rfl) ?_; simp only [putT,st,ev,gt,hp,ofV,constT,intT,lm]
 refine WO_op rfl rfl rfl ?_; simp only [putT,st,ev,gt,hp,ofV,constT,intT,lm]
 refine WO_nil ?_
 refine W_ret ?_
 obtain rfl := Option.some.inj H
 exact told3 rfl
theorem spec_l6DrawRight_ok {a1 : L1Cur} {r : Order × L1Cur} (H : spec_l6DrawRight a1 = some r) : R 130 [.p [(cL eU a1.b, none), (cI .i64 a1.i, none), (cI .i64 a1.h, none)]] = some (.ag [(cS r.1.Name, none), (cS r.1.Target, none), (cI .i64 r.1.Low, none), (cI .i64 r.1.High, none), (cL enc_Metric r.1.Metrics, some 3), (cI .i64 r.1.Pace.Up, none), (cI .i64 r.1.Pace.Down, none), (cI .i64 r.1.Pace.UpSpan, none), (cI .i64 r.1.Pace.DownSpan, none), (cL enc_Note r.1.Notes, some 2)], [some [(cL eU r.2.b, none), (cI .i64 r.2.i, none), (cI .i64 r.2.h, none)]]) := by
 unfold spec_l6DrawRight at H
 refine Fz_walk 72 rfl rfl Try.func130 rfl (by kernel_rfl) rfl rfl rfl rfl ?_
 simp only [tellVs, tellV, tells, tell, st0, padT, SX.newRow, SX.newBox, List.length_cons, List.length_nil, Nat.reduceAdd, Nat.reduceSub, List.replicate, List.cons_append, List.nil_append, List.foldl_cons, List.foldl_nil]
 refine W_seq (W_region ?_)
 refine WO_op (x := .bp 1 0) (σ' := ⟨[], [some [.c (cL eU a1.b), qi a1.i, qi a1.h], some [qs [], qs [], qi 0, qi 0, .nil, qi 0, qi 0, qi 0, qi 0, .nil]], []⟩) rfl rfl rfl ?_; simp only [putT,st,ev,gt,hp,ofV,constT,intT,lm]
 refine WO_nil (W_seq (W_region ?_))
 refine WO_op rfl rfl rfl ?_; simp only [putT,st,ev,gt,hp,ofV,constT,intT,lm]
 obtain ⟨x2, hx2, H⟩ := bnd H
 refine WO_op (x := qi x2.1) (σ' := ⟨[], [some [.c (cL eU x2.2.b), qi x2.2.i, qi x2.2.h], some [qs [], qs [], qi 0, qi 0, .nil, qi 0, qi 0, qi 0, qi 0, .nil]], []⟩) rfl rfl (ev_callG (al := [.bp 0 0, qi 4]) (ls := [.b 0]) (spec_l1Below_ok hx2) rfl rfl rfl rfl rfl (by decide) rfl rfl rfl rfl rfl rfl) ?_; simp only [putT,st,ev,gt,hp,ofV,constT,intT,lm]
 iterate 2 (refine WO_op rfl rfl rfl ?_; simp only [putT,st,ev,gt,hp,ofV,constT,intT,lm])
 refine WO_nil (W_seq (W_region ?_))
 refine WO_op rfl rfl rfl ?_; simp only [putT,st,ev,gt,hp,ofV,constT,intT,lm]
 refine WO_op (x := .row 0) (σ' := ⟨[], [some [.c (cL eU x2.2.b), qi x2.2.i, qi x2.2.h], some [qs [], qs [], qi 0, qi 0, .nil, qi 0, qi 0, qi 0, qi 0, .nil]], [rr 1 eS kl8 true]⟩) rfl rfl (ev_bs kl8 eS rfl rfl rfl rfl) ?_; simp only [putT,st,ev,gt,hp,ofV,constT,intT,lm]
 obtain ⟨x3, hx3, H⟩ := bnd H
 refine WO_op (x := qs x3.1) (σ' := ⟨[], [some [.c (cL eU x3.2.b), qi x3.2.i, qi x3.2.h], some [qs [], qs [], qi 0, qi 0, .nil, qi 0, qi 0, qi 0, qi 0, .nil]], [rr 1 eS kl8 false]⟩) rfl rfl (ev_callG (al := [.bp 0 0, .row 0]) (ls := [.b 0]) (spec_l1Pick_ok hx3) rfl rfl rfl rfl rfl (by decide) rfl rfl rfl rfl rfl rfl) ?_; simp only [putT,st,ev,gt,hp,ofV,constT,intT,lm]
 refine WO_op rfl rfl rfl ?_; simp only [putT,st,ev,gt,hp,ofV,constT,intT,lm]
 refine WO_op (x := .row 1) (σ' := ⟨[], [some [.c (cL eU x3.2.b), qi x3.2.i, qi x3.2.h], some [qs [], qs [], qi 0, qi 0, .nil, qi 0, qi 0, qi 0, qi 0, .nil]], [rr 1 eS kl8 false, rr 1 eS kl9 true]⟩) rfl rfl (ev_bs kl9 eS rfl rfl rfl rfl) ?_; simp only [putT,st,ev,gt,hp,ofV,constT,intT,lm]
 obtain ⟨x4, hx4, H⟩ := bnd H
 refine WO_op (x := qs x4.1) (σ' := ⟨[], [some [.c (cL eU x4.2.b), qi x4.2.i, qi x4.2.h], some [qs [], qs [], qi 0, qi 0, .nil, qi 0, qi 0, qi 0, qi 0, .nil]], [rr 1 eS kl8 false, rr 1 eS kl9 false]⟩) rfl rfl (ev_callG (al := [.bp 0 0, .row 1]) (ls := [.b 0]) (spec_l1Pick_ok hx4) rfl rfl rfl rfl rfl (by decide) rfl rfl rfl rfl rfl rfl) ?_; simp only [putT,st,ev,gt,hp,ofV,constT,intT,lm]
 iterate 3 (refine WO_op rfl rfl rfl ?_; simp only [putT,st,ev,gt,hp,ofV,constT,intT,lm])
 refine WO_op (x := .row 2) (σ' := ⟨[], [some [.c (cL eU x4.2.b), qi x4.2.i, qi x4.2.h], some [qs [], qs [], qi 0, qi 0, .nil, qi 0, qi 0, qi 0, qi 0, .nil]], [rr 1 eS kl8 false, rr 1 eS kl9 false, rr 1 eI kl10 true]⟩) rfl rfl (by kernel_rfl) ?_; simp only [putT,st,ev,gt,hp,ofV,constT,intT,lm]
 obtain ⟨x5, hx5, H⟩ := bnd H
 refine WO_op (x := qi x5.1) (σ' := ⟨[], [some [.c (cL eU x5.2.b), qi x5.2.i, qi x5.2.h], some [qs [], qs [], qi 0, qi 0, .nil, qi 0, qi 0, qi 0, qi 0, .nil]], [rr 1 eS kl8 false, rr 1 eS kl9 false, rr 1 eI kl10 false]⟩) rfl rfl (ev_callG (al := [.bp 0 0, .row 2]) (ls := [.b 0]) (spec_l1PickInt_ok hx5) rfl rfl rfl rfl rfl (by decide) rfl rfl rfl rfl rfl rfl) ?_; simp only [putT,st,ev,gt,hp,ofV,constT,intT,lm]
 iterate 2 (refine WO_op rfl rfl rfl ?_; simp only [putT,st,ev,gt,hp,ofV,constT,intT,lm])
 obtain ⟨x6, hx6, H⟩ := bnd H
 refine WO_op (x := .ag [qi x6.1.Up, qi x6.1.Down, qi x6.1.UpSpan, qi x6.1.DownSpan]) (σ' := ⟨[], [some [.c (cL eU x6.2.b), qi x6.2.i, qi x6.2.h], some [qs [], qs [], qi 0, qi 0, .nil, qi 0, qi 0, qi 0, qi 0, .nil]], [rr 1 eS kl8 false, rr 1 eS kl9 false, rr 1 eI kl10 false]⟩) rfl rfl (ev_callG (al := [.bp 0 0]) (ls := [.b 0]) (spec_l6DrawPace_ok hx6) rfl rfl rfl rfl rfl (by decide) rfl rfl rfl rfl rfl rfl) ?_; simp only [putT,st,ev,gt,hp,ofV,constT,intT,lm]
 refine WO_op (x := .ag [qs x3.1, qs x4.1, qi (IntKind.i64.wrap (1 + x2.1)), qi (IntKind.i64.wrap ((IntKind.i64.wrap (1 + x2.1)) + x5.1)), .nil, qi x6.1.Up, qi x6.1.Down, qi x6.1.UpSpan, qi x6.1.DownSpan, .nil]) rfl rfl rfl ?_
 refine WO_op (x := .bp 2 0) (σ' := ⟨[], [some [.c (cL eU x6.2.b), qi x6.2.i, qi x6.2.h], some [qs [], qs [], qi 0, qi 0, .nil, qi 0, qi 0, qi 0, qi 0, .nil], some [qs [], qs [], qi 0, qi 0, .nil, qi 0, qi 0, qi 0, qi 0, .nil]], [rr 1 eS kl8 false, rr 1 eS kl9 false, rr 1 eI kl10 false]⟩) rfl rfl rfl ?_
 refine WO_op (x := .no) (σ' := ⟨[], [some [.c (cL eU x6.2.b), qi x6.2.i, qi x6.2.h], some [qs [], qs [], qi 0, qi 0, .nil, qi 0, qi 0, qi 0, qi 0, .nil], some [qs x3.1, qs x4.1, qi (IntKind.i64.wrap (1 + x2.1)), qi (IntKind.i64.wrap ((IntKind.i64.wrap (1 + x2.1)) + x5.1)), .nil, qi x6.1.Up, qi x6.1.Down, qi x6.1.UpSpan, qi x6.1.DownSpan, .nil]], [rr 1 eS kl8 false, rr 1 eS kl9 false, rr 1 eI kl10 false]⟩) rfl rfl rfl ?_; simp only [putT,st,ev,gt,hp,ofV,constT,intT,lm]
 refine WO_nil (W_seq (W_region ?_))
 refine WO_op (x := .row 3) (σ' := ⟨[], [some [.c (cL eU x6.2.b), qi x6.2.i, qi x6.2.h], some [qs [], qs [], qi 0, qi 0, .nil, qi 0, qi 0, qi 0, qi 0, .nil], some [qs x3.1, qs x4.1, qi (IntKind.i64.wrap (1 + x2.1)), qi (IntKind.i64.wrap ((IntKind.i64.wrap (1 + x2.1)) + x5.1)), .nil, qi x6.1.Up, qi x6.1.Down, qi x6.1.UpSpan, qi x6.1.DownSpan, .nil]], [rr 1 eS kl8 false, rr 1 eS kl9 false, rr 1 eI kl10 false, rr 1 eS kl11 true]⟩) rfl rfl (by kernel_rfl) ?_; simp only [putT,st,ev,gt,hp,ofV,constT,intT,lm]
 refine WO_op rfl rfl rfl ?_; simp only [putT,st,ev,gt,hp,ofV,constT,intT,lm]
 refine WO_nil (W_seq (W_seq (W_region ?_)))
 refine WO_op rfl rfl rfl ?_; simp only [putT,st,ev,gt,hp,ofV,constT,intT,lm]
 refine WO_nil ?_
 refine W_block ?_
 obtain ⟨t16, ht16, H⟩ := bnd H
 refine loop_ruleM (ls := [.b 0]) 0 (fun (i : Nat) (t16 : List Int × Int × Int × List Metric) => match i with | 0 => ⟨[.bp 0 0, .no, .bp 1 0, .no, .bp 2 0], [some [.c (cL eU t16.1), qi t16.2.1, qi t16.2.2.1], some [qs [], qs [], qi 0, qi 0, .nil, qi 0, qi 0, qi 0, qi 0, .nil], some [qs x3.1, qs x4.1, qi (IntKind.i64.wrap (1 + x2.1)), qi (IntKind.i64.wrap ((IntKind.i64.wrap (1 + x2.1)) + x5.1)), .nil, qi x6.1.Up, qi x6.1.Down, qi x6.1.UpSpan, qi x6.1.DownSpan, .nil]], []⟩ | _ => ⟨[.bp 0 0, .no, .bp 1 0, .no, .bp 2 0], [some [.c (cL eU t16.1), qi t16.2.1, qi t16.2.2.1], some [qs [], qs [], qi 0, qi 0, .nil, qi 0, qi 0, qi 0, qi 0, .nil], some [qs x3.1, qs x4.1, qi (IntKind.i64.wrap (1 + x2.1)), qi (IntKind.i64.wrap ((IntKind.i64.wrap (1 + x2.1)) + x5.1)), .row 0, qi x6.1.Up, qi x6.1.Down, qi x6.1.UpSpan, qi x6.1.DownSpan, .nil]], [rr 3 enc_Metric t16.2.2.2 true]⟩) (fun (i : Nat) t => match i with | 0 => t16 = t ∧ t.2.2.2 = [] | 1 => t16 = t | _ => False) ⟨[.bp 0 0, .no, .bp 1 0, .no, .bp 2 0, .row 0, qi 0], [some [.c (cL eU x6.2.b), qi x6.2.i, qi x6.2.h], some [qs [], qs [], qi 0, qi 0, .nil, qi 0, qi 0, qi 0, qi 0, .nil], some [qs x3.1, qs x4.1, qi (IntKind.i64.wrap (1 + x2.1)), qi (IntKind.i64.wrap ((IntKind.i64.wrap (1 + x2.1)) + x5.1)), .nil, qi x6.1.Up, qi x6.1.Down, qi x6.1.UpSpan, qi x6.1.DownSpan, .nil]], [rr 1 eS kl11 true]⟩ (by repeat (first | exact mono_told | refine mono_seq ?_ | refine mono_blk ?_ | refine mono_lp ?_)) (le_intro [0, 1, 2] [3] (by decide) (by decide) rfl (by simp [leS, leT, leA, gt]) (by simp [leB, leT, leA]) (by simp [leR])) ?_ ?_
 ·
  intro i t1 hp
  rcases i with _ | _ | i
  ·
   obtain ⟨rfl, hz_t16_3⟩ := hp
   refine W_seq (W_region ?_)
   refine WO_op (x := .row 0) (σ' := ⟨[], [some [.c (cL eU t16.1), qi t16.2.1, qi t16.2.2.1], some [qs [], qs [], qi 0, qi 0, .nil, qi 0, qi 0, qi 0, qi 0, .nil], some [qs x3.1, qs x4.1, qi (IntKind.i64.wrap (1 + x2.1)), qi (IntKind.i64.wrap ((IntKind.i64.wrap (1 + x2.1)) + x5.1)), .nil, qi x6.1.Up, qi x6.1.Down, qi x6.1.UpSpan, qi x6.1.DownSpan, .nil]], [rr 1 eS kl12 true]⟩) rfl rfl (ev_bs kl12 eS rfl rfl rfl rfl) ?_; simp only [putT,st,ev,gt,hp,ofV,constT,intT,lm]
   refine WO_op rfl rfl rfl ?_; simp only [putT,st,ev,gt,hp,ofV,constT,intT,lm]
   refine WO_nil (W_seq (W_seq (W_region ?_)))
   refine WO_op rfl rfl rfl ?_; simp only [putT,st,ev,gt,hp,ofV,constT,intT,lm]
   refine WO_nil ?_
   refine W_block ?_
   obtain ⟨t26, ht26, H⟩ := bnd H
   refine loop_ruleM (ls := [.b 0]) 2 (fun (i : Nat) (t26 : List Int × Int × Int × List Note) => match i with | 0 => ⟨[.no, .no, .bp 1 0, .no, .bp 2 0], [some [.c (cL eU t26.1), qi t26.2.1, qi t26.2.2.1], some [qs [], qs [], qi 0, qi 0, .nil, qi 0, qi 0, qi 0, qi 0, .nil], some [qs x3.1, qs x4.1, qi (IntKind.i64.wrap (1 + x2.1)), qi (IntKind.i64.wrap ((IntKind.i64.wrap (1 + x2.1)) + x5.1)), .nil, qi x6.1.Up, qi x6.1.Down, qi x6.1.UpSpan, qi x6.1.DownSpan, .nil]], []⟩ | _ => ⟨[.no, .no, .bp 1 0, .no, .bp 2 0], [some [.c (cL eU t26.1), qi t26.2.1, qi t26.2.2.1], some [qs [], qs [], qi 0, qi 0, .nil, qi 0, qi 0, qi 0, qi 0, .nil], some [qs x3.1, qs x4.1, qi (IntKind.i64.wrap (1 + x2.1)), qi (IntKind.i64.wrap ((IntKind.i64.wrap (1 + x2.1)) + x5.1)), .nil, qi x6.1.Up, qi x6.1.Down, qi x6.1.UpSpan, qi x6.1.DownSpan, .row 0]], [rr 2 enc_Note t26.2.2.2 true]⟩) (fun (i : Nat) t => match i with | 0 => t26 = t ∧ t.2.2.2 = [] | 1 => t26 = t | _ => False) ⟨[.bp 0 0, .no, .bp 1 0, .no, .bp 2 0, .no, .no, .no, .row 0, qi 0], [some [.c (cL eU t16.1), qi t16.2.1, qi t16.2.2.1], some [qs [], qs [], qi 0, qi 0, .nil, qi 0, qi 0, qi 0, qi 0, .nil], some [qs x3.1, qs x4.1, qi (IntKind.i64.wrap (1 + x2.1)), qi (IntKind.i64.wrap ((IntKind.i64.wrap (1 + x2.1)) + x5.1)), .nil, qi x6.1.Up, qi x6.1.Down, qi x6.1.UpSpan, qi x6.1.DownSpan, .nil]], [rr 1 eS kl12 true]⟩ (by repeat (first | exact mono_told | refine mono_seq ?_ | refine mono_blk ?_ | refine mono_lp ?_)) (le_intro [0, 1, 2] [0] (by decide) (by decide) rfl (by simp [leS, leT, leA, gt]) (by simp [leB, leT, leA]) (by simp [leR])) ?_ ?_
   ·
    intro i t1 hp
    rcases i with _ | _ | i
    ·
     obtain ⟨rfl, hz_t26_3⟩ := hp
     refine W_seq (W_region ?_)
     refine WO_op (x := .ag [qs x3.1, qs x4.1, qi (IntKind.i64.wrap (1 + x2.1)), qi (IntKind.i64.wrap ((IntKind.i64.wrap (1 + x2.1)) + x5.1)), .nil, qi x6.1.Up, qi x6.1.Down, qi x6.1.UpSpan, qi x6.1.DownSpan, .nil]) rfl rfl rfl ?_
     refine WO_op (x := .no) (σ' := ⟨[], [some [.c (cL eU t26.1), qi t26.2.1, qi t26.2.2.1], some [qs x3.1, qs x4.1, qi (IntKind.i64.wrap (1 + x2.1)), qi (IntKind.i64.wrap ((IntKind.i64.wrap (1 + x2.1)) + x5.1)), .nil, qi x6.1.Up, qi x6.1.Down, qi x6.1.UpSpan, qi x6.1.DownSpan, .nil], some [qs x3.1, qs x4.1, qi (IntKind.i64.wrap (1 + x2.1)), qi (IntKind.i64.wrap ((IntKind.i64.wrap (1 + x2.1)) + x5.1)), .nil, qi x6.1.Up, qi x6.1.Down, qi x6.1.UpSpan, qi x6.1.DownSpan, .nil]], []⟩) rfl rfl rfl ?_; simp only [putT,st,ev,gt,hp,ofV,constT,intT,lm]
     refine WO_nil ?_
     refine W_ret ?_
     obtain rfl := Option.some.inj H
     exact told5 rfl rfl rfl rfl rfl (by simp only [hz_t16_3, hz_t26_3]; try rfl)
    ·
     obtain rfl := hp
     refine W_seq (W_region ?_)
     refine WO_op (x := .ag [qs x3.1, qs x4.1, qi (IntKind.i64.wrap (1 + x2.1)), qi (IntKind.i64.wrap ((IntKind.i64.wrap (1 + x2.1)) + x5.1)), .nil, qi x6.1.Up, qi x6.1.Down, qi x6.1.UpSpan, qi x6.1.DownSpan, .row 0]) rfl rfl rfl ?_
     refine WO_op (x := .no) (σ' := ⟨[], [some [.c (cL eU t26.1), qi t26.2.1, qi t26.2.2.1], some [qs x3.1, qs x4.1, qi (IntKind.i64.wrap (1 + x2.1)), qi (IntKind.i64.wrap ((IntKind.i64.wrap (1 + x2.1)) + x5.1)), .nil, qi x6.1.Up, qi x6.1.Down, qi x6.1.UpSpan, qi x6.1.DownSpan, .row 0], some [qs x3.1, qs x4.1, qi (IntKind.i64.wrap (1 + x2.1)), qi (IntKind.i64.wrap ((IntKind.i64.wrap (1 + x2.1)) + x5.1)), .nil, qi x6.1.Up, qi x6.1.Down, qi x6.1.UpSpan, qi x6.1.DownSpan, .row 0]], [rr 2 enc_Note t26.2.2.2 true]⟩) rfl rfl rfl ?_; simp only [putT,st,ev,gt,hp,ofV,constT,intT,lm]
     refine WO_nil ?_
     refine W_ret ?_
     obtain rfl := Option.some.inj H
     exact told5 rfl rfl rfl rfl (by have er : Try.f130.resultTypes.toList = [37] := rfl; have e37 : sizes Try.prog 8 37 = [0, 0, 0, 0, 3, 0, 0, 0, 0, 2] := (by kernel_rfl); simp only [er, fitAs, e37, fitA, fit_s, fit_n, fit_o, fit_z, fit_e, if_true]; try rfl) (by simp only [hz_t16_3]; try rfl)
    · exact hp.elim
   ·
    intro V1 hV1 hW1 hX1
    refine (spec_l6DrawRight.l1.partial_correctness (fun v17 v18 v19 v20 v21 s' => s' = t26 → (v21 = [] → V1 ⟨[.bp 0 0, .no, .bp 1 0, .no, .bp 2 0, .no, .no, .no, .row 0, qi v17], [some [.c (cL eU v18), qi v19, qi v20], some [qs [], qs [], qi 0, qi 0, .nil, qi 0, qi 0, qi 0, qi 0, .nil], some [qs x3.1, qs x4.1, qi (IntKind.i64.wrap (1 + x2.1)), qi (IntKind.i64.wrap ((IntKind.i64.wrap (1 + x2.1)) + x5.1)), .nil, qi x6.1.Up, qi x6.1.Down, qi x6.1.UpSpan, qi x6.1.DownSpan, .nil]], [rr 1 eS kl12 true]⟩) ∧ (V1 ⟨[.bp 0 0, .no, .bp 1 0, .no, .bp 2 0, .no, .no, .no, .row 0, qi v17], [some [.c (cL eU v18), qi v19, qi v20], some [qs [], qs [], qi 0, qi 0, .nil, qi 0, qi 0, qi 0, qi 0, .nil], some [qs x3.1, qs x4.1, qi (IntKind.i64.wrap (1 + x2.1)), qi (IntKind.i64.wrap ((IntKind.i64.wrap (1 + x2.1)) + x5.1)), .nil, qi x6.1.Up, qi x6.1.Down, qi x6.1.UpSpan, qi x6.1.DownSpan, .row 1]], [rr 1 eS kl12 true, rr 2 enc_Note v21 true]⟩)) ?_ _ _ _ _ _ _ ht26 rfl).1 rfl
    intro l0 IH1 v17 v18 v19 v20 v21 s' H1 e
    subst e
    refine ⟨?_, ?_⟩
    ·
     intro hn_v21
     refine hV1 _ ?_
     refine W_seq (W_seq (W_region ?_))
     iterate 4 (refine WO_op rfl rfl rfl ?_; simp only [putT,st,ev,gt,hp,ofV,constT,intT,lm])
     refine WO_nil ?_
     refine W_cond rfl (fun hc => ?_) (fun hc => ?_)
     ·
      replace H1 := tr hc H1
      refine W_skip ?_
      refine W_seq ?_
      refine W_block ?_
      refine W_seq (W_region ?_)
      refine WO_op rfl rfl rfl ?_; simp only [putT,st,ev,gt,hp,ofV,constT,intT,lm]
      obtain ⟨x22, hx22, H1⟩ := bnd H1
      refine WO_op (x := qb x22.1) (σ' := ⟨[], [some [.c (cL eU x22.2.b), qi x22.2.i, qi x22.2.h], some [qs [], qs [], qi 0, qi 0, .nil, qi 0, qi 0, qi 0, qi 0, .nil], some [qs x3.1, qs x4.1, qi (IntKind.i64.wrap (1 + x2.1)), qi (IntKind.i64.wrap ((IntKind.i64.wrap (1 + x2.1)) + x5.1)), .nil, qi x6.1.Up, qi x6.1.Down, qi x6.1.UpSpan, qi x6.1.DownSpan, .nil]], [rr 1 eS kl12 true]⟩) rfl rfl (ev_callG (al := [.bp 0 0, qi 3]) (ls := [.b 0]) (spec_l1Once_ok hx22) rfl rfl rfl rfl rfl (by decide) rfl rfl rfl rfl rfl rfl) ?_; simp only [putT,st,ev,gt,hp,ofV,constT,intT,lm]
      refine WO_nil ?_
      refine W_cond rfl (fun hc => ?_) (fun hc => ?_)
      ·
       replace H1 := tr hc H1
       refine W_drawL (by kernel_rfl) (by decide +kernel) ?_
       refine WL_op (x := .bp 2 9) rfl rfl rfl rfl ?_
       refine WL_op (x := .nil) rfl rfl rfl rfl ?_; simp only [putT,st,ev,gt,hp,ofV,constT,intT,lm]
       iterate 2 (refine WL_op rfl rfl rfl rfl ?_; simp only [putT,st,ev,gt,hp,ofV,constT,intT,lm])
       obtain ⟨x23, hx23, H1⟩ := bnd H1
       refine WL_op rfl rfl rfl (ev_ixR (en := eS) hx23 rfl rfl rfl rfl rfl rfl rfl) ?_; simp only [putT,st,ev,gt,hp,ofV,constT,intT,lm]
       refine WL_op (x := qs x23) rfl rfl rfl (ev_ldR (en := eS) hx23 rfl rfl rfl rfl) ?_; simp only [putT,st,ev,gt,hp,ofV,constT,intT,lm]
       refine WL_op rfl rfl rfl rfl ?_; simp only [putT,st,ev,gt,hp,ofV,constT,intT,lm]
       obtain ⟨x24, hx24, H1⟩ := bnd H1
       refine WL_op (x := qs x24.1) (σ' := ⟨[], [some [.c (cL eU x24.2.b), qi x24.2.i, qi x24.2.h], some [qs [], qs [], qi 0, qi 0, .nil, qi 0, qi 0, qi 0, qi 0, .nil], some [qs x3.1, qs x4.1, qi (IntKind.i64.wrap (1 + x2.1)), qi (IntKind.i64.wrap ((IntKind.i64.wrap (1 + x2.1)) + x5.1)), .nil, qi x6.1.Up, qi x6.1.Down, qi x6.1.UpSpan, qi x6.1.DownSpan, .nil]], [rr 1 eS kl12 true]⟩) rfl rfl rfl (ev_callG (al := [.bp 0 0]) (ls := [.b 0]) (spec_l3DrawText_ok hx24) rfl rfl rfl rfl rfl (by decide) rfl rfl rfl rfl rfl rfl) ?_; simp only [putT,st,ev,gt,hp,ofV,constT,intT,lm]
       refine WL_op (x := .ag [qs x23, qs x24.1]) rfl rfl rfl rfl ?_; simp only [putT,st,ev,gt,hp,ofV,constT,intT,lm]
       refine WL_op (x := .row 1) (σ' := ⟨[], [some [.c (cL eU x24.2.b), qi x24.2.i, qi x24.2.h], some [qs [], qs [], qi 0, qi 0, .nil, qi 0, qi 0, qi 0, qi 0, .nil], some [qs x3.1, qs x4.1, qi (IntKind.i64.wrap (1 + x2.1)), qi (IntKind.i64.wrap ((IntKind.i64.wrap (1 + x2.1)) + x5.1)), .nil, qi x6.1.Up, qi x6.1.Down, qi x6.1.UpSpan, qi x6.1.DownSpan, .nil]], [rr 1 eS kl12 true, rr 2 enc_Note ([(Note.mk x23 x24.1)] : List Note) true]⟩) rfl rfl rfl (ev_bs ([(Note.mk x23 x24.1)] : List Note) enc_Note rfl rfl rfl rfl) ?_; simp only [putT,st,ev,gt,hp,ofV,constT,intT,lm]
       obtain ⟨m25, hm25, H1⟩ := bnd H1
       refine WL_op (x := .row 2) (σ' := ⟨[], [some [.c (cL eU x24.2.b), qi x24.2.i, qi x24.2.h], some [qs [], qs [], qi 0, qi 0, .nil, qi 0, qi 0, qi 0, qi 0, .nil], some [qs x3.1, qs x4.1, qi (IntKind.i64.wrap (1 + x2.1)), qi (IntKind.i64.wrap ((IntKind.i64.wrap (1 + x2.1)) + x5.1)), .nil, qi x6.1.Up, qi x6.1.Down, qi x6.1.UpSpan, qi x6.1.DownSpan, .nil]], [rr 1 eS kl12 true, rr 2 enc_Note ([(Note.mk x23 x24.1)] : List Note) true, rr 2 enc_Note m25 true]⟩) rfl rfl rfl (ev_appN (en := enc_Note) hm25 hn_v21 rfl rfl rfl rfl (Or.inl rfl) rfl rfl rfl rfl rfl rfl rfl rfl rfl (fun _ => rfl) rfl) ?_; simp only [putT,st,ev,gt,hp,ofV,constT,intT,lm]
       refine WL_op (x := .bp 2 9) rfl rfl rfl rfl ?_
       refine WL_op (x := .no) (σ' := ⟨[], [some [.c (cL eU x24.2.b), qi x24.2.i, qi x24.2.h], some [qs [], qs [], qi 0, qi 0, .nil, qi 0, qi 0, qi 0, qi 0, .nil], some [qs x3.1, qs x4.1, qi (IntKind.i64.wrap (1 + x2.1)), qi (IntKind.i64.wrap ((IntKind.i64.wrap (1 + x2.1)) + x5.1)), .nil, qi x6.1.Up, qi x6.1.Down, qi x6.1.UpSpan, qi x6.1.DownSpan, .row 2]], [rr 1 eS kl12 true, rr 2 enc_Note ([(Note.mk x23 x24.1)] : List Note) true, rr 2 enc_Note m25 true]⟩) rfl rfl rfl rfl ?_; simp only [putT,st,ev,gt,hp,ofV,constT,intT,lm]
       refine WL_nil (by kernel_rfl) ?_
       refine W_region ?_
       iterate 3 (refine WO_op rfl rfl rfl ?_; simp only [putT,st,ev,gt,hp,ofV,constT,intT,lm])
       refine WO_nil ?_
       exact hW1 _ _ ((IH1 _ _ _ _ _ _ H1 rfl).2) (le_intro [0, 1, 2] [0, 2] (by decide) (by decide) rfl (by simp [leS, leT, leA, gt]) (by simp [leB, leT, leA]) (by simp [leR]))
      ·
       replace H1 := fl hc H1
       refine W_skip ?_
       refine W_region ?_
       iterate 3 (refine WO_op rfl rfl rfl ?_; simp only [putT,st,ev,gt,hp,ofV,constT,intT,lm])
       refine WO_nil ?_
       exact hW1 _ _ ((IH1 _ _ _ _ _ _ H1 rfl).1 hn_v21) (le_intro [0, 1, 2] [0] (by decide) (by decide) rfl (by simp [leS, leT, leA, gt]) (by simp [leB, leT, leA]) (by simp [leR]))
     ·
      replace H1 := fl hc H1
      refine W_exit ?_
      obtain rfl := Option.some.inj H1
      exact hX1 0 (v18, v19, v20, v21) _ ⟨rfl, hn_v21⟩ (le_intro [0, 1, 2] [] (by decide) (by decide) rfl (by simp [leS, leT, leA, gt]) (by simp [leB, leT, leA]) (by simp [leR]))
    ·
     skip
     refine hV1 _ ?_
     refine W_seq (W_seq (W_region ?_))
     iterate 4 (refine WO_op rfl rfl rfl ?_; simp only [putT,st,ev,gt,hp,ofV,constT,intT,lm])
     refine WO_nil ?_
     refine W_cond rfl (fun hc => ?_) (fun hc => ?_)
     ·
      replace H1 := tr hc H1
      refine W_skip ?_
      refine W_seq ?_
      refine W_block ?_
      refine W_seq (W_region ?_)
      refine WO_op rfl rfl rfl ?_; simp only [putT,st,ev,gt,hp,ofV,constT,intT,lm]
      obtain ⟨x22, hx22, H1⟩ := bnd H1
      refine WO_op (x := qb x22.1) (σ' := ⟨[], [some [.c (cL eU x22.2.b), qi x22.2.i, qi x22.2.h], some [qs [], qs [], qi 0, qi 0, .nil, qi 0, qi 0, qi 0, qi 0, .nil], some [qs x3.1, qs x4.1, qi (IntKind.i64.wrap (1 + x2.1)), qi (IntKind.i64.wrap ((IntKind.i64.wrap (1 + x2.1)) + x5.1)), .nil, qi x6.1.Up, qi x6.1.Down, qi x6.1.UpSpan, qi x6.1.DownSpan, .row 1]], [rr 1 eS kl12 true, rr 2 enc_Note v21 true]⟩) rfl rfl (ev_callG (al := [.bp 0 0, qi 3]) (ls := [.b 0]) (spec_l1Once_ok hx22) rfl rfl rfl rfl rfl (by decide) rfl rfl rfl rfl rfl rfl) ?_; simp only [putT,st,ev,gt,hp,ofV,constT,intT,lm]
      refine WO_nil ?_
      refine W_cond rfl (fun hc => ?_) (fun hc => ?_)
      ·
       replace H1 := tr hc H1
       refine W_drawL (by kernel_rfl) (by decide +kernel) ?_
       refine WL_op (x := .bp 2 9) rfl rfl rfl rfl ?_
       refine WL_op (x := .row 1) rfl rfl rfl rfl ?_; simp only [putT,st,ev,gt,hp,ofV,constT,intT,lm]
       iterate 2 (refine WL_op rfl rfl rfl rfl ?_; simp only [putT,st,ev,gt,hp,ofV,constT,intT,lm])
       obtain ⟨x23, hx23, H1⟩ := bnd H1
       refine WL_op rfl rfl rfl (ev_ixR (en := eS) hx23 rfl rfl rfl rfl rfl rfl rfl) ?_; simp only [putT,st,ev,gt,hp,ofV,constT,intT,lm]
       refine WL_op (x := qs x23) rfl rfl rfl (ev_ldR (en := eS) hx23 rfl rfl rfl rfl) ?_; simp only [putT,st,ev,gt,hp,ofV,constT,intT,lm]
       refine WL_op rfl rfl rfl rfl ?_; simp only [putT,st,ev,gt,hp,ofV,constT,intT,lm]
       obtain ⟨x24, hx24, H1⟩ := bnd H1
       refine WL_op (x := qs x24.1) (σ' := ⟨[], [some [.c (cL eU x24.2.b), qi x24.2.i, qi x24.2.h], some [qs [], qs [], qi 0, qi 0, .nil, qi 0, qi 0, qi 0, qi 0, .nil], some [qs x3.1, qs x4.1, qi (IntKind.i64.wrap (1 + x2.1)), qi (IntKind.i64.wrap ((IntKind.i64.wrap (1 + x2.1)) + x5.1)), .nil, qi x6.1.Up, qi x6.1.Down, qi x6.1.UpSpan, qi x6.1.DownSpan, .row 1]], [rr 1 eS kl12 true, rr 2 enc_Note v21 true]⟩) rfl rfl rfl (ev_callG (al := [.bp 0 0]) (ls := [.b 0]) (spec_l3DrawText_ok hx24) rfl rfl rfl rfl rfl (by decide) rfl rfl rfl rfl rfl rfl) ?_; simp only [putT,st,ev,gt,hp,ofV,constT,intT,lm]
       refine WL_op (x := .ag [qs x23, qs x24.1]) rfl rfl rfl rfl ?_; simp only [putT,st,ev,gt,hp,ofV,constT,intT,lm]
       refine WL_op (x := .row 2) (σ' := ⟨[], [some [.c (cL eU x24.2.b), qi x24.2.i, qi x24.2.h], some [qs [], qs [], qi 0, qi 0, .nil, qi 0, qi 0, qi 0, qi 0, .nil], some [qs x3.1, qs x4.1, qi (IntKind.i64.wrap (1 + x2.1)), qi (IntKind.i64.wrap ((IntKind.i64.wrap (1 + x2.1)) + x5.1)), .nil, qi x6.1.Up, qi x6.1.Down, qi x6.1.UpSpan, qi x6.1.DownSpan, .row 1]], [rr 1 eS kl12 true, rr 2 enc_Note v21 true, rr 2 enc_Note ([(Note.mk x23 x24.1)] : List Note) true]⟩) rfl rfl rfl (ev_bs ([(Note.mk x23 x24.1)] : List Note) enc_Note rfl rfl rfl rfl) ?_; simp only [putT,st,ev,gt,hp,ofV,constT,intT,lm]
       obtain ⟨m25, hm25, H1⟩ := bnd H1
       refine WL_op (x := .row 3) (σ' := ⟨[], [some [.c (cL eU x24.2.b), qi x24.2.i, qi x24.2.h], some [qs [], qs [], qi 0, qi 0, .nil, qi 0, qi 0, qi 0, qi 0, .nil], some [qs x3.1, qs x4.1, qi (IntKind.i64.wrap (1 + x2.1)), qi (IntKind.i64.wrap ((IntKind.i64.wrap (1 + x2.1)) + x5.1)), .nil, qi x6.1.Up, qi x6.1.Down, qi x6.1.UpSpan, qi x6.1.DownSpan, .row 1]], [rr 1 eS kl12 true, none, rr 2 enc_Note ([(Note.mk x23 x24.1)] : List Note) true, rr 2 enc_Note m25 true]⟩) rfl rfl rfl (ev_app (en := enc_Note) hm25 rfl rfl rfl rfl (Or.inl rfl) rfl rfl rfl rfl rfl rfl rfl rfl rfl rfl rfl (fun _ => rfl) rfl (Or.inr rfl) rfl) ?_; simp only [putT,st,ev,gt,hp,ofV,constT,intT,lm]
       refine WL_op (x := .bp 2 9) rfl rfl rfl rfl ?_
       refine WL_op (x := .no) (σ' := ⟨[], [some [.c (cL eU x24.2.b), qi x24.2.i, qi x24.2.h], some [qs [], qs [], qi 0, qi 0, .nil, qi 0, qi 0, qi 0, qi 0, .nil], some [qs x3.1, qs x4.1, qi (IntKind.i64.wrap (1 + x2.1)), qi (IntKind.i64.wrap ((IntKind.i64.wrap (1 + x2.1)) + x5.1)), .nil, qi x6.1.Up, qi x6.1.Down, qi x6.1.UpSpan, qi x6.1.DownSpan, .row 3]], [rr 1 eS kl12 true, none, rr 2 enc_Note ([(Note.mk x23 x24.1)] : List Note) true, rr 2 enc_Note m25 true]⟩) rfl rfl rfl rfl ?_; simp only [putT,st,ev,gt,hp,ofV,constT,intT,lm]
       refine WL_nil (by kernel_rfl) ?_
       refine W_region ?_
       iterate 3 (refine WO_op rfl rfl rfl ?_; simp only [putT,st,ev,gt,hp,ofV,constT,intT,lm])
       refine WO_nil ?_
       exact hW1 _ _ ((IH1 _ _ _ _ _ _ H1 rfl).2) (le_intro [0, 1, 2] [0, 3] (by decide) (by decide) rfl (by simp [leS, leT, leA, gt]) (by simp [leB, leT, leA]) (by simp [leR]))
      ·
       replace H1 := fl hc H1
       refine W_skip ?_
       refine W_region ?_
       iterate 3 (refine WO_op rfl rfl rfl ?_; simp only [putT,st,ev,gt,hp,ofV,constT,intT,lm])
       refine WO_nil ?_
       exact hW1 _ _ ((IH1 _ _ _ _ _ _ H1 rfl).2) (le_intro [0, 1, 2] [0, 1] (by decide) (by decide) rfl (by simp [leS, leT, leA, gt]) (by simp [leB, leT, leA]) (by simp [leR]))
     ·
      replace H1 := fl hc H1
      refine W_exit ?_
      obtain rfl := Option.some.inj H1
      exact hX1 1 (v18, v19, v20, v21) _ rfl (le_intro [0, 1, 2] [1] (by decide) (by decide) rfl (by simp [leS, leT, leA, gt]) (by simp [leB, leT, leA]) (by simp [leR]))
  ·
   obtain rfl := hp
   refine W_seq (W_region ?_)
   refine WO_op (x := .row 1) (σ' := ⟨[], [some [.c (cL eU t16.1), qi t16.2.1, qi t16.2.2.1], some [qs [], qs [], qi 0, qi 0, .nil, qi 0, qi 0, qi 0, qi 0, .nil], some [qs x3.1, qs x4.1, qi (IntKind.i64.wrap (1 + x2.1)), qi (IntKind.i64.wrap ((IntKind.i64.wrap (1 + x2.1)) + x5.1)), .row 0, qi x6.1.Up, qi x6.1.Down, qi x6.1.UpSpan, qi x6.1.DownSpan, .nil]], [rr 3 enc_Metric t16.2.2.2 true, rr 1 eS kl12 true]⟩) rfl rfl (ev_bs kl12 eS rfl rfl rfl rfl) ?_; simp only [putT,st,ev,gt,hp,ofV,constT,intT,lm]
   refine WO_op rfl rfl rfl ?_; simp only [putT,st,ev,gt,hp,ofV,constT,intT,lm]
   refine WO_nil (W_seq (W_seq (W_region ?_)))
   refine WO_op rfl rfl rfl ?_; simp only [putT,st,ev,gt,hp,ofV,constT,intT,lm]
   refine WO_nil ?_
   refine W_block ?_
   obtain ⟨t26, ht26, H⟩ := bnd H
   refine loop_ruleM (ls := [.b 0]) 2 (fun (i : Nat) (t26 : List Int × Int × Int × List Note) => match i with | 0 => ⟨[.no, .no, .bp 1 0, .no, .bp 2 0], [some [.c (cL eU t26.1), qi t26.2.1, qi t26.2.2.1], some [qs [], qs [], qi 0, qi 0, .nil, qi 0, qi 0, qi 0, qi 0, .nil], some [qs x3.1, qs x4.1, qi (IntKind.i64.wrap (1 + x2.1)), qi (IntKind.i64.wrap ((IntKind.i64.wrap (1 + x2.1)) + x5.1)), .row 0, qi x6.1.Up, qi x6.1.Down, qi x6.1.UpSpan, qi x6.1.DownSpan, .nil]], [rr 3 enc_Metric t16.2.2.2 true]⟩ | _ => ⟨[.no, .no, .bp 1 0, .no, .bp 2 0], [some [.c (cL eU t26.1), qi t26.2.1, qi t26.2.2.1], some [qs [], qs [], qi 0, qi 0, .nil, qi 0, qi 0, qi 0, qi 0, .nil], some [qs x3.1, qs x4.1, qi (IntKind.i64.wrap (1 + x2.1)), qi (IntKind.i64.wrap ((IntKind.i64.wrap (1 + x2.1)) + x5.1)), .row 0, qi x6.1.Up, qi x6.1.Down, qi x6.1.UpSpan, qi x6.1.DownSpan, .row 1]], [rr 3 enc_Metric t16.2.2.2 true, rr 2 enc_Note t26.2.2.2 true]⟩) (fun (i : Nat) t => match i with | 0 => t26 = t ∧ t.2.2.2 = [] | 1 => t26 = t | _ => False) ⟨[.bp 0 0, .no, .bp 1 0, .no, .bp 2 0, .no, .no, .no, .row 0, qi 0], [some [.c (cL eU t16.1), qi t16.2.1, qi t16.2.2.1], some [qs [], qs [], qi 0, qi 0, .nil, qi 0, qi 0, qi 0, qi 0, .nil], some [qs x3.1, qs x4.1, qi (IntKind.i64.wrap (1 + x2.1)), qi (IntKind.i64.wrap ((IntKind.i64.wrap (1 + x2.1)) + x5.1)), .row 1, qi x6.1.Up, qi x6.1.Down, qi x6.1.UpSpan, qi x6.1.DownSpan, .nil]], [rr 1 eS kl12 true, rr 3 enc_Metric t16.2.2.2 true]⟩ (by repeat (first | exact mono_told | refine mono_seq ?_ | refine mono_blk ?_ | refine mono_lp ?_)) (le_intro [0, 1, 2] [1, 0] (by decide) (by decide) rfl (by simp [leS, leT, leA, gt]) (by simp [leB, leT, leA]) (by simp [leR])) ?_ ?_
   ·
    intro i t1 hp
    rcases i with _ | _ | i
    ·
     obtain ⟨rfl, hz_t26_3⟩ := hp
     refine W_seq (W_region ?_)
     refine WO_op (x := .ag [qs x3.1, qs x4.1, qi (IntKind.i64.wrap (1 + x2.1)), qi (IntKind.i64.wrap ((IntKind.i64.wrap (1 + x2.1)) + x5.1)), .row 0, qi x6.1.Up, qi x6.1.Down, qi x6.1.UpSpan, qi x6.1.DownSpan, .nil]) rfl rfl rfl ?_
     refine WO_op (x := .no) (σ' := ⟨[], [some [.c (cL eU t26.1), qi t26.2.1, qi t26.2.2.1], some [qs x3.1, qs x4.1, qi (IntKind.i64.wrap (1 + x2.1)), qi (IntKind.i64.wrap ((IntKind.i64.wrap (1 + x2.1)) + x5.1)), .row 0, qi x6.1.Up, qi x6.1.Down, qi x6.1.UpSpan, qi x6.1.DownSpan, .nil], some [qs x3.1, qs x4.1, qi (IntKind.i64.wrap (1 + x2.1)), qi (IntKind.i64.wrap ((IntKind.i64.wrap (1 + x2.1)) + x5.1)), .row 0, qi x6.1.Up, qi x6.1.Down, qi x6.1.UpSpan, qi x6.1.DownSpan, .nil]], [rr 3 enc_Metric t16.2.2.2 true]⟩) rfl rfl rfl ?_; simp only [putT,st,ev,gt,hp,ofV,constT,intT,lm]
     refine WO_nil ?_
     refine W_ret ?_
     obtain rfl := Option.some.inj H
     exact told5 rfl rfl rfl rfl (by have er : Try.f130.resultTypes.toList = [37] := rfl; have e37 : sizes Try.prog 8 37 = [0, 0, 0, 0, 3, 0, 0, 0, 0, 2] := (by kernel_rfl); simp only [er, fitAs, e37, fitA, fit_s, fit_n, fit_o, fit_z, fit_e, if_true]; try rfl) (by simp only [hz_t26_3]; try rfl)
    ·
     obtain rfl := hp
     refine W_seq (W_region ?_)
     refine WO_op (x := .ag [qs x3.1, qs x4.1, qi (IntKind.i64.wrap (1 + x2.1)), qi (IntKind.i64.wrap ((IntKind.i64.wrap (1 + x2.1)) + x5.1)), .row 0, qi x6.1.Up, qi x6.1.Down, qi x6.1.UpSpan, qi x6.1.DownSpan, .row 1]) rfl rfl rfl ?_
     refine WO_op (x := .no) (σ' := ⟨[], [some [.c (cL eU t26.1), qi t26.2.1, qi t26.2.2.1], some [qs x3.1, qs x4.1, qi (IntKind.i64.wrap (1 + x2.1)), qi (IntKind.i64.wrap ((IntKind.i64.wrap (1 + x2.1)) + x5.1)), .row 0, qi x6.1.Up, qi x6.1.Down, qi x6.1.UpSpan, qi x6.1.DownSpan, .row 1], some [qs x3.1, qs x4.1, qi (IntKind.i64.wrap (1 + x2.1)), qi (IntKind.i64.wrap ((IntKind.i64.wrap (1 + x2.1)) + x5.1)), .row 0, qi x6.1.Up, qi x6.1.Down, qi x6.1.UpSpan, qi x6.1.DownSpan, .row 1]], [rr 3 enc_Metric t16.2.2.2 true, rr 2 enc_Note t26.2.2.2 true]⟩) rfl rfl rfl ?_; simp only [putT,st,ev,gt,hp,ofV,constT,intT,lm]
     refine WO_nil ?_
     refine W_ret ?_
     obtain rfl := Option.some.inj H
     exact told5 rfl rfl rfl rfl (fitAs_nz rfl) rfl
    · exact hp.elim
   ·
    intro V1 hV1 hW1 hX1
    refine (spec_l6DrawRight.l1.partial_correctness (fun v17 v18 v19 v20 v21 s' => s' = t26 → (v21 = [] → V1 ⟨[.bp 0 0, .no, .bp 1 0, .no, .bp 2 0, .no, .no, .no, .row 0, qi v17], [some [.c (cL eU v18), qi v19, qi v20], some [qs [], qs [], qi 0, qi 0, .nil, qi 0, qi 0, qi 0, qi 0, .nil], some [qs x3.1, qs x4.1, qi (IntKind.i64.wrap (1 + x2.1)), qi (IntKind.i64.wrap ((IntKind.i64.wrap (1 + x2.1)) + x5.1)), .row 1, qi x6.1.Up, qi x6.1.Down, qi x6.1.UpSpan, qi x6.1.DownSpan, .nil]], [rr 1 eS kl12 true, rr 3 enc_Metric t16.2.2.2 true]⟩) ∧ (V1 ⟨[.bp 0 0, .no, .bp 1 0, .no, .bp 2 0, .no, .no, .no, .row 0, qi v17], [some [.c (cL eU v18), qi v19, qi v20], some [qs [], qs [], qi 0, qi 0, .nil, qi 0, qi 0, qi 0, qi 0, .nil], some [qs x3.1, qs x4.1, qi (IntKind.i64.wrap (1 + x2.1)), qi (IntKind.i64.wrap ((IntKind.i64.wrap (1 + x2.1)) + x5.1)), .row 1, qi x6.1.Up, qi x6.1.Down, qi x6.1.UpSpan, qi x6.1.DownSpan, .row 2]], [rr 1 eS kl12 true, rr 3 enc_Metric t16.2.2.2 true, rr 2 enc_Note v21 true]⟩)) ?_ _ _ _ _ _ _ ht26 rfl).1 rfl
    intro l0 IH1 v17 v18 v19 v20 v21 s' H1 e
    subst e
    refine ⟨?_, ?_⟩
    ·
     intro hn_v21
     refine hV1 _ ?_
     refine W_seq (W_seq (W_region ?_))
     iterate 4 (refine WO_op rfl rfl rfl ?_; simp only [putT,st,ev,gt,hp,ofV,constT,intT,lm])
     refine WO_nil ?_
     refine W_cond rfl (fun hc => ?_) (fun hc => ?_)
     ·
      replace H1 := tr hc H1
      refine W_skip ?_
      refine W_seq ?_
      refine W_block ?_
      refine W_seq (W_region ?_)
      refine WO_op rfl rfl rfl ?_; simp only [putT,st,ev,gt,hp,ofV,constT,intT,lm]
      obtain ⟨x22, hx22, H1⟩ := bnd H1
      refine WO_op (x := qb x22.1) (σ' := ⟨[], [some [.c (cL eU x22.2.b), qi x22.2.i, qi x22.2.h], some [qs [], qs [], qi 0, qi 0, .nil, qi 0, qi 0, qi 0, qi 0, .nil], some [qs x3.1, qs x4.1, qi (IntKind.i64.wrap (1 + x2.1)), qi (IntKind.i64.wrap ((IntKind.i64.wrap (1 + x2.1)) + x5.1)), .row 1, qi x6.1.Up, qi x6.1.Down, qi x6.1.UpSpan, qi x6.1.DownSpan, .nil]], [rr 1 eS kl12 true, rr 3 enc_Metric t16.2.2.2 true]⟩) rfl rfl (ev_callG (al := [.bp 0 0, qi 3]) (ls := [.b 0]) (spec_l1Once_ok hx22) rfl rfl rfl rfl rfl (by decide) rfl rfl rfl rfl rfl rfl) ?_; simp only [putT,st,ev,gt,hp,ofV,constT,intT,lm]
      refine WO_nil ?_
      refine W_cond rfl (fun hc => ?_) (fun hc => ?_)
      ·
       replace H1 := tr hc H1
       refine W_drawL (by kernel_rfl) (by decide +kernel) ?_
       refine WL_op (x := .bp 2 9) rfl rfl rfl rfl ?_
       refine WL_op (x := .nil) rfl rfl rfl rfl ?_; simp only [putT,st,ev,gt,hp,ofV,constT,intT,lm]
       iterate 2 (refine WL_op rfl rfl rfl rfl ?_; simp only [putT,st,ev,gt,hp,ofV,constT,intT,lm])
       obtain ⟨x23, hx23, H1⟩ := bnd H1
       refine WL_op rfl rfl rfl (ev_ixR (en := eS) hx23 rfl rfl rfl rfl rfl rfl rfl) ?_; simp only [putT,st,ev,gt,hp,ofV,constT,intT,lm]
       refine WL_op (x := qs x23) rfl rfl rfl (ev_ldR (en := eS) hx23 rfl rfl rfl rfl) ?_; simp only [putT,st,ev,gt,hp,ofV,constT,intT,lm]
       refine WL_op rfl rfl rfl rfl ?_; simp only [putT,st,ev,gt,hp,ofV,constT,intT,lm]
       obtain ⟨x24, hx24, H1⟩ := bnd H1
       refine WL_op (x := qs x24.1) (σ' := ⟨[], [some [.c (cL eU x24.2.b), qi x24.2.i, qi x24.2.h], some [qs [], qs [], qi 0, qi 0, .nil, qi 0, qi 0, qi 0, qi 0, .nil], some [qs x3.1, qs x4.1, qi (IntKind.i64.wrap (1 + x2.1)), qi (IntKind.i64.wrap ((IntKind.i64.wrap (1 + x2.1)) + x5.1)), .row 1, qi x6.1.Up, qi x6.1.Down, qi x6.1.UpSpan, qi x6.1.DownSpan, .nil]], [rr 1 eS kl12 true, rr 3 enc_Metric t16.2.2.2 true]⟩) rfl rfl rfl (ev_callG (al := [.bp 0 0]) (ls := [.b 0]) (spec_l3DrawText_ok hx24) rfl rfl rfl rfl rfl (by decide) rfl rfl rfl rfl rfl rfl) ?_; simp only [putT,st,ev,gt,hp,ofV,constT,intT,lm]
       refine WL_op (x := .ag [qs x23, qs x24.1]) rfl rfl rfl rfl ?_; simp only [putT,st,ev,gt,hp,ofV,constT,intT,lm]
       refine WL_op (x := .row 2) (σ' := ⟨[], [some [.c (cL eU x24.2.b), qi x24.2.i, qi x24.2.h], some [qs [], qs [], qi 0, qi 0, .nil, qi 0, qi 0, qi 0, qi 0, .nil], some [qs x3.1, qs x4.1, qi (IntKind.i64.wrap (1 + x2.1)), qi (IntKind.i64.wrap ((IntKind.i64.wrap (1 + x2.1)) + x5.1)), .row 1, qi x6.1.Up, qi x6.1.Down, qi x6.1.UpSpan, qi x6.1.DownSpan, .nil]], [rr 1 eS kl12 true, rr 3 enc_Metric t16.2.2.2 true, rr 2 enc_Note ([(Note.mk x23 x24.1)] : List Note) true]⟩) rfl rfl rfl (ev_bs ([(Note.mk x23 x24.1)] : List Note) enc_Note rfl rfl rfl rfl) ?_; simp only [putT,st,ev,gt,hp,ofV,constT,intT,lm]
       obtain ⟨m25, hm25, H1⟩ := bnd H1
       refine WL_op (x := .row 3) (σ' := ⟨[], [some [.c (cL eU x24.2.b), qi x24.2.i, qi x24.2.h], some [qs [], qs [], qi 0, qi 0, .nil, qi 0, qi 0, qi 0, qi 0, .nil], some [qs x3.1, qs x4.1, qi (IntKind.i64.wrap (1 + x2.1)), qi (IntKind.i64.wrap ((IntKind.i64.wrap (1 + x2.1)) + x5.1)), .row 1, qi x6.1.Up, qi x6.1.Down, qi x6.1.UpSpan, qi x6.1.DownSpan, .nil]], [rr 1 eS kl12 true, rr 3 enc_Metric t16.2.2.2 true, rr 2 enc_Note ([(Note.mk x23 x24.1)] : List Note) true, rr 2 enc_Note m25 true]⟩) rfl rfl rfl (ev_appN (en := enc_Note) hm25 hn_v21 rfl rfl rfl rfl (Or.inl rfl) rfl rfl rfl rfl rfl rfl rfl rfl rfl (fun _ => rfl) rfl) ?_; simp only [putT,st,ev,gt,hp,ofV,constT,intT,lm]
       refine WL_op (x := .bp 2 9) rfl rfl rfl rfl ?_
       refine WL_op (x := .no) (σ' := ⟨[], [some [.c (cL eU x24.2.b), qi x24.2.i, qi x24.2.h], some [qs [], qs [], qi 0, qi 0, .nil, qi 0, qi 0, qi 0, qi 0, .nil], some [qs x3.1, qs x4.1, qi (IntKind.i64.wrap (1 + x2.1)), qi (IntKind.i64.wrap ((IntKind.i64.wrap (1 + x2.1)) + x5.1)), .row 1, qi x6.1.Up, qi x6.1.Down, qi x6.1.UpSpan, qi x6.1.DownSpan, .row 3]], [rr 1 eS kl12 true, rr 3 enc_Metric t16.2.2.2 true, rr 2 enc_Note ([(Note.mk x23 x24.1)] : List Note) true, rr 2 enc_Note m25 true]⟩) rfl rfl rfl rfl ?_; simp only [putT,st,ev,gt,hp,ofV,constT,intT,lm]
       refine WL_nil (by kernel_rfl) ?_
       refine W_region ?_
       iterate 3 (refine WO_op rfl rfl rfl ?_; simp only [putT,st,ev,gt,hp,ofV,constT,intT,lm])
       refine WO_nil ?_
       exact hW1 _ _ ((IH1 _ _ _ _ _ _ H1 rfl).2) (le_intro [0, 1, 2] [0, 1, 3] (by decide) (by decide) rfl (by simp [leS, leT, leA, gt]) (by simp [leB, leT, leA]) (by simp [leR]))
      ·
       replace H1 := fl hc H1
       refine W_skip ?_
       refine W_region ?_
       iterate 3 (refine WO_op rfl rfl rfl ?_; simp only [putT,st,ev,gt,hp,ofV,constT,intT,lm])
       refine WO_nil ?_
       exact hW1 _ _ ((IH1 _ _ _ _ _ _ H1 rfl).1 hn_v21) (le_intro [0, 1, 2] [0, 1] (by decide) (by decide) rfl (by simp [leS, leT, leA, gt]) (by simp [leB, leT, leA]) (by simp [leR]))
     ·
      replace H1 := fl hc H1
      refine W_exit ?_
      obtain rfl := Option.some.inj H1
      exact hX1 0 (v18, v19, v20, v21) _ ⟨rfl, hn_v21⟩ (le_intro [0, 1, 2] [1] (by decide) (by decide) rfl (by simp [leS, leT, leA, gt]) (by simp [leB, leT, leA]) (by simp [leR]))
    ·
     skip
     refine hV1 _ ?_
     refine W_seq (W_seq (W_region ?_))
     iterate 4 (refine WO_op rfl rfl rfl ?_; simp only [putT,st,ev,gt,hp,ofV,constT,intT,lm])
     refine WO_nil ?_
     refine W_cond rfl (fun hc => ?_) (fun hc => ?_)
     ·
      replace H1 := tr hc H1
      refine W_skip ?_
      refine W_seq ?_
      refine W_block ?_
      refine W_seq (W_region ?_)
      refine WO_op rfl rfl rfl ?_; simp only [putT,st,ev,gt,hp,ofV,constT,intT,lm]
      obtain ⟨x22, hx22, H1⟩ := bnd H1
      refine WO_op (x := qb x22.1) (σ' := ⟨[], [some [.c (cL eU x22.2.b), qi x22.2.i, qi x22.2.h], some [qs [], qs [], qi 0, qi 0, .nil, qi 0, qi 0, qi 0, qi 0, .nil], some [qs x3.1, qs x4.1, qi (IntKind.i64.wrap (1 + x2.1)), qi (IntKind.i64.wrap ((IntKind.i64.wrap (1 + x2.1)) + x5.1)), .row 1, qi x6.1.Up, qi x6.1.Down, qi x6.1.UpSpan, qi x6.1.DownSpan, .row 2]], [rr 1 eS kl12 true, rr 3 enc_Metric t16.2.2.2 true, rr 2 enc_Note v21 true]⟩) rfl rfl (ev_callG (al := [.bp 0 0, qi 3]) (ls := [.b 0]) (spec_l1Once_ok hx22) rfl rfl rfl rfl rfl (by decide) rfl rfl rfl rfl rfl rfl) ?_; simp only [putT,st,ev,gt,hp,ofV,constT,intT,lm]
      refine WO_nil ?_
      refine W_cond rfl (fun hc => ?_) (fun hc => ?_)
      ·
       replace H1 := tr hc H1
       refine W_drawL (by kernel_rfl) (by decide +kernel) ?_
       refine WL_op (x := .bp 2 9) rfl rfl rfl rfl ?_
       refine WL_op (x := .row 2) rfl rfl rfl rfl ?_; simp only [putT,st,ev,gt,hp,ofV,constT,intT,lm]
       iterate 2 (refine WL_op rfl rfl rfl rfl ?_; simp only [putT,st,ev,gt,hp,ofV,constT,intT,lm])
       obtain ⟨x23, hx23, H1⟩ := bnd H1
       refine WL_op rfl rfl rfl (ev_ixR (en := eS) hx23 rfl rfl rfl rfl rfl rfl rfl) ?_; simp only [putT,st,ev,gt,hp,ofV,constT,intT,lm]
       refine WL_op (x := qs x23) rfl rfl rfl (ev_ldR (en := eS) hx23 rfl rfl rfl rfl) ?_; simp only [putT,st,ev,gt,hp,ofV,constT,intT,lm]
       refine WL_op rfl rfl rfl rfl ?_; simp only [putT,st,ev,gt,hp,ofV,constT,intT,lm]
       obtain ⟨x24, hx24, H1⟩ := bnd H1
       refine WL_op (x := qs x24.1) (σ' := ⟨[], [some [.c (cL eU x24.2.b), qi x24.2.i, qi x24.2.h], some [qs [], qs [], qi 0, qi 0, .nil, qi 0, qi 0, qi 0, qi 0, .nil], some [qs x3.1, qs x4.1, qi (IntKind.i64.wrap (1 + x2.1)), qi (IntKind.i64.wrap ((IntKind.i64.wrap (1 + x2.1)) + x5.1)), .row 1, qi x6.1.Up, qi x6.1.Down, qi x6.1.UpSpan, qi x6.1.DownSpan, .row 2]], [rr 1 eS kl12 true, rr 3 enc_Metric t16.2.2.2 true, rr 2 enc_Note v21 true]⟩) rfl rfl rfl (ev_callG (al := [.bp 0 0]) (ls := [.b 0]) (spec_l3DrawText_ok hx24) rfl rfl rfl rfl rfl (by decide) rfl rfl rfl rfl rfl rfl) ?_; simp only [putT,st,ev,gt,hp,ofV,constT,intT,lm]
       refine WL_op (x := .ag [qs x23, qs x24.1]) rfl rfl rfl rfl ?_; simp only [putT,st,ev,gt,hp,ofV,constT,intT,lm]
       refine WL_op (x := .row 3) (σ' := ⟨[], [some [.c (cL eU x24.2.b), qi x24.2.i, qi x24.2.h], some [qs [], qs [], qi 0, qi 0, .nil, qi 0, qi 0, qi 0, qi 0, .nil], some [qs x3.1, qs x4.1, qi (IntKind.i64.wrap (1 + x2.1)), qi (IntKind.i64.wrap ((IntKind.i64.wrap (1 + x2.1)) + x5.1)), .row 1, qi x6.1.Up, qi x6.1.Down, qi x6.1.UpSpan, qi x6.1.DownSpan, .row 2]], [rr 1 eS kl12 true, rr 3 enc_Metric t16.2.2.2 true, rr 2 enc_Note v21 true, rr 2 enc_Note ([(Note.mk x23 x24.1)] : List Note) true]⟩) rfl rfl rfl (ev_bs ([(Note.mk x23 x24.1)] : List Note) enc_Note rfl rfl rfl rfl) ?_; simp only [putT,st,ev,gt,hp,ofV,constT,intT,lm]
       obtain ⟨m25, hm25, H1⟩ := bnd H1
       refine WL_op (x := .row 4) (σ' := ⟨[], [some [.c (cL eU x24.2.b), qi x24.2.i, qi x24.2.h], some [qs [], qs [], qi 0, qi 0, .nil, qi 0, qi 0, qi 0, qi 0, .nil], some [qs x3.1, qs x4.1, qi (IntKind.i64.wrap (1 + x2.1)), qi (IntKind.i64.wrap ((IntKind.i64.wrap (1 + x2.1)) + x5.1)), .row 1, qi x6.1.Up, qi x6.1.Down, qi x6.1.UpSpan, qi x6.1.DownSpan, .row 2]], [rr 1 eS kl12 true, rr 3 enc_Metric t16.2.2.2 true, none, rr 2 enc_Note ([(Note.mk x23 x24.1)] : List Note) true, rr 2 enc_Note m25 true]⟩) rfl rfl rfl (ev_app (en := enc_Note) hm25 rfl rfl rfl rfl (Or.inl rfl) rfl rfl rfl rfl rfl rfl rfl rfl rfl rfl rfl (fun _ => rfl) rfl (Or.inr rfl) rfl) ?_; simp only [putT,st,ev,gt,hp,ofV,constT,intT,lm]
       refine WL_op (x := .bp 2 9) rfl rfl rfl rfl ?_
       refine WL_op (x := .no) (σ' := ⟨[], [some [.c (cL eU x24.2.b), qi x24.2.i, qi x24.2.h], some [qs [], qs [], qi 0, qi 0, .nil, qi 0, qi 0, qi 0, qi 0, .nil], some [qs x3.1, qs x4.1, qi (IntKind.i64.wrap (1 + x2.1)), qi (IntKind.i64.wrap ((IntKind.i64.wrap (1 + x2.1)) + x5.1)), .row 1, qi x6.1.Up, qi x6.1.Down, qi x6.1.UpSpan, qi x6.1.DownSpan, .row 4]], [rr 1 eS kl12 true, rr 3 enc_Metric t16.2.2.2 true, none, rr 2 enc_Note ([(Note.mk x23 x24.1)] : List Note) true, rr 2 enc_Note m25 true]⟩) rfl rfl rfl rfl ?_; simp only [putT,st,ev,gt,hp,ofV,constT,intT,lm]
       refine WL_nil (by kernel_rfl) ?_
       refine W_region ?_
       iterate 3 (refine WO_op rfl rfl rfl ?_; simp only [putT,st,ev,gt,hp,ofV,constT,intT,lm])
       refine WO_nil ?_
       exact hW1 _ _ ((IH1 _ _ _ _ _ _ H1 rfl).2) (le_intro [0, 1, 2] [0, 1, 4] (by decide) (by decide) rfl (by simp [leS, leT, leA, gt]) (by simp [leB, leT, leA]) (by simp [leR]))
      ·
       replace H1 := fl hc H1
       refine W_skip ?_
       refine W_region ?_
       iterate 3 (refine WO_op rfl rfl rfl ?_; simp only [putT,st,ev,gt,hp,ofV,constT,intT,lm])
       refine WO_nil ?_
       exact hW1 _ _ ((IH1 _ _ _ _ _ _ H1 rfl).2) (le_intro [0, 1, 2] [0, 1, 2] (by decide) (by decide) rfl (by simp [leS, leT, leA, gt]) (by simp [leB, leT, leA]) (by simp [leR]))
     ·
      replace H1 := fl hc H1
      refine W_exit ?_
      obtain rfl := Option.some.inj H1
      exact hX1 1 (v18, v19, v20, v21) _ rfl (le_intro [0, 1, 2] [1, 2] (by decide) (by decide) rfl (by simp [leS, leT, leA, gt]) (by simp [leB, leT, leA]) (by simp [leR]))
  · exact hp.elim
 ·
  intro V1 hV1 hW1 hX1
  refine (spec_l6DrawRight.l0.partial_correctness (fun v7 v8 v9 v10 v11 s' => s' = t16 → (v11 = [] → V1 ⟨[.bp 0 0, .no, .bp 1 0, .no, .bp 2 0, .row 0, qi v7], [some [.c (cL eU v8), qi v9, qi v10], some [qs [], qs [], qi 0, qi 0, .nil, qi 0, qi 0, qi 0, qi 0, .nil], some [qs x3.1, qs x4.1, qi (IntKind.i64.wrap (1 + x2.1)), qi (IntKind.i64.wrap ((IntKind.i64.wrap (1 + x2.1)) + x5.1)), .nil, qi x6.1.Up, qi x6.1.Down, qi x6.1.UpSpan, qi x6.1.DownSpan, .nil]], [rr 1 eS kl11 true]⟩) ∧ (V1 ⟨[.bp 0 0, .no, .bp 1 0, .no, .bp 2 0, .row 0, qi v7], [some [.c (cL eU v8), qi v9, qi v10], some [qs [], qs [], qi 0, qi 0, .nil, qi 0, qi 0, qi 0, qi 0, .nil], some [qs x3.1, qs x4.1, qi (IntKind.i64.wrap (1 + x2.1)), qi (IntKind.i64.wrap ((IntKind.i64.wrap (1 + x2.1)) + x5.1)), .row 1, qi x6.1.Up, qi x6.1.Down, qi x6.1.UpSpan, qi x6.1.DownSpan, .nil]], [rr 1 eS kl11 true, rr 3 enc_Metric v11 true]⟩)) ?_ _ _ _ _ _ _ ht16 rfl).1 rfl
  intro l0 IH1 v7 v8 v9 v10 v11 s' H1 e
  subst e
  refine ⟨?_, ?_⟩
  ·
   intro hn_v11
   refine hV1 _ ?_
   refine W_seq (W_seq (W_region ?_))
   iterate 4 (refine WO_op rfl rfl rfl ?_; simp only [putT,st,ev,gt,hp,ofV,constT,intT,lm])
   refine WO_nil ?_
   refine W_cond rfl (fun hc => ?_) (fun hc => ?_)
   ·
    replace H1 := tr hc H1
    refine W_skip ?_
    refine W_seq ?_
    refine W_block ?_
    refine W_seq (W_region ?_)
    refine WO_op rfl rfl rfl ?_; simp only [putT,st,ev,gt,hp,ofV,constT,intT,lm]
    obtain ⟨x12, hx12, H1⟩ := bnd H1
    refine WO_op (x := qb x12.1) (σ' := ⟨[], [some [.c (cL eU x12.2.b), qi x12.2.i, qi x12.2.h], some [qs [], qs [], qi 0, qi 0, .nil, qi 0, qi 0, qi 0, qi 0, .nil], some [qs x3.1, qs x4.1, qi (IntKind.i64.wrap (1 + x2.1)), qi (IntKind.i64.wrap ((IntKind.i64.wrap (1 + x2.1)) + x5.1)), .nil, qi x6.1.Up, qi x6.1.Down, qi x6.1.UpSpan, qi x6.1.DownSpan, .nil]], [rr 1 eS kl11 true]⟩) rfl rfl (ev_callG (al := [.bp 0 0, qi 2]) (ls := [.b 0]) (spec_l1Once_ok hx12) rfl rfl rfl rfl rfl (by decide) rfl rfl rfl rfl rfl rfl) ?_; simp only [putT,st,ev,gt,hp,ofV,constT,intT,lm]
    refine WO_nil ?_
    refine W_cond rfl (fun hc => ?_) (fun hc => ?_)
    ·
     replace H1 := tr hc H1
     refine W_seq (W_region ?_)
     refine WO_op rfl rfl rfl ?_; simp only [putT,st,ev,gt,hp,ofV,constT,intT,lm]
     obtain ⟨x13, hx13, H1⟩ := bnd H1
     refine WO_op (x := .ag [qs x13.1.Name, qi x13.1.Kind, qi x13.1.Goal]) (σ' := ⟨[], [some [.c (cL eU x13.2.b), qi x13.2.i, qi x13.2.h], some [qs [], qs [], qi 0, qi 0, .nil, qi 0, qi 0, qi 0, qi 0, .nil], some [qs x3.1, qs x4.1, qi (IntKind.i64.wrap (1 + x2.1)), qi (IntKind.i64.wrap ((IntKind.i64.wrap (1 + x2.1)) + x5.1)), .nil, qi x6.1.Up, qi x6.1.Down, qi x6.1.UpSpan, qi x6.1.DownSpan, .nil]], [rr 1 eS kl11 true]⟩) rfl rfl (ev_callG (al := [.bp 0 0]) (ls := [.b 0]) (spec_l6DrawMetric_ok hx13) rfl rfl rfl rfl rfl (by decide) rfl rfl rfl rfl rfl rfl) ?_; simp only [putT,st,ev,gt,hp,ofV,constT,intT,lm]
     refine WO_op (x := .bp 3 0) (σ' := ⟨[], [some [.c (cL eU x13.2.b), qi x13.2.i, qi x13.2.h], some [qs [], qs [], qi 0, qi 0, .nil, qi 0, qi 0, qi 0, qi 0, .nil], some [qs x3.1, qs x4.1, qi (IntKind.i64.wrap (1 + x2.1)), qi (IntKind.i64.wrap ((IntKind.i64.wrap (1 + x2.1)) + x5.1)), .nil, qi x6.1.Up, qi x6.1.Down, qi x6.1.UpSpan, qi x6.1.DownSpan, .nil], some [qs [], qi 0, qi 0]], [rr 1 eS kl11 true]⟩) rfl rfl rfl ?_
     refine WO_op (x := .no) (σ' := ⟨[], [some [.c (cL eU x13.2.b), qi x13.2.i, qi x13.2.h], some [qs [], qs [], qi 0, qi 0, .nil, qi 0, qi 0, qi 0, qi 0, .nil], some [qs x3.1, qs x4.1, qi (IntKind.i64.wrap (1 + x2.1)), qi (IntKind.i64.wrap ((IntKind.i64.wrap (1 + x2.1)) + x5.1)), .nil, qi x6.1.Up, qi x6.1.Down, qi x6.1.UpSpan, qi x6.1.DownSpan, .nil], some [qs x13.1.Name, qi x13.1.Kind, qi x13.1.Goal]], [rr 1 eS kl11 true]⟩) rfl rfl rfl ?_; simp only [putT,st,ev,gt,hp,ofV,constT,intT,lm]
     refine WO_nil (W_seq (W_region ?_))
     iterate 2 (refine WO_op rfl rfl rfl ?_; simp only [putT,st,ev,gt,hp,ofV,constT,intT,lm])
     obtain ⟨x14, hx14, H1⟩ := bnd H1
     refine WO_op rfl rfl (ev_ixR (en := eS) hx14 rfl rfl rfl rfl rfl rfl rfl) ?_; simp only [putT,st,ev,gt,hp,ofV,constT,intT,lm]
     refine WO_op (x := qs x14) rfl rfl (ev_ldR (en := eS) hx14 rfl rfl rfl rfl) ?_; simp only [putT,st,ev,gt,hp,ofV,constT,intT,lm]
     refine WO_op (x := .bp 3 0) rfl rfl rfl ?_
     refine WO_op (x := .no) (σ' := ⟨[], [some [.c (cL eU x13.2.b), qi x13.2.i, qi x13.2.h], some [qs [], qs [], qi 0, qi 0, .nil, qi 0, qi 0, qi 0, qi 0, .nil], some [qs x3.1, qs x4.1, qi (IntKind.i64.wrap (1 + x2.1)), qi (IntKind.i64.wrap ((IntKind.i64.wrap (1 + x2.1)) + x5.1)), .nil, qi x6.1.Up, qi x6.1.Down, qi x6.1.UpSpan, qi x6.1.DownSpan, .nil], some [qs x14, qi x13.1.Kind, qi x13.1.Goal]], [rr 1 eS kl11 true]⟩) rfl rfl rfl ?_; simp only [putT,st,ev,gt,hp,ofV,constT,intT,lm]
     refine WO_nil (W_region ?_)
     refine WO_op (x := .bp 2 4) rfl rfl rfl ?_
     refine WO_op (x := .nil) rfl rfl rfl ?_
     refine WO_op (x := .ag [qs x14, qi x13.1.Kind, qi x13.1.Goal]) rfl rfl rfl ?_; simp only [putT,st,ev,gt,hp,ofV,constT,intT,lm]
     refine WO_op (x := .row 1) (σ' := ⟨[], [some [.c (cL eU x13.2.b), qi x13.2.i, qi x13.2.h], some [qs [], qs [], qi 0, qi 0, .nil, qi 0, qi 0, qi 0, qi 0, .nil], some [qs x3.1, qs x4.1, qi (IntKind.i64.wrap (1 + x2.1)), qi (IntKind.i64.wrap ((IntKind.i64.wrap (1 + x2.1)) + x5.1)), .nil, qi x6.1.Up, qi x6.1.Down, qi x6.1.UpSpan, qi x6.1.DownSpan, .nil], some [qs x14, qi x13.1.Kind, qi x13.1.Goal]], [rr 1 eS kl11 true, rr 3 enc_Metric ([(Metric.mk x14 x13.1.Kind x13.1.Goal)] : List Metric) true]⟩) rfl rfl (ev_bs ([(Metric.mk x14 x13.1.Kind x13.1.Goal)] : List Metric) enc_Metric rfl rfl rfl rfl) ?_; simp only [putT,st,ev,gt,hp,ofV,constT,intT,lm]
     obtain ⟨m15, hm15, H1⟩ := bnd H1
     refine WO_op (x := .row 2) (σ' := ⟨[], [some [.c (cL eU x13.2.b), qi x13.2.i, qi x13.2.h], some [qs [], qs [], qi 0, qi 0, .nil, qi 0, qi 0, qi 0, qi 0, .nil], some [qs x3.1, qs x4.1, qi (IntKind.i64.wrap (1 + x2.1)), qi (IntKind.i64.wrap ((IntKind.i64.wrap (1 + x2.1)) + x5.1)), .nil, qi x6.1.Up, qi x6.1.Down, qi x6.1.UpSpan, qi x6.1.DownSpan, .nil], some [qs x14, qi x13.1.Kind, qi x13.1.Goal]], [rr 1 eS kl11 true, rr 3 enc_Metric ([(Metric.mk x14 x13.1.Kind x13.1.Goal)] : List Metric) true, rr 3 enc_Metric m15 true]⟩) rfl rfl (ev_appN (en := enc_Metric) hm15 hn_v11 rfl rfl rfl rfl (Or.inl rfl) rfl rfl rfl rfl rfl rfl rfl rfl rfl (fun _ => rfl) rfl) ?_; simp only [putT,st,ev,gt,hp,ofV,constT,intT,lm]
     refine WO_op (x := .bp 2 4) rfl rfl rfl ?_
     refine WO_op (x := .no) (σ' := ⟨[], [some [.c (cL eU x13.2.b), qi x13.2.i, qi x13.2.h], some [qs [], qs [], qi 0, qi 0, .nil, qi 0, qi 0, qi 0, qi 0, .nil], some [qs x3.1, qs x4.1, qi (IntKind.i64.wrap (1 + x2.1)), qi (IntKind.i64.wrap ((IntKind.i64.wrap (1 + x2.1)) + x5.1)), .row 2, qi x6.1.Up, qi x6.1.Down, qi x6.1.UpSpan, qi x6.1.DownSpan, .nil], some [qs x14, qi x13.1.Kind, qi x13.1.Goal]], [rr 1 eS kl11 true, rr 3 enc_Metric ([(Metric.mk x14 x13.1.Kind x13.1.Goal)] : List Metric) true, rr 3 enc_Metric m15 true]⟩) rfl rfl rfl ?_; simp only [putT,st,ev,gt,hp,ofV,constT,intT,lm]
     refine WO_nil (W_region ?_)
     iterate 3 (refine WO_op rfl rfl rfl ?_; simp only [putT,st,ev,gt,hp,ofV,constT,intT,lm])
     refine WO_nil ?_
     exact hW1 _ _ ((IH1 _ _ _ _ _ _ H1 rfl).2) (le_intro [0, 1, 2] [0, 2] (by decide) (by decide) rfl (by simp [leS, leT, leA, gt]) (by simp [leB, leT, leA]) (by simp [leR]))
    ·
     replace H1 := fl hc H1
     refine W_skip ?_
     refine W_region ?_
     iterate 3 (refine WO_op rfl rfl rfl ?_; simp only [putT,st,ev,gt,hp,ofV,constT,intT,lm])
     refine WO_nil ?_
     exact hW1 _ _ ((IH1 _ _ _ _ _ _ H1 rfl).1 hn_v11) (le_intro [0, 1, 2] [0] (by decide) (by decide) rfl (by simp [leS, leT, leA, gt]) (by simp [leB, leT, leA]) (by simp [leR]))
   ·
    replace H1 := fl hc H1
    refine W_exit ?_
    obtain rfl := Option.some.inj H1
    exact hX1 0 (v8, v9, v10, v11) _ ⟨rfl, hn_v11⟩ (le_intro [0, 1, 2] [] (by decide) (by decide) rfl (by simp [leS, leT, leA, gt]) (by simp [leB, leT, leA]) (by simp [leR]))
  ·
   skip
   refine hV1 _ ?_
   refine W_seq (W_seq (W_region ?_))
   iterate 4 (refine WO_op rfl rfl rfl ?_; simp only [putT,st,ev,gt,hp,ofV,constT,intT,lm])
   refine WO_nil ?_
   refine W_cond rfl (fun hc => ?_) (fun hc => ?_)
   ·
    replace H1 := tr hc H1
    refine W_skip ?_
    refine W_seq ?_
    refine W_block ?_
    refine W_seq (W_region ?_)
    refine WO_op rfl rfl rfl ?_; simp only [putT,st,ev,gt,hp,ofV,constT,intT,lm]
    obtain ⟨x12, hx12, H1⟩ := bnd H1
    refine WO_op (x := qb x12.1) (σ' := ⟨[], [some [.c (cL eU x12.2.b), qi x12.2.i, qi x12.2.h], some [qs [], qs [], qi 0, qi 0, .nil, qi 0, qi 0, qi 0, qi 0, .nil], some [qs x3.1, qs x4.1, qi (IntKind.i64.wrap (1 + x2.1)), qi (IntKind.i64.wrap ((IntKind.i64.wrap (1 + x2.1)) + x5.1)), .row 1, qi x6.1.Up, qi x6.1.Down, qi x6.1.UpSpan, qi x6.1.DownSpan, .nil]], [rr 1 eS kl11 true, rr 3 enc_Metric v11 true]⟩) rfl rfl (ev_callG (al := [.bp 0 0, qi 2]) (ls := [.b 0]) (spec_l1Once_ok hx12) rfl rfl rfl rfl rfl (by decide) rfl rfl rfl rfl rfl rfl) ?_; simp only [putT,st,ev,gt,hp,ofV,constT,intT,lm]
    refine WO_nil ?_
    refine W_cond rfl (fun hc => ?_) (fun hc => ?_)
    ·
     replace H1 := tr hc H1
     refine W_seq (W_region ?_)
     refine WO_op rfl rfl rfl ?_; simp only [putT,st,ev,gt,hp,ofV,constT,intT,lm]
     obtain ⟨x13, hx13, H1⟩ := bnd H1
     refine WO_op (x := .ag [qs x13.1.Name, qi x13.1.Kind, qi x13.1.Goal]) (σ' := ⟨[], [some [.c (cL eU x13.2.b), qi x13.2.i, qi x13.2.h], some [qs [], qs [], qi 0, qi 0, .nil, qi 0, qi 0, qi 0, qi 0, .nil], some [qs x3.1, qs x4.1, qi (IntKind.i64.wrap (1 + x2.1)), qi (IntKind.i64.wrap ((IntKind.i64.wrap (1 + x2.1)) + x5.1)), .row 1, qi x6.1.Up, qi x6.1.Down, qi x6.1.UpSpan, qi x6.1.DownSpan, .nil]], [rr 1 eS kl11 true, rr 3 enc_Metric v11 true]⟩) rfl rfl (ev_callG (al := [.bp 0 0]) (ls := [.b 0]) (spec_l6DrawMetric_ok hx13) rfl rfl rfl rfl rfl (by decide) rfl rfl rfl rfl rfl rfl) ?_; simp only [putT,st,ev,gt,hp,ofV,constT,intT,lm]
     refine WO_op (x := .bp 3 0) (σ' := ⟨[], [some [.c (cL eU x13.2.b), qi x13.2.i, qi x13.2.h], some [qs [], qs [], qi 0, qi 0, .nil, qi 0, qi 0, qi 0, qi 0, .nil], some [qs x3.1, qs x4.1, qi (IntKind.i64.wrap (1 + x2.1)), qi (IntKind.i64.wrap ((IntKind.i64.wrap (1 + x2.1)) + x5.1)), .row 1, qi x6.1.Up, qi x6.1.Down, qi x6.1.UpSpan, qi x6.1.DownSpan, .nil], some [qs [], qi 0, qi 0]], [rr 1 eS kl11 true, rr 3 enc_Metric v11 true]⟩) rfl rfl rfl ?_
     refine WO_op (x := .no) (σ' := ⟨[], [some [.c (cL eU x13.2.b), qi x13.2.i, qi x13.2.h], some [qs [], qs [], qi 0, qi 0, .nil, qi 0, qi 0, qi 0, qi 0, .nil], some [qs x3.1, qs x4.1, qi (IntKind.i64.wrap (1 + x2.1)), qi (IntKind.i64.wrap ((IntKind.i64.wrap (1 + x2.1)) + x5.1)), .row 1, qi x6.1.Up, qi x6.1.Down, qi x6.1.UpSpan, qi x6.1.DownSpan, .nil], some [qs x13.1.Name, qi x13.1.Kind, qi x13.1.Goal]], [rr 1 eS kl11 true, rr 3 enc_Metric v11 true]⟩) rfl rfl rfl ?_; simp only [putT,st,ev,gt,hp,ofV,constT,intT,lm]
     refine WO_nil (W_seq (W_region ?_))
     iterate 2 (refine WO_op rfl rfl rfl ?_; simp only [putT,st,ev,gt,hp,ofV,constT,intT,lm])
     obtain ⟨x14, hx14, H1⟩ := bnd H1
     refine WO_op rfl rfl (ev_ixR (en := eS) hx14 rfl rfl rfl rfl rfl rfl rfl) ?_; simp only [putT,st,ev,gt,hp,ofV,constT,intT,lm]
     refine WO_op (x := qs x14) rfl rfl (ev_ldR (en := eS) hx14 rfl rfl rfl rfl) ?_; simp only [putT,st,ev,gt,hp,ofV,constT,intT,lm]
     refine WO_op (x := .bp 3 0) rfl rfl rfl ?_
     refine WO_op (x := .no) (σ' := ⟨[], [some [.c (cL eU x13.2.b), qi x13.2.i, qi x13.2.h], some [qs [], qs [], qi 0, qi 0, .nil, qi 0, qi 0, qi 0, qi 0, .nil], some [qs x3.1, qs x4.1, qi (IntKind.i64.wrap (1 + x2.1)), qi (IntKind.i64.wrap ((IntKind.i64.wrap (1 + x2.1)) + x5.1)), .row 1, qi x6.1.Up, qi x6.1.Down, qi x6.1.UpSpan, qi x6.1.DownSpan, .nil], some [qs x14, qi x13.1.Kind, qi x13.1.Goal]], [rr 1 eS kl11 true, rr 3 enc_Metric v11 true]⟩) rfl rfl rfl ?_; simp only [putT,st,ev,gt,hp,ofV,constT,intT,lm]
     refine WO_nil (W_region ?_)
     refine WO_op (x := .bp 2 4) rfl rfl rfl ?_
     refine WO_op (x := .row 1) rfl rfl rfl ?_
     refine WO_op (x := .ag [qs x14, qi x13.1.Kind, qi x13.1.Goal]) rfl rfl rfl ?_; simp only [putT,st,ev,gt,hp,ofV,constT,intT,lm]
     refine WO_op (x := .row 2) (σ' := ⟨[], [some [.c (cL eU x13.2.b), qi x13.2.i, qi x13.2.h], some [qs [], qs [], qi 0, qi 0, .nil, qi 0, qi 0, qi 0, qi 0, .nil], some [qs x3.1, qs x4.1, qi (IntKind.i64.wrap (1 + x2.1)), qi (IntKind.i64.wrap ((IntKind.i64.wrap (1 + x2.1)) + x5.1)), .row 1, qi x6.1.Up, qi x6.1.Down, qi x6.1.UpSpan, qi x6.1.DownSpan, .nil], some [qs x14, qi x13.1.Kind, qi x13.1.Goal]], [rr 1 eS kl11 true, rr 3 enc_Metric v11 true, rr 3 enc_Metric ([(Metric.mk x14 x13.1.Kind x13.1.Goal)] : List Metric) true]⟩) rfl rfl (ev_bs ([(Metric.mk x14 x13.1.Kind x13.1.Goal)] : List Metric) enc_Metric rfl rfl rfl rfl) ?_; simp only [putT,st,ev,gt,hp,ofV,constT,intT,lm]
     obtain ⟨m15, hm15, H1⟩ := bnd H1
     refine WO_op (x := .row 3) (σ' := ⟨[], [some [.c (cL eU x13.2.b), qi x13.2.i, qi x13.2.h], some [qs [], qs [], qi 0, qi 0, .nil, qi 0, qi 0, qi 0, qi 0, .nil], some [qs x3.1, qs x4.1, qi (IntKind.i64.wrap (1 + x2.1)), qi (IntKind.i64.wrap ((IntKind.i64.wrap (1 + x2.1)) + x5.1)), .row 1, qi x6.1.Up, qi x6.1.Down, qi x6.1.UpSpan, qi x6.1.DownSpan, .nil], some [qs x14, qi x13.1.Kind, qi x13.1.Goal]], [rr 1 eS kl11 true, none, rr 3 enc_Metric ([(Metric.mk x14 x13.1.Kind x13.1.Goal)] : List Metric) true, rr 3 enc_Metric m15 true]⟩) rfl rfl (ev_app (en := enc_Metric) hm15 rfl rfl rfl rfl (Or.inl rfl) rfl rfl rfl rfl rfl rfl rfl rfl rfl rfl rfl (fun _ => rfl) rfl (Or.inr rfl) rfl) ?_; simp only [putT,st,ev,gt,hp,ofV,constT,intT,lm]
     refine WO_op (x := .bp 2 4) rfl rfl rfl ?_
     refine WO_op (x := .no) (σ' := ⟨[], [some [.c (cL eU x13.2.b), qi x13.2.i, qi x13.2.h], some [qs [], qs [], qi 0, qi 0, .nil, qi 0, qi 0, qi 0, qi 0, .nil], some [qs x3.1, qs x4.1, qi (IntKind.i64.wrap (1 + x2.1)), qi (IntKind.i64.wrap ((IntKind.i64.wrap (1 + x2.1)) + x5.1)), .row 3, qi x6.1.Up, qi x6.1.Down, qi x6.1.UpSpan, qi x6.1.DownSpan, .nil], some [qs x14, qi x13.1.Kind, qi x13.1.Goal]], [rr 1 eS kl11 true, none, rr 3 enc_Metric ([(Metric.mk x14 x13.1.Kind x13.1.Goal)] : List Metric) true, rr 3 enc_Metric m15 true]⟩) rfl rfl rfl ?_; simp only [putT,st,ev,gt,hp,ofV,constT,intT,lm]
     refine WO_nil (W_region ?_)
     iterate 3 (refine WO_op rfl rfl rfl ?_; simp only [putT,st,ev,gt,hp,ofV,constT,intT,lm])
     refine WO_nil ?_
     exact hW1 _ _ ((IH1 _ _ _ _ _ _ H1 rfl).2) (le_intro [0, 1, 2] [0, 3] (by decide) (by decide) rfl (by simp [leS, leT, leA, gt]) (by simp [leB, leT, leA]) (by simp [leR]))
    ·
     replace H1 := fl hc H1
     refine W_skip ?_
     refine W_region ?_
     iterate 3 (refine WO_op rfl rfl rfl ?_; simp only [putT,st,ev,gt,hp,ofV,constT,intT,lm])
     refine WO_nil ?_
     exact hW1 _ _ ((IH1 _ _ _ _ _ _ H1 rfl).2) (le_intro [0, 1, 2] [0, 1] (by decide) (by decide) rfl (by simp [leS, leT, leA, gt]) (by simp [leB, leT, leA]) (by simp [leR]))
   ·
    replace H1 := fl hc H1
    refine W_exit ?_
    obtain rfl := Option.some.inj H1
    exact hX1 1 (v8, v9, v10, v11) _ rfl (le_intro [0, 1, 2] [1] (by decide) (by decide) rfl (by simp [leS, leT, leA, gt]) (by simp [leB, leT, leA]) (by simp [leR]))
theorem spec_l6Draw_ok {a1 : L1Cur} {r : Order × L1Cur} (H : spec_l6Draw a1 = some r) : R 71 [.p [(cL eU a1.b, none), (cI .i64 a1.i, none), (cI .i64 a1.h, none)]] = some (.ag [(cS r.1.Name, none), (cS r.1.Target, none), (cI .i64 r.1.Low, none), (cI .i64 r.1.High, none), (cL enc_Metric r.1.Metrics, some 3), (cI .i64 r.1.Pace.Up, none), (cI .i64 r.1.Pace.Down, none), (cI .i64 r.1.Pace.UpSpan, none), (cI .i64 r.1.Pace.DownSpan, none), (cL enc_Note r.1.Notes, some 2)], [some [(cL eU r.2.b, none), (cI .i64 r.2.i, none), (cI .i64 r.2.h, none)]]) := by
 unfold spec_l6Draw at H
 refine Fz_walk 74 rfl rfl Try.func71 rfl (by kernel_rfl) rfl rfl rfl rfl ?_
 simp only [tellVs, tellV, tells, tell, st0, padT, SX.newRow, SX.newBox, List.length_cons, List.length_nil, Nat.reduceAdd, Nat.reduceSub, List.replicate, List.cons_append, List.nil_append, List.foldl_cons, List.foldl_nil]
 refine W_seq (W_region ?_)
 refine WO_op (x := .bp 1 0) (σ' := ⟨[], [some [.c (cL eU a1.b), qi a1.i, qi a1.h], some [qs [], qs [], qi 0, qi 0, .nil, qi 0, qi 0, qi 0, qi 0, .nil]], []⟩) rfl rfl rfl ?_; simp only [putT,st,ev,gt,hp,ofV,constT,intT,lm]
 refine WO_nil (W_seq (W_region ?_))
 refine WO_op rfl rfl rfl ?_; simp only [putT,st,ev,gt,hp,ofV,constT,intT,lm]
 obtain ⟨x2, hx2, H⟩ := bnd H
 refine WO_op (x := .ag [qs x2.1.Name, qs x2.1.Target, qi x2.1.Low, qi x2.1.High, .row 0, qi x2.1.Pace.Up, qi x2.1.Pace.Down, qi x2.1.Pace.UpSpan, qi x2.1.Pace.DownSpan, .row 1]) (σ' := ⟨[], [some [.c (cL eU x2.2.b), qi x2.2.i, qi x2.2.h], some [qs [], qs [], qi 0, qi 0, .nil, qi 0, qi 0, qi 0, qi 0, .nil]], [rr 3 enc_Metric x2.1.Metrics true, rr 2 enc_Note x2.1.Notes true]⟩) rfl rfl (ev_callG (al := [.bp 0 0]) (ls := [.b 0]) (spec_l6DrawRight_ok hx2) rfl rfl rfl rfl rfl (by decide) rfl rfl rfl rfl rfl rfl) ?_; simp only [putT,st,ev,gt,hp,ofV,constT,intT,lm]
 refine WO_op (x := .bp 2 0) (σ' := ⟨[], [some [.c (cL eU x2.2.b), qi x2.2.i, qi x2.2.h], some [qs [], qs [], qi 0, qi 0, .nil, qi 0, qi 0, qi 0, qi 0, .nil], some [qs [], qs [], qi 0, qi 0, .nil, qi 0, qi 0, qi 0, qi 0, .nil]], [rr 3 enc_Metric x2.1.Metrics true, rr 2 enc_Note x2.1.Notes true]⟩) rfl rfl rfl ?_
 refine WO_op (x := .no) (σ' := ⟨[], [some [.c (cL eU x2.2.b), qi x2.2.i, qi x2.2.h], some [qs [], qs [], qi 0, qi 0, .nil, qi 0, qi 0, qi 0, qi 0, .nil], some [qs x2.1.Name, qs x2.1.Target, qi x2.1.Low, qi x2.1.High, .row 0, qi x2.1.Pace.Up, qi x2.1.Pace.Down, qi x2.1.Pace.UpSpan, qi x2.1.Pace.DownSpan, .row 1]], [rr 3 enc_Metric x2.1.Metrics true, rr 2 enc_Note x2.1.Notes true]⟩) rfl rfl rfl ?_; simp only [putT,st,ev,gt,hp,ofV,constT,intT,lm]
 refine WO_nil (W_seq (W_seq (W_region ?_)))
 refine WO_op rfl rfl rfl ?_; simp only [putT,st,ev,gt,hp,ofV,constT,intT,lm]
 obtain ⟨x3, hx3, H⟩ := bnd H
 refine WO_op (x := qi x3.1) (σ' := ⟨[], [some [.c (cL eU x3.2.b), qi x3.2.i, qi x3.2.h], some [qs [], qs [], qi 0, qi 0, .nil, qi 0, qi 0, qi 0, qi 0, .nil], some [qs x2.1.Name, qs x2.1.Target, qi x2.1.Low, qi x2.1.High, .row 0, qi x2.1.Pace.Up, qi x2.1.Pace.Down, qi x2.1.Pace.UpSpan, qi x2.1.Pace.DownSpan, .row 1]], [rr 3 enc_Metric x2.1.Metrics true, rr 2 enc_Note x2.1.Notes true]⟩) rfl rfl (ev_callG (al := [.bp 0 0, qi 16]) (ls := [.b 0]) (spec_l1Below_ok hx3) rfl rfl rfl rfl rfl (by decide) rfl rfl rfl rfl rfl rfl) ?_; simp only [putT,st,ev,gt,hp,ofV,constT,intT,lm]
 refine WO_nil ?_
 refine W_block ?_
 refine W_seq (W_region ?_)
 iterate 2 (refine WO_op rfl rfl rfl ?_; simp only [putT,st,ev,gt,hp,ofV,constT,intT,lm])
 refine WO_nil ?_
 refine W_cond rfl (fun hc => ?_) (fun hc => ?_)
 ·
  replace H := tr hc H
  refine W_region ?_
  refine WO_op rfl rfl rfl ?_; simp only [putT,st,ev,gt,hp,ofV,constT,intT,lm]
  refine WO_op (x := .row 2) (σ' := ⟨[], [some [.c (cL eU x3.2.b), qi x3.2.i, qi x3.2.h], some [qs [], qs [], qi 0, qi 0, .nil, qi 0, qi 0, qi 0, qi 0, .nil], some [qs x2.1.Name, qs x2.1.Target, qi x2.1.Low, qi x2.1.High, .row 0, qi x2.1.Pace.Up, qi x2.1.Pace.Down, qi x2.1.Pace.UpSpan, qi x2.1.Pace.DownSpan, .row 1]], [rr 3 enc_Metric x2.1.Metrics true, rr 2 enc_Note x2.1.Notes true, rr 1 eS kl13 true]⟩) rfl rfl (by kernel_rfl) ?_; simp only [putT,st,ev,gt,hp,ofV,constT,intT,lm]
  obtain ⟨x4, hx4, H⟩ := bnd H
  refine WO_op (x := qs x4.1) (σ' := ⟨[], [some [.c (cL eU x4.2.b), qi x4.2.i, qi x4.2.h], some [qs [], qs [], qi 0, qi 0, .nil, qi 0, qi 0, qi 0, qi 0, .nil], some [qs x2.1.Name, qs x2.1.Target, qi x2.1.Low, qi x2.1.High, .row 0, qi x2.1.Pace.Up, qi x2.1.Pace.Down, qi x2.1.Pace.UpSpan, qi x2.1.Pace.DownSpan, .row 1]], [rr 3 enc_Metric x2.1.Metrics true, rr 2 enc_Note x2.1.Notes true, rr 1 eS kl13 false]⟩) rfl rfl (ev_callG (al := [.bp 0 0, .row 2]) (ls := [.b 0]) (spec_l1Pick_ok hx4) rfl rfl rfl rfl rfl (by decide) rfl rfl rfl rfl rfl rfl) ?_; simp only [putT,st,ev,gt,hp,ofV,constT,intT,lm]
  refine WO_op (x := .bp 2 0) rfl rfl rfl ?_
  refine WO_op (x := .no) (σ' := ⟨[], [some [.c (cL eU x4.2.b), qi x4.2.i, qi x4.2.h], some [qs [], qs [], qi 0, qi 0, .nil, qi 0, qi 0, qi 0, qi 0, .nil], some [qs x4.1, qs x2.1.Target, qi x2.1.Low, qi x2.1.High, .row 0, qi x2.1.Pace.Up, qi x2.1.Pace.Down, qi x2.1.Pace.UpSpan, qi x2.1.Pace.DownSpan, .row 1]], [rr 3 enc_Metric x2.1.Metrics true, rr 2 enc_Note x2.1.Notes true, rr 1 eS kl13 false]⟩) rfl rfl rfl ?_; simp only [putT,st,ev,gt,hp,ofV,constT,intT,lm]
  refine WO_nil (W_seq (W_region ?_))
  refine WO_op (x := .ag [qs x4.1, qs x2.1.Target, qi x2.1.Low, qi x2.1.High, .row 0, qi x2.1.Pace.Up, qi x2.1.Pace.Down, qi x2.1.Pace.UpSpan, qi x2.1.Pace.DownSpan, .row 1]) rfl rfl rfl ?_
  refine WO_op (x := .no) (σ' := ⟨[], [some [.c (cL eU x4.2.b), qi x4.2.i, qi x4.2.h], some [qs x4.1, qs x2.1.Target, qi x2.1.Low, qi x2.1.High, .row 0, qi x2.1.Pace.Up, qi x2.1.Pace.Down, qi x2.1.Pace.UpSpan, qi x2.1.Pace.DownSpan, .row 1], some [qs x4.1, qs x2.1.Target, qi x2.1.Low, qi x2.1.High, .row 0, qi x2.1.Pace.Up, qi x2.1.Pace.Down, qi x2.1.Pace.UpSpan, qi x2.1.Pace.DownSpan, .row 1]], [rr 3 enc_Metric x2.1.Metrics true, rr 2 enc_Note x2.1.Notes true, rr 1 eS kl13 false]⟩) rfl rfl rfl ?_; simp only [putT,st,ev,gt,hp,ofV,constT,intT,lm]
  refine WO_nil ?_
  refine W_ret ?_
  obtain rfl := Option.some.inj H
  exact told5 rfl rfl rfl rfl (fitAs_nz rfl) rfl
 ·
  replace H := fl hc H
  refine W_seq (W_region ?_)
  iterate 2 (refine WO_op rfl rfl rfl ?_; simp only [putT,st,ev,gt,hp,ofV,constT,intT,lm])
  refine WO_nil ?_
  refine W_cond rfl (fun hc => ?_) (fun hc => ?_)
  ·
   replace H := tr hc H
   refine W_region ?_
   refine WO_op rfl rfl rfl ?_; simp only [putT,st,ev,gt,hp,ofV,constT,intT,lm]
   refine WO_op (x := .row 2) (σ' := ⟨[], [some [.c (cL eU x3.2.b), qi x3.2.i, qi x3.2.h], some [qs [], qs [], qi 0, qi 0, .nil, qi 0, qi 0, qi 0, qi 0, .nil], some [qs x2.1.Name, qs x2.1.Target, qi x2.1.Low, qi x2.1.High, .row 0, qi x2.1.Pace.Up, qi x2.1.Pace.Down, qi x2.1.Pace.UpSpan, qi x2.1.Pace.DownSpan, .row 1]], [rr 3 enc_Metric x2.1.Metrics true, rr 2 enc_Note x2.1.Notes true, rr 1 eI kl14 true]⟩) rfl rfl (ev_bs kl14 eI rfl rfl rfl rfl) ?_; simp only [putT,st,ev,gt,hp,ofV,constT,intT,lm]
   obtain ⟨x5, hx5, H⟩ := bnd H
   refine WO_op (x := qi x5.1) (σ' := ⟨[], [some [.c (cL eU x5.2.b), qi x5.2.i, qi x5.2.h], some [qs [], qs [], qi 0, qi 0, .nil, qi 0, qi 0, qi 0, qi 0, .nil], some [qs x2.1.Name, qs x2.1.Target, qi x2.1.Low, qi x2.1.High, .row 0, qi x2.1.Pace.Up, qi x2.1.Pace.Down, qi x2.1.Pace.UpSpan, qi x2.1.Pace.DownSpan, .row 1]], [rr 3 enc_Metric x2.1.Metrics true, rr 2 enc_Note x2.1.Notes true, rr 1 eI kl14 false]⟩) rfl rfl (ev_callG (al := [.bp 0 0, .row 2]) (ls := [.b 0]) (spec_l1PickInt_ok hx5) rfl rfl rfl rfl rfl (by decide) rfl rfl rfl rfl rfl rfl) ?_; simp only [putT,st,ev,gt,hp,ofV,constT,intT,lm]
   refine WO_op (x := .bp 2 2) rfl rfl rfl ?_
   refine WO_op (x := .no) (σ' := ⟨[], [some [.c (cL eU x5.2.b), qi x5.2.i, qi x5.2.h], some [qs [], qs [], qi 0, qi 0, .nil, qi 0, qi 0, qi 0, qi 0, .nil], some [qs x2.1.Name, qs x2.1.Target, qi x5.1, qi x2.1.High, .row 0, qi x2.1.Pace.Up, qi x2.1.Pace.Down, qi x2.1.Pace.UpSpan, qi x2.1.Pace.DownSpan, .row 1]], [rr 3 enc_Metric x2.1.Metrics true, rr 2 enc_Note x2.1.Notes true, rr 1 eI kl14 false]⟩) rfl rfl rfl ?_; simp only [putT,st,ev,gt,hp,ofV,constT,intT,lm]
   refine WO_nil (W_seq (W_region ?_))
   refine WO_op (x := .ag [qs x2.1.Name, qs x2.1.Target, qi x5.1, qi x2.1.High, .row 0, qi x2.1.Pace.Up, qi x2.1.Pace.Down, qi x2.1.Pace.UpSpan, qi x2.1.Pace.DownSpan, .row 1]) rfl rfl rfl ?_
   refine WO_op (x := .no) (σ' := ⟨[], [some [.c (cL eU x5.2.b), qi x5.2.i, qi x5.2.h], some [qs x2.1.Name, qs x2.1.Target, qi x5.1, qi x2.1.High, .row 0, qi x2.1.Pace.Up, qi x2.1.Pace.Down, qi x2.1.Pace.UpSpan, qi x2.1.Pace.DownSpan, .row 1], some [qs x2.1.Name, qs x2.1.Target, qi x5.1, qi x2.1.High, .row 0, qi x2.1.Pace.Up, qi x2.1.Pace.Down, qi x2.1.Pace.UpSpan, qi x2.1.Pace.DownSpan, .row 1]], [rr 3 enc_Metric x2.1.Metrics true, rr 2 enc_Note x2.1.Notes true, rr 1 eI kl14 false]⟩) rfl rfl rfl ?_; simp only [putT,st,ev,gt,hp,ofV,constT,intT,lm]
   refine WO_nil ?_
   refine W_ret ?_
   obtain rfl := Option.some.inj H
   exact told5 rfl rfl rfl rfl (fitAs_nz rfl) rfl
  ·
   replace H := fl hc H
   refine W_seq (W_region ?_)
   iterate 2 (refine WO_op rfl rfl rfl ?_; simp only [putT,st,ev,gt,hp,ofV,constT,intT,lm])
   refine WO_nil ?_
   refine W_cond rfl (fun hc => ?_) (fun hc => ?_)
   ·
    replace H := tr hc H
    refine W_region ?_
    refine WO_op rfl rfl rfl ?_; simp only [putT,st,ev,gt,hp,ofV,constT,intT,lm]
    refine WO_op (x := .row 2) (σ' := ⟨[], [some [.c (cL eU x3.2.b), qi x3.2.i, qi x3.2.h], some [qs [], qs [], qi 0, qi 0, .nil, qi 0, qi 0, qi 0, qi 0, .nil], some [qs x2.1.Name, qs x2.1.Target, qi x2.1.Low, qi x2.1.High, .row 0, qi x2.1.Pace.Up, qi x2.1.Pace.Down, qi x2.1.Pace.UpSpan, qi x2.1.Pace.DownSpan, .row 1]], [rr 3 enc_Metric x2.1.Metrics true, rr 2 enc_Note x2.1.Notes true, rr 1 eI kl15 true]⟩) rfl rfl (ev_bs kl15 eI rfl rfl rfl rfl) ?_; simp only [putT,st,ev,gt,hp,ofV,constT,intT,lm]
    obtain ⟨x6, hx6, H⟩ := bnd H
    refine WO_op (x := qi x6.1) (σ' := ⟨[], [some [.c (cL eU x6.2.b), qi x6.2.i, qi x6.2.h], some [qs [], qs [], qi 0, qi 0, .nil, qi 0, qi 0, qi 0, qi 0, .nil], some [qs x2.1.Name, qs x2.1.Target, qi x2.1.Low, qi x2.1.High, .row 0, qi x2.1.Pace.Up, qi x2.1.Pace.Down, qi x2.1.Pace.UpSpan, qi x2.1.Pace.DownSpan, .row 1]], [rr 3 enc_Metric x2.1.Metrics true, rr 2 enc_Note x2.1.Notes true, rr 1 eI kl15 false]⟩) rfl rfl (ev_callG (al := [.bp 0 0, .row 2]) (ls := [.b 0]) (spec_l1PickInt_ok hx6) rfl rfl rfl rfl rfl (by decide) rfl rfl rfl rfl rfl rfl) ?_; simp only [putT,st,ev,gt,hp,ofV,constT,intT,lm]
    refine WO_op (x := .bp 2 3) rfl rfl rfl ?_
    refine WO_op (x := .no) (σ' := ⟨[], [some [.c (cL eU x6.2.b), qi x6.2.i, qi x6.2.h], some [qs [], qs [], qi 0, qi 0, .nil, qi 0, qi 0, qi 0, qi 0, .nil], some [qs x2.1.Name, qs x2.1.Target, qi x2.1.Low, qi x6.1, .row 0, qi x2.1.Pace.Up, qi x2.1.Pace.Down, qi x2.1.Pace.UpSpan, qi x2.1.Pace.DownSpan, .row 1]], [rr 3 enc_Metric x2.1.Metrics true, rr 2 enc_Note x2.1.Notes true, rr 1 eI kl15 false]⟩) rfl rfl rfl ?_; simp only [putT,st,ev,gt,hp,ofV,constT,intT,lm]
    refine WO_nil (W_seq (W_region ?_))
    refine WO_op (x := .ag [qs x2.1.Name, qs x2.1.Target, qi x2.1.Low, qi x6.1, .row 0, qi x2.1.Pace.Up, qi x2.1.Pace.Down, qi x2.1.Pace.UpSpan, qi x2.1.Pace.DownSpan, .row 1]) rfl rfl rfl ?_
    refine WO_op (x := .no) (σ' := ⟨[], [some [.c (cL eU x6.2.b), qi x6.2.i, qi x6.2.h], some [qs x2.1.Name, qs x2.1.Target, qi x2.1.Low, qi x6.1, .row 0, qi x2.1.Pace.Up, qi x2.1.Pace.Down, qi x2.1.Pace.UpSpan, qi x2.1.Pace.DownSpan, .row 1], some [qs x2.1.Name, qs x2.1.Target, qi x2.1.Low, qi x6.1, .row 0, qi x2.1.Pace.Up, qi x2.1.Pace.Down, qi x2.1.Pace.UpSpan, qi x2.1.Pace.DownSpan, .row 1]], [rr 3 enc_Metric x2.1.Metrics true, rr 2 enc_Note x2.1.Notes true, rr 1 eI kl15 false]⟩) rfl rfl rfl ?_; simp only [putT,st,ev,gt,hp,ofV,constT,intT,lm]
    refine WO_nil ?_
    refine W_ret ?_
    obtain rfl := Option.some.inj H
    exact told5 rfl rfl rfl rfl (fitAs_nz rfl) rfl
   ·
    replace H := fl hc H
    refine W_seq (W_region ?_)
    iterate 2 (refine WO_op rfl rfl rfl ?_; simp only [putT,st,ev,gt,hp,ofV,constT,intT,lm])
    refine WO_nil ?_
    refine W_cond rfl (fun hc => ?_) (fun hc => ?_)
    ·
     replace H := tr hc H
     refine W_drawL (by kernel_rfl) (by decide +kernel) ?_
     refine WL_op (x := .bp 2 4) rfl rfl rfl rfl ?_
     refine WL_op (x := .row 0) rfl rfl rfl rfl ?_
     refine WL_op rfl rfl rfl rfl ?_; simp only [putT,st,ev,gt,hp,ofV,constT,intT,lm]
     obtain ⟨x7, hx7, H⟩ := bnd H
     refine WL_op (x := .ag [qs x7.1.Name, qi x7.1.Kind, qi x7.1.Goal]) (σ' := ⟨[], [some [.c (cL eU x7.2.b), qi x7.2.i, qi x7.2.h], some [qs [], qs [], qi 0, qi 0, .nil, qi 0, qi 0, qi 0, qi 0, .nil], some [qs x2.1.Name, qs x2.1.Target, qi x2.1.Low, qi x2.1.High, .row 0, qi x2.1.Pace.Up, qi x2.1.Pace.Down, qi x2.1.Pace.UpSpan, qi x2.1.Pace.DownSpan, .row 1]], [rr 3 enc_Metric x2.1.Metrics true, rr 2 enc_Note x2.1.Notes true]⟩) rfl rfl rfl (ev_callG (al := [.bp 0 0]) (ls := [.b 0]) (spec_l6DrawMetric_ok hx7) rfl rfl rfl rfl rfl (by decide) rfl rfl rfl rfl rfl rfl) ?_; simp only [putT,st,ev,gt,hp,ofV,constT,intT,lm]
     refine WL_op (x := .row 2) (σ' := ⟨[], [some [.c (cL eU x7.2.b), qi x7.2.i, qi x7.2.h], some [qs [], qs [], qi 0, qi 0, .nil, qi 0, qi 0, qi 0, qi 0, .nil], some [qs x2.1.Name, qs x2.1.Target, qi x2.1.Low, qi x2.1.High, .row 0, qi x2.1.Pace.Up, qi x2.1.Pace.Down, qi x2.1.Pace.UpSpan, qi x2.1.Pace.DownSpan, .row 1]], [rr 3 enc_Metric x2.1.Metrics true, rr 2 enc_Note x2.1.Notes true, rr 3 enc_Metric ([(Metric.mk x7.1.Name x7.1.Kind x7.1.Goal)] : List Metric) true]⟩) rfl rfl rfl (ev_bs ([(Metric.mk x7.1.Name x7.1.Kind x7.1.Goal)] : List Metric) enc_Metric rfl rfl rfl rfl) ?_; simp only [putT,st,ev,gt,hp,ofV,constT,intT,lm]
     obtain ⟨m8, hm8, H⟩ := bnd H
     refine WL_op (x := .row 3) (σ' := ⟨[], [some [.c (cL eU x7.2.b), qi x7.2.i, qi x7.2.h], some [qs [], qs [], qi 0, qi 0, .nil, qi 0, qi 0, qi 0, qi 0, .nil], some [qs x2.1.Name, qs x2.1.Target, qi x2.1.Low, qi x2.1.High, .row 0, qi x2.1.Pace.Up, qi x2.1.Pace.Down, qi x2.1.Pace.UpSpan, qi x2.1.Pace.DownSpan, .row 1]], [none, rr 2 enc_Note x2.1.Notes true, rr 3 enc_Metric ([(Metric.mk x7.1.Name x7.1.Kind x7.1.Goal)] : List Metric) true, rr 3 enc_Metric m8 true]⟩) rfl rfl rfl (ev_app (en := enc_Metric) hm8 rfl rfl rfl rfl (Or.inl rfl) rfl rfl rfl rfl rfl rfl rfl rfl rfl rfl rfl (fun _ => rfl) rfl (Or.inr rfl) rfl) ?_; simp only [putT,st,ev,gt,hp,ofV,constT,intT,lm]
     refine WL_op (x := .bp 2 4) rfl rfl rfl rfl ?_
     refine WL_op (x := .no) (σ' := ⟨[], [some [.c (cL eU x7.2.b), qi x7.2.i, qi x7.2.h], some [qs [], qs [], qi 0, qi 0, .nil, qi 0, qi 0, qi 0, qi 0, .nil], some [qs x2.1.Name, qs x2.1.Target, qi x2.1.Low, qi x2.1.High, .row 3, qi x2.1.Pace.Up, qi x2.1.Pace.Down, qi x2.1.Pace.UpSpan, qi x2.1.Pace.DownSpan, .row 1]], [none, rr 2 enc_Note x2.1.Notes true, rr 3 enc_Metric ([(Metric.mk x7.1.Name x7.1.Kind x7.1.Goal)] : List Metric) true, rr 3 enc_Metric m8 true]⟩) rfl rfl rfl rfl ?_; simp only [putT,st,ev,gt,hp,ofV,constT,intT,lm]
     refine WL_nil (by kernel_rfl) ?_
     refine W_seq (W_region ?_)
     refine WO_op (x := .ag [qs x2.1.Name, qs x2.1.Target, qi x2.1.Low, qi x2.1.High, .row 3, qi x2.1.Pace.Up, qi x2.1.Pace.Down, qi x2.1.Pace.UpSpan, qi x2.1.Pace.DownSpan, .row 1]) rfl rfl rfl ?_
     refine WO_op (x := .no) (σ' := ⟨[], [some [.c (cL eU x7.2.b), qi x7.2.i, qi x7.2.h], some [qs x2.1.Name, qs x2.1.Target, qi x2.1.Low, qi x2.1.High, .row 3, qi x2.1.Pace.Up, qi x2.1.Pace.Down, qi x2.1.Pace.UpSpan, qi x2.1.Pace.DownSpan, .row 1], some [qs x2.1.Name, qs x2.1.Target, qi x2.1.Low, qi x2.1.High, .row 3, qi x2.1.Pace.Up, qi x2.1.Pace.Down, qi x2.1.Pace.UpSpan, qi x2.1.Pace.DownSpan, .row 1]], [none, rr 2 enc_Note x2.1.Notes true, rr 3 enc_Metric ([(Metric.mk x7.1.Name x7.1.Kind x7.1.Goal)] : List Metric) true, rr 3 enc_Metric m8 true]⟩) rfl rfl rfl ?_; simp only [putT,st,ev,gt,hp,ofV,constT,intT,lm]
     refine WO_nil ?_
     refine W_ret ?_
     obtain rfl := Option.some.inj H
     exact told5 rfl rfl rfl rfl (fitAs_nz rfl) rfl
    ·
     replace H := fl hc H
     refine W_seq (W_region ?_)
     iterate 2 (refine WO_op rfl rfl rfl ?_; simp only [putT,st,ev,gt,hp,ofV,constT,intT,lm])
     refine WO_nil ?_
     refine W_cond rfl (fun hc => ?_) (fun hc => ?_)
     ·
      replace H := tr hc H
      refine W_region ?_
      refine WO_op rfl rfl rfl ?_; simp only [putT,st,ev,gt,hp,ofV,constT,intT,lm]
      refine WO_op (x := .row 2) (σ' := ⟨[], [some [.c (cL eU x3.2.b), qi x3.2.i, qi x3.2.h], some [qs [], qs [], qi 0, qi 0, .nil, qi 0, qi 0, qi 0, qi 0, .nil], some [qs x2.1.Name, qs x2.1.Target, qi x2.1.Low, qi x2.1.High, .row 0, qi x2.1.Pace.Up, qi x2.1.Pace.Down, qi x2.1.Pace.UpSpan, qi x2.1.Pace.DownSpan, .row 1]], [rr 3 enc_Metric x2.1.Metrics true, rr 2 enc_Note x2.1.Notes true, rr 1 eI kl16 true]⟩) rfl rfl (ev_bs kl16 eI rfl rfl rfl rfl) ?_; simp only [putT,st,ev,gt,hp,ofV,constT,intT,lm]
      obtain ⟨x9, hx9, H⟩ := bnd H
      refine WO_op (x := qi x9.1) (σ' := ⟨[], [some [.c (cL eU x9.2.b), qi x9.2.i, qi x9.2.h], some [qs [], qs [], qi 0, qi 0, .nil, qi 0, qi 0, qi 0, qi 0, .nil], some [qs x2.1.Name, qs x2.1.Target, qi x2.1.Low, qi x2.1.High, .row 0, qi x2.1.Pace.Up, qi x2.1.Pace.Down, qi x2.1.Pace.UpSpan, qi x2.1.Pace.DownSpan, .row 1]], [rr 3 enc_Metric x2.1.Metrics true, rr 2 enc_Note x2.1.Notes true, rr 1 eI kl16 false]⟩) rfl rfl (ev_callG (al := [.bp 0 0, .row 2]) (ls := [.b 0]) (spec_l1PickInt_ok hx9) rfl rfl rfl rfl rfl (by decide) rfl rfl rfl rfl rfl rfl) ?_; simp only [putT,st,ev,gt,hp,ofV,constT,intT,lm]
      iterate 2 (refine WO_op (x := .bp 2 5) rfl rfl rfl ?_; simp only [putT,st,ev,gt,hp,ofV,constT,intT,lm])
      refine WO_op (x := .no) (σ' := ⟨[], [some [.c (cL eU x9.2.b), qi x9.2.i, qi x9.2.h], some [qs [], qs [], qi 0, qi 0, .nil, qi 0, qi 0, qi 0, qi 0, .nil], some [qs x2.1.Name, qs x2.1.Target, qi x2.1.Low, qi x2.1.High, .row 0, qi x9.1, qi x2.1.Pace.Down, qi x2.1.Pace.UpSpan, qi x2.1.Pace.DownSpan, .row 1]], [rr 3 enc_Metric x2.1.Metrics true, rr 2 enc_Note x2.1.Notes true, rr 1 eI kl16 false]⟩) rfl rfl rfl ?_; simp only [putT,st,ev,gt,hp,ofV,constT,intT,lm]
      refine WO_nil (W_seq (W_region ?_))
      refine WO_op (x := .ag [qs x2.1.Name, qs x2.1.Target, qi x2.1.Low, qi x2.1.High, .row 0, qi x9.1, qi x2.1.Pace.Down, qi x2.1.Pace.UpSpan, qi x2.1.Pace.DownSpan, .row 1]) rfl rfl rfl ?_
      refine WO_op (x := .no) (σ' := ⟨[], [some [.c (cL eU x9.2.b), qi x9.2.i, qi x9.2.h], some [qs x2.1.Name, qs x2.1.Target, qi x2.1.Low, qi x2.1.High, .row 0, qi x9.1, qi x2.1.Pace.Down, qi x2.1.Pace.UpSpan, qi x2.1.Pace.DownSpan, .row 1], some [qs x2.1.Name, qs x2.1.Target, qi x2.1.Low, qi x2.1.High, .row 0, qi x9.1, qi x2.1.Pace.Down, qi x2.1.Pace.UpSpan, qi x2.1.Pace.DownSpan, .row 1]], [rr 3 enc_Metric x2.1.Metrics true, rr 2 enc_Note x2.1.Notes true, rr 1 eI kl16 false]⟩) rfl rfl rfl ?_; simp only [putT,st,ev,gt,hp,ofV,constT,intT,lm]
      refine WO_nil ?_
      refine W_ret ?_
      obtain rfl := Option.some.inj H
      exact told5 rfl rfl rfl rfl (fitAs_nz rfl) rfl
     ·
      replace H := fl hc H
      refine W_seq (W_region ?_)
      iterate 2 (refine WO_op rfl rfl rfl ?_; simp only [putT,st,ev,gt,hp,ofV,constT,intT,lm])
      refine WO_nil ?_
      refine W_cond rfl (fun hc => ?_) (fun hc => ?_)
      ·
       replace H := tr hc H
       refine W_drawL (by kernel_rfl) (by decide +kernel) ?_
       refine WL_op (x := .bp 2 9) rfl rfl rfl rfl ?_
       refine WL_op (x := .row 1) rfl rfl rfl rfl ?_
       refine WL_op rfl rfl rfl rfl ?_; simp only [putT,st,ev,gt,hp,ofV,constT,intT,lm]
       refine WL_op (x := .row 2) (σ' := ⟨[], [some [.c (cL eU x3.2.b), qi x3.2.i, qi x3.2.h], some [qs [], qs [], qi 0, qi 0, .nil, qi 0, qi 0, qi 0, qi 0, .nil], some [qs x2.1.Name, qs x2.1.Target, qi x2.1.Low, qi x2.1.High, .row 0, qi x2.1.Pace.Up, qi x2.1.Pace.Down, qi x2.1.Pace.UpSpan, qi x2.1.Pace.DownSpan, .row 1]], [rr 3 enc_Metric x2.1.Metrics true, rr 2 enc_Note x2.1.Notes true, rr 1 eS kl17 true]⟩) rfl rfl rfl (by kernel_rfl) ?_; simp only [putT,st,ev,gt,hp,ofV,constT,intT,lm]
       obtain ⟨x10, hx10, H⟩ := bnd H
       refine WL_op (x := qs x10.1) (σ' := ⟨[], [some [.c (cL eU x10.2.b), qi x10.2.i, qi x10.2.h], some [qs [], qs [], qi 0, qi 0, .nil, qi 0, qi 0, qi 0, qi 0, .nil], some [qs x2.1.Name, qs x2.1.Target, qi x2.1.Low, qi x2.1.High, .row 0, qi x2.1.Pace.Up, qi x2.1.Pace.Down, qi x2.1.Pace.UpSpan, qi x2.1.Pace.DownSpan, .row 1]], [rr 3 enc_Metric x2.1.Metrics true, rr 2 enc_Note x2.1.Notes true, rr 1 eS kl17 false]⟩) rfl rfl rfl (ev_callG (al := [.bp 0 0, .row 2]) (ls := [.b 0]) (spec_l1Pick_ok hx10) rfl rfl rfl rfl rfl (by decide) rfl rfl rfl rfl rfl rfl) ?_; simp only [putT,st,ev,gt,hp,ofV,constT,intT,lm]
       refine WL_op (x := .ag [qs x10.1, qs [120]]) rfl rfl rfl rfl ?_; simp only [putT,st,ev,gt,hp,ofV,constT,intT,lm]
       refine WL_op (x := .row 3) (σ' := ⟨[], [some [.c (cL eU x10.2.b), qi x10.2.i, qi x10.2.h], some [qs [], qs [], qi 0, qi 0, .nil, qi 0, qi 0, qi 0, qi 0, .nil], some [qs x2.1.Name, qs x2.1.Target, qi x2.1.Low, qi x2.1.High, .row 0, qi x2.1.Pace.Up, qi x2.1.Pace.Down, qi x2.1.Pace.UpSpan, qi x2.1.Pace.DownSpan, .row 1]], [rr 3 enc_Metric x2.1.Metrics true, rr 2 enc_Note x2.1.Notes true, rr 1 eS kl17 false, rr 2 enc_Note ([(Note.mk x10.1 [120])] : List Note) true]⟩) rfl rfl rfl (ev_bs ([(Note.mk x10.1 [120])] : List Note) enc_Note rfl rfl rfl rfl) ?_; simp only [putT,st,ev,gt,hp,ofV,constT,intT,lm]
       obtain ⟨m11, hm11, H⟩ := bnd H
       refine WL_op (x := .row 4) (σ' := ⟨[], [some [.c (cL eU x10.2.b), qi x10.2.i, qi x10.2.h], some [qs [], qs [], qi 0, qi 0, .nil, qi 0, qi 0, qi 0, qi 0, .nil], some [qs x2.1.Name, qs x2.1.Target, qi x2.1.Low, qi x2.1.High, .row 0, qi x2.1.Pace.Up, qi x2.1.Pace.Down, qi x2.1.Pace.UpSpan, qi x2.1.Pace.DownSpan, .row 1]], [rr 3 enc_Metric x2.1.Metrics true, none, rr 1 eS kl17 false, rr 2 enc_Note ([(Note.mk x10.1 [120])] : List Note) true, rr 2 enc_Note m11 true]⟩) rfl rfl rfl (ev_app (en := enc_Note) hm11 rfl rfl rfl rfl (Or.inl rfl) rfl rfl rfl rfl rfl rfl rfl rfl rfl rfl rfl (fun _ => rfl) rfl (Or.inr rfl) rfl) ?_; simp only [putT,st,ev,gt,hp,ofV,constT,intT,lm]
       refine WL_op (x := .bp 2 9) rfl rfl rfl rfl ?_
       refine WL_op (x := .no) (σ' := ⟨[], [some [.c (cL eU x10.2.b), qi x10.2.i, qi x10.2.h], some [qs [], qs [], qi 0, qi 0, .nil, qi 0, qi 0, qi 0, qi 0, .nil], some [qs x2.1.Name, qs x2.1.Target, qi x2.1.Low, qi x2.1.High, .row 0, qi x2.1.Pace.Up, qi x2.1.Pace.Down, qi x2.1.Pace.UpSpan, qi x2.1.Pace.DownSpan, .row 4]], [rr 3 enc_Metric x2.1.Metrics true, none, rr 1 eS kl17 false, rr 2 enc_Note ([(Note.mk x10.1 [120])] : List Note) true, rr 2 enc_Note m11 true]⟩) rfl rfl rfl rfl ?_; simp only [putT,st,ev,gt,hp,ofV,constT,intT,lm]
       refine WL_nil (by kernel_rfl) ?_
       refine W_seq (W_region ?_)
       refine WO_op (x := .ag [qs x2.1.Name, qs x2.1.Target, qi x2.1.Low, qi x2.1.High, .row 0, qi x2.1.Pace.Up, qi x2.1.Pace.Down, qi x2.1.Pace.UpSpan, qi x2.1.Pace.DownSpan, .row 4]) rfl rfl rfl ?_
       refine WO_op (x := .no) (σ' := ⟨[], [some [.c (cL eU x10.2.b), qi x10.2.i, qi x10.2.h], some [qs x2.1.Name, qs x2.1.Target, qi x2.1.Low, qi x2.1.High, .row 0, qi x2.1.Pace.Up, qi x2.1.Pace.Down, qi x2.1.Pace.UpSpan, qi x2.1.Pace.DownSpan, .row 4], some [qs x2.1.Name, qs x2.1.Target, qi x2.1.Low, qi x2.1.High, .row 0, qi x2.1.Pace.Up, qi x2.1.Pace.Down, qi x2.1.Pace.UpSpan, qi x2.1.Pace.DownSpan, .row 4]], [rr 3 enc_Metric x2.1.Metrics true, none, rr 1 eS kl17 false, rr 2 enc_Note ([(Note.mk x10.1 [120])] : List Note) true, rr 2 enc_Note m11 true]⟩) rfl rfl rfl ?_; simp only [putT,st,ev,gt,hp,ofV,constT,intT,lm]
       refine WO_nil ?_
       refine W_ret ?_
       obtain rfl := Option.some.inj H
       exact told5 rfl rfl rfl rfl (fitAs_nz rfl) rfl
      ·
       replace H := fl hc H
       refine W_seq (W_region ?_)
       iterate 2 (refine WO_op rfl rfl rfl ?_; simp only [putT,st,ev,gt,hp,ofV,constT,intT,lm])
       refine WO_nil ?_
       refine W_cond rfl (fun hc => ?_) (fun hc => ?_)
       ·
        replace H := tr hc H
        refine W_region ?_
        refine WO_op rfl rfl rfl ?_; simp only [putT,st,ev,gt,hp,ofV,constT,intT,lm]
        refine WO_op (x := .row 2) (σ' := ⟨[], [some [.c (cL eU x3.2.b), qi x3.2.i, qi x3.2.h], some [qs [], qs [], qi 0, qi 0, .nil, qi 0, qi 0, qi 0, qi 0, .nil], some [qs x2.1.Name, qs x2.1.Target, qi x2.1.Low, qi x2.1.High, .row 0, qi x2.1.Pace.Up, qi x2.1.Pace.Down, qi x2.1.Pace.UpSpan, qi x2.1.Pace.DownSpan, .row 1]], [rr 3 enc_Metric x2.1.Metrics true, rr 2 enc_Note x2.1.Notes true, rr 1 eI kl18 true]⟩) rfl rfl (ev_bs kl18 eI rfl rfl rfl rfl) ?_; simp only [putT,st,ev,gt,hp,ofV,constT,intT,lm]
        obtain ⟨x12, hx12, H⟩ := bnd H
        refine WO_op (x := qi x12.1) (σ' := ⟨[], [some [.c (cL eU x12.2.b), qi x12.2.i, qi x12.2.h], some [qs [], qs [], qi 0, qi 0, .nil, qi 0, qi 0, qi 0, qi 0, .nil], some [qs x2.1.Name, qs x2.1.Target, qi x2.1.Low, qi x2.1.High, .row 0, qi x2.1.Pace.Up, qi x2.1.Pace.Down, qi x2.1.Pace.UpSpan, qi x2.1.Pace.DownSpan, .row 1]], [rr 3 enc_Metric x2.1.Metrics true, rr 2 enc_Note x2.1.Notes true, rr 1 eI kl18 false]⟩) rfl rfl (ev_callG (al := [.bp 0 0, .row 2]) (ls := [.b 0]) (spec_l1PickInt_ok hx12) rfl rfl rfl rfl rfl (by decide) rfl rfl rfl rfl rfl rfl) ?_; simp only [putT,st,ev,gt,hp,ofV,constT,intT,lm]
        refine WO_op (x := .bp 2 5) rfl rfl rfl ?_
        refine WO_op (x := .bp 2 8) rfl rfl rfl ?_
        refine WO_op (x := .no) (σ' := ⟨[], [some [.c (cL eU x12.2.b), qi x12.2.i, qi x12.2.h], some [qs [], qs [], qi 0, qi 0, .nil, qi 0, qi 0, qi 0, qi 0, .nil], some [qs x2.1.Name, qs x2.1.Target, qi x2.1.Low, qi x2.1.High, .row 0, qi x2.1.Pace.Up, qi x2.1.Pace.Down, qi x2.1.Pace.UpSpan, qi x12.1, .row 1]], [rr 3 enc_Metric x2.1.Metrics true, rr 2 enc_Note x2.1.Notes true, rr 1 eI kl18 false]⟩) rfl rfl rfl ?_; simp only [putT,st,ev,gt,hp,ofV,constT,intT,lm]
        refine WO_nil (W_seq (W_region ?_))
        refine WO_op (x := .ag [qs x2.1.Name, qs x2.1.Target, qi x2.1.Low, qi x2.1.High, .row 0, qi x2.1.Pace.Up, qi x2.1.Pace.Down, qi x2.1.Pace.UpSpan, qi x12.1, .row 1]) rfl rfl rfl ?_
        refine WO_op (x := .no) (σ' := ⟨[], [some [.c (cL eU x12.2.b), qi x12.2.i, qi x12.2.h], some [qs x2.1.Name, qs x2.1.Target, qi x2.1.Low, qi x2.1.High, .row 0, qi x2.1.Pace.Up, qi x2.1.Pace.Down, qi x2.1.Pace.UpSpan, qi x12.1, .row 1], some [qs x2.1.Name, qs x2.1.Target, qi x2.1.Low, qi x2.1.High, .row 0, qi x2.1.Pace.Up, qi x2.1.Pace.Down, qi x2.1.Pace.UpSpan, qi x12.1, .row 1]], [rr 3 enc_Metric x2.1.Metrics true, rr 2 enc_Note x2.1.Notes true, rr 1 eI kl18 false]⟩) rfl rfl rfl ?_; simp only [putT,st,ev,gt,hp,ofV,constT,intT,lm]
        refine WO_nil ?_
        refine W_ret ?_
        obtain rfl := Option.some.inj H
        exact told5 rfl rfl rfl rfl (fitAs_nz rfl) rfl
       ·
        replace H := fl hc H
        refine W_seq (W_region ?_)
        iterate 2 (refine WO_op rfl rfl rfl ?_; simp only [putT,st,ev,gt,hp,ofV,constT,intT,lm])
        refine WO_nil ?_
        refine W_cond rfl (fun hc => ?_) (fun hc => ?_)
        ·
         replace H := tr hc H
         refine W_seq (W_region ?_)
         refine WO_op (x := .bp 2 4) rfl rfl rfl ?_
         refine WO_op (x := .row 0) rfl rfl rfl ?_; simp only [putT,st,ev,gt,hp,ofV,constT,intT,lm]
         iterate 2 (refine WO_op rfl rfl rfl ?_; simp only [putT,st,ev,gt,hp,ofV,constT,intT,lm])
         refine WO_nil ?_
         refine W_cond rfl (fun hc => ?_) (fun hc => ?_)
         ·
          replace H := tr hc H
          refine W_drawL (by kernel_rfl) (by decide +kernel) ?_
          refine WL_op (x := .bp 2 4) rfl rfl rfl rfl ?_
          refine WL_op (x := .row 0) rfl rfl rfl rfl ?_
          refine WL_op rfl rfl rfl rfl ?_; simp only [putT,st,ev,gt,hp,ofV,constT,intT,lm]
          refine WL_op (x := .row 2) (σ' := ⟨[], [some [.c (cL eU x3.2.b), qi x3.2.i, qi x3.2.h], some [qs [], qs [], qi 0, qi 0, .nil, qi 0, qi 0, qi 0, qi 0, .nil], some [qs x2.1.Name, qs x2.1.Target, qi x2.1.Low, qi x2.1.High, .row 0, qi x2.1.Pace.Up, qi x2.1.Pace.Down, qi x2.1.Pace.UpSpan, qi x2.1.Pace.DownSpan, .row 1]], [rr 3 enc_Metric x2.1.Metrics true, rr 2 enc_Note x2.1.Notes true, rr 1 eI kl19 true]⟩) rfl rfl rfl (by kernel_rfl) ?_; simp only [putT,st,ev,gt,hp,ofV,constT,intT,lm]
          obtain ⟨x13, hx13, H⟩ := bnd H
          refine WL_op (x := qi x13.1) (σ' := ⟨[], [some [.c (cL eU x13.2.b), qi x13.2.i, qi x13.2.h], some [qs [], qs [], qi 0, qi 0, .nil, qi 0, qi 0, qi 0, qi 0, .nil], some [qs x2.1.Name, qs x2.1.Target, qi x2.1.Low, qi x2.1.High, .row 0, qi x2.1.Pace.Up, qi x2.1.Pace.Down, qi x2.1.Pace.UpSpan, qi x2.1.Pace.DownSpan, .row 1]], [rr 3 enc_Metric x2.1.Metrics true, rr 2 enc_Note x2.1.Notes true, rr 1 eI kl19 false]⟩) rfl rfl rfl (ev_callG (al := [.bp 0 0, .row 2]) (ls := [.b 0]) (spec_l1PickInt_ok hx13) rfl rfl rfl rfl rfl (by decide) rfl rfl rfl rfl rfl rfl) ?_; simp only [putT,st,ev,gt,hp,ofV,constT,intT,lm]
          obtain ⟨x14, hx14, H⟩ := bnd H
          refine WL_op rfl rfl rfl (ev_ixR (en := enc_Metric) hx14 rfl rfl rfl rfl rfl rfl rfl) ?_; simp only [putT,st,ev,gt,hp,ofV,constT,intT,lm]
          refine WL_op (x := .rp 0 (0 : Int).toNat 2) rfl rfl rfl rfl ?_; simp only [putT,st,ev,gt,hp,ofV,constT,intT,lm]
          obtain ⟨m15, hm15, H⟩ := bnd H
          refine WL_op (x := .no) (σ' := ⟨[], [some [.c (cL eU x13.2.b), qi x13.2.i, qi x13.2.h], some [qs [], qs [], qi 0, qi 0, .nil, qi 0, qi 0, qi 0, qi 0, .nil], some [qs x2.1.Name, qs x2.1.Target, qi x2.1.Low, qi x2.1.High, .row 0, qi x2.1.Pace.Up, qi x2.1.Pace.Down, qi x2.1.Pace.UpSpan, qi x2.1.Pace.DownSpan, .row 1]], [rr 3 enc_Metric m15 true, rr 2 enc_Note x2.1.Notes true, rr 1 eI kl19 false]⟩) rfl rfl rfl (ev_stR (en := enc_Metric) hm15 hx14 rfl rfl rfl rfl rfl rfl rfl rfl) ?_; simp only [putT,st,ev,gt,hp,ofV,constT,intT,lm]
          refine WL_nil (by kernel_rfl) ?_
          refine W_seq (W_region ?_)
          refine WO_op (x := .ag [qs x2.1.Name, qs x2.1.Target, qi x2.1.Low, qi x2.1.High, .row 0, qi x2.1.Pace.Up, qi x2.1.Pace.Down, qi x2.1.Pace.UpSpan, qi x2.1.Pace.DownSpan, .row 1]) rfl rfl rfl ?_
          refine WO_op (x := .no) (σ' := ⟨[], [some [.c (cL eU x13.2.b), qi x13.2.i, qi x13.2.h], some [qs x2.1.Name, qs x2.1.Target, qi x2.1.Low, qi x2.1.High, .row 0, qi x2.1.Pace.Up, qi x2.1.Pace.Down, qi x2.1.Pace.UpSpan, qi x2.1.Pace.DownSpan, .row 1], some [qs x2.1.Name, qs x2.1.Target, qi x2.1.Low, qi x2.1.High, .row 0, qi x2.1.Pace.Up, qi x2.1.Pace.Down, qi x2.1.Pace.UpSpan, qi x2.1.Pace.DownSpan, .row 1]], [rr 3 enc_Metric m15 true, rr 2 enc_Note x2.1.Notes true, rr 1 eI kl19 false]⟩) rfl rfl rfl ?_; simp only [putT,st,ev,gt,hp,ofV,constT,intT,lm]
          refine WO_nil ?_
          refine W_ret ?_
          obtain rfl := Option.some.inj H
          exact told5 rfl rfl rfl rfl (fitAs_nz rfl) rfl
         ·
          replace H := fl hc H
          refine W_skip ?_
          refine W_seq (W_region ?_)
          refine WO_op (x := .ag [qs x2.1.Name, qs x2.1.Target, qi x2.1.Low, qi x2.1.High, .row 0, qi x2.1.Pace.Up, qi x2.1.Pace.Down, qi x2.1.Pace.UpSpan, qi x2.1.Pace.DownSpan, .row 1]) rfl rfl rfl ?_
          refine WO_op (x := .no) (σ' := ⟨[], [some [.c (cL eU x3.2.b), qi x3.2.i, qi x3.2.h], some [qs x2.1.Name, qs x2.1.Target, qi x2.1.Low, qi x2.1.High, .row 0, qi x2.1.Pace.Up, qi x2.1.Pace.Down, qi x2.1.Pace.UpSpan, qi x2.1.Pace.DownSpan, .row 1], some [qs x2.1.Name, qs x2.1.Target, qi x2.1.Low, qi x2.1.High, .row 0, qi x2.1.Pace.Up, qi x2.1.Pace.Down, qi x2.1.Pace.UpSpan, qi x2.1.Pace.DownSpan, .row 1]], [rr 3 enc_Metric x2.1.Metrics true, rr 2 enc_Note x2.1.Notes true]⟩) rfl rfl rfl ?_; simp only [putT,st,ev,gt,hp,ofV,constT,intT,lm]
          refine WO_nil ?_
          refine W_ret ?_
          obtain rfl := Option.some.inj H
          exact told5 rfl rfl rfl rfl (fitAs_nz rfl) rfl
        ·
         replace H := fl hc H
         refine W_skip ?_
         refine W_seq (W_region ?_)
         refine WO_op (x := .ag [qs x2.1.Name, qs x2.1.Target, qi x2.1.Low, qi x2.1.High, .row 0, qi x2.1.Pace.Up, qi x2.1.Pace.Down, qi x2.1.Pace.UpSpan, qi x2.1.Pace.DownSpan, .row 1]) rfl rfl rfl ?_
         refine WO_op (x := .no) (σ' := ⟨[], [some [.c (cL eU x3.2.b), qi x3.2.i, qi x3.2.h], some [qs x2.1.Name, qs x2.1.Target, qi x2.1.Low, qi x2.1.High, .row 0, qi x2.1.Pace.Up, qi x2.1.Pace.Down, qi x2.1.Pace.UpSpan, qi x2.1.Pace.DownSpan, .row 1], some [qs x2.1.Name, qs x2.1.Target, qi x2.1.Low, qi x2.1.High, .row 0, qi x2.1.Pace.Up, qi x2.1.Pace.Down, qi x2.1.Pace.UpSpan, qi x2.1.Pace.DownSpan, .row 1]], [rr 3 enc_Metric x2.1.Metrics true, rr 2 enc_Note x2.1.Notes true]⟩) rfl rfl rfl ?_; simp only [putT,st,ev,gt,hp,ofV,constT,intT,lm]
         refine WO_nil ?_
         refine W_ret ?_
         obtain rfl := Option.some.inj H
         exact told5 rfl rfl rfl rfl (fitAs_nz rfl) rfl
theorem spec_l15DrawSamples_ok {a1 : L1Cur} {r : List Sample × L1Cur} (H : spec_l15DrawSamples a1 = some r) : R 73 [.p [(cL eU a1.b, none), (cI .i64 a1.i, none), (cI .i64 a1.h, none)]] = some (.c (cL enc_Sample r.1) (some 2), [some [(cL eU r.2.b, none), (cI .i64 r.2.i, none), (cI .i64 r.2.h, none)]]) := by
 unfold spec_l15DrawSamples at H
 refine Fz_walk 41 rfl rfl Try.func73 rfl (by kernel_rfl) rfl rfl rfl rfl ?_
 simp only [tellVs, tellV, tells, tell, st0, padT, SX.newRow, SX.newBox, List.length_cons, List.length_nil, Nat.reduceAdd, Nat.reduceSub, List.replicate, List.cons_append, List.nil_append, List.foldl_cons, List.foldl_nil]
 refine W_seq (W_region ?_)
 refine WO_op rfl rfl rfl ?_; simp only [putT,st,ev,gt,hp,ofV,constT,intT,lm]
 refine WO_nil (W_seq (W_region ?_))
 refine WO_op (x := .row 0) (σ' := ⟨[], [some [.c (cL eU a1.b), qi a1.i, qi a1.h]], [rr 2 enc_Sample ([] : List Sample) true]⟩) rfl rfl (ev_bs ([] : List Sample) enc_Sample rfl rfl rfl rfl) ?_; simp only [putT,st,ev,gt,hp,ofV,constT,intT,lm]
 refine WO_op rfl rfl rfl ?_; simp only [putT,st,ev,gt,hp,ofV,constT,intT,lm]
 refine WO_nil (W_seq (W_region ?_))
 refine WO_op (x := .row 1) (σ' := ⟨[], [some [.c (cL eU a1.b), qi a1.i, qi a1.h]], [rr 2 enc_Sample ([] : List Sample) true, rr 1 eS kl11 true]⟩) rfl rfl (by kernel_rfl) ?_; simp only [putT,st,ev,gt,hp,ofV,constT,intT,lm]
 refine WO_op rfl rfl rfl ?_; simp only [putT,st,ev,gt,hp,ofV,constT,intT,lm]
 refine WO_nil (W_seq (W_seq (W_region ?_)))
 refine WO_op rfl rfl rfl ?_; simp only [putT,st,ev,gt,hp,ofV,constT,intT,lm]
 refine WO_nil ?_
 refine W_block ?_
 obtain ⟨t11, ht11, H⟩ := bnd H
 refine loop_rule (ls := [.b 0]) 0 (fun t11 : List Int × Int × Int × List Sample => ⟨[.bp 0 0, .no, .no, .row 0], [some [.c (cL eU t11.1), qi t11.2.1, qi t11.2.2.1]], [rr 2 enc_Sample t11.2.2.2 true]⟩) (fun t => t11 = t) ⟨[.bp 0 0, .no, .no, .row 0, .row 1, qi 0], [some [.c (cL eU a1.b), qi a1.i, qi a1.h]], [rr 2 enc_Sample ([] : List Sample) true, rr 1 eS kl11 true]⟩ (by repeat (first | exact mono_told | refine mono_seq ?_ | refine mono_blk ?_ | refine mono_lp ?_)) (le_intro [0] [0, 1] (by decide) (by decide) rfl (by simp [leS, leT, leA, gt]) (by simp [leB, leT, leA]) (by simp [leR])) ?_ ?_
 ·
  rintro t1 rfl
  refine W_seq (W_seq (W_region ?_))
  refine WO_op rfl rfl rfl ?_; simp only [putT,st,ev,gt,hp,ofV,constT,intT,lm]
  obtain ⟨x12, hx12, H⟩ := bnd H
  refine WO_op (x := qb x12.1) (σ' := ⟨[], [some [.c (cL eU x12.2.b), qi x12.2.i, qi x12.2.h]], [rr 2 enc_Sample t11.2.2.2 true]⟩) rfl rfl (ev_callG (al := [.bp 0 0, qi 12]) (ls := [.b 0]) (spec_l1Once_ok hx12) rfl rfl rfl rfl rfl (by decide) rfl rfl rfl rfl rfl rfl) ?_; simp only [putT,st,ev,gt,hp,ofV,constT,intT,lm]
  refine WO_nil ?_
  refine W_cond rfl (fun hc => ?_) (fun hc => ?_)
  ·
   replace H := tr hc H
   refine W_seq (W_region ?_)
   iterate 2 (refine WO_op rfl rfl rfl ?_; simp only [putT,st,ev,gt,hp,ofV,constT,intT,lm])
   refine WO_op (x := .row 1) (σ' := ⟨[], [some [.c (cL eU x12.2.b), qi x12.2.i, qi x12.2.h]], [rr 2 enc_Sample t11.2.2.2 true, rr 1 eS kl20 true]⟩) rfl rfl (ev_bs kl20 eS rfl rfl rfl rfl) ?_; simp only [putT,st,ev,gt,hp,ofV,constT,intT,lm]
   obtain ⟨x13, hx13, H⟩ := bnd H
   refine WO_op (x := qs x13.1) (σ' := ⟨[], [some [.c (cL eU x13.2.b), qi x13.2.i, qi x13.2.h]], [rr 2 enc_Sample t11.2.2.2 true, rr 1 eS kl20 false]⟩) rfl rfl (ev_callG (al := [.bp 0 0, .row 1]) (ls := [.b 0]) (spec_l1Pick_ok hx13) rfl rfl rfl rfl rfl (by decide) rfl rfl rfl rfl rfl rfl) ?_; simp only [putT,st,ev,gt,hp,ofV,constT,intT,lm]
   refine WO_op rfl rfl rfl ?_; simp only [putT,st,ev,gt,hp,ofV,constT,intT,lm]
   refine WO_op (x := .row 2) (σ' := ⟨[], [some [.c (cL eU x13.2.b), qi x13.2.i, qi x13.2.h]], [rr 2 enc_Sample t11.2.2.2 true, rr 1 eS kl20 false, rr 1 eI kl21 true]⟩) rfl rfl (ev_bs kl21 eI rfl rfl rfl rfl) ?_; simp only [putT,st,ev,gt,hp,ofV,constT,intT,lm]
   obtain ⟨x14, hx14, H⟩ := bnd H
   refine WO_op (x := qi x14.1) (σ' := ⟨[], [some [.c (cL eU x14.2.b), qi x14.2.i, qi x14.2.h]], [rr 2 enc_Sample t11.2.2.2 true, rr 1 eS kl20 false, rr 1 eI kl21 false]⟩) rfl rfl (ev_callG (al := [.bp 0 0, .row 2]) (ls := [.b 0]) (spec_l1PickInt_ok hx14) rfl rfl rfl rfl rfl (by decide) rfl rfl rfl rfl rfl rfl) ?_; simp only [putT,st,ev,gt,hp,ofV,constT,intT,lm]
   refine WO_op (x := .ag [qs x13.1, qi x14.1]) rfl rfl rfl ?_; simp only [putT,st,ev,gt,hp,ofV,constT,intT,lm]
   refine WO_op (x := .row 3) (σ' := ⟨[], [some [.c (cL eU x14.2.b), qi x14.2.i, qi x14.2.h]], [rr 2 enc_Sample t11.2.2.2 true, rr 1 eS kl20 false, rr 1 eI kl21 false, rr 2 enc_Sample ([(Sample.mk x13.1 x14.1)] : List Sample) true]⟩) rfl rfl (ev_bs ([(Sample.mk x13.1 x14.1)] : List Sample) enc_Sample rfl rfl rfl rfl) ?_; simp only [putT,st,ev,gt,hp,ofV,constT,intT,lm]
   obtain ⟨m15, hm15, H⟩ := bnd H
   refine WO_op (x := .row 4) (σ' := ⟨[], [some [.c (cL eU x14.2.b), qi x14.2.i, qi x14.2.h]], [none, rr 1 eS kl20 false, rr 1 eI kl21 false, rr 2 enc_Sample ([(Sample.mk x13.1 x14.1)] : List Sample) true, rr 2 enc_Sample m15 true]⟩) rfl rfl (ev_app (en := enc_Sample) hm15 rfl rfl rfl rfl (Or.inl rfl) rfl rfl rfl rfl rfl rfl rfl rfl rfl rfl rfl (fun _ => rfl) rfl (Or.inr rfl) rfl) ?_; simp only [putT,st,ev,gt,hp,ofV,constT,intT,lm]
   refine WO_op rfl rfl rfl ?_; simp only [putT,st,ev,gt,hp,ofV,constT,intT,lm]
   refine WO_nil ?_
   refine W_ret ?_
   obtain rfl := Option.some.inj H
   exact told5 rfl rfl rfl rfl (fitAs_nz rfl) rfl
  ·
   replace H := fl hc H
   refine W_skip ?_
   refine W_seq (W_region ?_)
   iterate 2 (refine WO_op rfl rfl rfl ?_; simp only [putT,st,ev,gt,hp,ofV,constT,intT,lm])
   refine WO_nil ?_
   refine W_ret ?_
   obtain rfl := Option.some.inj H
   exact told5 rfl rfl rfl rfl (fitAs_nz rfl) rfl
 ·
  intro V1 hV1 hW1 hX1
  refine (spec_l15DrawSamples.l0.partial_correctness (fun v2 v3 v4 v5 v6 s' => s' = t11 → (V1 ⟨[.bp 0 0, .no, .no, .row 0, .row 1, qi v2], [some [.c (cL eU v3), qi v4, qi v5]], [rr 2 enc_Sample v6 true, rr 1 eS kl11 true]⟩)) ?_ _ _ _ _ _ _ ht11 rfl)
  intro l0 IH1 v2 v3 v4 v5 v6 s' H1 e
  subst e
  refine hV1 _ ?_
  refine W_seq (W_seq (W_region ?_))
  iterate 4 (refine WO_op rfl rfl rfl ?_; simp only [putT,st,ev,gt,hp,ofV,constT,intT,lm])
  refine WO_nil ?_
  refine W_cond rfl (fun hc => ?_) (fun hc => ?_)
  ·
   replace H1 := tr hc H1
   refine W_skip ?_
   refine W_seq ?_
   refine W_block ?_
   refine W_seq (W_region ?_)
   refine WO_op rfl rfl rfl ?_; simp only [putT,st,ev,gt,hp,ofV,constT,intT,lm]
   obtain ⟨x7, hx7, H1⟩ := bnd H1
   refine WO_op (x := qb x7.1) (σ' := ⟨[], [some [.c (cL eU x7.2.b), qi x7.2.i, qi x7.2.h]], [rr 2 enc_Sample v6 true, rr 1 eS kl11 true]⟩) rfl rfl (ev_callG (al := [.bp 0 0, qi 3]) (ls := [.b 0]) (spec_l1Once_ok hx7) rfl rfl rfl rfl rfl (by decide) rfl rfl rfl rfl rfl rfl) ?_; simp only [putT,st,ev,gt,hp,ofV,constT,intT,lm]
   refine WO_op rfl rfl rfl ?_; simp only [putT,st,ev,gt,hp,ofV,constT,intT,lm]
   refine WO_nil ?_
   refine W_cond rfl (fun hc => ?_) (fun hc => ?_)
   ·
    replace H1 := tr hc H1
    refine W_drawL (by kernel_rfl) (by decide +kernel) ?_
    iterate 3 (refine WL_op rfl rfl rfl rfl ?_; simp only [putT,st,ev,gt,hp,ofV,constT,intT,lm])
    obtain ⟨x8, hx8, H1⟩ := bnd H1
    refine WL_op rfl rfl rfl (ev_ixR (en := eS) hx8 rfl rfl rfl rfl rfl rfl rfl) ?_; simp only [putT,st,ev,gt,hp,ofV,constT,intT,lm]
    refine WL_op (x := qs x8) rfl rfl rfl (ev_ldR (en := eS) hx8 rfl rfl rfl rfl) ?_; simp only [putT,st,ev,gt,hp,ofV,constT,intT,lm]
    refine WL_op rfl rfl rfl rfl ?_; simp only [putT,st,ev,gt,hp,ofV,constT,intT,lm]
    refine WL_op (x := .row 2) (σ' := ⟨[], [some [.c (cL eU x7.2.b), qi x7.2.i, qi x7.2.h]], [rr 2 enc_Sample v6 true, rr 1 eS kl11 true, rr 1 eI kl22 true]⟩) rfl rfl rfl (by kernel_rfl) ?_; simp only [putT,st,ev,gt,hp,ofV,constT,intT,lm]
    obtain ⟨x9, hx9, H1⟩ := bnd H1
    refine WL_op (x := qi x9.1) (σ' := ⟨[], [some [.c (cL eU x9.2.b), qi x9.2.i, qi x9.2.h]], [rr 2 enc_Sample v6 true, rr 1 eS kl11 true, rr 1 eI kl22 false]⟩) rfl rfl rfl (ev_callG (al := [.bp 0 0, .row 2]) (ls := [.b 0]) (spec_l1PickInt_ok hx9) rfl rfl rfl rfl rfl (by decide) rfl rfl rfl rfl rfl rfl) ?_; simp only [putT,st,ev,gt,hp,ofV,constT,intT,lm]
    refine WL_op (x := .ag [qs x8, qi x9.1]) rfl rfl rfl rfl ?_; simp only [putT,st,ev,gt,hp,ofV,constT,intT,lm]
    refine WL_op (x := .row 3) (σ' := ⟨[], [some [.c (cL eU x9.2.b), qi x9.2.i, qi x9.2.h]], [rr 2 enc_Sample v6 true, rr 1 eS kl11 true, rr 1 eI kl22 false, rr 2 enc_Sample ([(Sample.mk x8 x9.1)] : List Sample) true]⟩) rfl rfl rfl (ev_bs ([(Sample.mk x8 x9.1)] : List Sample) enc_Sample rfl rfl rfl rfl) ?_; simp only [putT,st,ev,gt,hp,ofV,constT,intT,lm]
    obtain ⟨m10, hm10, H1⟩ := bnd H1
    refine WL_op (x := .row 4) (σ' := ⟨[], [some [.c (cL eU x9.2.b), qi x9.2.i, qi x9.2.h]], [none, rr 1 eS kl11 true, rr 1 eI kl22 false, rr 2 enc_Sample ([(Sample.mk x8 x9.1)] : List Sample) true, rr 2 enc_Sample m10 true]⟩) rfl rfl rfl (ev_app (en := enc_Sample) hm10 rfl rfl rfl rfl (Or.inl rfl) rfl rfl rfl rfl rfl rfl rfl rfl rfl rfl rfl (fun _ => rfl) rfl (Or.inr rfl) rfl) ?_; simp only [putT,st,ev,gt,hp,ofV,constT,intT,lm]
    refine WL_op rfl rfl rfl rfl ?_; simp only [putT,st,ev,gt,hp,ofV,constT,intT,lm]
    refine WL_nil (by kernel_rfl) ?_
    refine W_region ?_
    iterate 3 (refine WO_op rfl rfl rfl ?_; simp only [putT,st,ev,gt,hp,ofV,constT,intT,lm])
    refine WO_nil ?_
    exact hW1 _ _ ((IH1 _ _ _ _ _ _ H1 rfl)) (le_intro [0] [4, 1] (by decide) (by decide) rfl (by simp [leS, leT, leA, gt]) (by simp [leB, leT, leA]) (by simp [leR]))
   ·
    replace H1 := fl hc H1
    refine W_skip ?_
    refine W_region ?_
    iterate 3 (refine WO_op rfl rfl rfl ?_; simp only [putT,st,ev,gt,hp,ofV,constT,intT,lm])
    refine WO_nil ?_
    exact hW1 _ _ ((IH1 _ _ _ _ _ _ H1 rfl)) (le_intro [0] [0, 1] (by decide) (by decide) rfl (by simp [leS, leT, leA, gt]) (by simp [leB, leT, leA]) (by simp [leR]))
  ·
   replace H1 := fl hc H1
   refine W_exit ?_
   obtain rfl := Option.some.inj H1
   exact hX1 (v3, v4, v5, v6) _ rfl (le_intro [0] [0] (by decide) (by decide) rfl (by simp [leS, leT, leA, gt]) (by simp [leB, leT, leA]) (by simp [leR]))
end Go.Pu
