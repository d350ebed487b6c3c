import Derived.Test.YtmdmbolhbjfcjaaAgreedEn
set_option linter.unusedVariables false
set_option linter.unusedSimpArgs false
set_option synthInstance.maxSize 1000000000
set_option maxRecDepth 20000
set_option maxHeartbeats 20000000
namespace Go.Pu
open Go Go.SX Go.Nt Go.Proofs
theorem laws_szStringS_ok  {a1 : List Str} {a2 : Int} {r : Int} (H : laws_szStringS a1 a2 = some r) : R 9 [.c (cL eS a1) none, .c (cI .i64 a2) none] = some (.c (cI .i64 r) none, []) := by
 unfold laws_szStringS at H
 refine Fz_walk false 28 rfl rfl rfl Try.func9 rfl (by kernel_rfl) rfl rfl rfl rfl ?_
 simp only [tellVs, tellV, tells, tell, st0, padT, SX.newRow, SX.newBox, List.length_cons, List.length_nil, Nat.reduceAdd, Nat.reduceSub, List.replicate, List.cons_append, List.nil_append, List.foldl_cons, List.foldl_nil]
 refine W_seq (W_region ?_)
 refine WO_op rfl rfl rfl ?_; simp only [putT,st,ev,gt,hp,ofV,constT,intT,lm]
 refine WO_nil (W_seq (W_region ?_))
 iterate 5 (refine WO_op rfl rfl rfl ?_; simp only [putT,st,ev,gt,hp,ofV,constT,intT,lm])
 refine WO_nil (W_seq (W_seq (W_region ?_)))
 iterate 2 (refine WO_op rfl rfl rfl ?_; simp only [putT,st,ev,gt,hp,ofV,constT,intT,lm])
 refine WO_nil ?_
 refine W_cond rfl (fun hc => ?_) (fun hc => ?_)
 ·
  replace H := tr hc H
  refine W_seq (W_region ?_)
  refine WO_op rfl rfl rfl ?_; simp only [putT,st,ev,gt,hp,ofV,constT,intT,lm]
  refine WO_nil ?_
  refine W_ret ?_
  obtain rfl := Option.some.inj H
  exact told3 rfl
 ·
  replace H := fl hc H
  refine W_skip ?_
  refine W_seq (W_seq (W_region ?_))
  refine WO_op rfl rfl rfl ?_; simp only [putT,st,ev,gt,hp,ofV,constT,intT,lm]
  refine WO_nil ?_
  refine W_block ?_
  obtain ⟨s7, hs7, H⟩ := bnd H
  refine loop_rule (ls := []) 0 (fun t6 : Int => ⟨[.no, qi t6], [], []⟩) (fun t => s7 = .inr t) ⟨[.c (cL eS a1), qi (IntKind.i64.wrap (a2 - (a1.length : Int))), .no, .no, .no, qi 0], [], []⟩ (by repeat (first | exact mono_told | refine mono_seq ?_ | refine mono_blk ?_ | refine mono_lp ?_)) (le_intro [] [] (by decide) (by decide) rfl (by simp [leS, leT, leA, gt]) (by simp [leB, leT, leA]) (by simp [leR])) ?_ ?_
  ·
   rintro t6 rfl
   refine W_seq (W_region ?_)
   iterate 2 (refine WO_op rfl rfl rfl ?_; simp only [putT,st,ev,gt,hp,ofV,constT,intT,lm])
   refine WO_nil ?_
   refine W_ret ?_
   obtain rfl := Option.some.inj H
   exact told3 rfl
  ·
   intro V1 hV1 hW1 hX1
   refine (laws_szStringS.l0.partial_correctness a1 (fun v3 v4 s' => s' = s7 → (V1 ⟨[.c (cL eS a1), qi v3, .no, .no, .no, qi v4], [], []⟩)) ?_ _ _ _ hs7 rfl)
   intro l0 IH1 v3 v4 s' H1 e
   subst e
   refine hV1 _ ?_
   refine W_seq (W_seq (W_region ?_))
   iterate 4 (refine WO_op rfl rfl rfl ?_; simp only [putT,st,ev,gt,hp,ofV,constT,intT,lm])
   refine WO_nil ?_
   refine W_cond rfl (fun hc => ?_) (fun hc => ?_)
   ·
    replace H1 := tr hc H1
    refine W_skip ?_
    refine W_seq ?_
    refine W_block ?_
    refine W_seq (W_region ?_)
    iterate 3 (refine WO_op rfl rfl rfl ?_; simp only [putT,st,ev,gt,hp,ofV,constT,intT,lm])
    obtain ⟨x5, hx5, H1⟩ := bnd H1
    refine WO_op rfl rfl (ev_ix (en := eS) hx5 rfl rfl rfl rfl rfl rfl rfl) ?_; simp only [putT,st,ev,gt,hp,ofV,constT,intT,lm]
    refine WO_op (x := qs x5) rfl rfl rfl ?_
    refine WO_op (x := qi (x5.length : Int)) rfl rfl rfl ?_; simp only [putT,st,ev,gt,hp,ofV,constT,intT,lm]
    iterate 2 (refine WO_op rfl rfl rfl ?_; simp only [putT,st,ev,gt,hp,ofV,constT,intT,lm])
    refine WO_nil (W_seq (W_region ?_))
    iterate 2 (refine WO_op rfl rfl rfl ?_; simp only [putT,st,ev,gt,hp,ofV,constT,intT,lm])
    refine WO_nil ?_
    refine W_cond rfl (fun hc => ?_) (fun hc => ?_)
    ·
     replace H1 := tr hc H1
     refine W_seq (W_region ?_)
     refine WO_op rfl rfl rfl ?_; simp only [putT,st,ev,gt,hp,ofV,constT,intT,lm]
     refine WO_nil ?_
     refine W_ret ?_
     obtain rfl := Option.some.inj H1
     obtain rfl := Option.some.inj H
     exact told3 rfl
    ·
     replace H1 := fl hc H1
     refine W_skip ?_
     refine W_region ?_
     iterate 3 (refine WO_op rfl rfl rfl ?_; simp only [putT,st,ev,gt,hp,ofV,constT,intT,lm])
     refine WO_nil ?_
     exact hW1 _ _ ((IH1 _ _ _ H1 rfl)) (le_intro [] [] (by decide) (by decide) rfl (by simp [leS, leT, leA, gt]) (by simp [leB, leT, leA]) (by simp [leR]))
   ·
    replace H1 := fl hc H1
    refine W_exit ?_
    obtain rfl := Option.some.inj H1
    exact hX1 v3 _ rfl (le_intro [] [] (by decide) (by decide) rfl (by simp [leS, leT, leA, gt]) (by simp [leB, leT, leA]) (by simp [leR]))
theorem laws_szNodeS_ok {rc2 : Node → Int → Option (Int)} (hrc2 : ∀ {a1 : Node} {a2 : Int} {r : Int}, rc2 a1 a2 = some r → R 4 [.ag [(cI .i64 a1.Kind, none), (cI .i64 a1.N, none), (cS a1.S, none), (cL eS a1.Keys, none), (cL eR_Node a1.Kids, none)], .c (cI .i64 a2) none] = some (.c (cI .i64 r) none, [])) {a1 : List RNode} {a2 : Int} {r : Int} (H : laws_szNodeS rc2 a1 a2 = some r) : R 10 [.c (cL eR_Node a1) none, .c (cI .i64 a2) none] = some (.c (cI .i64 r) none, []) := by
 unfold laws_szNodeS at H
 refine Fz_walk false 27 rfl rfl rfl Try.func10 rfl (by kernel_rfl) rfl rfl rfl rfl ?_
 simp only [tellVs, tellV, tells, tell, st0, padT, SX.newRow, SX.newBox, List.length_cons, List.length_nil, Nat.reduceAdd, Nat.reduceSub, List.replicate, List.cons_append, List.nil_append, List.foldl_cons, List.foldl_nil]
 refine W_seq (W_region ?_)
 refine WO_op rfl rfl rfl ?_; simp only [putT,st,ev,gt,hp,ofV,constT,intT,lm]
 refine WO_nil (W_seq (W_region ?_))
 iterate 5 (refine WO_op rfl rfl rfl ?_; simp only [putT,st,ev,gt,hp,ofV,constT,intT,lm])
 refine WO_nil (W_seq (W_seq (W_region ?_)))
 iterate 2 (refine WO_op rfl rfl rfl ?_; simp only [putT,st,ev,gt,hp,ofV,constT,intT,lm])
 refine WO_nil ?_
 refine W_cond rfl (fun hc => ?_) (fun hc => ?_)
 ·
  replace H := tr hc H
  refine W_seq (W_region ?_)
  refine WO_op rfl rfl rfl ?_; simp only [putT,st,ev,gt,hp,ofV,constT,intT,lm]
  refine WO_nil ?_
  refine W_ret ?_
  obtain rfl := Option.some.inj H
  exact told3 rfl
 ·
  replace H := fl hc H
  refine W_skip ?_
  refine W_seq (W_seq (W_region ?_))
  refine WO_op rfl rfl rfl ?_; simp only [putT,st,ev,gt,hp,ofV,constT,intT,lm]
  refine WO_nil ?_
  refine W_block ?_
  obtain ⟨s9, hs9, H⟩ := bnd H
  refine loop_rule (ls := []) 0 (fun t8 : Int => ⟨[.no, qi t8], [], []⟩) (fun t => s9 = .inr t) ⟨[.c (cL eR_Node a1), qi (IntKind.i64.wrap (a2 - (a1.length : Int))), .no, .no, .no, qi 0], [], []⟩ (by repeat (first | exact mono_told | refine mono_seq ?_ | refine mono_blk ?_ | refine mono_lp ?_)) (le_intro [] [] (by decide) (by decide) rfl (by simp [leS, leT, leA, gt]) (by simp [leB, leT, leA]) (by simp [leR])) ?_ ?_
  ·
   rintro t8 rfl
   refine W_seq (W_region ?_)
   iterate 2 (refine WO_op rfl rfl rfl ?_; simp only [putT,st,ev,gt,hp,ofV,constT,intT,lm])
   refine WO_nil ?_
   refine W_ret ?_
   obtain rfl := Option.some.inj H
   exact told3 rfl
  ·
   intro V1 hV1 hW1 hX1
   refine (laws_szNodeS.l0.partial_correctness rc2 a1 (fun v3 v4 s' => s' = s9 → (V1 ⟨[.c (cL eR_Node a1), qi v3, .no, .no, .no, qi v4], [], []⟩)) ?_ _ _ _ hs9 rfl)
   intro l0 IH1 v3 v4 s' H1 e
   subst e
   refine hV1 _ ?_
   refine W_seq (W_seq (W_region ?_))
   iterate 4 (refine WO_op rfl rfl rfl ?_; simp only [putT,st,ev,gt,hp,ofV,constT,intT,lm])
   refine WO_nil ?_
   refine W_cond rfl (fun hc => ?_) (fun hc => ?_)
   ·
    replace H1 := tr hc H1
    refine W_skip ?_
    refine W_seq ?_
    refine W_block ?_
    refine W_seq (W_region ?_)
    iterate 2 (refine WO_op rfl rfl rfl ?_; simp only [putT,st,ev,gt,hp,ofV,constT,intT,lm])
    obtain ⟨x5, hx5, H1⟩ := bnd H1
    obtain ⟨y6, hy6, H1⟩ := bnd H1
    rw [dN_Node_some hy6] at hx5
    refine WO_op rfl rfl (ev_ix (en := eR_Node) hx5 rfl rfl rfl rfl rfl rfl rfl) ?_; simp only [putT,st,ev,gt,hp,ofV,constT,intT,lm]
    refine WO_op (x := .ag [qi y6.Kind, qi y6.N, qs y6.S, .c (cL eS y6.Keys), .c (cL eR_Node y6.Kids)]) rfl rfl rfl ?_
    refine WO_op rfl rfl rfl ?_; simp only [putT,st,ev,gt,hp,ofV,constT,intT,lm]
    obtain ⟨x7, hx7, H1⟩ := bnd H1
    refine WO_op (x := qi x7) (σ' := ⟨[], [], []⟩) rfl rfl (ev_callG (al := [.ag [qi y6.Kind, qi y6.N, qs y6.S, .c (cL eS y6.Keys), .c (cL eR_Node y6.Kids)], qi v3]) (ls := []) (hrc2 hx7) rfl rfl rfl rfl rfl (by decide) rfl rfl rfl rfl rfl rfl) ?_; simp only [putT,st,ev,gt,hp,ofV,constT,intT,lm]
    refine WO_op rfl rfl rfl ?_; simp only [putT,st,ev,gt,hp,ofV,constT,intT,lm]
    refine WO_nil (W_seq (W_region ?_))
    iterate 2 (refine WO_op rfl rfl rfl ?_; simp only [putT,st,ev,gt,hp,ofV,constT,intT,lm])
    refine WO_nil ?_
    refine W_cond rfl (fun hc => ?_) (fun hc => ?_)
    ·
     replace H1 := tr hc H1
     refine W_seq (W_region ?_)
     refine WO_op rfl rfl rfl ?_; simp only [putT,st,ev,gt,hp,ofV,constT,intT,lm]
     refine WO_nil ?_
     refine W_ret ?_
     obtain rfl := Option.some.inj H1
     obtain rfl := Option.some.inj H
     exact told3 rfl
    ·
     replace H1 := fl hc H1
     refine W_skip ?_
     refine W_region ?_
     iterate 3 (refine WO_op rfl rfl rfl ?_; simp only [putT,st,ev,gt,hp,ofV,constT,intT,lm])
     refine WO_nil ?_
     exact hW1 _ _ ((IH1 _ _ _ H1 rfl)) (le_intro [] [] (by decide) (by decide) rfl (by simp [leS, leT, leA, gt]) (by simp [leB, leT, leA]) (by simp [leR]))
   ·
    replace H1 := fl hc H1
    refine W_exit ?_
    obtain rfl := Option.some.inj H1
    exact hX1 v3 _ rfl (le_intro [] [] (by decide) (by decide) rfl (by simp [leS, leT, leA, gt]) (by simp [leB, leT, leA]) (by simp [leR]))
theorem laws_szNode_F_ok {rc2 : Node → Int → Option (Int)} (hrc2 : ∀ {a1 : Node} {a2 : Int} {r : Int}, rc2 a1 a2 = some r → R 4 [.ag [(cI .i64 a1.Kind, none), (cI .i64 a1.N, none), (cS a1.S, none), (cL eS a1.Keys, none), (cL eR_Node a1.Kids, none)], .c (cI .i64 a2) none] = some (.c (cI .i64 r) none, [])) {a1 : Node} {a2 : Int} {r : Int} (H : laws_szNode_F rc2 a1 a2 = some r) : R 4 [.ag [(cI .i64 a1.Kind, none), (cI .i64 a1.N, none), (cS a1.S, none), (cL eS a1.Keys, none), (cL eR_Node a1.Kids, none)], .c (cI .i64 a2) none] = some (.c (cI .i64 r) none, []) := by
 unfold laws_szNode_F at H
 refine Fz_walk false 25 rfl rfl rfl Try.func4 rfl (by kernel_rfl) rfl rfl rfl rfl ?_
 simp only [tellVs, tellV, tells, tell, st0, padT, SX.newRow, SX.newBox, List.length_cons, List.length_nil, Nat.reduceAdd, Nat.reduceSub, List.replicate, List.cons_append, List.nil_append, List.foldl_cons, List.foldl_nil]
 refine W_seq (W_region ?_)
 refine WO_op (x := .bp 0 0) (σ' := ⟨[], [some [qi a1.Kind, qi a1.N, qs a1.S, .c (cL eS a1.Keys), .c (cL eR_Node a1.Kids)]], []⟩) rfl rfl rfl ?_
 refine WO_op rfl rfl rfl ?_; simp only [putT,st,ev,gt,hp,ofV,constT,intT,lm]
 refine WO_nil (W_seq (W_region ?_))
 refine WO_op rfl rfl rfl ?_
 refine WO_op (x := .bp 0 2) rfl rfl rfl ?_
 refine WO_op (x := qs a1.S) rfl rfl rfl ?_
 refine WO_op (x := qi (a1.S.length : Int)) rfl rfl rfl ?_; simp only [putT,st,ev,gt,hp,ofV,constT,intT,lm]
 iterate 2 (refine WO_op rfl rfl rfl ?_; simp only [putT,st,ev,gt,hp,ofV,constT,intT,lm])
 refine WO_nil (W_seq (W_seq (W_region ?_)))
 iterate 2 (refine WO_op rfl rfl rfl ?_; simp only [putT,st,ev,gt,hp,ofV,constT,intT,lm])
 refine WO_nil ?_
 refine W_cond rfl (fun hc => ?_) (fun hc => ?_)
 ·
  replace H := tr hc H
  refine W_seq (W_region ?_)
  refine WO_op rfl rfl rfl ?_; simp only [putT,st,ev,gt,hp,ofV,constT,intT,lm]
  refine WO_nil ?_
  refine W_ret ?_
  obtain rfl := Option.some.inj H
  exact told3 rfl
 ·
  replace H := fl hc H
  refine W_skip ?_
  refine W_seq (W_region ?_)
  refine WO_op (x := .bp 0 3) rfl rfl rfl ?_
  refine WO_op (x := .c (cL eS a1.Keys)) rfl rfl rfl ?_
  refine WO_op rfl rfl rfl ?_; simp only [putT,st,ev,gt,hp,ofV,constT,intT,lm]
  obtain ⟨x3, hx3, H⟩ := bnd H
  refine WO_op (x := qi x3) (σ' := ⟨[], [some [qi a1.Kind, qi a1.N, qs a1.S, .c (cL eS a1.Keys), .c (cL eR_Node a1.Kids)]], []⟩) rfl rfl (ev_callG (al := [.c (cL eS a1.Keys), qi (IntKind.i64.wrap (a2 - (a1.S.length : Int)))]) (ls := []) (laws_szStringS_ok hx3) rfl rfl rfl rfl rfl (by decide) rfl rfl rfl rfl rfl rfl) ?_; simp only [putT,st,ev,gt,hp,ofV,constT,intT,lm]
  refine WO_op rfl rfl rfl ?_; simp only [putT,st,ev,gt,hp,ofV,constT,intT,lm]
  refine WO_nil (W_seq (W_seq (W_region ?_)))
  iterate 2 (refine WO_op rfl rfl rfl ?_; simp only [putT,st,ev,gt,hp,ofV,constT,intT,lm])
  refine WO_nil ?_
  refine W_cond rfl (fun hc => ?_) (fun hc => ?_)
  ·
   replace H := tr hc H
   refine W_seq (W_region ?_)
   refine WO_op rfl rfl rfl ?_; simp only [putT,st,ev,gt,hp,ofV,constT,intT,lm]
   refine WO_nil ?_
   refine W_ret ?_
   obtain rfl := Option.some.inj H
   exact told3 rfl
  ·
   replace H := fl hc H
   refine W_skip ?_
   refine W_seq (W_region ?_)
   refine WO_op (x := .bp 0 4) rfl rfl rfl ?_
   refine WO_op (x := .c (cL eR_Node a1.Kids)) rfl rfl rfl ?_
   refine WO_op rfl rfl rfl ?_; simp only [putT,st,ev,gt,hp,ofV,constT,intT,lm]
   obtain ⟨x4, hx4, H⟩ := bnd H
   refine WO_op (x := qi x4) (σ' := ⟨[], [some [qi a1.Kind, qi a1.N, qs a1.S, .c (cL eS a1.Keys), .c (cL eR_Node a1.Kids)]], []⟩) rfl rfl (ev_callG (al := [.c (cL eR_Node a1.Kids), qi x3]) (ls := []) (laws_szNodeS_ok hrc2 hx4) rfl rfl rfl rfl rfl (by decide) rfl rfl rfl rfl rfl rfl) ?_; simp only [putT,st,ev,gt,hp,ofV,constT,intT,lm]
   refine WO_op rfl rfl rfl ?_; simp only [putT,st,ev,gt,hp,ofV,constT,intT,lm]
   refine WO_nil (W_seq (W_seq (W_region ?_)))
   iterate 2 (refine WO_op rfl rfl rfl ?_; simp only [putT,st,ev,gt,hp,ofV,constT,intT,lm])
   refine WO_nil ?_
   refine W_cond rfl (fun hc => ?_) (fun hc => ?_)
   ·
    replace H := tr hc H
    refine W_seq (W_region ?_)
    refine WO_op rfl rfl rfl ?_; simp only [putT,st,ev,gt,hp,ofV,constT,intT,lm]
    refine WO_nil ?_
    refine W_ret ?_
    obtain rfl := Option.some.inj H
    exact told3 rfl
   ·
    replace H := fl hc H
    refine W_skip ?_
    refine W_seq (W_region ?_)
    iterate 2 (refine WO_op rfl rfl rfl ?_; simp only [putT,st,ev,gt,hp,ofV,constT,intT,lm])
    refine WO_nil ?_
    refine W_ret ?_
    obtain rfl := Option.some.inj H
    exact told3 rfl
theorem laws_szNode_n_ok : ∀ (k : Nat) {a1 : Node} {a2 : Int} {r : Int}, laws_szNode_n k a1 a2 = some r → R 4 [.ag [(cI .i64 a1.Kind, none), (cI .i64 a1.N, none), (cS a1.S, none), (cL eS a1.Keys, none), (cL eR_Node a1.Kids, none)], .c (cI .i64 a2) none] = some (.c (cI .i64 r) none, [])
  | 0, _, _, _, h => by simp [laws_szNode_n] at h
  | k + 1, _, _, _, h => laws_szNode_F_ok (fun h => laws_szNode_n_ok k h) h
theorem laws_szNode_ok {a1 : Node} {a2 : Int} {r : Int} (H : laws_szNode a1 a2 = some r) : R 4 [.ag [(cI .i64 a1.Kind, none), (cI .i64 a1.N, none), (cS a1.S, none), (cL eS a1.Keys, none), (cL eR_Node a1.Kids, none)], .c (cI .i64 a2) none] = some (.c (cI .i64 r) none, []) := by
  obtain ⟨k, hk⟩ := Nt.lim_ex H
  exact laws_szNode_n_ok k (hk k (Nat.le_refl k))
theorem laws_toStringS_ok  {a1 : List Str} {r : List Str} (H : laws_toStringS a1 = some r) : R 12 [.c (cL eS a1) none] = some (.c (cL eS r) (some 1), []) := by
 unfold laws_toStringS at H
 refine Fz_walk false 22 rfl rfl rfl Try.func12 rfl (by kernel_rfl) rfl rfl rfl rfl ?_
 simp only [tellVs, tellV, tells, tell, st0, padT, SX.newRow, SX.newBox, List.length_cons, List.length_nil, Nat.reduceAdd, Nat.reduceSub, List.replicate, List.cons_append, List.nil_append, List.foldl_cons, List.foldl_nil]
 refine W_seq (W_region ?_)
 refine WO_op rfl rfl rfl ?_; simp only [putT,st,ev,gt,hp,ofV,constT,intT,lm]
 refine WO_nil (W_seq (W_region ?_))
 iterate 2 (refine WO_op rfl rfl rfl ?_; simp only [putT,st,ev,gt,hp,ofV,constT,intT,lm])
 obtain ⟨m2, hm2, H⟩ := bnd H
 refine WO_op (x := .row 0) (σ' := ⟨[], [], [rr 1 eS m2 true]⟩) rfl rfl (ev_mk (en := eS) hm2 rfl rfl rfl rfl rfl rfl rfl rfl rfl rfl rfl rfl rfl rfl) ?_; simp only [putT,st,ev,gt,hp,ofV,constT,intT,lm]
 refine WO_op rfl rfl rfl ?_; simp only [putT,st,ev,gt,hp,ofV,constT,intT,lm]
 refine WO_nil (W_seq (W_seq (W_region ?_)))
 refine WO_op rfl rfl rfl ?_; simp only [putT,st,ev,gt,hp,ofV,constT,intT,lm]
 refine WO_nil ?_
 refine W_block ?_
 obtain ⟨t8, ht8, H⟩ := bnd H
 refine loop_rule (ls := []) 0 (fun t8 : List Str => ⟨[.no, .no, .no, .row 0], [], [rr 1 eS t8 true]⟩) (fun t => t8 = t) ⟨[.c (cL eS a1), .no, .no, .row 0, qi 0], [], [rr 1 eS m2 true]⟩ (by repeat (first | exact mono_told | refine mono_seq ?_ | refine mono_blk ?_ | refine mono_lp ?_)) (le_intro [] [0] (by decide) (by decide) rfl (by simp [leS, leT, leA, gt]) (by simp [leB, leT, leA]) (by simp [leR])) ?_ ?_
 ·
  rintro t1 rfl
  refine W_seq (W_region ?_)
  iterate 2 (refine WO_op rfl rfl rfl ?_; simp only [putT,st,ev,gt,hp,ofV,constT,intT,lm])
  refine WO_nil ?_
  refine W_ret ?_
  obtain rfl := Option.some.inj H
  exact told5 rfl rfl rfl rfl (fitAs_nz rfl) rfl
 ·
  intro V1 hV1 hW1 hX1
  refine (laws_toStringS.l0.partial_correctness a1 (fun v3 v4 s' => s' = t8 → (V1 ⟨[.c (cL eS a1), .no, .no, .row 0, qi v3], [], [rr 1 eS v4 true]⟩)) ?_ _ _ _ ht8 rfl)
  intro l0 IH1 v3 v4 s' H1 e
  subst e
  refine hV1 _ ?_
  refine W_seq (W_seq (W_region ?_))
  iterate 4 (refine WO_op rfl rfl rfl ?_; simp only [putT,st,ev,gt,hp,ofV,constT,intT,lm])
  refine WO_nil ?_
  refine W_cond rfl (fun hc => ?_) (fun hc => ?_)
  ·
   replace H1 := tr hc H1
   refine W_skip ?_
   refine W_seq ?_
   refine W_block ?_
   refine W_region ?_
   iterate 4 (refine WO_op rfl rfl rfl ?_; simp only [putT,st,ev,gt,hp,ofV,constT,intT,lm])
   obtain ⟨x5, hx5, H1⟩ := bnd H1
   refine WO_op rfl rfl (ev_ix (en := eS) hx5 rfl rfl rfl rfl rfl rfl rfl) ?_; simp only [putT,st,ev,gt,hp,ofV,constT,intT,lm]
   refine WO_op (x := qs x5) rfl rfl rfl ?_; simp only [putT,st,ev,gt,hp,ofV,constT,intT,lm]
   obtain ⟨x6, hx6, H1⟩ := bnd H1
   refine WO_op rfl rfl (ev_ixR (en := eS) hx6 rfl rfl rfl rfl rfl rfl rfl) ?_; simp only [putT,st,ev,gt,hp,ofV,constT,intT,lm]
   obtain ⟨m7, hm7, H1⟩ := bnd H1
   refine WO_op (x := .no) (σ' := ⟨[], [], [rr 1 eS m7 true]⟩) rfl rfl (ev_stR (en := eS) hm7 hx6 rfl rfl rfl rfl rfl rfl rfl rfl) ?_; simp only [putT,st,ev,gt,hp,ofV,constT,intT,lm]
   refine WO_nil (W_region ?_)
   iterate 3 (refine WO_op rfl rfl rfl ?_; simp only [putT,st,ev,gt,hp,ofV,constT,intT,lm])
   refine WO_nil ?_
   exact hW1 _ _ ((IH1 _ _ _ H1 rfl)) (le_intro [] [0] (by decide) (by decide) rfl (by simp [leS, leT, leA, gt]) (by simp [leB, leT, leA]) (by simp [leR]))
  ·
   replace H1 := fl hc H1
   refine W_exit ?_
   obtain rfl := Option.some.inj H1
   exact hX1 v4 _ rfl (le_intro [] [0] (by decide) (by decide) rfl (by simp [leS, leT, leA, gt]) (by simp [leB, leT, leA]) (by simp [leR]))
theorem laws_toNodeS_ok {rc5 : Node → Option (Node)} (hrc5 : ∀ {a1 : Node} {r : Node}, rc5 a1 = some r → R 6 [.ag [(cI .i64 a1.Kind, none), (cI .i64 a1.N, none), (cS a1.S, none), (cL eS a1.Keys, none), (cL eR_Node a1.Kids, none)]] = some (.ag [(cI .i64 r.Kind, none), (cI .i64 r.N, none), (cS r.S, none), (cL eS r.Keys, some 1), (cL eR_Node r.Kids, some 5)], [])) {a1 : List RNode} {r : List RNode} (H : laws_toNodeS rc5 a1 = some r) : R 13 [.c (cL eR_Node a1) none] = some (.c (cL eR_Node r) (some 5), []) := by
 unfold laws_toNodeS at H
 refine Fz_walk false 23 rfl rfl rfl Try.func13 rfl (by kernel_rfl) rfl rfl rfl rfl ?_
 simp only [tellVs, tellV, tells, tell, st0, padT, SX.newRow, SX.newBox, List.length_cons, List.length_nil, Nat.reduceAdd, Nat.reduceSub, List.replicate, List.cons_append, List.nil_append, List.foldl_cons, List.foldl_nil]
 refine W_seq (W_region ?_)
 refine WO_op rfl rfl rfl ?_; simp only [putT,st,ev,gt,hp,ofV,constT,intT,lm]
 refine WO_nil (W_seq (W_region ?_))
 iterate 2 (refine WO_op rfl rfl rfl ?_; simp only [putT,st,ev,gt,hp,ofV,constT,intT,lm])
 obtain ⟨m2, hm2, H⟩ := bnd H
 refine WO_op (x := .row 0) (σ' := ⟨[], [], [rr 5 eR_Node m2 true]⟩) rfl rfl (ev_mk (en := eR_Node) hm2 rfl rfl rfl rfl rfl rfl rfl rfl rfl rfl rfl rfl rfl rfl) ?_; simp only [putT,st,ev,gt,hp,ofV,constT,intT,lm]
 refine WO_op rfl rfl rfl ?_; simp only [putT,st,ev,gt,hp,ofV,constT,intT,lm]
 refine WO_nil (W_seq (W_seq (W_region ?_)))
 refine WO_op rfl rfl rfl ?_; simp only [putT,st,ev,gt,hp,ofV,constT,intT,lm]
 refine WO_nil ?_
 refine W_block ?_
 obtain ⟨t11, ht11, H⟩ := bnd H
 refine loop_rule (ls := []) 0 (fun t11 : List RNode => ⟨[.no, .no, .no, .row 0], [], [rr 5 eR_Node t11 true]⟩) (fun t => t11 = t) ⟨[.c (cL eR_Node a1), .no, .no, .row 0, qi 0], [], [rr 5 eR_Node m2 true]⟩ (by repeat (first | exact mono_told | refine mono_seq ?_ | refine mono_blk ?_ | refine mono_lp ?_)) (le_intro [] [0] (by decide) (by decide) rfl (by simp [leS, leT, leA, gt]) (by simp [leB, leT, leA]) (by simp [leR])) ?_ ?_
 ·
  rintro t1 rfl
  refine W_seq (W_region ?_)
  iterate 2 (refine WO_op rfl rfl rfl ?_; simp only [putT,st,ev,gt,hp,ofV,constT,intT,lm])
  refine WO_nil ?_
  refine W_ret ?_
  obtain rfl := Option.some.inj H
  exact told5 rfl rfl rfl rfl (fitAs_nz rfl) rfl
 ·
  intro V1 hV1 hW1 hX1
  refine (laws_toNodeS.l0.partial_correctness rc5 a1 (fun v3 v4 s' => s' = t11 → (V1 ⟨[.c (cL eR_Node a1), .no, .no, .row 0, qi v3], [], [rr 5 eR_Node v4 true]⟩)) ?_ _ _ _ ht11 rfl)
  intro l0 IH1 v3 v4 s' H1 e
  subst e
  refine hV1 _ ?_
  refine W_seq (W_seq (W_region ?_))
  iterate 4 (refine WO_op rfl rfl rfl ?_; simp only [putT,st,ev,gt,hp,ofV,constT,intT,lm])
  refine WO_nil ?_
  refine W_cond rfl (fun hc => ?_) (fun hc => ?_)
  ·
   replace H1 := tr hc H1
   refine W_skip ?_
   refine W_seq ?_
   refine W_block ?_
   refine W_region ?_
   iterate 4 (refine WO_op rfl rfl rfl ?_; simp only [putT,st,ev,gt,hp,ofV,constT,intT,lm])
   obtain ⟨x5, hx5, H1⟩ := bnd H1
   obtain ⟨y6, hy6, H1⟩ := bnd H1
   rw [dN_Node_some hy6] at hx5
   refine WO_op rfl rfl (ev_ix (en := eR_Node) hx5 rfl rfl rfl rfl rfl rfl rfl) ?_; simp only [putT,st,ev,gt,hp,ofV,constT,intT,lm]
   refine WO_op (x := .ag [qi y6.Kind, qi y6.N, qs y6.S, .c (cL eS y6.Keys), .c (cL eR_Node y6.Kids)]) rfl rfl rfl ?_; simp only [putT,st,ev,gt,hp,ofV,constT,intT,lm]
   obtain ⟨x7, hx7, H1⟩ := bnd H1
   refine WO_op (x := .ag [qi x7.Kind, qi x7.N, qs x7.S, .row 1, .row 2]) (σ' := ⟨[], [], [rr 5 eR_Node v4 true, rr 1 eS x7.Keys true, rr 5 eR_Node x7.Kids true]⟩) rfl rfl (ev_callG (al := [.ag [qi y6.Kind, qi y6.N, qs y6.S, .c (cL eS y6.Keys), .c (cL eR_Node y6.Kids)]]) (ls := []) (hrc5 hx7) rfl rfl rfl rfl rfl (by decide) rfl rfl rfl rfl rfl rfl) ?_; simp only [putT,st,ev,gt,hp,ofV,constT,intT,lm]
   obtain ⟨x8, hx8, H1⟩ := bnd H1
   obtain ⟨y9, hy9, H1⟩ := bnd H1
   rw [dN_Node_some hy9] at hx8
   refine WO_op rfl rfl (ev_ixR (en := eR_Node) hx8 rfl rfl rfl rfl rfl rfl rfl) ?_; simp only [putT,st,ev,gt,hp,ofV,constT,intT,lm]
   obtain ⟨m10, hm10, H1⟩ := bnd H1
   refine WO_op (x := .no) (σ' := ⟨[], [], [rr 5 eR_Node m10 true, rr 1 eS x7.Keys false, rr 5 eR_Node x7.Kids false]⟩) rfl rfl (ev_stR (en := eR_Node) hm10 hx8 rfl rfl rfl rfl rfl rfl rfl rfl) ?_; simp only [putT,st,ev,gt,hp,ofV,constT,intT,lm]
   refine WO_nil (W_region ?_)
   iterate 3 (refine WO_op rfl rfl rfl ?_; simp only [putT,st,ev,gt,hp,ofV,constT,intT,lm])
   refine WO_nil ?_
   exact hW1 _ _ ((IH1 _ _ _ H1 rfl)) (le_intro [] [0] (by decide) (by decide) rfl (by simp [leS, leT, leA, gt]) (by simp [leB, leT, leA]) (by simp [leR]))
  ·
   replace H1 := fl hc H1
   refine W_exit ?_
   obtain rfl := Option.some.inj H1
   exact hX1 v4 _ rfl (le_intro [] [0] (by decide) (by decide) rfl (by simp [leS, leT, leA, gt]) (by simp [leB, leT, leA]) (by simp [leR]))
theorem laws_toNode_F_ok {rc5 : Node → Option (Node)} (hrc5 : ∀ {a1 : Node} {r : Node}, rc5 a1 = some r → R 6 [.ag [(cI .i64 a1.Kind, none), (cI .i64 a1.N, none), (cS a1.S, none), (cL eS a1.Keys, none), (cL eR_Node a1.Kids, none)]] = some (.ag [(cI .i64 r.Kind, none), (cI .i64 r.N, none), (cS r.S, none), (cL eS r.Keys, some 1), (cL eR_Node r.Kids, some 5)], [])) {a1 : Node} {r : Node} (H : laws_toNode_F rc5 a1 = some r) : R 6 [.ag [(cI .i64 a1.Kind, none), (cI .i64 a1.N, none), (cS a1.S, none), (cL eS a1.Keys, none), (cL eR_Node a1.Kids, none)]] = some (.ag [(cI .i64 r.Kind, none), (cI .i64 r.N, none), (cS r.S, none), (cL eS r.Keys, some 1), (cL eR_Node r.Kids, some 5)], []) := by
 unfold laws_toNode_F at H
 refine Fz_walk false 22 rfl rfl rfl Try.func6 rfl (by kernel_rfl) rfl rfl rfl rfl ?_
 simp only [tellVs, tellV, tells, tell, st0, padT, SX.newRow, SX.newBox, List.length_cons, List.length_nil, Nat.reduceAdd, Nat.reduceSub, List.replicate, List.cons_append, List.nil_append, List.foldl_cons, List.foldl_nil]
 refine W_seq (W_region ?_)
 refine WO_op (x := .bp 0 0) (σ' := ⟨[], [some [qi a1.Kind, qi a1.N, qs a1.S, .c (cL eS a1.Keys), .c (cL eR_Node a1.Kids)]], []⟩) rfl rfl rfl ?_
 refine WO_op (x := .bp 1 0) (σ' := ⟨[], [some [qi a1.Kind, qi a1.N, qs a1.S, .c (cL eS a1.Keys), .c (cL eR_Node a1.Kids)], some [qi 0, qi 0, qs [], .nil, .nil]], []⟩) rfl rfl rfl ?_; simp only [putT,st,ev,gt,hp,ofV,constT,intT,lm]
 refine WO_nil (W_seq (W_region ?_))
 refine WO_op (x := .bp 2 0) (σ' := ⟨[], [some [qi a1.Kind, qi a1.N, qs a1.S, .c (cL eS a1.Keys), .c (cL eR_Node a1.Kids)], some [qi 0, qi 0, qs [], .nil, .nil], some [qi 0, qi 0, qs [], .nil, .nil]], []⟩) rfl rfl rfl ?_; simp only [putT,st,ev,gt,hp,ofV,constT,intT,lm]
 refine WO_nil (W_seq (W_region ?_))
 refine WO_op (x := .bp 0 0) rfl rfl rfl ?_
 refine WO_op (x := qi a1.Kind) rfl rfl rfl ?_
 refine WO_op (x := .bp 2 0) rfl rfl rfl ?_
 refine WO_op (x := .no) (σ' := ⟨[], [some [qi a1.Kind, qi a1.N, qs a1.S, .c (cL eS a1.Keys), .c (cL eR_Node a1.Kids)], some [qi 0, qi 0, qs [], .nil, .nil], some [qi a1.Kind, qi 0, qs [], .nil, .nil]], []⟩) rfl rfl rfl ?_; simp only [putT,st,ev,gt,hp,ofV,constT,intT,lm]
 refine WO_nil (W_seq (W_region ?_))
 refine WO_op (x := .bp 0 1) rfl rfl rfl ?_
 refine WO_op (x := qi a1.N) rfl rfl rfl ?_
 refine WO_op (x := .bp 2 1) rfl rfl rfl ?_
 refine WO_op (x := .no) (σ' := ⟨[], [some [qi a1.Kind, qi a1.N, qs a1.S, .c (cL eS a1.Keys), .c (cL eR_Node a1.Kids)], some [qi 0, qi 0, qs [], .nil, .nil], some [qi a1.Kind, qi a1.N, qs [], .nil, .nil]], []⟩) rfl rfl rfl ?_; simp only [putT,st,ev,gt,hp,ofV,constT,intT,lm]
 refine WO_nil (W_seq (W_region ?_))
 refine WO_op (x := .bp 0 2) rfl rfl rfl ?_
 refine WO_op (x := qs a1.S) rfl rfl rfl ?_
 refine WO_op (x := .bp 2 2) rfl rfl rfl ?_
 refine WO_op (x := .no) (σ' := ⟨[], [some [qi a1.Kind, qi a1.N, qs a1.S, .c (cL eS a1.Keys), .c (cL eR_Node a1.Kids)], some [qi 0, qi 0, qs [], .nil, .nil], some [qi a1.Kind, qi a1.N, qs a1.S, .nil, .nil]], []⟩) rfl rfl rfl ?_; simp only [putT,st,ev,gt,hp,ofV,constT,intT,lm]
 refine WO_nil (W_seq (W_region ?_))
 refine WO_op (x := .bp 0 3) rfl rfl rfl ?_
 refine WO_op (x := .c (cL eS a1.Keys)) rfl rfl rfl ?_; simp only [putT,st,ev,gt,hp,ofV,constT,intT,lm]
 obtain ⟨x2, hx2, H⟩ := bnd H
 refine WO_op (x := .row 0) (σ' := ⟨[], [some [qi a1.Kind, qi a1.N, qs a1.S, .c (cL eS a1.Keys), .c (cL eR_Node a1.Kids)], some [qi 0, qi 0, qs [], .nil, .nil], some [qi a1.Kind, qi a1.N, qs a1.S, .nil, .nil]], [rr 1 eS x2 true]⟩) rfl rfl (ev_callG (al := [.c (cL eS a1.Keys)]) (ls := []) (laws_toStringS_ok hx2) rfl rfl rfl rfl rfl (by decide) rfl rfl (by simp only [flatA, flatV, flatC, List.all_cons, List.all_nil, Option.all_some, Option.all_none, Bool.and_self, Bool.or_true, fl_eS]) rfl rfl rfl) ?_; simp only [putT,st,ev,gt,hp,ofV,constT,intT,lm]
 refine WO_op (x := .bp 2 3) rfl rfl rfl ?_
 refine WO_op (x := .no) (σ' := ⟨[], [some [qi a1.Kind, qi a1.N, qs a1.S, .c (cL eS a1.Keys), .c (cL eR_Node a1.Kids)], some [qi 0, qi 0, qs [], .nil, .nil], some [qi a1.Kind, qi a1.N, qs a1.S, .row 0, .nil]], [rr 1 eS x2 true]⟩) rfl rfl rfl ?_; simp only [putT,st,ev,gt,hp,ofV,constT,intT,lm]
 refine WO_nil (W_seq (W_region ?_))
 refine WO_op (x := .bp 0 4) rfl rfl rfl ?_
 refine WO_op (x := .c (cL eR_Node a1.Kids)) rfl rfl rfl ?_; simp only [putT,st,ev,gt,hp,ofV,constT,intT,lm]
 obtain ⟨x3, hx3, H⟩ := bnd H
 refine WO_op (x := .row 1) (σ' := ⟨[], [some [qi a1.Kind, qi a1.N, qs a1.S, .c (cL eS a1.Keys), .c (cL eR_Node a1.Kids)], some [qi 0, qi 0, qs [], .nil, .nil], some [qi a1.Kind, qi a1.N, qs a1.S, .row 0, .nil]], [rr 1 eS x2 true, rr 5 eR_Node x3 true]⟩) rfl rfl (ev_callG (al := [.c (cL eR_Node a1.Kids)]) (ls := []) (laws_toNodeS_ok hrc5 hx3) rfl rfl rfl rfl rfl (by decide) rfl rfl rfl rfl rfl rfl) ?_; simp only [putT,st,ev,gt,hp,ofV,constT,intT,lm]
 refine WO_op (x := .bp 2 4) rfl rfl rfl ?_
 refine WO_op (x := .no) (σ' := ⟨[], [some [qi a1.Kind, qi a1.N, qs a1.S, .c (cL eS a1.Keys), .c (cL eR_Node a1.Kids)], some [qi 0, qi 0, qs [], .nil, .nil], some [qi a1.Kind, qi a1.N, qs a1.S, .row 0, .row 1]], [rr 1 eS x2 true, rr 5 eR_Node x3 true]⟩) rfl rfl rfl ?_; simp only [putT,st,ev,gt,hp,ofV,constT,intT,lm]
 refine WO_nil (W_seq (W_region ?_))
 refine WO_op (x := .ag [qi a1.Kind, qi a1.N, qs a1.S, .row 0, .row 1]) rfl rfl rfl ?_
 refine WO_op (x := .no) (σ' := ⟨[], [some [qi a1.Kind, qi a1.N, qs a1.S, .c (cL eS a1.Keys), .c (cL eR_Node a1.Kids)], some [qi a1.Kind, qi a1.N, qs a1.S, .row 0, .row 1], some [qi a1.Kind, qi a1.N, qs a1.S, .row 0, .row 1]], [rr 1 eS x2 true, rr 5 eR_Node x3 true]⟩) rfl rfl rfl ?_; simp only [putT,st,ev,gt,hp,ofV,constT,intT,lm]
 refine WO_nil ?_
 refine W_ret ?_
 obtain rfl := Option.some.inj H
 exact told5 rfl rfl rfl rfl (fitAs_nz rfl) rfl
theorem laws_toNode_n_ok : ∀ (k : Nat) {a1 : Node} {r : Node}, laws_toNode_n k a1 = some r → R 6 [.ag [(cI .i64 a1.Kind, none), (cI .i64 a1.N, none), (cS a1.S, none), (cL eS a1.Keys, none), (cL eR_Node a1.Kids, none)]] = some (.ag [(cI .i64 r.Kind, none), (cI .i64 r.N, none), (cS r.S, none), (cL eS r.Keys, some 1), (cL eR_Node r.Kids, some 5)], [])
  | 0, _, _, h => by simp [laws_toNode_n] at h
  | k + 1, _, _, h => laws_toNode_F_ok (fun h => laws_toNode_n_ok k h) h
theorem laws_toNode_ok {a1 : Node} {r : Node} (H : laws_toNode a1 = some r) : R 6 [.ag [(cI .i64 a1.Kind, none), (cI .i64 a1.N, none), (cS a1.S, none), (cL eS a1.Keys, none), (cL eR_Node a1.Kids, none)]] = some (.ag [(cI .i64 r.Kind, none), (cI .i64 r.N, none), (cS r.S, none), (cL eS r.Keys, some 1), (cL eR_Node r.Kids, some 5)], []) := by
  obtain ⟨k, hk⟩ := Nt.lim_ex H
  exact laws_toNode_n_ok k (hk k (Nat.le_refl k))
theorem spec_TreeSame_F_ok {rc21 : Node → Node → Option (Bool)} (hrc21 : ∀ {a1 : Node} {a2 : Node} {r : Bool}, rc21 a1 a2 = some r → R 17 [.ag [(cI .i64 a1.Kind, none), (cI .i64 a1.N, none), (cS a1.S, none), (cL eS a1.Keys, none), (cL eR_Node a1.Kids, none)], .ag [(cI .i64 a2.Kind, none), (cI .i64 a2.N, none), (cS a2.S, none), (cL eS a2.Keys, none), (cL eR_Node a2.Kids, none)]] = some (.c (cB r) none, [])) {a1 : Node} {a2 : Node} {r : Bool} (H : spec_TreeSame_F rc21 a1 a2 = some r) : R 17 [.ag [(cI .i64 a1.Kind, none), (cI .i64 a1.N, none), (cS a1.S, none), (cL eS a1.Keys, none), (cL eR_Node a1.Kids, none)], .ag [(cI .i64 a2.Kind, none), (cI .i64 a2.N, none), (cS a2.S, none), (cL eS a2.Keys, none), (cL eR_Node a2.Kids, none)]] = some (.c (cB r) none, []) := by
 unfold spec_TreeSame_F at H
 refine Fz_walk false 81 rfl rfl rfl Try.func17 rfl (by kernel_rfl) rfl rfl rfl rfl ?_
 simp only [tellVs, tellV, tells, tell, st0, padT, SX.newRow, SX.newBox, List.length_cons, List.length_nil, Nat.reduceAdd, Nat.reduceSub, List.replicate, List.cons_append, List.nil_append, List.foldl_cons, List.foldl_nil]
 refine W_seq (W_region ?_)
 refine WO_op (x := .bp 0 0) (σ' := ⟨[], [some [qi a1.Kind, qi a1.N, qs a1.S, .c (cL eS a1.Keys), .c (cL eR_Node a1.Kids)]], []⟩) rfl rfl rfl ?_
 refine WO_op (x := .bp 1 0) (σ' := ⟨[], [some [qi a1.Kind, qi a1.N, qs a1.S, .c (cL eS a1.Keys), .c (cL eR_Node a1.Kids)], some [qi a2.Kind, qi a2.N, qs a2.S, .c (cL eS a2.Keys), .c (cL eR_Node a2.Kids)]], []⟩) rfl rfl rfl ?_
 refine WO_op rfl rfl rfl ?_; simp only [putT,st,ev,gt,hp,ofV,constT,intT,lm]
 refine WO_nil (W_seq (W_seq (W_region ?_)))
 refine WO_op (x := .bp 0 0) rfl rfl rfl ?_
 refine WO_op (x := qi a1.Kind) rfl rfl rfl ?_
 refine WO_op (x := .bp 1 0) rfl rfl rfl ?_
 refine WO_op (x := qi a2.Kind) rfl rfl rfl ?_; simp only [putT,st,ev,gt,hp,ofV,constT,intT,lm]
 iterate 2 (refine WO_op rfl rfl rfl ?_; simp only [putT,st,ev,gt,hp,ofV,constT,intT,lm])
 refine WO_if rfl rfl rfl (fun hc => ?_) (fun hc => ?_)
 ·
  replace H := tr hc H
  simp only [putT,st,ev,gt,hp,ofV,constT,intT,lm]
  iterate 5 refine WO_skip rfl rfl ?_
  refine WO_op (x := qb true) rfl rfl rfl ?_
  refine WO_op rfl rfl rfl ?_; simp only [putT,st,ev,gt,hp,ofV,constT,intT,lm]
  iterate 5 refine WO_skip rfl rfl ?_
  refine WO_op (x := qb true) rfl rfl rfl ?_
  refine WO_op rfl rfl rfl ?_; simp only [putT,st,ev,gt,hp,ofV,constT,intT,lm]
  iterate 7 refine WO_skip rfl rfl ?_
  refine WO_op (x := qb true) rfl rfl rfl ?_
  refine WO_op rfl rfl rfl ?_; simp only [putT,st,ev,gt,hp,ofV,constT,intT,lm]
  iterate 7 refine WO_skip rfl rfl ?_
  refine WO_op (x := qb true) rfl rfl rfl ?_; simp only [putT,st,ev,gt,hp,ofV,constT,intT,lm]
  refine WO_nil ?_
  refine W_cond (t := true) rfl (fun _ => ?_) (fun h => by cases h)
  refine W_seq (W_region ?_)
  refine WO_op rfl rfl rfl ?_; simp only [putT,st,ev,gt,hp,ofV,constT,intT,lm]
  refine WO_nil ?_
  refine W_ret ?_
  obtain rfl := Option.some.inj H
  exact told3 rfl
 ·
  replace H := fl hc H
  refine WO_want (x := .bp 0 1) rfl rfl rfl ?_
  refine WO_want (x := qi a1.N) rfl rfl rfl ?_
  refine WO_want (x := .bp 1 1) rfl rfl rfl ?_; simp only [putT,st,ev,gt,hp,ofV,constT,intT,lm]
  refine WO_want (x := qi a2.N) rfl rfl rfl ?_
  refine WO_want rfl rfl rfl ?_
  refine WO_op (x := qb (a1.N != a2.N)) rfl rfl rfl ?_
  refine WO_op rfl rfl rfl ?_; simp only [putT,st,ev,gt,hp,ofV,constT,intT,lm]
  refine WO_if rfl rfl rfl (fun hc => ?_) (fun hc => ?_)
  ·
   replace H := tr hc H
   simp only [putT,st,ev,gt,hp,ofV,constT,intT,lm]
   iterate 5 refine WO_skip rfl rfl ?_
   refine WO_op (x := qb true) rfl rfl rfl ?_
   refine WO_op rfl rfl rfl ?_; simp only [putT,st,ev,gt,hp,ofV,constT,intT,lm]
   iterate 7 refine WO_skip rfl rfl ?_
   refine WO_op (x := qb true) rfl rfl rfl ?_
   refine WO_op rfl rfl rfl ?_; simp only [putT,st,ev,gt,hp,ofV,constT,intT,lm]
   iterate 7 refine WO_skip rfl rfl ?_
   refine WO_op (x := qb true) rfl rfl rfl ?_; simp only [putT,st,ev,gt,hp,ofV,constT,intT,lm]
   refine WO_nil ?_
   refine W_cond (t := true) rfl (fun _ => ?_) (fun h => by cases h)
   refine W_seq (W_region ?_)
   refine WO_op rfl rfl rfl ?_; simp only [putT,st,ev,gt,hp,ofV,constT,intT,lm]
   refine WO_nil ?_
   refine W_ret ?_
   obtain rfl := Option.some.inj H
   exact told3 rfl
  ·
   replace H := fl hc H
   refine WO_want (x := .bp 0 2) rfl rfl rfl ?_
   refine WO_want (x := qs a1.S) rfl rfl rfl ?_
   refine WO_want (x := .bp 1 2) rfl rfl rfl ?_; simp only [putT,st,ev,gt,hp,ofV,constT,intT,lm]
   refine WO_want (x := qs a2.S) rfl rfl rfl ?_; simp only [putT,st,ev,gt,hp,ofV,constT,intT,lm]
   refine WO_want rfl rfl (ev_neq_s rfl rfl rfl) ?_; simp only [putT,st,ev,gt,hp,ofV,constT,intT,lm]
   refine WO_op (x := qb (!(a1.S == a2.S))) rfl rfl rfl ?_
   refine WO_op rfl rfl rfl ?_; simp only [putT,st,ev,gt,hp,ofV,constT,intT,lm]
   refine WO_if rfl rfl rfl (fun hc => ?_) (fun hc => ?_)
   ·
    replace H := tr hc H
    simp only [putT,st,ev,gt,hp,ofV,constT,intT,lm]
    iterate 7 refine WO_skip rfl rfl ?_
    refine WO_op (x := qb true) rfl rfl rfl ?_
    refine WO_op rfl rfl rfl ?_; simp only [putT,st,ev,gt,hp,ofV,constT,intT,lm]
    iterate 7 refine WO_skip rfl rfl ?_
    refine WO_op (x := qb true) rfl rfl rfl ?_; simp only [putT,st,ev,gt,hp,ofV,constT,intT,lm]
    refine WO_nil ?_
    refine W_cond (t := true) rfl (fun _ => ?_) (fun h => by cases h)
    refine W_seq (W_region ?_)
    refine WO_op rfl rfl rfl ?_; simp only [putT,st,ev,gt,hp,ofV,constT,intT,lm]
    refine WO_nil ?_
    refine W_ret ?_
    obtain rfl := Option.some.inj H
    exact told3 rfl
   ·
    replace H := fl hc H
    refine WO_want (x := .bp 0 3) rfl rfl rfl ?_
    refine WO_want (x := .c (cL eS a1.Keys)) rfl rfl rfl ?_
    refine WO_want rfl rfl rfl ?_; simp only [putT,st,ev,gt,hp,ofV,constT,intT,lm]
    refine WO_want (x := .bp 1 3) rfl rfl rfl ?_
    refine WO_want (x := .c (cL eS a2.Keys)) rfl rfl rfl ?_; simp only [putT,st,ev,gt,hp,ofV,constT,intT,lm]
    iterate 2 (refine WO_want rfl rfl rfl ?_; simp only [putT,st,ev,gt,hp,ofV,constT,intT,lm])
    refine WO_op (x := qb ((a1.Keys.length : Int) != (a2.Keys.length : Int))) rfl rfl rfl ?_
    refine WO_op rfl rfl rfl ?_; simp only [putT,st,ev,gt,hp,ofV,constT,intT,lm]
    refine WO_if rfl rfl rfl (fun hc => ?_) (fun hc => ?_)
    ·
     replace H := tr hc H
     simp only [putT,st,ev,gt,hp,ofV,constT,intT,lm]
     iterate 7 refine WO_skip rfl rfl ?_
     refine WO_op (x := qb true) rfl rfl rfl ?_; simp only [putT,st,ev,gt,hp,ofV,constT,intT,lm]
     refine WO_nil ?_
     refine W_cond (t := true) rfl (fun _ => ?_) (fun h => by cases h)
     refine W_seq (W_region ?_)
     refine WO_op rfl rfl rfl ?_; simp only [putT,st,ev,gt,hp,ofV,constT,intT,lm]
     refine WO_nil ?_
     refine W_ret ?_
     obtain rfl := Option.some.inj H
     exact told3 rfl
    ·
     replace H := fl hc H
     refine WO_want (x := .bp 0 4) rfl rfl rfl ?_
     refine WO_want (x := .c (cL eR_Node a1.Kids)) rfl rfl rfl ?_
     refine WO_want rfl rfl rfl ?_; simp only [putT,st,ev,gt,hp,ofV,constT,intT,lm]
     refine WO_want (x := .bp 1 4) rfl rfl rfl ?_
     refine WO_want (x := .c (cL eR_Node a2.Kids)) rfl rfl rfl ?_; simp only [putT,st,ev,gt,hp,ofV,constT,intT,lm]
     iterate 2 (refine WO_want rfl rfl rfl ?_; simp only [putT,st,ev,gt,hp,ofV,constT,intT,lm])
     refine WO_op (x := qb ((a1.Kids.length : Int) != (a2.Kids.length : Int))) rfl rfl rfl ?_; simp only [putT,st,ev,gt,hp,ofV,constT,intT,lm]
     refine WO_nil ?_
     refine W_cond rfl (fun hc => ?_) (fun hc => ?_)
     ·
      replace H := tr hc H
      refine W_seq (W_region ?_)
      refine WO_op rfl rfl rfl ?_; simp only [putT,st,ev,gt,hp,ofV,constT,intT,lm]
      refine WO_nil ?_
      refine W_ret ?_
      obtain rfl := Option.some.inj H
      exact told3 rfl
     ·
      replace H := fl hc H
      refine W_skip ?_
      refine W_seq (W_seq (W_region ?_))
      refine WO_op rfl rfl rfl ?_; simp only [putT,st,ev,gt,hp,ofV,constT,intT,lm]
      refine WO_nil ?_
      refine W_block ?_
      obtain ⟨s15, hs15, H⟩ := bnd H
      refine loop_rule (ls := []) 0 (fun t6 : Unit => ⟨[.no, .no, .bp 0 0, .bp 1 0], [some [qi a1.Kind, qi a1.N, qs a1.S, .c (cL eS a1.Keys), .c (cL eR_Node a1.Kids)], some [qi a2.Kind, qi a2.N, qs a2.S, .c (cL eS a2.Keys), .c (cL eR_Node a2.Kids)]], []⟩) (fun t => s15 = .inr t) ⟨[.no, .no, .bp 0 0, .bp 1 0, .no, qi 0], [some [qi a1.Kind, qi a1.N, qs a1.S, .c (cL eS a1.Keys), .c (cL eR_Node a1.Kids)], some [qi a2.Kind, qi a2.N, qs a2.S, .c (cL eS a2.Keys), .c (cL eR_Node a2.Kids)]], []⟩ (by repeat (first | exact mono_told | refine mono_seq ?_ | refine mono_blk ?_ | refine mono_lp ?_)) (le_intro [0, 1] [] (by decide) (by decide) rfl (by simp [leS, leT, leA, gt]) (by simp [leB, leT, leA]) (by simp [leR])) ?_ ?_
      ·
       rintro t6 rfl
       refine W_seq (W_seq (W_region ?_))
       refine WO_op rfl rfl rfl ?_; simp only [putT,st,ev,gt,hp,ofV,constT,intT,lm]
       refine WO_nil ?_
       refine W_block ?_
       obtain ⟨s14, hs14, H⟩ := bnd H
       refine loop_rule (ls := []) 2 (fun t13 : Unit => ⟨[], [], []⟩) (fun t => s14 = .inr t) ⟨[.no, .no, .bp 0 0, .bp 1 0, .no, .no, qi 0], [some [qi a1.Kind, qi a1.N, qs a1.S, .c (cL eS a1.Keys), .c (cL eR_Node a1.Kids)], some [qi a2.Kind, qi a2.N, qs a2.S, .c (cL eS a2.Keys), .c (cL eR_Node a2.Kids)]], []⟩ (by repeat (first | exact mono_told | refine mono_seq ?_ | refine mono_blk ?_ | refine mono_lp ?_)) (le_intro [0, 1] [] (by decide) (by decide) rfl (by simp [leS, leT, leA, gt]) (by simp [leB, leT, leA]) (by simp [leR])) ?_ ?_
       ·
        rintro t13 rfl
        refine W_seq (W_region ?_)
        refine WO_op rfl rfl rfl ?_; simp only [putT,st,ev,gt,hp,ofV,constT,intT,lm]
        refine WO_nil ?_
        refine W_ret ?_
        obtain rfl := Option.some.inj H
        exact told3 rfl
       ·
        intro V1 hV1 hW1 hX1
        refine (spec_TreeSame.l1.partial_correctness rc21 a1 a2 (fun v7 s' => s' = s14 → (V1 ⟨[.no, .no, .bp 0 0, .bp 1 0, .no, .no, qi v7], [some [qi a1.Kind, qi a1.N, qs a1.S, .c (cL eS a1.Keys), .c (cL eR_Node a1.Kids)], some [qi a2.Kind, qi a2.N, qs a2.S, .c (cL eS a2.Keys), .c (cL eR_Node a2.Kids)]], []⟩)) ?_ _ _ hs14 rfl)
        intro l0 IH1 v7 s' H1 e
        subst e
        refine hV1 _ ?_
        refine W_seq (W_seq (W_region ?_))
        refine WO_op rfl rfl rfl ?_
        refine WO_op (x := .bp 0 4) rfl rfl rfl ?_
        refine WO_op (x := .c (cL eR_Node a1.Kids)) rfl rfl rfl ?_; simp only [putT,st,ev,gt,hp,ofV,constT,intT,lm]
        iterate 2 (refine WO_op rfl rfl rfl ?_; simp only [putT,st,ev,gt,hp,ofV,constT,intT,lm])
        refine WO_nil ?_
        refine W_cond rfl (fun hc => ?_) (fun hc => ?_)
        ·
         replace H1 := tr hc H1
         refine W_skip ?_
         refine W_seq ?_
         refine W_block ?_
         refine W_seq ?_
         refine W_draw (by kernel_rfl) (by kernel_rfl) ?_
         refine WO_op (x := .bp 0 4) rfl rfl rfl ?_
         refine WO_op (x := .c (cL eR_Node a1.Kids)) rfl rfl rfl ?_
         refine WO_op rfl rfl rfl ?_; simp only [putT,st,ev,gt,hp,ofV,constT,intT,lm]
         obtain ⟨x8, hx8, H1⟩ := bnd H1
         obtain ⟨y9, hy9, H1⟩ := bnd H1
         rw [dN_Node_some hy9] at hx8
         refine WO_op rfl rfl (ev_ix (en := eR_Node) hx8 rfl rfl rfl rfl rfl rfl rfl) ?_; simp only [putT,st,ev,gt,hp,ofV,constT,intT,lm]
         refine WO_op (x := .ag [qi y9.Kind, qi y9.N, qs y9.S, .c (cL eS y9.Keys), .c (cL eR_Node y9.Kids)]) rfl rfl rfl ?_
         refine WO_op (x := .bp 1 4) rfl rfl rfl ?_
         refine WO_op (x := .c (cL eR_Node a2.Kids)) rfl rfl rfl ?_
         refine WO_op rfl rfl rfl ?_; simp only [putT,st,ev,gt,hp,ofV,constT,intT,lm]
         obtain ⟨x10, hx10, H1⟩ := bnd H1
         obtain ⟨y11, hy11, H1⟩ := bnd H1
         rw [dN_Node_some hy11] at hx10
         refine WO_op rfl rfl (ev_ix (en := eR_Node) hx10 rfl rfl rfl rfl rfl rfl rfl) ?_; simp only [putT,st,ev,gt,hp,ofV,constT,intT,lm]
         refine WO_op (x := .ag [qi y11.Kind, qi y11.N, qs y11.S, .c (cL eS y11.Keys), .c (cL eR_Node y11.Kids)]) rfl rfl rfl ?_; simp only [putT,st,ev,gt,hp,ofV,constT,intT,lm]
         obtain ⟨x12, hx12, H1⟩ := bnd H1
         refine WO_op (x := qb x12) (σ' := ⟨[], [some [qi a1.Kind, qi a1.N, qs a1.S, .c (cL eS a1.Keys), .c (cL eR_Node a1.Kids)], some [qi a2.Kind, qi a2.N, qs a2.S, .c (cL eS a2.Keys), .c (cL eR_Node a2.Kids)]], []⟩) rfl rfl (ev_callG (al := [.ag [qi y9.Kind, qi y9.N, qs y9.S, .c (cL eS y9.Keys), .c (cL eR_Node y9.Kids)], .ag [qi y11.Kind, qi y11.N, qs y11.S, .c (cL eS y11.Keys), .c (cL eR_Node y11.Kids)]]) (ls := []) (hrc21 hx12) rfl rfl rfl rfl rfl (by decide) rfl rfl rfl rfl rfl rfl) ?_; simp only [putT,st,ev,gt,hp,ofV,constT,intT,lm]
         refine WO_op rfl rfl rfl ?_; simp only [putT,st,ev,gt,hp,ofV,constT,intT,lm]
         refine WO_nil ?_
         refine W_cond rfl (fun hc => ?_) (fun hc => ?_)
         ·
          replace H1 := tr hc H1
          refine W_seq (W_region ?_)
          refine WO_op rfl rfl rfl ?_; simp only [putT,st,ev,gt,hp,ofV,constT,intT,lm]
          refine WO_nil ?_
          refine W_ret ?_
          obtain rfl := Option.some.inj H1
          obtain rfl := Option.some.inj H
          exact told3 rfl
         ·
          replace H1 := fl hc H1
          refine W_skip ?_
          refine W_region ?_
          iterate 3 (refine WO_op rfl rfl rfl ?_; simp only [putT,st,ev,gt,hp,ofV,constT,intT,lm])
          refine WO_nil ?_
          exact hW1 _ _ ((IH1 _ _ H1 rfl)) (le_intro [0, 1] [] (by decide) (by decide) rfl (by simp [leS, leT, leA, gt]) (by simp [leB, leT, leA]) (by simp [leR]))
        ·
         replace H1 := fl hc H1
         refine W_exit ?_
         obtain rfl := Option.some.inj H1
         exact hX1 () _ rfl (le_intro [] [] (by decide) (by decide) rfl (by simp [leS, leT, leA, gt]) (by simp [leB, leT, leA]) (by simp [leR]))
      ·
       intro V1 hV1 hW1 hX1
       refine (spec_TreeSame.l0.partial_correctness a1 a2 (fun v3 s' => s' = s15 → (V1 ⟨[.no, .no, .bp 0 0, .bp 1 0, .no, qi v3], [some [qi a1.Kind, qi a1.N, qs a1.S, .c (cL eS a1.Keys), .c (cL eR_Node a1.Kids)], some [qi a2.Kind, qi a2.N, qs a2.S, .c (cL eS a2.Keys), .c (cL eR_Node a2.Kids)]], []⟩)) ?_ _ _ hs15 rfl)
       intro l0 IH1 v3 s' H1 e
       subst e
       refine hV1 _ ?_
       refine W_seq (W_seq (W_region ?_))
       refine WO_op rfl rfl rfl ?_
       refine WO_op (x := .bp 0 3) rfl rfl rfl ?_
       refine WO_op (x := .c (cL eS a1.Keys)) rfl rfl rfl ?_; simp only [putT,st,ev,gt,hp,ofV,constT,intT,lm]
       iterate 2 (refine WO_op rfl rfl rfl ?_; simp only [putT,st,ev,gt,hp,ofV,constT,intT,lm])
       refine WO_nil ?_
       refine W_cond rfl (fun hc => ?_) (fun hc => ?_)
       ·
        replace H1 := tr hc H1
        refine W_skip ?_
        refine W_seq ?_
        refine W_block ?_
        refine W_seq ?_
        refine W_draw (by kernel_rfl) (by kernel_rfl) ?_
        refine WO_op (x := .bp 0 3) rfl rfl rfl ?_
        refine WO_op (x := .c (cL eS a1.Keys)) rfl rfl rfl ?_
        refine WO_op rfl rfl rfl ?_; simp only [putT,st,ev,gt,hp,ofV,constT,intT,lm]
        obtain ⟨x4, hx4, H1⟩ := bnd H1
        refine WO_op rfl rfl (ev_ix (en := eS) hx4 rfl rfl rfl rfl rfl rfl rfl) ?_; simp only [putT,st,ev,gt,hp,ofV,constT,intT,lm]
        refine WO_op (x := qs x4) rfl rfl rfl ?_
        refine WO_op (x := .bp 1 3) rfl rfl rfl ?_
        refine WO_op (x := .c (cL eS a2.Keys)) rfl rfl rfl ?_
        refine WO_op rfl rfl rfl ?_; simp only [putT,st,ev,gt,hp,ofV,constT,intT,lm]
        obtain ⟨x5, hx5, H1⟩ := bnd H1
        refine WO_op rfl rfl (ev_ix (en := eS) hx5 rfl rfl rfl rfl rfl rfl rfl) ?_; simp only [putT,st,ev,gt,hp,ofV,constT,intT,lm]
        refine WO_op (x := qs x5) rfl rfl rfl ?_; simp only [putT,st,ev,gt,hp,ofV,constT,intT,lm]
        refine WO_op rfl rfl (ev_neq_s rfl rfl rfl) ?_; simp only [putT,st,ev,gt,hp,ofV,constT,intT,lm]
        refine WO_nil ?_
        refine W_cond rfl (fun hc => ?_) (fun hc => ?_)
        ·
         replace H1 := tr hc H1
         refine W_seq (W_region ?_)
         refine WO_op rfl rfl rfl ?_; simp only [putT,st,ev,gt,hp,ofV,constT,intT,lm]
         refine WO_nil ?_
         refine W_ret ?_
         obtain rfl := Option.some.inj H1
         obtain rfl := Option.some.inj H
         exact told3 rfl
        ·
         replace H1 := fl hc H1
         refine W_skip ?_
         refine W_region ?_
         iterate 3 (refine WO_op rfl rfl rfl ?_; simp only [putT,st,ev,gt,hp,ofV,constT,intT,lm])
         refine WO_nil ?_
         exact hW1 _ _ ((IH1 _ _ H1 rfl)) (le_intro [0, 1] [] (by decide) (by decide) rfl (by simp [leS, leT, leA, gt]) (by simp [leB, leT, leA]) (by simp [leR]))
       ·
        replace H1 := fl hc H1
        refine W_exit ?_
        obtain rfl := Option.some.inj H1
        exact hX1 () _ rfl (le_intro [0, 1] [] (by decide) (by decide) rfl (by simp [leS, leT, leA, gt]) (by simp [leB, leT, leA]) (by simp [leR]))
theorem spec_TreeSame_n_ok : ∀ (k : Nat) {a1 : Node} {a2 : Node} {r : Bool}, spec_TreeSame_n k a1 a2 = some r → R 17 [.ag [(cI .i64 a1.Kind, none), (cI .i64 a1.N, none), (cS a1.S, none), (cL eS a1.Keys, none), (cL eR_Node a1.Kids, none)], .ag [(cI .i64 a2.Kind, none), (cI .i64 a2.N, none), (cS a2.S, none), (cL eS a2.Keys, none), (cL eR_Node a2.Kids, none)]] = some (.c (cB r) none, [])
  | 0, _, _, _, h => by simp [spec_TreeSame_n] at h
  | k + 1, _, _, _, h => spec_TreeSame_F_ok (fun h => spec_TreeSame_n_ok k h) h
theorem spec_TreeSame_ok {a1 : Node} {a2 : Node} {r : Bool} (H : spec_TreeSame a1 a2 = some r) : R 17 [.ag [(cI .i64 a1.Kind, none), (cI .i64 a1.N, none), (cS a1.S, none), (cL eS a1.Keys, none), (cL eR_Node a1.Kids, none)], .ag [(cI .i64 a2.Kind, none), (cI .i64 a2.N, none), (cS a2.S, none), (cL eS a2.Keys, none), (cL eR_Node a2.Kids, none)]] = some (.c (cB r) none, []) := by
  obtain ⟨k, hk⟩ := Nt.lim_ex H
  exact spec_TreeSame_n_ok k (hk k (Nat.le_refl k))
theorem spec_l3Copy_F_ok {rc22 : Node → Option (Node)} (hrc22 : ∀ {a1 : Node} {r : Node}, rc22 a1 = some r → R 18 [.ag [(cI .i64 a1.Kind, none), (cI .i64 a1.N, none), (cS a1.S, none), (cL eS a1.Keys, none), (cL eR_Node a1.Kids, none)]] = some (.ag [(cI .i64 r.Kind, none), (cI .i64 r.N, none), (cS r.S, none), (cL eS r.Keys, some 1), (cL eR_Node r.Kids, some 5)], [])) {a1 : Node} {r : Node} (H : spec_l3Copy_F rc22 a1 = some r) : R 18 [.ag [(cI .i64 a1.Kind, none), (cI .i64 a1.N, none), (cS a1.S, none), (cL eS a1.Keys, none), (cL eR_Node a1.Kids, none)]] = some (.ag [(cI .i64 r.Kind, none), (cI .i64 r.N, none), (cS r.S, none), (cL eS r.Keys, some 1), (cL eR_Node r.Kids, some 5)], []) := by
 unfold spec_l3Copy_F at H
 refine Fz_walk false 35 rfl rfl rfl Try.func18 rfl (by kernel_rfl) rfl rfl rfl rfl ?_
 simp only [tellVs, tellV, tells, tell, st0, padT, SX.newRow, SX.newBox, List.length_cons, List.length_nil, Nat.reduceAdd, Nat.reduceSub, List.replicate, List.cons_append, List.nil_append, List.foldl_cons, List.foldl_nil]
 refine W_seq (W_region ?_)
 refine WO_op (x := .bp 0 0) (σ' := ⟨[], [some [qi a1.Kind, qi a1.N, qs a1.S, .c (cL eS a1.Keys), .c (cL eR_Node a1.Kids)]], []⟩) rfl rfl rfl ?_
 refine WO_op (x := .bp 1 0) (σ' := ⟨[], [some [qi a1.Kind, qi a1.N, qs a1.S, .c (cL eS a1.Keys), .c (cL eR_Node a1.Kids)], some [qi 0, qi 0, qs [], .nil, .nil]], []⟩) rfl rfl rfl ?_; simp only [putT,st,ev,gt,hp,ofV,constT,intT,lm]
 refine WO_nil (W_seq ?_)
 refine W_lateL [3] (by kernel_rfl) (by decide +kernel) rfl ?_; simp only [clr,List.foldl,putT,st,ev,gt,hp,ofV,constT,intT,lm]
 refine WL_op (x := .bp 0 0) rfl rfl rfl rfl ?_
 refine WL_op (x := qi a1.Kind) rfl rfl rfl rfl ?_
 refine WL_op (x := .bp 0 1) rfl rfl rfl rfl ?_
 refine WL_op (x := qi a1.N) rfl rfl rfl rfl ?_; simp only [putT,st,ev,gt,hp,ofV,constT,intT,lm]
 refine WL_op (x := .bp 0 2) rfl rfl rfl rfl ?_
 refine WL_op (x := qs a1.S) rfl rfl rfl rfl ?_; simp only [putT,st,ev,gt,hp,ofV,constT,intT,lm]
 refine WL_op (x := .row 0) (σ' := ⟨[], [some [qi a1.Kind, qi a1.N, qs a1.S, .c (cL eS a1.Keys), .c (cL eR_Node a1.Kids)], some [qi 0, qi 0, qs [], .nil, .nil]], [rr 1 eS ([] : List Str) true]⟩) rfl rfl rfl (ev_bs ([] : List Str) eS rfl rfl rfl rfl) ?_; simp only [putT,st,ev,gt,hp,ofV,constT,intT,lm]
 refine WL_op (x := .bp 0 3) rfl rfl rfl rfl ?_
 refine WL_op (x := .c (cL eS a1.Keys)) rfl rfl rfl rfl ?_; simp only [putT,st,ev,gt,hp,ofV,constT,intT,lm]
 obtain ⟨m2, hm2, H⟩ := bnd H
 refine WL_op (x := .row 1) (σ' := ⟨[], [some [qi a1.Kind, qi a1.N, qs a1.S, .c (cL eS a1.Keys), .c (cL eR_Node a1.Kids)], some [qi 0, qi 0, qs [], .nil, .nil]], [none, rr 1 eS m2 true]⟩) rfl rfl rfl (ev_app (en := eS) hm2 rfl rfl rfl rfl (Or.inl rfl) rfl rfl rfl rfl rfl rfl rfl rfl rfl rfl rfl (fun _ => rfl) rfl (Or.inr rfl) rfl) ?_; simp only [putT,st,ev,gt,hp,ofV,constT,intT,lm]
 refine WL_op (x := .ag [qi a1.Kind, qi a1.N, qs a1.S, .row 1, .nil]) rfl rfl rfl rfl ?_
 refine WL_op (x := .bp 2 0) (σ' := ⟨[], [some [qi a1.Kind, qi a1.N, qs a1.S, .c (cL eS a1.Keys), .c (cL eR_Node a1.Kids)], some [qi 0, qi 0, qs [], .nil, .nil], some [qi 0, qi 0, qs [], .nil, .nil]], [none, rr 1 eS m2 true]⟩) rfl rfl rfl rfl ?_
 refine WL_op (x := .no) (σ' := ⟨[], [some [qi a1.Kind, qi a1.N, qs a1.S, .c (cL eS a1.Keys), .c (cL eR_Node a1.Kids)], some [qi 0, qi 0, qs [], .nil, .nil], some [qi a1.Kind, qi a1.N, qs a1.S, .row 1, .nil]], [none, rr 1 eS m2 true]⟩) rfl rfl rfl rfl ?_; simp only [putT,st,ev,gt,hp,ofV,constT,intT,lm]
 refine WL_nil (by kernel_rfl) ?_
 refine W_seq (W_seq (W_region ?_))
 refine WO_op rfl rfl rfl ?_; simp only [putT,st,ev,gt,hp,ofV,constT,intT,lm]
 refine WO_nil ?_
 refine W_block ?_
 obtain ⟨t9, ht9, H⟩ := bnd H
 refine loop_ruleM (ls := []) 0 (fun (i : Nat) (t9 : List RNode) => match i with | 0 => ⟨[.no, .no, .bp 0 0, .bp 1 0], [some [qi 0, qi 0, qs [], .nil, .nil], some [qi a1.Kind, qi a1.N, qs a1.S, .row 0, .nil]], [rr 1 eS m2 true]⟩ | _ => ⟨[.no, .no, .bp 0 0, .bp 1 0], [some [qi 0, qi 0, qs [], .nil, .nil], some [qi a1.Kind, qi a1.N, qs a1.S, .row 0, .row 1]], [rr 1 eS m2 true, rr 5 eR_Node t9 true]⟩) (fun (i : Nat) t => match i with | 0 => t9 = t ∧ t = [] | 1 => t9 = t | _ => False) ⟨[.no, .bp 0 0, .bp 1 0, .bp 2 0, qi 0], [some [qi a1.Kind, qi a1.N, qs a1.S, .c (cL eS a1.Keys), .c (cL eR_Node a1.Kids)], some [qi 0, qi 0, qs [], .nil, .nil], some [qi a1.Kind, qi a1.N, qs a1.S, .row 0, .nil]], [rr 1 eS m2 true]⟩ (by repeat (first | exact mono_told | refine mono_seq ?_ | refine mono_blk ?_ | refine mono_lp ?_)) (le_intro [0, 1, 2] [1] (by decide) (by decide) rfl (by simp [leS, leT, leA, gt]) (by simp [leB, leT, leA]) (by simp [leR])) ?_ ?_
 ·
  intro i t1 hp
  rcases i with _ | _ | i
  ·
   obtain ⟨rfl, hz_t9_0⟩ := hp
   refine W_seq (W_region ?_)
   refine WO_op (x := .ag [qi a1.Kind, qi a1.N, qs a1.S, .row 0, .nil]) rfl rfl rfl ?_
   refine WO_op (x := .no) (σ' := ⟨[], [some [qi a1.Kind, qi a1.N, qs a1.S, .row 0, .nil], some [qi a1.Kind, qi a1.N, qs a1.S, .row 0, .nil]], [rr 1 eS m2 true]⟩) rfl rfl rfl ?_; simp only [putT,st,ev,gt,hp,ofV,constT,intT,lm]
   refine WO_nil ?_
   refine W_ret ?_
   obtain rfl := Option.some.inj H
   exact told5 rfl rfl rfl rfl (by have er : Try.f18.resultTypes.toList = [30] := rfl; have e30 : sizes Try.prog 8 30 = [0, 0, 0, 1, 5] := (by kernel_rfl); simp only [er, fitAs, e30, fitA, fit_s, fit_n, fit_o, fit_z, fit_e, if_true]; try rfl) (by simp only [hz_t9_0]; try rfl)
  ·
   obtain rfl := hp
   refine W_seq (W_region ?_)
   refine WO_op (x := .ag [qi a1.Kind, qi a1.N, qs a1.S, .row 0, .row 1]) rfl rfl rfl ?_
   refine WO_op (x := .no) (σ' := ⟨[], [some [qi a1.Kind, qi a1.N, qs a1.S, .row 0, .row 1], some [qi a1.Kind, qi a1.N, qs a1.S, .row 0, .row 1]], [rr 1 eS m2 true, rr 5 eR_Node t9 true]⟩) rfl rfl rfl ?_; simp only [putT,st,ev,gt,hp,ofV,constT,intT,lm]
   refine WO_nil ?_
   refine W_ret ?_
   obtain rfl := Option.some.inj H
   exact told5 rfl rfl rfl rfl (fitAs_nz rfl) rfl
  · exact hp.elim
 ·
  intro V1 hV1 hW1 hX1
  refine (spec_l3Copy.l0.partial_correctness rc22 a1 (fun v3 v4 s' => s' = t9 → (v4 = [] → V1 ⟨[.no, .bp 0 0, .bp 1 0, .bp 2 0, qi v3], [some [qi a1.Kind, qi a1.N, qs a1.S, .c (cL eS a1.Keys), .c (cL eR_Node a1.Kids)], some [qi 0, qi 0, qs [], .nil, .nil], some [qi a1.Kind, qi a1.N, qs a1.S, .row 0, .nil]], [rr 1 eS m2 true]⟩) ∧ (V1 ⟨[.no, .bp 0 0, .bp 1 0, .bp 2 0, qi v3], [some [qi a1.Kind, qi a1.N, qs a1.S, .c (cL eS a1.Keys), .c (cL eR_Node a1.Kids)], some [qi 0, qi 0, qs [], .nil, .nil], some [qi a1.Kind, qi a1.N, qs a1.S, .row 0, .row 1]], [rr 1 eS m2 true, rr 5 eR_Node v4 true]⟩)) ?_ _ _ _ ht9 rfl).1 rfl
  intro l0 IH1 v3 v4 s' H1 e
  subst e
  refine ⟨?_, ?_⟩
  ·
   intro hn_v4
   refine hV1 _ ?_
   refine W_seq (W_seq (W_region ?_))
   refine WO_op rfl rfl rfl ?_
   refine WO_op (x := .bp 0 4) rfl rfl rfl ?_
   refine WO_op (x := .c (cL eR_Node a1.Kids)) rfl rfl rfl ?_; simp only [putT,st,ev,gt,hp,ofV,constT,intT,lm]
   iterate 2 (refine WO_op rfl rfl rfl ?_; simp only [putT,st,ev,gt,hp,ofV,constT,intT,lm])
   refine WO_nil ?_
   refine W_cond rfl (fun hc => ?_) (fun hc => ?_)
   ·
    replace H1 := tr hc H1
    refine W_skip ?_
    refine W_seq ?_
    refine W_block ?_
    refine W_drawL (by kernel_rfl) (by decide +kernel) ?_
    refine WL_op (x := .bp 2 4) rfl rfl rfl rfl ?_
    refine WL_op (x := .nil) rfl rfl rfl rfl ?_
    refine WL_op (x := .bp 0 4) rfl rfl rfl rfl ?_
    refine WL_op (x := .c (cL eR_Node a1.Kids)) rfl rfl rfl rfl ?_; simp only [putT,st,ev,gt,hp,ofV,constT,intT,lm]
    refine WL_op rfl rfl rfl rfl ?_; simp only [putT,st,ev,gt,hp,ofV,constT,intT,lm]
    obtain ⟨x5, hx5, H1⟩ := bnd H1
    obtain ⟨y6, hy6, H1⟩ := bnd H1
    rw [dN_Node_some hy6] at hx5
    refine WL_op rfl rfl rfl (ev_ix (en := eR_Node) hx5 rfl rfl rfl rfl rfl rfl rfl) ?_; simp only [putT,st,ev,gt,hp,ofV,constT,intT,lm]
    refine WL_op (x := .ag [qi y6.Kind, qi y6.N, qs y6.S, .c (cL eS y6.Keys), .c (cL eR_Node y6.Kids)]) rfl rfl rfl rfl ?_; simp only [putT,st,ev,gt,hp,ofV,constT,intT,lm]
    obtain ⟨x7, hx7, H1⟩ := bnd H1
    refine WL_op (x := .ag [qi x7.Kind, qi x7.N, qs x7.S, .row 1, .row 2]) (σ' := ⟨[], [some [qi a1.Kind, qi a1.N, qs a1.S, .c (cL eS a1.Keys), .c (cL eR_Node a1.Kids)], some [qi 0, qi 0, qs [], .nil, .nil], some [qi a1.Kind, qi a1.N, qs a1.S, .row 0, .nil]], [rr 1 eS m2 true, rr 1 eS x7.Keys true, rr 5 eR_Node x7.Kids true]⟩) rfl rfl rfl (ev_callG (al := [.ag [qi y6.Kind, qi y6.N, qs y6.S, .c (cL eS y6.Keys), .c (cL eR_Node y6.Kids)]]) (ls := []) (hrc22 hx7) rfl rfl rfl rfl rfl (by decide) rfl rfl rfl rfl rfl rfl) ?_; simp only [putT,st,ev,gt,hp,ofV,constT,intT,lm]
    refine WL_op (x := .row 3) (σ' := ⟨[], [some [qi a1.Kind, qi a1.N, qs a1.S, .c (cL eS a1.Keys), .c (cL eR_Node a1.Kids)], some [qi 0, qi 0, qs [], .nil, .nil], some [qi a1.Kind, qi a1.N, qs a1.S, .row 0, .nil]], [rr 1 eS m2 true, rr 1 eS x7.Keys false, rr 5 eR_Node x7.Kids false, rr 5 eR_Node ([rN_Node x7] : List RNode) true]⟩) rfl rfl rfl (ev_bs ([rN_Node x7] : List RNode) eR_Node rfl rfl rfl rfl) ?_; simp only [putT,st,ev,gt,hp,ofV,constT,intT,lm]
    obtain ⟨m8, hm8, H1⟩ := bnd H1
    refine WL_op (x := .row 4) (σ' := ⟨[], [some [qi a1.Kind, qi a1.N, qs a1.S, .c (cL eS a1.Keys), .c (cL eR_Node a1.Kids)], some [qi 0, qi 0, qs [], .nil, .nil], some [qi a1.Kind, qi a1.N, qs a1.S, .row 0, .nil]], [rr 1 eS m2 true, rr 1 eS x7.Keys false, rr 5 eR_Node x7.Kids false, rr 5 eR_Node ([rN_Node x7] : List RNode) true, rr 5 eR_Node m8 true]⟩) rfl rfl rfl (ev_appN (en := eR_Node) hm8 hn_v4 rfl rfl rfl rfl (Or.inl rfl) rfl rfl rfl rfl rfl rfl rfl rfl rfl (fun _ => rfl) rfl) ?_; simp only [putT,st,ev,gt,hp,ofV,constT,intT,lm]
    refine WL_op (x := .bp 2 4) rfl rfl rfl rfl ?_
    refine WL_op (x := .no) (σ' := ⟨[], [some [qi a1.Kind, qi a1.N, qs a1.S, .c (cL eS a1.Keys), .c (cL eR_Node a1.Kids)], some [qi 0, qi 0, qs [], .nil, .nil], some [qi a1.Kind, qi a1.N, qs a1.S, .row 0, .row 4]], [rr 1 eS m2 true, rr 1 eS x7.Keys false, rr 5 eR_Node x7.Kids false, rr 5 eR_Node ([rN_Node x7] : List RNode) true, rr 5 eR_Node m8 true]⟩) rfl rfl rfl rfl ?_; simp only [putT,st,ev,gt,hp,ofV,constT,intT,lm]
    refine WL_nil (by kernel_rfl) ?_
    refine W_region ?_
    iterate 3 (refine WO_op rfl rfl rfl ?_; simp only [putT,st,ev,gt,hp,ofV,constT,intT,lm])
    refine WO_nil ?_
    exact hW1 _ _ ((IH1 _ _ _ H1 rfl).2) (le_intro [0, 1, 2] [0, 4] (by decide) (by decide) rfl (by simp [leS, leT, leA, gt]) (by simp [leB, leT, leA]) (by simp [leR]))
   ·
    replace H1 := fl hc H1
    refine W_exit ?_
    obtain rfl := Option.some.inj H1
    exact hX1 0 v4 _ ⟨rfl, hn_v4⟩ (le_intro [1, 2] [0] (by decide) (by decide) rfl (by simp [leS, leT, leA, gt]) (by simp [leB, leT, leA]) (by simp [leR]))
  ·
   skip
   refine hV1 _ ?_
   refine W_seq (W_seq (W_region ?_))
   refine WO_op rfl rfl rfl ?_
   refine WO_op (x := .bp 0 4) rfl rfl rfl ?_
   refine WO_op (x := .c (cL eR_Node a1.Kids)) rfl rfl rfl ?_; simp only [putT,st,ev,gt,hp,ofV,constT,intT,lm]
   iterate 2 (refine WO_op rfl rfl rfl ?_; simp only [putT,st,ev,gt,hp,ofV,constT,intT,lm])
   refine WO_nil ?_
   refine W_cond rfl (fun hc => ?_) (fun hc => ?_)
   ·
    replace H1 := tr hc H1
    refine W_skip ?_
    refine W_seq ?_
    refine W_block ?_
    refine W_drawL (by kernel_rfl) (by decide +kernel) ?_
    refine WL_op (x := .bp 2 4) rfl rfl rfl rfl ?_
    refine WL_op (x := .row 1) rfl rfl rfl rfl ?_
    refine WL_op (x := .bp 0 4) rfl rfl rfl rfl ?_
    refine WL_op (x := .c (cL eR_Node a1.Kids)) rfl rfl rfl rfl ?_; simp only [putT,st,ev,gt,hp,ofV,constT,intT,lm]
    refine WL_op rfl rfl rfl rfl ?_; simp only [putT,st,ev,gt,hp,ofV,constT,intT,lm]
    obtain ⟨x5, hx5, H1⟩ := bnd H1
    obtain ⟨y6, hy6, H1⟩ := bnd H1
    rw [dN_Node_some hy6] at hx5
    refine WL_op rfl rfl rfl (ev_ix (en := eR_Node) hx5 rfl rfl rfl rfl rfl rfl rfl) ?_; simp only [putT,st,ev,gt,hp,ofV,constT,intT,lm]
    refine WL_op (x := .ag [qi y6.Kind, qi y6.N, qs y6.S, .c (cL eS y6.Keys), .c (cL eR_Node y6.Kids)]) rfl rfl rfl rfl ?_; simp only [putT,st,ev,gt,hp,ofV,constT,intT,lm]
    obtain ⟨x7, hx7, H1⟩ := bnd H1
    refine WL_op (x := .ag [qi x7.Kind, qi x7.N, qs x7.S, .row 2, .row 3]) (σ' := ⟨[], [some [qi a1.Kind, qi a1.N, qs a1.S, .c (cL eS a1.Keys), .c (cL eR_Node a1.Kids)], some [qi 0, qi 0, qs [], .nil, .nil], some [qi a1.Kind, qi a1.N, qs a1.S, .row 0, .row 1]], [rr 1 eS m2 true, rr 5 eR_Node v4 true, rr 1 eS x7.Keys true, rr 5 eR_Node x7.Kids true]⟩) rfl rfl rfl (ev_callG (al := [.ag [qi y6.Kind, qi y6.N, qs y6.S, .c (cL eS y6.Keys), .c (cL eR_Node y6.Kids)]]) (ls := []) (hrc22 hx7) rfl rfl rfl rfl rfl (by decide) rfl rfl rfl rfl rfl rfl) ?_; simp only [putT,st,ev,gt,hp,ofV,constT,intT,lm]
    refine WL_op (x := .row 4) (σ' := ⟨[], [some [qi a1.Kind, qi a1.N, qs a1.S, .c (cL eS a1.Keys), .c (cL eR_Node a1.Kids)], some [qi 0, qi 0, qs [], .nil, .nil], some [qi a1.Kind, qi a1.N, qs a1.S, .row 0, .row 1]], [rr 1 eS m2 true, rr 5 eR_Node v4 true, rr 1 eS x7.Keys false, rr 5 eR_Node x7.Kids false, rr 5 eR_Node ([rN_Node x7] : List RNode) true]⟩) rfl rfl rfl (ev_bs ([rN_Node x7] : List RNode) eR_Node rfl rfl rfl rfl) ?_; simp only [putT,st,ev,gt,hp,ofV,constT,intT,lm]
    obtain ⟨m8, hm8, H1⟩ := bnd H1
    refine WL_op (x := .row 5) (σ' := ⟨[], [some [qi a1.Kind, qi a1.N, qs a1.S, .c (cL eS a1.Keys), .c (cL eR_Node a1.Kids)], some [qi 0, qi 0, qs [], .nil, .nil], some [qi a1.Kind, qi a1.N, qs a1.S, .row 0, .row 1]], [rr 1 eS m2 true, none, rr 1 eS x7.Keys false, rr 5 eR_Node x7.Kids false, rr 5 eR_Node ([rN_Node x7] : List RNode) true, rr 5 eR_Node m8 true]⟩) rfl rfl rfl (ev_app (en := eR_Node) hm8 rfl rfl rfl rfl (Or.inl rfl) rfl rfl rfl rfl rfl rfl rfl rfl rfl rfl rfl (fun _ => rfl) rfl (Or.inr rfl) rfl) ?_; simp only [putT,st,ev,gt,hp,ofV,constT,intT,lm]
    refine WL_op (x := .bp 2 4) rfl rfl rfl rfl ?_
    refine WL_op (x := .no) (σ' := ⟨[], [some [qi a1.Kind, qi a1.N, qs a1.S, .c (cL eS a1.Keys), .c (cL eR_Node a1.Kids)], some [qi 0, qi 0, qs [], .nil, .nil], some [qi a1.Kind, qi a1.N, qs a1.S, .row 0, .row 5]], [rr 1 eS m2 true, none, rr 1 eS x7.Keys false, rr 5 eR_Node x7.Kids false, rr 5 eR_Node ([rN_Node x7] : List RNode) true, rr 5 eR_Node m8 true]⟩) rfl rfl rfl rfl ?_; simp only [putT,st,ev,gt,hp,ofV,constT,intT,lm]
    refine WL_nil (by kernel_rfl) ?_
    refine W_region ?_
    iterate 3 (refine WO_op rfl rfl rfl ?_; simp only [putT,st,ev,gt,hp,ofV,constT,intT,lm])
    refine WO_nil ?_
    exact hW1 _ _ ((IH1 _ _ _ H1 rfl).2) (le_intro [0, 1, 2] [0, 5] (by decide) (by decide) rfl (by simp [leS, leT, leA, gt]) (by simp [leB, leT, leA]) (by simp [leR]))
   ·
    replace H1 := fl hc H1
    refine W_exit ?_
    obtain rfl := Option.some.inj H1
    exact hX1 1 v4 _ rfl (le_intro [1, 2] [0, 1] (by decide) (by decide) rfl (by simp [leS, leT, leA, gt]) (by simp [leB, leT, leA]) (by simp [leR]))
theorem spec_l3Copy_n_ok : ∀ (k : Nat) {a1 : Node} {r : Node}, spec_l3Copy_n k a1 = some r → R 18 [.ag [(cI .i64 a1.Kind, none), (cI .i64 a1.N, none), (cS a1.S, none), (cL eS a1.Keys, none), (cL eR_Node a1.Kids, none)]] = some (.ag [(cI .i64 r.Kind, none), (cI .i64 r.N, none), (cS r.S, none), (cL eS r.Keys, some 1), (cL eR_Node r.Kids, some 5)], [])
  | 0, _, _, h => by simp [spec_l3Copy_n] at h
  | k + 1, _, _, h => spec_l3Copy_F_ok (fun h => spec_l3Copy_n_ok k h) h
theorem spec_l3Copy_ok {a1 : Node} {r : Node} (H : spec_l3Copy a1 = some r) : R 18 [.ag [(cI .i64 a1.Kind, none), (cI .i64 a1.N, none), (cS a1.S, none), (cL eS a1.Keys, none), (cL eR_Node a1.Kids, none)]] = some (.ag [(cI .i64 r.Kind, none), (cI .i64 r.N, none), (cS r.S, none), (cL eS r.Keys, some 1), (cL eR_Node r.Kids, some 5)], []) := by
  obtain ⟨k, hk⟩ := Nt.lim_ex H
  exact spec_l3Copy_n_ok k (hk k (Nat.le_refl k))
theorem spec_l3At_ok  {a1 : Node} {a2 : Str} {r : Int} (H : spec_l3At a1 a2 = some r) : R 45 [.ag [(cI .i64 a1.Kind, none), (cI .i64 a1.N, none), (cS a1.S, none), (cL eS a1.Keys, none), (cL eR_Node a1.Kids, none)], .c (cS a2) none] = some (.c (cI .i64 r) none, []) := by
 unfold spec_l3At at H
 refine Fz_walk false 33 rfl rfl rfl Try.func45 rfl (by kernel_rfl) rfl rfl rfl rfl ?_
 simp only [tellVs, tellV, tells, tell, st0, padT, SX.newRow, SX.newBox, List.length_cons, List.length_nil, Nat.reduceAdd, Nat.reduceSub, List.replicate, List.cons_append, List.nil_append, List.foldl_cons, List.foldl_nil]
 refine W_seq (W_region ?_)
 refine WO_op (x := .bp 0 0) (σ' := ⟨[], [some [qi a1.Kind, qi a1.N, qs a1.S, .c (cL eS a1.Keys), .c (cL eR_Node a1.Kids)]], []⟩) rfl rfl rfl ?_
 refine WO_op rfl rfl rfl ?_; simp only [putT,st,ev,gt,hp,ofV,constT,intT,lm]
 refine WO_nil (W_seq (W_seq (W_region ?_)))
 refine WO_op rfl rfl rfl ?_; simp only [putT,st,ev,gt,hp,ofV,constT,intT,lm]
 refine WO_nil ?_
 refine W_block ?_
 obtain ⟨s6, hs6, H⟩ := bnd H
 refine loop_rule (ls := []) 0 (fun t5 : Unit => ⟨[], [], []⟩) (fun t => s6 = .inr t) ⟨[.no, qs a2, .bp 0 0, .no, .no, qi 0], [some [qi a1.Kind, qi a1.N, qs a1.S, .c (cL eS a1.Keys), .c (cL eR_Node a1.Kids)]], []⟩ (by repeat (first | exact mono_told | refine mono_seq ?_ | refine mono_blk ?_ | refine mono_lp ?_)) (le_intro [0] [] (by decide) (by decide) rfl (by simp [leS, leT, leA, gt]) (by simp [leB, leT, leA]) (by simp [leR])) ?_ ?_
 ·
  rintro t5 rfl
  refine W_seq (W_region ?_)
  refine WO_op rfl rfl rfl ?_; simp only [putT,st,ev,gt,hp,ofV,constT,intT,lm]
  refine WO_nil ?_
  refine W_ret ?_
  obtain rfl := Option.some.inj H
  exact told3 rfl
 ·
  intro V1 hV1 hW1 hX1
  refine (spec_l3At.l0.partial_correctness a1 a2 (fun v3 s' => s' = s6 → (V1 ⟨[.no, qs a2, .bp 0 0, .no, .no, qi v3], [some [qi a1.Kind, qi a1.N, qs a1.S, .c (cL eS a1.Keys), .c (cL eR_Node a1.Kids)]], []⟩)) ?_ _ _ hs6 rfl)
  intro l0 IH1 v3 s' H1 e
  subst e
  refine hV1 _ ?_
  refine W_seq (W_seq (W_region ?_))
  refine WO_op rfl rfl rfl ?_
  refine WO_op (x := .bp 0 3) rfl rfl rfl ?_
  refine WO_op (x := .c (cL eS a1.Keys)) rfl rfl rfl ?_; simp only [putT,st,ev,gt,hp,ofV,constT,intT,lm]
  iterate 3 (refine WO_op rfl rfl rfl ?_; simp only [putT,st,ev,gt,hp,ofV,constT,intT,lm])
  refine WO_if rfl rfl rfl (fun hc => ?_) (fun hc => ?_)
  ·
   replace H1 := tr hc H1
   refine WO_want rfl rfl rfl ?_
   refine WO_want (x := .bp 0 4) rfl rfl rfl ?_
   refine WO_want (x := .c (cL eR_Node a1.Kids)) rfl rfl rfl ?_; simp only [putT,st,ev,gt,hp,ofV,constT,intT,lm]
   iterate 2 (refine WO_want rfl rfl rfl ?_; simp only [putT,st,ev,gt,hp,ofV,constT,intT,lm])
   refine WO_op (x := qb (decide (v3 < (a1.Kids.length : Int)))) rfl rfl rfl ?_
   refine WO_op rfl rfl rfl ?_; simp only [putT,st,ev,gt,hp,ofV,constT,intT,lm]
   refine WO_if rfl rfl rfl (fun hc => ?_) (fun hc => ?_)
   ·
    replace H1 := tr hc H1
    refine WO_want (x := .bp 0 0) rfl rfl rfl ?_
    refine WO_want (x := qi a1.Kind) rfl rfl rfl ?_
    refine WO_want rfl rfl rfl ?_; simp only [putT,st,ev,gt,hp,ofV,constT,intT,lm]
    refine WO_op (x := qb (a1.Kind == 5)) rfl rfl rfl ?_; simp only [putT,st,ev,gt,hp,ofV,constT,intT,lm]
    refine WO_nil ?_
    refine W_cond rfl (fun hc => ?_) (fun hc => ?_)
    ·
     replace H1 := tr hc H1
     refine W_skip ?_
     refine W_seq ?_
     refine W_block ?_
     refine W_seq (W_region ?_)
     refine WO_op (x := .bp 0 3) rfl rfl rfl ?_
     refine WO_op (x := .c (cL eS a1.Keys)) rfl rfl rfl ?_
     refine WO_op rfl rfl rfl ?_; simp only [putT,st,ev,gt,hp,ofV,constT,intT,lm]
     obtain ⟨x4, hx4, H1⟩ := bnd H1
     refine WO_op rfl rfl (ev_ix (en := eS) hx4 rfl rfl rfl rfl rfl rfl rfl) ?_; simp only [putT,st,ev,gt,hp,ofV,constT,intT,lm]
     refine WO_op (x := qs x4) rfl rfl rfl ?_
     refine WO_op rfl rfl rfl ?_; simp only [putT,st,ev,gt,hp,ofV,constT,intT,lm]
     refine WO_op rfl rfl (ev_eql_s rfl rfl rfl) ?_; simp only [putT,st,ev,gt,hp,ofV,constT,intT,lm]
     refine WO_nil ?_
     refine W_cond rfl (fun hc => ?_) (fun hc => ?_)
     ·
      replace H1 := tr hc H1
      refine W_seq (W_region ?_)
      iterate 2 (refine WO_op rfl rfl rfl ?_; simp only [putT,st,ev,gt,hp,ofV,constT,intT,lm])
      refine WO_nil ?_
      refine W_ret ?_
      obtain rfl := Option.some.inj H1
      obtain rfl := Option.some.inj H
      exact told3 rfl
     ·
      replace H1 := fl hc H1
      refine W_skip ?_
      refine W_region ?_
      iterate 3 (refine WO_op rfl rfl rfl ?_; simp only [putT,st,ev,gt,hp,ofV,constT,intT,lm])
      refine WO_nil ?_
      exact hW1 _ _ ((IH1 _ _ H1 rfl)) (le_intro [0] [] (by decide) (by decide) rfl (by simp [leS, leT, leA, gt]) (by simp [leB, leT, leA]) (by simp [leR]))
    ·
     replace H1 := fl hc H1
     refine W_exit ?_
     obtain rfl := Option.some.inj H1
     exact hX1 () _ rfl (le_intro [] [] (by decide) (by decide) rfl (by simp [leS, leT, leA, gt]) (by simp [leB, leT, leA]) (by simp [leR]))
   ·
    replace H1 := fl hc H1
    simp only [putT,st,ev,gt,hp,ofV,constT,intT,lm]
    iterate 3 refine WO_skip rfl rfl ?_
    refine WO_op (x := qb false) rfl rfl rfl ?_; simp only [putT,st,ev,gt,hp,ofV,constT,intT,lm]
    refine WO_nil ?_
    refine W_cond (t := false) rfl (fun h => by cases h) (fun _ => ?_)
    refine W_exit ?_
    obtain rfl := Option.some.inj H1
    exact hX1 () _ rfl (le_intro [] [] (by decide) (by decide) rfl (by simp [leS, leT, leA, gt]) (by simp [leB, leT, leA]) (by simp [leR]))
  ·
   replace H1 := fl hc H1
   simp only [putT,st,ev,gt,hp,ofV,constT,intT,lm]
   iterate 5 refine WO_skip rfl rfl ?_
   refine WO_op (x := qb false) rfl rfl rfl ?_
   refine WO_op rfl rfl rfl ?_; simp only [putT,st,ev,gt,hp,ofV,constT,intT,lm]
   iterate 3 refine WO_skip rfl rfl ?_
   refine WO_op (x := qb false) rfl rfl rfl ?_; simp only [putT,st,ev,gt,hp,ofV,constT,intT,lm]
   refine WO_nil ?_
   refine W_cond (t := false) rfl (fun h => by cases h) (fun _ => ?_)
   refine W_exit ?_
   obtain rfl := Option.some.inj H1
   exact hX1 () _ rfl (le_intro [] [] (by decide) (by decide) rfl (by simp [leS, leT, leA, gt]) (by simp [leB, leT, leA]) (by simp [leR]))
theorem spec_Set_ok  {a1 : Node} {a2 : Str} {a3 : Node} {r : Node} (H : spec_Set a1 a2 a3 = some r) : R 28 [.ag [(cI .i64 a1.Kind, none), (cI .i64 a1.N, none), (cS a1.S, none), (cL eS a1.Keys, none), (cL eR_Node a1.Kids, none)], .c (cS a2) none, .ag [(cI .i64 a3.Kind, none), (cI .i64 a3.N, none), (cS a3.S, none), (cL eS a3.Keys, none), (cL eR_Node a3.Kids, none)]] = some (.ag [(cI .i64 r.Kind, none), (cI .i64 r.N, none), (cS r.S, none), (cL eS r.Keys, some 1), (cL eR_Node r.Kids, some 5)], []) := by
 unfold spec_Set at H
 refine Fz_walk false 94 rfl rfl rfl Try.func28 rfl (by kernel_rfl) rfl rfl rfl rfl ?_
 simp only [tellVs, tellV, tells, tell, st0, padT, SX.newRow, SX.newBox, List.length_cons, List.length_nil, Nat.reduceAdd, Nat.reduceSub, List.replicate, List.cons_append, List.nil_append, List.foldl_cons, List.foldl_nil]
 refine W_seq (W_region ?_)
 refine WO_op (x := .bp 0 0) (σ' := ⟨[], [some [qi a1.Kind, qi a1.N, qs a1.S, .c (cL eS a1.Keys), .c (cL eR_Node a1.Kids)]], []⟩) rfl rfl rfl ?_
 refine WO_op (x := .bp 1 0) (σ' := ⟨[], [some [qi a1.Kind, qi a1.N, qs a1.S, .c (cL eS a1.Keys), .c (cL eR_Node a1.Kids)], some [qi a3.Kind, qi a3.N, qs a3.S, .c (cL eS a3.Keys), .c (cL eR_Node a3.Kids)]], []⟩) rfl rfl rfl ?_
 refine WO_op (x := .bp 2 0) (σ' := ⟨[], [some [qi a1.Kind, qi a1.N, qs a1.S, .c (cL eS a1.Keys), .c (cL eR_Node a1.Kids)], some [qi a3.Kind, qi a3.N, qs a3.S, .c (cL eS a3.Keys), .c (cL eR_Node a3.Kids)], some [qi 0, qi 0, qs [], .nil, .nil]], []⟩) rfl rfl rfl ?_; simp only [putT,st,ev,gt,hp,ofV,constT,intT,lm]
 refine WO_nil (W_seq (W_region ?_))
 refine WO_op (x := .ag [qi a1.Kind, qi a1.N, qs a1.S, .c (cL eS a1.Keys), .c (cL eR_Node a1.Kids)]) rfl rfl rfl ?_; simp only [putT,st,ev,gt,hp,ofV,constT,intT,lm]
 obtain ⟨x4, hx4, H⟩ := bnd H
 refine WO_op (x := .ag [qi x4.Kind, qi x4.N, qs x4.S, .row 0, .row 1]) (σ' := ⟨[], [some [qi a1.Kind, qi a1.N, qs a1.S, .c (cL eS a1.Keys), .c (cL eR_Node a1.Kids)], some [qi a3.Kind, qi a3.N, qs a3.S, .c (cL eS a3.Keys), .c (cL eR_Node a3.Kids)], some [qi 0, qi 0, qs [], .nil, .nil]], [rr 1 eS x4.Keys true, rr 5 eR_Node x4.Kids true]⟩) rfl rfl (ev_callG (al := [.ag [qi a1.Kind, qi a1.N, qs a1.S, .c (cL eS a1.Keys), .c (cL eR_Node a1.Kids)]]) (ls := []) (spec_l3Copy_ok hx4) rfl rfl rfl rfl rfl (by decide) rfl rfl rfl rfl rfl rfl) ?_; simp only [putT,st,ev,gt,hp,ofV,constT,intT,lm]
 refine WO_op (x := .bp 3 0) (σ' := ⟨[], [some [qi a1.Kind, qi a1.N, qs a1.S, .c (cL eS a1.Keys), .c (cL eR_Node a1.Kids)], some [qi a3.Kind, qi a3.N, qs a3.S, .c (cL eS a3.Keys), .c (cL eR_Node a3.Kids)], some [qi 0, qi 0, qs [], .nil, .nil], some [qi 0, qi 0, qs [], .nil, .nil]], [rr 1 eS x4.Keys true, rr 5 eR_Node x4.Kids true]⟩) rfl rfl rfl ?_
 refine WO_op (x := .no) (σ' := ⟨[], [some [qi a1.Kind, qi a1.N, qs a1.S, .c (cL eS a1.Keys), .c (cL eR_Node a1.Kids)], some [qi a3.Kind, qi a3.N, qs a3.S, .c (cL eS a3.Keys), .c (cL eR_Node a3.Kids)], some [qi 0, qi 0, qs [], .nil, .nil], some [qi x4.Kind, qi x4.N, qs x4.S, .row 0, .row 1]], [rr 1 eS x4.Keys true, rr 5 eR_Node x4.Kids true]⟩) rfl rfl rfl ?_; simp only [putT,st,ev,gt,hp,ofV,constT,intT,lm]
 refine WO_nil (W_seq (W_seq (W_region ?_)))
 refine WO_op (x := .bp 0 0) rfl rfl rfl ?_
 refine WO_op (x := qi a1.Kind) rfl rfl rfl ?_; simp only [putT,st,ev,gt,hp,ofV,constT,intT,lm]
 iterate 2 (refine WO_op rfl rfl rfl ?_; simp only [putT,st,ev,gt,hp,ofV,constT,intT,lm])
 refine WO_if rfl rfl rfl (fun hc => ?_) (fun hc => ?_)
 ·
  replace H := tr hc H
  simp only [putT,st,ev,gt,hp,ofV,constT,intT,lm]
  iterate 7 refine WO_skip rfl rfl ?_
  refine WO_op (x := qb true) rfl rfl rfl ?_; simp only [putT,st,ev,gt,hp,ofV,constT,intT,lm]
  refine WO_nil ?_
  refine W_cond (t := true) rfl (fun _ => ?_) (fun h => by cases h)
  refine W_seq (W_region ?_)
  refine WO_op (x := .ag [qi x4.Kind, qi x4.N, qs x4.S, .row 0, .row 1]) rfl rfl rfl ?_
  refine WO_op (x := .no) (σ' := ⟨[], [some [qi a1.Kind, qi a1.N, qs a1.S, .c (cL eS a1.Keys), .c (cL eR_Node a1.Kids)], some [qi a3.Kind, qi a3.N, qs a3.S, .c (cL eS a3.Keys), .c (cL eR_Node a3.Kids)], some [qi x4.Kind, qi x4.N, qs x4.S, .row 0, .row 1], some [qi x4.Kind, qi x4.N, qs x4.S, .row 0, .row 1]], [rr 1 eS x4.Keys true, rr 5 eR_Node x4.Kids true]⟩) rfl rfl rfl ?_; simp only [putT,st,ev,gt,hp,ofV,constT,intT,lm]
  refine WO_nil ?_
  refine W_ret ?_
  obtain rfl := Option.some.inj H
  exact told5 rfl rfl rfl rfl (fitAs_nz rfl) rfl
 ·
  replace H := fl hc H
  refine WO_want (x := .bp 0 3) rfl rfl rfl ?_
  refine WO_want (x := .c (cL eS a1.Keys)) rfl rfl rfl ?_
  refine WO_want rfl rfl rfl ?_; simp only [putT,st,ev,gt,hp,ofV,constT,intT,lm]
  refine WO_want (x := .bp 0 4) rfl rfl rfl ?_
  refine WO_want (x := .c (cL eR_Node a1.Kids)) rfl rfl rfl ?_; simp only [putT,st,ev,gt,hp,ofV,constT,intT,lm]
  iterate 2 (refine WO_want rfl rfl rfl ?_; simp only [putT,st,ev,gt,hp,ofV,constT,intT,lm])
  refine WO_op (x := qb ((a1.Keys.length : Int) != (a1.Kids.length : Int))) rfl rfl rfl ?_; simp only [putT,st,ev,gt,hp,ofV,constT,intT,lm]
  refine WO_nil ?_
  refine W_cond rfl (fun hc => ?_) (fun hc => ?_)
  ·
   replace H := tr hc H
   refine W_seq (W_region ?_)
   refine WO_op (x := .ag [qi x4.Kind, qi x4.N, qs x4.S, .row 0, .row 1]) rfl rfl rfl ?_
   refine WO_op (x := .no) (σ' := ⟨[], [some [qi a1.Kind, qi a1.N, qs a1.S, .c (cL eS a1.Keys), .c (cL eR_Node a1.Kids)], some [qi a3.Kind, qi a3.N, qs a3.S, .c (cL eS a3.Keys), .c (cL eR_Node a3.Kids)], some [qi x4.Kind, qi x4.N, qs x4.S, .row 0, .row 1], some [qi x4.Kind, qi x4.N, qs x4.S, .row 0, .row 1]], [rr 1 eS x4.Keys true, rr 5 eR_Node x4.Kids true]⟩) rfl rfl rfl ?_; simp only [putT,st,ev,gt,hp,ofV,constT,intT,lm]
   refine WO_nil ?_
   refine W_ret ?_
   obtain rfl := Option.some.inj H
   exact told5 rfl rfl rfl rfl (fitAs_nz rfl) rfl
  ·
   replace H := fl hc H
   refine W_skip ?_
   refine W_seq (W_region ?_)
   refine WO_op (x := .ag [qi a1.Kind, qi a1.N, qs a1.S, .c (cL eS a1.Keys), .c (cL eR_Node a1.Kids)]) rfl rfl rfl ?_
   refine WO_op rfl rfl rfl ?_; simp only [putT,st,ev,gt,hp,ofV,constT,intT,lm]
   obtain ⟨x5, hx5, H⟩ := bnd H
   refine WO_op (x := qi x5) (σ' := ⟨[], [some [qi a1.Kind, qi a1.N, qs a1.S, .c (cL eS a1.Keys), .c (cL eR_Node a1.Kids)], some [qi a3.Kind, qi a3.N, qs a3.S, .c (cL eS a3.Keys), .c (cL eR_Node a3.Kids)], some [qi 0, qi 0, qs [], .nil, .nil], some [qi x4.Kind, qi x4.N, qs x4.S, .row 0, .row 1]], [rr 1 eS x4.Keys true, rr 5 eR_Node x4.Kids true]⟩) rfl rfl (ev_callG (al := [.ag [qi a1.Kind, qi a1.N, qs a1.S, .c (cL eS a1.Keys), .c (cL eR_Node a1.Kids)], qs a2]) (ls := []) (spec_l3At_ok hx5) rfl rfl rfl rfl rfl (by decide) rfl rfl rfl rfl rfl rfl) ?_; simp only [putT,st,ev,gt,hp,ofV,constT,intT,lm]
   refine WO_op rfl rfl rfl ?_; simp only [putT,st,ev,gt,hp,ofV,constT,intT,lm]
   refine WO_nil (W_seq (W_seq (W_region ?_)))
   iterate 2 (refine WO_op rfl rfl rfl ?_; simp only [putT,st,ev,gt,hp,ofV,constT,intT,lm])
   refine WO_nil ?_
   refine W_cond rfl (fun hc => ?_) (fun hc => ?_)
   ·
    replace H := tr hc H
    refine W_seq ?_
    refine W_drawL (by kernel_rfl) (by decide +kernel) ?_
    refine WL_op (x := .bp 3 4) rfl rfl rfl rfl ?_
    refine WL_op (x := .row 1) rfl rfl rfl rfl ?_
    refine WL_op rfl rfl rfl rfl ?_
    refine WL_op (x := .ag [qi a3.Kind, qi a3.N, qs a3.S, .c (cL eS a3.Keys), .c (cL eR_Node a3.Kids)]) rfl rfl rfl rfl ?_; simp only [putT,st,ev,gt,hp,ofV,constT,intT,lm]
    obtain ⟨x6, hx6, H⟩ := bnd H
    refine WL_op (x := .ag [qi x6.Kind, qi x6.N, qs x6.S, .row 2, .row 3]) (σ' := ⟨[], [some [qi a1.Kind, qi a1.N, qs a1.S, .c (cL eS a1.Keys), .c (cL eR_Node a1.Kids)], some [qi a3.Kind, qi a3.N, qs a3.S, .c (cL eS a3.Keys), .c (cL eR_Node a3.Kids)], some [qi 0, qi 0, qs [], .nil, .nil], some [qi x4.Kind, qi x4.N, qs x4.S, .row 0, .row 1]], [rr 1 eS x4.Keys true, rr 5 eR_Node x4.Kids true, rr 1 eS x6.Keys true, rr 5 eR_Node x6.Kids true]⟩) rfl rfl rfl (ev_callG (al := [.ag [qi a3.Kind, qi a3.N, qs a3.S, .c (cL eS a3.Keys), .c (cL eR_Node a3.Kids)]]) (ls := []) (spec_l3Copy_ok hx6) rfl rfl rfl rfl rfl (by decide) rfl rfl rfl rfl rfl rfl) ?_; simp only [putT,st,ev,gt,hp,ofV,constT,intT,lm]
    obtain ⟨x7, hx7, H⟩ := bnd H
    obtain ⟨y8, hy8, H⟩ := bnd H
    rw [dN_Node_some hy8] at hx7
    refine WL_op rfl rfl rfl (ev_ixR (en := eR_Node) hx7 rfl rfl rfl rfl rfl rfl rfl) ?_; simp only [putT,st,ev,gt,hp,ofV,constT,intT,lm]
    obtain ⟨m9, hm9, H⟩ := bnd H
    refine WL_op (x := .no) (σ' := ⟨[], [some [qi a1.Kind, qi a1.N, qs a1.S, .c (cL eS a1.Keys), .c (cL eR_Node a1.Kids)], some [qi a3.Kind, qi a3.N, qs a3.S, .c (cL eS a3.Keys), .c (cL eR_Node a3.Kids)], some [qi 0, qi 0, qs [], .nil, .nil], some [qi x4.Kind, qi x4.N, qs x4.S, .row 0, .row 1]], [rr 1 eS x4.Keys true, rr 5 eR_Node m9 true, rr 1 eS x6.Keys false, rr 5 eR_Node x6.Kids false]⟩) rfl rfl rfl (ev_stR (en := eR_Node) hm9 hx7 rfl rfl rfl rfl rfl rfl rfl rfl) ?_; simp only [putT,st,ev,gt,hp,ofV,constT,intT,lm]
    refine WL_nil (by kernel_rfl) ?_
    refine W_seq (W_region ?_)
    refine WO_op (x := .ag [qi x4.Kind, qi x4.N, qs x4.S, .row 0, .row 1]) rfl rfl rfl ?_
    refine WO_op (x := .no) (σ' := ⟨[], [some [qi a1.Kind, qi a1.N, qs a1.S, .c (cL eS a1.Keys), .c (cL eR_Node a1.Kids)], some [qi a3.Kind, qi a3.N, qs a3.S, .c (cL eS a3.Keys), .c (cL eR_Node a3.Kids)], some [qi x4.Kind, qi x4.N, qs x4.S, .row 0, .row 1], some [qi x4.Kind, qi x4.N, qs x4.S, .row 0, .row 1]], [rr 1 eS x4.Keys true, rr 5 eR_Node m9 true, rr 1 eS x6.Keys false, rr 5 eR_Node x6.Kids false]⟩) rfl rfl rfl ?_; simp only [putT,st,ev,gt,hp,ofV,constT,intT,lm]
    refine WO_nil ?_
    refine W_ret ?_
    obtain rfl := Option.some.inj H
    exact told5 rfl rfl rfl rfl (fitAs_nz rfl) rfl
   ·
    replace H := fl hc H
    refine W_skip ?_
    refine W_seq (W_region ?_)
    refine WO_op rfl rfl rfl ?_; simp only [putT,st,ev,gt,hp,ofV,constT,intT,lm]
    refine WO_nil (W_seq ?_)
    refine W_block ?_
    obtain ⟨t12, ht12, H⟩ := bnd H
    refine loop_rule (ls := []) 0 (fun t12 : Int => ⟨[.no, qs a2, .no, .bp 0 0, .no, .bp 1 0, .bp 2 0, .bp 3 0, qi t12], [some [qi a1.Kind, qi a1.N, qs a1.S, .c (cL eS a1.Keys), .c (cL eR_Node a1.Kids)], some [qi a3.Kind, qi a3.N, qs a3.S, .c (cL eS a3.Keys), .c (cL eR_Node a3.Kids)], some [qi 0, qi 0, qs [], .nil, .nil], some [qi x4.Kind, qi x4.N, qs x4.S, .row 0, .row 1]], [rr 1 eS x4.Keys true, rr 5 eR_Node x4.Kids true]⟩) (fun t => t12 = t) ⟨[.no, qs a2, .no, .bp 0 0, .no, .bp 1 0, .bp 2 0, .bp 3 0, qi 0], [some [qi a1.Kind, qi a1.N, qs a1.S, .c (cL eS a1.Keys), .c (cL eR_Node a1.Kids)], some [qi a3.Kind, qi a3.N, qs a3.S, .c (cL eS a3.Keys), .c (cL eR_Node a3.Kids)], some [qi 0, qi 0, qs [], .nil, .nil], some [qi x4.Kind, qi x4.N, qs x4.S, .row 0, .row 1]], [rr 1 eS x4.Keys true, rr 5 eR_Node x4.Kids true]⟩ (by repeat (first | exact mono_told | refine mono_seq ?_ | refine mono_blk ?_ | refine mono_lp ?_)) (le_intro [0, 1, 2, 3] [0, 1] (by decide) (by decide) rfl (by simp [leS, leT, leA, gt]) (by simp [leB, leT, leA]) (by simp [leR])) ?_ ?_
    ·
     rintro t1 rfl
     refine W_seq (W_region ?_)
     refine WO_op (x := .row 2) (σ' := ⟨[], [some [qi a1.Kind, qi a1.N, qs a1.S, .c (cL eS a1.Keys), .c (cL eR_Node a1.Kids)], some [qi a3.Kind, qi a3.N, qs a3.S, .c (cL eS a3.Keys), .c (cL eR_Node a3.Kids)], some [qi 0, qi 0, qs [], .nil, .nil], some [qi x4.Kind, qi x4.N, qs x4.S, .row 0, .row 1]], [rr 1 eS x4.Keys true, rr 5 eR_Node x4.Kids true, rr 1 eS ([] : List Str) true]⟩) rfl rfl (ev_bs ([] : List Str) eS rfl rfl rfl rfl) ?_; simp only [putT,st,ev,gt,hp,ofV,constT,intT,lm]
     refine WO_op (x := .bp 3 3) rfl rfl rfl ?_
     refine WO_op (x := .row 0) rfl rfl rfl ?_
     refine WO_op rfl rfl rfl ?_; simp only [putT,st,ev,gt,hp,ofV,constT,intT,lm]
     obtain ⟨s13, hs13, H⟩ := bnd H
     refine WO_op rfl rfl (ev_slR (en := eS) hs13 rfl rfl rfl rfl rfl rfl ⟨_, rfl⟩) ?_; simp only [putT,st,ev,gt,hp,ofV,constT,intT,lm]
     obtain ⟨m14, hm14, H⟩ := bnd H
     refine WO_op (x := .row 3) (σ' := ⟨[], [some [qi a1.Kind, qi a1.N, qs a1.S, .c (cL eS a1.Keys), .c (cL eR_Node a1.Kids)], some [qi a3.Kind, qi a3.N, qs a3.S, .c (cL eS a3.Keys), .c (cL eR_Node a3.Kids)], some [qi 0, qi 0, qs [], .nil, .nil], some [qi x4.Kind, qi x4.N, qs x4.S, .row 0, .row 1]], [rr 1 eS x4.Keys true, rr 5 eR_Node x4.Kids true, none, rr 1 eS m14 true]⟩) rfl rfl (ev_app (en := eS) hm14 rfl rfl rfl rfl (Or.inl rfl) rfl rfl rfl rfl rfl rfl (el_sl (en := eS) hs13 rfl rfl rfl) rfl rfl rfl rfl (fun _ => rfl) rfl (Or.inr rfl) rfl) ?_; simp only [putT,st,ev,gt,hp,ofV,constT,intT,lm]
     refine WO_op rfl rfl rfl ?_; simp only [putT,st,ev,gt,hp,ofV,constT,intT,lm]
     refine WO_nil (W_seq (W_region ?_))
     iterate 2 (refine WO_op rfl rfl rfl ?_; simp only [putT,st,ev,gt,hp,ofV,constT,intT,lm])
     refine WO_op (x := .row 4) (σ' := ⟨[], [some [qi a1.Kind, qi a1.N, qs a1.S, .c (cL eS a1.Keys), .c (cL eR_Node a1.Kids)], some [qi a3.Kind, qi a3.N, qs a3.S, .c (cL eS a3.Keys), .c (cL eR_Node a3.Kids)], some [qi 0, qi 0, qs [], .nil, .nil], some [qi x4.Kind, qi x4.N, qs x4.S, .row 0, .row 1]], [rr 1 eS x4.Keys true, rr 5 eR_Node x4.Kids true, none, rr 1 eS m14 true, rr 1 eS ([a2] : List Str) true]⟩) rfl rfl (ev_bs ([a2] : List Str) eS rfl rfl rfl rfl) ?_; simp only [putT,st,ev,gt,hp,ofV,constT,intT,lm]
     obtain ⟨m15, hm15, H⟩ := bnd H
     refine WO_op (x := .row 5) (σ' := ⟨[], [some [qi a1.Kind, qi a1.N, qs a1.S, .c (cL eS a1.Keys), .c (cL eR_Node a1.Kids)], some [qi a3.Kind, qi a3.N, qs a3.S, .c (cL eS a3.Keys), .c (cL eR_Node a3.Kids)], some [qi 0, qi 0, qs [], .nil, .nil], some [qi x4.Kind, qi x4.N, qs x4.S, .row 0, .row 1]], [rr 1 eS x4.Keys true, rr 5 eR_Node x4.Kids true, none, none, rr 1 eS ([a2] : List Str) true, rr 1 eS m15 true]⟩) rfl rfl (ev_app (en := eS) hm15 rfl rfl rfl rfl (Or.inl rfl) rfl rfl rfl rfl rfl rfl rfl rfl rfl rfl rfl (fun _ => rfl) rfl (Or.inr rfl) rfl) ?_; simp only [putT,st,ev,gt,hp,ofV,constT,intT,lm]
     refine WO_op rfl rfl rfl ?_; simp only [putT,st,ev,gt,hp,ofV,constT,intT,lm]
     refine WO_nil (W_seq (W_region ?_))
     refine WO_op (x := .row 6) (σ' := ⟨[], [some [qi a1.Kind, qi a1.N, qs a1.S, .c (cL eS a1.Keys), .c (cL eR_Node a1.Kids)], some [qi a3.Kind, qi a3.N, qs a3.S, .c (cL eS a3.Keys), .c (cL eR_Node a3.Kids)], some [qi 0, qi 0, qs [], .nil, .nil], some [qi x4.Kind, qi x4.N, qs x4.S, .row 0, .row 1]], [rr 1 eS x4.Keys true, rr 5 eR_Node x4.Kids true, none, none, rr 1 eS ([a2] : List Str) true, rr 1 eS m15 true, rr 5 eR_Node ([] : List RNode) true]⟩) rfl rfl (ev_bs ([] : List RNode) eR_Node rfl rfl rfl rfl) ?_; simp only [putT,st,ev,gt,hp,ofV,constT,intT,lm]
     refine WO_op (x := .bp 3 4) rfl rfl rfl ?_
     refine WO_op (x := .row 1) rfl rfl rfl ?_
     refine WO_op rfl rfl rfl ?_; simp only [putT,st,ev,gt,hp,ofV,constT,intT,lm]
     obtain ⟨s16, hs16, H⟩ := bnd H
     refine WO_op rfl rfl (ev_slR (en := eR_Node) hs16 rfl rfl rfl rfl rfl rfl ⟨_, rfl⟩) ?_; simp only [putT,st,ev,gt,hp,ofV,constT,intT,lm]
     obtain ⟨m17, hm17, H⟩ := bnd H
     refine WO_op (x := .row 7) (σ' := ⟨[], [some [qi a1.Kind, qi a1.N, qs a1.S, .c (cL eS a1.Keys), .c (cL eR_Node a1.Kids)], some [qi a3.Kind, qi a3.N, qs a3.S, .c (cL eS a3.Keys), .c (cL eR_Node a3.Kids)], some [qi 0, qi 0, qs [], .nil, .nil], some [qi x4.Kind, qi x4.N, qs x4.S, .row 0, .row 1]], [rr 1 eS x4.Keys true, rr 5 eR_Node x4.Kids true, none, none, rr 1 eS ([a2] : List Str) true, rr 1 eS m15 true, none, rr 5 eR_Node m17 true]⟩) rfl rfl (ev_app (en := eR_Node) hm17 rfl rfl rfl rfl (Or.inl rfl) rfl rfl rfl rfl rfl rfl (el_sl (en := eR_Node) hs16 rfl rfl rfl) rfl rfl rfl rfl (fun _ => rfl) rfl (Or.inr rfl) rfl) ?_; simp only [putT,st,ev,gt,hp,ofV,constT,intT,lm]
     refine WO_op rfl rfl rfl ?_; simp only [putT,st,ev,gt,hp,ofV,constT,intT,lm]
     refine WO_nil (W_seq (W_region ?_))
     refine WO_op rfl rfl rfl ?_
     refine WO_op (x := .ag [qi a3.Kind, qi a3.N, qs a3.S, .c (cL eS a3.Keys), .c (cL eR_Node a3.Kids)]) rfl rfl rfl ?_; simp only [putT,st,ev,gt,hp,ofV,constT,intT,lm]
     obtain ⟨x18, hx18, H⟩ := bnd H
     refine WO_op (x := .ag [qi x18.Kind, qi x18.N, qs x18.S, .row 8, .row 9]) (σ' := ⟨[], [some [qi a1.Kind, qi a1.N, qs a1.S, .c (cL eS a1.Keys), .c (cL eR_Node a1.Kids)], some [qi a3.Kind, qi a3.N, qs a3.S, .c (cL eS a3.Keys), .c (cL eR_Node a3.Kids)], some [qi 0, qi 0, qs [], .nil, .nil], some [qi x4.Kind, qi x4.N, qs x4.S, .row 0, .row 1]], [rr 1 eS x4.Keys true, rr 5 eR_Node x4.Kids true, none, none, rr 1 eS ([a2] : List Str) true, rr 1 eS m15 true, none, rr 5 eR_Node m17 true, rr 1 eS x18.Keys true, rr 5 eR_Node x18.Kids true]⟩) rfl rfl (ev_callG (al := [.ag [qi a3.Kind, qi a3.N, qs a3.S, .c (cL eS a3.Keys), .c (cL eR_Node a3.Kids)]]) (ls := []) (spec_l3Copy_ok hx18) rfl rfl rfl rfl rfl (by decide) rfl rfl rfl rfl rfl rfl) ?_; simp only [putT,st,ev,gt,hp,ofV,constT,intT,lm]
     refine WO_op (x := .row 10) (σ' := ⟨[], [some [qi a1.Kind, qi a1.N, qs a1.S, .c (cL eS a1.Keys), .c (cL eR_Node a1.Kids)], some [qi a3.Kind, qi a3.N, qs a3.S, .c (cL eS a3.Keys), .c (cL eR_Node a3.Kids)], some [qi 0, qi 0, qs [], .nil, .nil], some [qi x4.Kind, qi x4.N, qs x4.S, .row 0, .row 1]], [rr 1 eS x4.Keys true, rr 5 eR_Node x4.Kids true, none, none, rr 1 eS ([a2] : List Str) true, rr 1 eS m15 true, none, rr 5 eR_Node m17 true, rr 1 eS x18.Keys false, rr 5 eR_Node x18.Kids false, rr 5 eR_Node ([rN_Node x18] : List RNode) true]⟩) rfl rfl (ev_bs ([rN_Node x18] : List RNode) eR_Node rfl rfl rfl rfl) ?_; simp only [putT,st,ev,gt,hp,ofV,constT,intT,lm]
     obtain ⟨m19, hm19, H⟩ := bnd H
     refine WO_op (x := .row 11) (σ' := ⟨[], [some [qi a1.Kind, qi a1.N, qs a1.S, .c (cL eS a1.Keys), .c (cL eR_Node a1.Kids)], some [qi a3.Kind, qi a3.N, qs a3.S, .c (cL eS a3.Keys), .c (cL eR_Node a3.Kids)], some [qi 0, qi 0, qs [], .nil, .nil], some [qi x4.Kind, qi x4.N, qs x4.S, .row 0, .row 1]], [rr 1 eS x4.Keys true, rr 5 eR_Node x4.Kids true, none, none, rr 1 eS ([a2] : List Str) true, rr 1 eS m15 true, none, none, rr 1 eS x18.Keys false, rr 5 eR_Node x18.Kids false, rr 5 eR_Node ([rN_Node x18] : List RNode) true, rr 5 eR_Node m19 true]⟩) rfl rfl (ev_app (en := eR_Node) hm19 rfl rfl rfl rfl (Or.inl rfl) rfl rfl rfl rfl rfl rfl rfl rfl rfl rfl rfl (fun _ => rfl) rfl (Or.inr rfl) rfl) ?_; simp only [putT,st,ev,gt,hp,ofV,constT,intT,lm]
     refine WO_op rfl rfl rfl ?_; simp only [putT,st,ev,gt,hp,ofV,constT,intT,lm]
     refine WO_nil (W_seq ?_)
     refine W_drawL (by kernel_rfl) (by decide +kernel) ?_
     refine WL_op (x := .bp 0 0) rfl rfl rfl rfl ?_
     refine WL_op (x := qi a1.Kind) rfl rfl rfl rfl ?_
     refine WL_op (x := .bp 0 1) rfl rfl rfl rfl ?_
     refine WL_op (x := qi a1.N) rfl rfl rfl rfl ?_; simp only [putT,st,ev,gt,hp,ofV,constT,intT,lm]
     refine WL_op (x := .bp 0 2) rfl rfl rfl rfl ?_
     refine WL_op (x := qs a1.S) rfl rfl rfl rfl ?_
     refine WL_op rfl rfl rfl rfl ?_
     refine WL_op (x := .bp 3 3) rfl rfl rfl rfl ?_; simp only [putT,st,ev,gt,hp,ofV,constT,intT,lm]
     refine WL_op (x := .row 0) rfl rfl rfl rfl ?_
     refine WL_op rfl rfl rfl rfl ?_; simp only [putT,st,ev,gt,hp,ofV,constT,intT,lm]
     obtain ⟨s20, hs20, H⟩ := bnd H
     refine WL_op rfl rfl rfl (ev_slR (en := eS) hs20 rfl rfl rfl rfl rfl ⟨_, rfl⟩ rfl) ?_; simp only [putT,st,ev,gt,hp,ofV,constT,intT,lm]
     obtain ⟨m21, hm21, H⟩ := bnd H
     refine WL_op (x := .row 12) (σ' := ⟨[], [some [qi a1.Kind, qi a1.N, qs a1.S, .c (cL eS a1.Keys), .c (cL eR_Node a1.Kids)], some [qi a3.Kind, qi a3.N, qs a3.S, .c (cL eS a3.Keys), .c (cL eR_Node a3.Kids)], some [qi 0, qi 0, qs [], .nil, .nil], some [qi x4.Kind, qi x4.N, qs x4.S, .row 0, .row 1]], [rr 1 eS x4.Keys true, rr 5 eR_Node x4.Kids true, none, none, rr 1 eS ([a2] : List Str) true, none, none, none, rr 1 eS x18.Keys false, rr 5 eR_Node x18.Kids false, rr 5 eR_Node ([rN_Node x18] : List RNode) true, rr 5 eR_Node m19 true, rr 1 eS m21 true]⟩) rfl rfl rfl (ev_app (en := eS) hm21 rfl rfl rfl rfl (Or.inl rfl) rfl rfl rfl rfl rfl rfl (el_sl (en := eS) hs20 rfl rfl rfl) rfl rfl rfl rfl (fun _ => rfl) rfl (Or.inr rfl) rfl) ?_; simp only [putT,st,ev,gt,hp,ofV,constT,intT,lm]
     refine WL_op rfl rfl rfl rfl ?_
     refine WL_op (x := .bp 3 4) rfl rfl rfl rfl ?_
     refine WL_op (x := .row 1) rfl rfl rfl rfl ?_
     refine WL_op rfl rfl rfl rfl ?_; simp only [putT,st,ev,gt,hp,ofV,constT,intT,lm]
     obtain ⟨s22, hs22, H⟩ := bnd H
     refine WL_op rfl rfl rfl (ev_slR (en := eR_Node) hs22 rfl rfl rfl rfl rfl ⟨_, rfl⟩ rfl) ?_; simp only [putT,st,ev,gt,hp,ofV,constT,intT,lm]
     obtain ⟨m23, hm23, H⟩ := bnd H
     refine WL_op (x := .row 13) (σ' := ⟨[], [some [qi a1.Kind, qi a1.N, qs a1.S, .c (cL eS a1.Keys), .c (cL eR_Node a1.Kids)], some [qi a3.Kind, qi a3.N, qs a3.S, .c (cL eS a3.Keys), .c (cL eR_Node a3.Kids)], some [qi 0, qi 0, qs [], .nil, .nil], some [qi x4.Kind, qi x4.N, qs x4.S, .row 0, .row 1]], [rr 1 eS x4.Keys true, rr 5 eR_Node x4.Kids true, none, none, rr 1 eS ([a2] : List Str) true, none, none, none, rr 1 eS x18.Keys false, rr 5 eR_Node x18.Kids false, rr 5 eR_Node ([rN_Node x18] : List RNode) true, none, rr 1 eS m21 true, rr 5 eR_Node m23 true]⟩) rfl rfl rfl (ev_app (en := eR_Node) hm23 rfl rfl rfl rfl (Or.inl rfl) rfl rfl rfl rfl rfl rfl (el_sl (en := eR_Node) hs22 rfl rfl rfl) rfl rfl rfl rfl (fun _ => rfl) rfl (Or.inr rfl) rfl) ?_; simp only [putT,st,ev,gt,hp,ofV,constT,intT,lm]
     refine WL_op (x := .ag [qi a1.Kind, qi a1.N, qs a1.S, .row 12, .row 13]) rfl rfl rfl rfl ?_
     refine WL_op (x := .no) (σ' := ⟨[], [some [qi a1.Kind, qi a1.N, qs a1.S, .c (cL eS a1.Keys), .c (cL eR_Node a1.Kids)], some [qi a3.Kind, qi a3.N, qs a3.S, .c (cL eS a3.Keys), .c (cL eR_Node a3.Kids)], some [qi a1.Kind, qi a1.N, qs a1.S, .row 12, .row 13], some [qi x4.Kind, qi x4.N, qs x4.S, .row 0, .row 1]], [rr 1 eS x4.Keys true, rr 5 eR_Node x4.Kids true, none, none, rr 1 eS ([a2] : List Str) true, none, none, none, rr 1 eS x18.Keys false, rr 5 eR_Node x18.Kids false, rr 5 eR_Node ([rN_Node x18] : List RNode) true, none, rr 1 eS m21 true, rr 5 eR_Node m23 true]⟩) rfl rfl rfl rfl ?_; simp only [putT,st,ev,gt,hp,ofV,constT,intT,lm]
     refine WL_nil (by kernel_rfl) ?_
     refine W_ret ?_
     obtain rfl := Option.some.inj H
     exact told5 rfl rfl rfl rfl (fitAs_nz rfl) rfl
    ·
     intro V1 hV1 hW1 hX1
     refine (spec_Set.l0.partial_correctness a1 a2 (fun v10 s' => s' = t12 → (V1 ⟨[.no, qs a2, .no, .bp 0 0, .no, .bp 1 0, .bp 2 0, .bp 3 0, qi v10], [some [qi a1.Kind, qi a1.N, qs a1.S, .c (cL eS a1.Keys), .c (cL eR_Node a1.Kids)], some [qi a3.Kind, qi a3.N, qs a3.S, .c (cL eS a3.Keys), .c (cL eR_Node a3.Kids)], some [qi 0, qi 0, qs [], .nil, .nil], some [qi x4.Kind, qi x4.N, qs x4.S, .row 0, .row 1]], [rr 1 eS x4.Keys true, rr 5 eR_Node x4.Kids true]⟩)) ?_ _ _ ht12 rfl)
     intro l0 IH1 v10 s' H1 e
     subst e
     refine hV1 _ ?_
     refine W_seq (W_seq (W_region ?_))
     refine WO_op rfl rfl rfl ?_
     refine WO_op (x := .bp 0 3) rfl rfl rfl ?_
     refine WO_op (x := .c (cL eS a1.Keys)) rfl rfl rfl ?_; simp only [putT,st,ev,gt,hp,ofV,constT,intT,lm]
     iterate 3 (refine WO_op rfl rfl rfl ?_; simp only [putT,st,ev,gt,hp,ofV,constT,intT,lm])
     refine WO_if rfl rfl rfl (fun hc => ?_) (fun hc => ?_)
     ·
      replace H1 := tr hc H1
      refine WO_want (x := .bp 0 3) rfl rfl rfl ?_
      refine WO_want (x := .c (cL eS a1.Keys)) rfl rfl rfl ?_
      refine WO_want rfl rfl rfl ?_; simp only [putT,st,ev,gt,hp,ofV,constT,intT,lm]
      obtain ⟨x11, hx11, H1⟩ := bnd H1
      refine WO_want rfl rfl (ev_ix (en := eS) hx11 rfl rfl rfl rfl rfl rfl rfl) ?_; simp only [putT,st,ev,gt,hp,ofV,constT,intT,lm]
      refine WO_want (x := qs x11) rfl rfl rfl ?_
      refine WO_want rfl rfl rfl ?_; simp only [putT,st,ev,gt,hp,ofV,constT,intT,lm]
      refine WO_want rfl rfl (ev_lss_s rfl rfl rfl) ?_; simp only [putT,st,ev,gt,hp,ofV,constT,intT,lm]
      refine WO_op (x := qb (slt x11 a2)) rfl rfl rfl ?_; simp only [putT,st,ev,gt,hp,ofV,constT,intT,lm]
      refine WO_nil ?_
      refine W_cond rfl (fun hc => ?_) (fun hc => ?_)
      ·
       replace H1 := tr hc H1
       refine W_skip ?_
       refine W_block ?_
       refine W_region ?_
       iterate 3 (refine WO_op rfl rfl rfl ?_; simp only [putT,st,ev,gt,hp,ofV,constT,intT,lm])
       refine WO_nil ?_
       exact hW1 _ _ ((IH1 _ _ H1 rfl)) (le_intro [0, 1, 2, 3] [0, 1] (by decide) (by decide) rfl (by simp [leS, leT, leA, gt]) (by simp [leB, leT, leA]) (by simp [leR]))
      ·
       replace H1 := fl hc H1
       refine W_exit ?_
       obtain rfl := Option.some.inj H1
       exact hX1 v10 _ rfl (le_intro [0, 1, 2, 3] [0, 1] (by decide) (by decide) rfl (by simp [leS, leT, leA, gt]) (by simp [leB, leT, leA]) (by simp [leR]))
     ·
      replace H1 := fl hc H1
      simp only [putT,st,ev,gt,hp,ofV,constT,intT,lm]
      iterate 7 refine WO_skip rfl rfl ?_
      refine WO_op (x := qb false) rfl rfl rfl ?_; simp only [putT,st,ev,gt,hp,ofV,constT,intT,lm]
      refine WO_nil ?_
      refine W_cond (t := false) rfl (fun h => by cases h) (fun _ => ?_)
      refine W_exit ?_
      obtain rfl := Option.some.inj H1
      exact hX1 v10 _ rfl (le_intro [0, 1, 2, 3] [0, 1] (by decide) (by decide) rfl (by simp [leS, leT, leA, gt]) (by simp [leB, leT, leA]) (by simp [leR]))
theorem spec_l11Keys_ok  {a1 : Node} {a2 : Node} {a3 : Node} {r : List Str} (H : spec_l11Keys a1 a2 a3 = some r) : R 19 [.ag [(cI .i64 a1.Kind, none), (cI .i64 a1.N, none), (cS a1.S, none), (cL eS a1.Keys, none), (cL eR_Node a1.Kids, none)], .ag [(cI .i64 a2.Kind, none), (cI .i64 a2.N, none), (cS a2.S, none), (cL eS a2.Keys, none), (cL eR_Node a2.Kids, none)], .ag [(cI .i64 a3.Kind, none), (cI .i64 a3.N, none), (cS a3.S, none), (cL eS a3.Keys, none), (cL eR_Node a3.Kids, none)]] = some (.c (cL eS r) (some 1), []) := by
 unfold spec_l11Keys at H
 refine Fz_walk false 36 rfl rfl rfl Try.func19 rfl (by kernel_rfl) rfl rfl rfl rfl ?_
 simp only [tellVs, tellV, tells, tell, st0, padT, SX.newRow, SX.newBox, List.length_cons, List.length_nil, Nat.reduceAdd, Nat.reduceSub, List.replicate, List.cons_append, List.nil_append, List.foldl_cons, List.foldl_nil]
 refine W_seq (W_region ?_)
 refine WO_op (x := .bp 0 0) (σ' := ⟨[], [some [qi a1.Kind, qi a1.N, qs a1.S, .c (cL eS a1.Keys), .c (cL eR_Node a1.Kids)]], []⟩) rfl rfl rfl ?_
 refine WO_op (x := .bp 1 0) (σ' := ⟨[], [some [qi a1.Kind, qi a1.N, qs a1.S, .c (cL eS a1.Keys), .c (cL eR_Node a1.Kids)], some [qi a2.Kind, qi a2.N, qs a2.S, .c (cL eS a2.Keys), .c (cL eR_Node a2.Kids)]], []⟩) rfl rfl rfl ?_
 refine WO_op (x := .bp 2 0) (σ' := ⟨[], [some [qi a1.Kind, qi a1.N, qs a1.S, .c (cL eS a1.Keys), .c (cL eR_Node a1.Kids)], some [qi a2.Kind, qi a2.N, qs a2.S, .c (cL eS a2.Keys), .c (cL eR_Node a2.Kids)], some [qi a3.Kind, qi a3.N, qs a3.S, .c (cL eS a3.Keys), .c (cL eR_Node a3.Kids)]], []⟩) rfl rfl rfl ?_
 refine WO_op rfl rfl rfl ?_; simp only [putT,st,ev,gt,hp,ofV,constT,intT,lm]
 refine WO_nil (W_seq (W_region ?_))
 refine WO_op (x := .ag [qi 5, qi 0, qs [], .nil, .nil]) rfl rfl rfl ?_
 refine WO_op (x := .bp 3 0) (σ' := ⟨[], [some [qi a1.Kind, qi a1.N, qs a1.S, .c (cL eS a1.Keys), .c (cL eR_Node a1.Kids)], some [qi a2.Kind, qi a2.N, qs a2.S, .c (cL eS a2.Keys), .c (cL eR_Node a2.Kids)], some [qi a3.Kind, qi a3.N, qs a3.S, .c (cL eS a3.Keys), .c (cL eR_Node a3.Kids)], some [qi 0, qi 0, qs [], .nil, .nil]], []⟩) rfl rfl rfl ?_
 refine WO_op (x := .no) (σ' := ⟨[], [some [qi a1.Kind, qi a1.N, qs a1.S, .c (cL eS a1.Keys), .c (cL eR_Node a1.Kids)], some [qi a2.Kind, qi a2.N, qs a2.S, .c (cL eS a2.Keys), .c (cL eR_Node a2.Kids)], some [qi a3.Kind, qi a3.N, qs a3.S, .c (cL eS a3.Keys), .c (cL eR_Node a3.Kids)], some [qi 5, qi 0, qs [], .nil, .nil]], []⟩) rfl rfl rfl ?_; simp only [putT,st,ev,gt,hp,ofV,constT,intT,lm]
 refine WO_nil (W_seq ?_)
 refine W_drawL (by kernel_rfl) (by decide +kernel) ?_
 refine WL_op (x := .row 0) (σ' := ⟨[], [some [qi a1.Kind, qi a1.N, qs a1.S, .c (cL eS a1.Keys), .c (cL eR_Node a1.Kids)], some [qi a2.Kind, qi a2.N, qs a2.S, .c (cL eS a2.Keys), .c (cL eR_Node a2.Kids)], some [qi a3.Kind, qi a3.N, qs a3.S, .c (cL eS a3.Keys), .c (cL eR_Node a3.Kids)], some [qi 5, qi 0, qs [], .nil, .nil]], [rr 1 eS ([] : List Str) true]⟩) rfl rfl rfl (ev_bs ([] : List Str) eS rfl rfl rfl rfl) ?_; simp only [putT,st,ev,gt,hp,ofV,constT,intT,lm]
 refine WL_op (x := .bp 0 3) rfl rfl rfl rfl ?_
 refine WL_op (x := .c (cL eS a1.Keys)) rfl rfl rfl rfl ?_; simp only [putT,st,ev,gt,hp,ofV,constT,intT,lm]
 obtain ⟨m4, hm4, H⟩ := bnd H
 refine WL_op (x := .row 1) (σ' := ⟨[], [some [qi a1.Kind, qi a1.N, qs a1.S, .c (cL eS a1.Keys), .c (cL eR_Node a1.Kids)], some [qi a2.Kind, qi a2.N, qs a2.S, .c (cL eS a2.Keys), .c (cL eR_Node a2.Kids)], some [qi a3.Kind, qi a3.N, qs a3.S, .c (cL eS a3.Keys), .c (cL eR_Node a3.Kids)], some [qi 5, qi 0, qs [], .nil, .nil]], [none, rr 1 eS m4 true]⟩) rfl rfl rfl (ev_app (en := eS) hm4 rfl rfl rfl rfl (Or.inl rfl) rfl rfl rfl rfl rfl rfl rfl rfl rfl rfl rfl (fun _ => rfl) rfl (Or.inr rfl) rfl) ?_; simp only [putT,st,ev,gt,hp,ofV,constT,intT,lm]
 refine WL_op (x := .bp 1 3) rfl rfl rfl rfl ?_
 refine WL_op (x := .c (cL eS a2.Keys)) rfl rfl rfl rfl ?_; simp only [putT,st,ev,gt,hp,ofV,constT,intT,lm]
 obtain ⟨m5, hm5, H⟩ := bnd H
 refine WL_op (x := .row 2) (σ' := ⟨[], [some [qi a1.Kind, qi a1.N, qs a1.S, .c (cL eS a1.Keys), .c (cL eR_Node a1.Kids)], some [qi a2.Kind, qi a2.N, qs a2.S, .c (cL eS a2.Keys), .c (cL eR_Node a2.Kids)], some [qi a3.Kind, qi a3.N, qs a3.S, .c (cL eS a3.Keys), .c (cL eR_Node a3.Kids)], some [qi 5, qi 0, qs [], .nil, .nil]], [none, none, rr 1 eS m5 true]⟩) rfl rfl rfl (ev_app (en := eS) hm5 rfl rfl rfl rfl (Or.inl rfl) rfl rfl rfl rfl rfl rfl rfl rfl rfl rfl rfl (fun _ => rfl) rfl (Or.inr rfl) rfl) ?_; simp only [putT,st,ev,gt,hp,ofV,constT,intT,lm]
 refine WL_op (x := .bp 2 3) rfl rfl rfl rfl ?_
 refine WL_op (x := .c (cL eS a3.Keys)) rfl rfl rfl rfl ?_; simp only [putT,st,ev,gt,hp,ofV,constT,intT,lm]
 obtain ⟨m6, hm6, H⟩ := bnd H
 refine WL_op (x := .row 3) (σ' := ⟨[], [some [qi a1.Kind, qi a1.N, qs a1.S, .c (cL eS a1.Keys), .c (cL eR_Node a1.Kids)], some [qi a2.Kind, qi a2.N, qs a2.S, .c (cL eS a2.Keys), .c (cL eR_Node a2.Kids)], some [qi a3.Kind, qi a3.N, qs a3.S, .c (cL eS a3.Keys), .c (cL eR_Node a3.Kids)], some [qi 5, qi 0, qs [], .nil, .nil]], [none, none, none, rr 1 eS m6 true]⟩) rfl rfl rfl (ev_app (en := eS) hm6 rfl rfl rfl rfl (Or.inl rfl) rfl rfl rfl rfl rfl rfl rfl rfl rfl rfl rfl (fun _ => rfl) rfl (Or.inr rfl) rfl) ?_; simp only [putT,st,ev,gt,hp,ofV,constT,intT,lm]
 refine WL_op rfl rfl rfl rfl ?_; simp only [putT,st,ev,gt,hp,ofV,constT,intT,lm]
 refine WL_nil (by kernel_rfl) ?_
 refine W_seq (W_seq (W_region ?_))
 refine WO_op rfl rfl rfl ?_; simp only [putT,st,ev,gt,hp,ofV,constT,intT,lm]
 refine WO_nil ?_
 refine W_block ?_
 obtain ⟨t15, ht15, H⟩ := bnd H
 refine loop_ruleM (ls := []) 0 (fun (i : Nat) (t15 : Int × Int × Str × List Str × List RNode) => match i with | 0 => ⟨[.no, .no, .no, .no, .no, .no, .no, .bp 0 0], [some [qi t15.1, qi t15.2.1, qs t15.2.2.1, .nil, .nil]], []⟩ | _ => ⟨[.no, .no, .no, .no, .no, .no, .no, .bp 0 0], [some [qi t15.1, qi t15.2.1, qs t15.2.2.1, .row 0, .row 1]], [rr 1 eS t15.2.2.2.1 true, rr 5 eR_Node t15.2.2.2.2 true]⟩) (fun (i : Nat) t => match i with | 0 => t15 = t ∧ t.2.2.2.1 = [] ∧ t.2.2.2.2 = [] | 1 => t15 = t | _ => False) ⟨[.no, .no, .no, .no, .no, .no, .no, .bp 0 0, .row 0, qi 0], [some [qi 5, qi 0, qs [], .nil, .nil]], [rr 1 eS m6 true]⟩ (by repeat (first | exact mono_told | refine mono_seq ?_ | refine mono_blk ?_ | refine mono_lp ?_)) (le_intro [3] [3] (by decide) (by decide) rfl (by simp [leS, leT, leA, gt]) (by simp [leB, leT, leA]) (by simp [leR])) ?_ ?_
 ·
  intro i t1 hp
  rcases i with _ | _ | i
  ·
   obtain ⟨rfl, hz_t15_3, hz_t15_4⟩ := hp
   refine W_seq (W_region ?_)
   refine WO_op (x := .bp 0 3) rfl rfl rfl ?_
   refine WO_op (x := .nil) rfl rfl rfl ?_
   refine WO_op rfl rfl rfl ?_; simp only [putT,st,ev,gt,hp,ofV,constT,intT,lm]
   refine WO_nil ?_
   refine W_ret ?_
   obtain rfl := Option.some.inj H
   exact told5 rfl rfl rfl rfl rfl (by simp only [hz_t15_3]; try rfl)
  ·
   obtain rfl := hp
   refine W_seq (W_region ?_)
   refine WO_op (x := .bp 0 3) rfl rfl rfl ?_
   refine WO_op (x := .row 0) rfl rfl rfl ?_
   refine WO_op rfl rfl rfl ?_; simp only [putT,st,ev,gt,hp,ofV,constT,intT,lm]
   refine WO_nil ?_
   refine W_ret ?_
   obtain rfl := Option.some.inj H
   exact told5 rfl rfl rfl rfl (fitAs_nz rfl) rfl
  · exact hp.elim
 ·
  intro V1 hV1 hW1 hX1
  refine (spec_l11Keys.l0.partial_correctness m6 (fun v7 v8 v9 v10 v11 v12 s' => s' = t15 → (v11 = [] → v12 = [] → V1 ⟨[.no, .no, .no, .no, .no, .no, .no, .bp 0 0, .row 0, qi v7], [some [qi v8, qi v9, qs v10, .nil, .nil]], [rr 1 eS m6 true]⟩) ∧ (V1 ⟨[.no, .no, .no, .no, .no, .no, .no, .bp 0 0, .row 0, qi v7], [some [qi v8, qi v9, qs v10, .row 1, .row 2]], [rr 1 eS m6 true, rr 1 eS v11 true, rr 5 eR_Node v12 true]⟩)) ?_ _ _ _ _ _ _ _ ht15 rfl).1 rfl rfl
  intro l0 IH1 v7 v8 v9 v10 v11 v12 s' H1 e
  subst e
  refine ⟨?_, ?_⟩
  ·
   intro hn_v11 hn_v12
   refine hV1 _ ?_
   refine W_seq (W_seq (W_region ?_))
   iterate 4 (refine WO_op rfl rfl rfl ?_; simp only [putT,st,ev,gt,hp,ofV,constT,intT,lm])
   refine WO_nil ?_
   refine W_cond rfl (fun hc => ?_) (fun hc => ?_)
   ·
    replace H1 := tr hc H1
    refine W_skip ?_
    refine W_seq ?_
    refine W_block ?_
    refine W_draw (by kernel_rfl) (by kernel_rfl) ?_
    refine WO_op (x := .ag [qi v8, qi v9, qs v10, .nil, .nil]) rfl rfl rfl ?_; simp only [putT,st,ev,gt,hp,ofV,constT,intT,lm]
    iterate 2 (refine WO_op rfl rfl rfl ?_; simp only [putT,st,ev,gt,hp,ofV,constT,intT,lm])
    obtain ⟨x13, hx13, H1⟩ := bnd H1
    refine WO_op rfl rfl (ev_ixR (en := eS) hx13 rfl rfl rfl rfl rfl rfl rfl) ?_; simp only [putT,st,ev,gt,hp,ofV,constT,intT,lm]
    refine WO_op (x := qs x13) rfl rfl (ev_ldR (en := eS) hx13 rfl rfl rfl rfl) ?_; simp only [putT,st,ev,gt,hp,ofV,constT,intT,lm]
    refine WO_op (x := .ag [qi 0, qi 0, qs [], .nil, .nil]) rfl rfl rfl ?_; simp only [putT,st,ev,gt,hp,ofV,constT,intT,lm]
    obtain ⟨x14, hx14, H1⟩ := bnd H1
    refine WO_op (x := .ag [qi x14.Kind, qi x14.N, qs x14.S, .row 1, .row 2]) (σ' := ⟨[], [some [qi v8, qi v9, qs v10, .nil, .nil]], [rr 1 eS m6 true, rr 1 eS x14.Keys true, rr 5 eR_Node x14.Kids true]⟩) rfl rfl (ev_callG (al := [.ag [qi v8, qi v9, qs v10, .nil, .nil], qs x13, .ag [qi 0, qi 0, qs [], .nil, .nil]]) (ls := []) (spec_Set_ok hx14) rfl rfl rfl rfl rfl (by decide) rfl (by rw [hn_v11, hn_v12]; rfl) rfl rfl rfl rfl) ?_; simp only [putT,st,ev,gt,hp,ofV,constT,intT,lm]
    refine WO_op (x := .no) (σ' := ⟨[], [some [qi x14.Kind, qi x14.N, qs x14.S, .row 1, .row 2]], [rr 1 eS m6 true, rr 1 eS x14.Keys true, rr 5 eR_Node x14.Kids true]⟩) rfl rfl rfl ?_; simp only [putT,st,ev,gt,hp,ofV,constT,intT,lm]
    refine WO_nil (W_region ?_)
    iterate 3 (refine WO_op rfl rfl rfl ?_; simp only [putT,st,ev,gt,hp,ofV,constT,intT,lm])
    refine WO_nil ?_
    exact hW1 _ _ ((IH1 _ _ _ _ _ _ _ H1 rfl).2) (le_intro [0] [0, 1, 2] (by decide) (by decide) rfl (by simp [leS, leT, leA, gt]) (by simp [leB, leT, leA]) (by simp [leR]))
   ·
    replace H1 := fl hc H1
    refine W_exit ?_
    obtain rfl := Option.some.inj H1
    exact hX1 0 (v8, v9, v10, v11, v12) _ ⟨rfl, hn_v11, hn_v12⟩ (le_intro [0] [] (by decide) (by decide) rfl (by simp [leS, leT, leA, gt]) (by simp [leB, leT, leA]) (by simp [leR]))
  ·
   skip
   refine hV1 _ ?_
   refine W_seq (W_seq (W_region ?_))
   iterate 4 (refine WO_op rfl rfl rfl ?_; simp only [putT,st,ev,gt,hp,ofV,constT,intT,lm])
   refine WO_nil ?_
   refine W_cond rfl (fun hc => ?_) (fun hc => ?_)
   ·
    replace H1 := tr hc H1
    refine W_skip ?_
    refine W_seq ?_
    refine W_block ?_
    refine W_draw (by kernel_rfl) (by kernel_rfl) ?_
    refine WO_op (x := .ag [qi v8, qi v9, qs v10, .row 1, .row 2]) rfl rfl rfl ?_; simp only [putT,st,ev,gt,hp,ofV,constT,intT,lm]
    iterate 2 (refine WO_op rfl rfl rfl ?_; simp only [putT,st,ev,gt,hp,ofV,constT,intT,lm])
    obtain ⟨x13, hx13, H1⟩ := bnd H1
    refine WO_op rfl rfl (ev_ixR (en := eS) hx13 rfl rfl rfl rfl rfl rfl rfl) ?_; simp only [putT,st,ev,gt,hp,ofV,constT,intT,lm]
    refine WO_op (x := qs x13) rfl rfl (ev_ldR (en := eS) hx13 rfl rfl rfl rfl) ?_; simp only [putT,st,ev,gt,hp,ofV,constT,intT,lm]
    refine WO_op (x := .ag [qi 0, qi 0, qs [], .nil, .nil]) rfl rfl rfl ?_; simp only [putT,st,ev,gt,hp,ofV,constT,intT,lm]
    obtain ⟨x14, hx14, H1⟩ := bnd H1
    refine WO_op (x := .ag [qi x14.Kind, qi x14.N, qs x14.S, .row 3, .row 4]) (σ' := ⟨[], [some [qi v8, qi v9, qs v10, .row 1, .row 2]], [rr 1 eS m6 true, rr 1 eS v11 false, rr 5 eR_Node v12 false, rr 1 eS x14.Keys true, rr 5 eR_Node x14.Kids true]⟩) rfl rfl (ev_callG (al := [.ag [qi v8, qi v9, qs v10, .row 1, .row 2], qs x13, .ag [qi 0, qi 0, qs [], .nil, .nil]]) (ls := []) (spec_Set_ok hx14) rfl rfl rfl rfl rfl (by decide) rfl rfl rfl rfl rfl rfl) ?_; simp only [putT,st,ev,gt,hp,ofV,constT,intT,lm]
    refine WO_op (x := .no) (σ' := ⟨[], [some [qi x14.Kind, qi x14.N, qs x14.S, .row 3, .row 4]], [rr 1 eS m6 true, rr 1 eS v11 false, rr 5 eR_Node v12 false, rr 1 eS x14.Keys true, rr 5 eR_Node x14.Kids true]⟩) rfl rfl rfl ?_; simp only [putT,st,ev,gt,hp,ofV,constT,intT,lm]
    refine WO_nil (W_region ?_)
    iterate 3 (refine WO_op rfl rfl rfl ?_; simp only [putT,st,ev,gt,hp,ofV,constT,intT,lm])
    refine WO_nil ?_
    exact hW1 _ _ ((IH1 _ _ _ _ _ _ _ H1 rfl).2) (le_intro [0] [0, 3, 4] (by decide) (by decide) rfl (by simp [leS, leT, leA, gt]) (by simp [leB, leT, leA]) (by simp [leR]))
   ·
    replace H1 := fl hc H1
    refine W_exit ?_
    obtain rfl := Option.some.inj H1
    exact hX1 1 (v8, v9, v10, v11, v12) _ rfl (le_intro [0] [1, 2] (by decide) (by decide) rfl (by simp [leS, leT, leA, gt]) (by simp [leB, leT, leA]) (by simp [leR]))
theorem spec_Get_ok  {a1 : Node} {a2 : Str} {r : Node × Bool} (H : spec_Get a1 a2 = some r) : R 29 [.ag [(cI .i64 a1.Kind, none), (cI .i64 a1.N, none), (cS a1.S, none), (cL eS a1.Keys, none), (cL eR_Node a1.Kids, none)], .c (cS a2) none] = some (.tu [.ag [(cI .i64 r.1.Kind, none), (cI .i64 r.1.N, none), (cS r.1.S, none), (cL eS r.1.Keys, some 1), (cL eR_Node r.1.Kids, some 5)], .c (cB r.2) none], []) := by
 unfold spec_Get at H
 refine Fz_walk false 19 rfl rfl rfl Try.func29 rfl (by kernel_rfl) rfl rfl rfl rfl ?_
 simp only [tellVs, tellV, tells, tell, st0, padT, SX.newRow, SX.newBox, List.length_cons, List.length_nil, Nat.reduceAdd, Nat.reduceSub, List.replicate, List.cons_append, List.nil_append, List.foldl_cons, List.foldl_nil]
 refine W_seq (W_region ?_)
 refine WO_op (x := .bp 0 0) (σ' := ⟨[], [some [qi a1.Kind, qi a1.N, qs a1.S, .c (cL eS a1.Keys), .c (cL eR_Node a1.Kids)]], []⟩) rfl rfl rfl ?_
 refine WO_op (x := .bp 1 0) (σ' := ⟨[], [some [qi a1.Kind, qi a1.N, qs a1.S, .c (cL eS a1.Keys), .c (cL eR_Node a1.Kids)], some [qi 0, qi 0, qs [], .nil, .nil]], []⟩) rfl rfl rfl ?_
 refine WO_op rfl rfl rfl ?_; simp only [putT,st,ev,gt,hp,ofV,constT,intT,lm]
 refine WO_nil (W_seq (W_region ?_))
 refine WO_op (x := .ag [qi a1.Kind, qi a1.N, qs a1.S, .c (cL eS a1.Keys), .c (cL eR_Node a1.Kids)]) rfl rfl rfl ?_
 refine WO_op rfl rfl rfl ?_; simp only [putT,st,ev,gt,hp,ofV,constT,intT,lm]
 obtain ⟨x3, hx3, H⟩ := bnd H
 refine WO_op (x := qi x3) (σ' := ⟨[], [some [qi a1.Kind, qi a1.N, qs a1.S, .c (cL eS a1.Keys), .c (cL eR_Node a1.Kids)], some [qi 0, qi 0, qs [], .nil, .nil]], []⟩) rfl rfl (ev_callG (al := [.ag [qi a1.Kind, qi a1.N, qs a1.S, .c (cL eS a1.Keys), .c (cL eR_Node a1.Kids)], qs a2]) (ls := []) (spec_l3At_ok hx3) rfl rfl rfl rfl rfl (by decide) rfl rfl rfl rfl rfl rfl) ?_; simp only [putT,st,ev,gt,hp,ofV,constT,intT,lm]
 refine WO_op rfl rfl rfl ?_; simp only [putT,st,ev,gt,hp,ofV,constT,intT,lm]
 refine WO_nil (W_seq (W_seq (W_region ?_)))
 iterate 2 (refine WO_op rfl rfl rfl ?_; simp only [putT,st,ev,gt,hp,ofV,constT,intT,lm])
 refine WO_nil ?_
 refine W_cond rfl (fun hc => ?_) (fun hc => ?_)
 ·
  replace H := tr hc H
  refine W_seq (W_region ?_)
  refine WO_op (x := .ag [qi 0, qi 0, qs [], .nil, .nil]) rfl rfl rfl ?_
  refine WO_op (x := .no) (σ' := ⟨[], [some [qi a1.Kind, qi a1.N, qs a1.S, .c (cL eS a1.Keys), .c (cL eR_Node a1.Kids)], some [qi 0, qi 0, qs [], .nil, .nil]], []⟩) rfl rfl rfl ?_
  refine WO_op rfl rfl rfl ?_; simp only [putT,st,ev,gt,hp,ofV,constT,intT,lm]
  refine WO_nil ?_
  refine W_ret ?_
  obtain rfl := Option.some.inj H
  exact told5 rfl rfl rfl rfl rfl rfl
 ·
  replace H := fl hc H
  refine W_skip ?_
  refine W_seq (W_region ?_)
  refine WO_op (x := .bp 0 4) rfl rfl rfl ?_
  refine WO_op (x := .c (cL eR_Node a1.Kids)) rfl rfl rfl ?_
  refine WO_op rfl rfl rfl ?_; simp only [putT,st,ev,gt,hp,ofV,constT,intT,lm]
  obtain ⟨x4, hx4, H⟩ := bnd H
  obtain ⟨y5, hy5, H⟩ := bnd H
  rw [dN_Node_some hy5] at hx4
  refine WO_op rfl rfl (ev_ix (en := eR_Node) hx4 rfl rfl rfl rfl rfl rfl rfl) ?_; simp only [putT,st,ev,gt,hp,ofV,constT,intT,lm]
  refine WO_op (x := .ag [qi y5.Kind, qi y5.N, qs y5.S, .c (cL eS y5.Keys), .c (cL eR_Node y5.Kids)]) rfl rfl rfl ?_; simp only [putT,st,ev,gt,hp,ofV,constT,intT,lm]
  obtain ⟨x6, hx6, H⟩ := bnd H
  refine WO_op (x := .ag [qi x6.Kind, qi x6.N, qs x6.S, .row 0, .row 1]) (σ' := ⟨[], [some [qi a1.Kind, qi a1.N, qs a1.S, .c (cL eS a1.Keys), .c (cL eR_Node a1.Kids)], some [qi 0, qi 0, qs [], .nil, .nil]], [rr 1 eS x6.Keys true, rr 5 eR_Node x6.Kids true]⟩) rfl rfl (ev_callG (al := [.ag [qi y5.Kind, qi y5.N, qs y5.S, .c (cL eS y5.Keys), .c (cL eR_Node y5.Kids)]]) (ls := []) (spec_l3Copy_ok hx6) rfl rfl rfl rfl rfl (by decide) rfl rfl rfl rfl rfl rfl) ?_; simp only [putT,st,ev,gt,hp,ofV,constT,intT,lm]
  refine WO_op (x := .no) (σ' := ⟨[], [some [qi a1.Kind, qi a1.N, qs a1.S, .c (cL eS a1.Keys), .c (cL eR_Node a1.Kids)], some [qi x6.Kind, qi x6.N, qs x6.S, .row 0, .row 1]], [rr 1 eS x6.Keys true, rr 5 eR_Node x6.Kids true]⟩) rfl rfl rfl ?_
  refine WO_op rfl rfl rfl ?_; simp only [putT,st,ev,gt,hp,ofV,constT,intT,lm]
  refine WO_nil ?_
  refine W_ret ?_
  obtain rfl := Option.some.inj H
  exact told5 rfl rfl rfl rfl (fitAs_nz rfl) rfl
theorem spec_l7Way_ok  {a1 : Str} {a2 : Str} {r : Str} (H : spec_l7Way a1 a2 = some r) : R 30 [.c (cS a1) none, .c (cS a2) none] = some (.c (cS r) none, []) := by
 unfold spec_l7Way at H
 refine Fz_walk false 14 rfl rfl rfl Try.func30 rfl (by kernel_rfl) rfl rfl rfl rfl ?_
 simp only [tellVs, tellV, tells, tell, st0, padT, SX.newRow, SX.newBox, List.length_cons, List.length_nil, Nat.reduceAdd, Nat.reduceSub, List.replicate, List.cons_append, List.nil_append, List.foldl_cons, List.foldl_nil]
 refine W_seq (W_region ?_)
 refine WO_op rfl rfl rfl ?_; simp only [putT,st,ev,gt,hp,ofV,constT,intT,lm]
 refine WO_nil (W_seq (W_seq (W_region ?_)))
 refine WO_op rfl rfl rfl ?_; simp only [putT,st,ev,gt,hp,ofV,constT,intT,lm]
 refine WO_op rfl rfl (ev_eql_s rfl rfl rfl) ?_; simp only [putT,st,ev,gt,hp,ofV,constT,intT,lm]
 refine WO_nil ?_
 refine W_cond rfl (fun hc => ?_) (fun hc => ?_)
 ·
  replace H := tr hc H
  refine W_seq (W_region ?_)
  refine WO_op rfl rfl rfl ?_; simp only [putT,st,ev,gt,hp,ofV,constT,intT,lm]
  refine WO_nil ?_
  refine W_ret ?_
  obtain rfl := Option.some.inj H
  exact told3 rfl
 ·
  replace H := fl hc H
  refine W_skip ?_
  refine W_seq (W_seq (W_region ?_))
  refine WO_op rfl rfl rfl ?_; simp only [putT,st,ev,gt,hp,ofV,constT,intT,lm]
  refine WO_op rfl rfl (ev_eql_s rfl rfl rfl) ?_; simp only [putT,st,ev,gt,hp,ofV,constT,intT,lm]
  refine WO_nil ?_
  refine W_cond rfl (fun hc => ?_) (fun hc => ?_)
  ·
   replace H := tr hc H
   refine W_seq (W_region ?_)
   iterate 2 (refine WO_op rfl rfl rfl ?_; simp only [putT,st,ev,gt,hp,ofV,constT,intT,lm])
   refine WO_nil ?_
   refine W_ret ?_
   obtain rfl := Option.some.inj H
   exact told3 rfl
  ·
   replace H := fl hc H
   refine W_skip ?_
   refine W_seq (W_region ?_)
   refine WO_op rfl rfl rfl ?_; simp only [putT,st,ev,gt,hp,ofV,constT,intT,lm]
   obtain ⟨s3, hs3, H⟩ := bnd H
   refine WO_op rfl rfl (ev_cat hs3 rfl rfl rfl) ?_; simp only [putT,st,ev,gt,hp,ofV,constT,intT,lm]
   refine WO_op rfl rfl rfl ?_; simp only [putT,st,ev,gt,hp,ofV,constT,intT,lm]
   obtain ⟨s4, hs4, H⟩ := bnd H
   refine WO_op rfl rfl (ev_cat hs4 rfl rfl rfl) ?_; simp only [putT,st,ev,gt,hp,ofV,constT,intT,lm]
   refine WO_op rfl rfl rfl ?_; simp only [putT,st,ev,gt,hp,ofV,constT,intT,lm]
   refine WO_nil ?_
   refine W_ret ?_
   obtain rfl := Option.some.inj H
   exact told3 rfl
theorem spec_l11Same_ok  {a1 : Node} {a2 : Bool} {a3 : Node} {a4 : Bool} {r : Bool} (H : spec_l11Same a1 a2 a3 a4 = some r) : R 31 [.ag [(cI .i64 a1.Kind, none), (cI .i64 a1.N, none), (cS a1.S, none), (cL eS a1.Keys, none), (cL eR_Node a1.Kids, none)], .c (cB a2) none, .ag [(cI .i64 a3.Kind, none), (cI .i64 a3.N, none), (cS a3.S, none), (cL eS a3.Keys, none), (cL eR_Node a3.Kids, none)], .c (cB a4) none] = some (.c (cB r) none, []) := by
 unfold spec_l11Same at H
 refine Fz_walk false 21 rfl rfl rfl Try.func31 rfl (by kernel_rfl) rfl rfl rfl rfl ?_
 simp only [tellVs, tellV, tells, tell, st0, padT, SX.newRow, SX.newBox, List.length_cons, List.length_nil, Nat.reduceAdd, Nat.reduceSub, List.replicate, List.cons_append, List.nil_append, List.foldl_cons, List.foldl_nil]
 refine W_seq (W_region ?_)
 refine WO_op (x := .bp 0 0) (σ' := ⟨[], [some [qi a1.Kind, qi a1.N, qs a1.S, .c (cL eS a1.Keys), .c (cL eR_Node a1.Kids)]], []⟩) rfl rfl rfl ?_
 refine WO_op (x := .bp 1 0) (σ' := ⟨[], [some [qi a1.Kind, qi a1.N, qs a1.S, .c (cL eS a1.Keys), .c (cL eR_Node a1.Kids)], some [qi a3.Kind, qi a3.N, qs a3.S, .c (cL eS a3.Keys), .c (cL eR_Node a3.Kids)]], []⟩) rfl rfl rfl ?_
 refine WO_op rfl rfl rfl ?_; simp only [putT,st,ev,gt,hp,ofV,constT,intT,lm]
 refine WO_nil (W_seq (W_region ?_))
 iterate 4 (refine WO_op rfl rfl rfl ?_; simp only [putT,st,ev,gt,hp,ofV,constT,intT,lm])
 refine WO_if rfl rfl rfl (fun hc => ?_) (fun hc => ?_)
 ·
  replace H := tr hc H
  simp only [putT,st,ev,gt,hp,ofV,constT,intT,lm]
  iterate 3 (refine WO_want rfl rfl rfl ?_; simp only [putT,st,ev,gt,hp,ofV,constT,intT,lm])
  refine WO_if rfl rfl rfl (fun hc => ?_) (fun hc => ?_)
  ·
   replace H := tr hc H
   simp only [putT,st,ev,gt,hp,ofV,constT,intT,lm]
   iterate 3 refine WO_skip rfl rfl ?_
   refine WO_want (x := qb true) rfl rfl rfl ?_
   refine WO_op (x := qb true) rfl rfl rfl ?_
   refine WO_op rfl rfl rfl ?_; simp only [putT,st,ev,gt,hp,ofV,constT,intT,lm]
   refine WO_nil ?_
   refine W_ret ?_
   obtain rfl := Option.some.inj H
   exact told3 rfl
  ·
   replace H := fl hc H
   refine WO_want (x := .ag [qi a1.Kind, qi a1.N, qs a1.S, .c (cL eS a1.Keys), .c (cL eR_Node a1.Kids)]) rfl rfl rfl ?_
   refine WO_want (x := .ag [qi a3.Kind, qi a3.N, qs a3.S, .c (cL eS a3.Keys), .c (cL eR_Node a3.Kids)]) rfl rfl rfl ?_; simp only [putT,st,ev,gt,hp,ofV,constT,intT,lm]
   obtain ⟨x5, hx5, H⟩ := bnd H
   refine WO_want (x := qb x5) (σ' := ⟨[], [some [qi a1.Kind, qi a1.N, qs a1.S, .c (cL eS a1.Keys), .c (cL eR_Node a1.Kids)], some [qi a3.Kind, qi a3.N, qs a3.S, .c (cL eS a3.Keys), .c (cL eR_Node a3.Kids)]], []⟩) rfl rfl (ev_callG (al := [.ag [qi a1.Kind, qi a1.N, qs a1.S, .c (cL eS a1.Keys), .c (cL eR_Node a1.Kids)], .ag [qi a3.Kind, qi a3.N, qs a3.S, .c (cL eS a3.Keys), .c (cL eR_Node a3.Kids)]]) (ls := []) (spec_TreeSame_ok hx5) rfl rfl rfl rfl rfl (by decide) rfl rfl rfl rfl rfl rfl) ?_; simp only [putT,st,ev,gt,hp,ofV,constT,intT,lm]
   refine WO_want (x := qb x5) rfl rfl rfl ?_
   refine WO_op (x := qb x5) rfl rfl rfl ?_
   refine WO_op rfl rfl rfl ?_; simp only [putT,st,ev,gt,hp,ofV,constT,intT,lm]
   refine WO_nil ?_
   refine W_ret ?_
   obtain rfl := Option.some.inj H
   exact told3 rfl
 ·
  replace H := fl hc H
  simp only [putT,st,ev,gt,hp,ofV,constT,intT,lm]
  iterate 7 refine WO_skip rfl rfl ?_
  refine WO_op (x := qb false) rfl rfl rfl ?_
  refine WO_op rfl rfl rfl ?_; simp only [putT,st,ev,gt,hp,ofV,constT,intT,lm]
  refine WO_nil ?_
  refine W_ret ?_
  obtain rfl := Option.some.inj H
  exact told3 rfl
theorem spec_l11Put_ok  {a1 : Node} {a2 : Str} {a3 : Node} {a4 : Bool} {r : Node} (H : spec_l11Put a1 a2 a3 a4 = some r) : R 32 [.ag [(cI .i64 a1.Kind, none), (cI .i64 a1.N, none), (cS a1.S, none), (cL eS a1.Keys, none), (cL eR_Node a1.Kids, none)], .c (cS a2) none, .ag [(cI .i64 a3.Kind, none), (cI .i64 a3.N, none), (cS a3.S, none), (cL eS a3.Keys, none), (cL eR_Node a3.Kids, none)], .c (cB a4) none] = some (.ag [(cI .i64 r.Kind, none), (cI .i64 r.N, none), (cS r.S, none), (cL eS r.Keys, none), (cL eR_Node r.Kids, none)], []) := by
 unfold spec_l11Put at H
 refine Fz_walk true 16 rfl rfl rfl Try.func32 rfl (by kernel_rfl) rfl rfl rfl rfl ?_
 simp only [tellVs, tellV, tells, tell, st0, padT, SX.newRow, SX.newBox, List.length_cons, List.length_nil, Nat.reduceAdd, Nat.reduceSub, List.replicate, List.cons_append, List.nil_append, List.foldl_cons, List.foldl_nil]
 refine W_seq (W_region ?_)
 refine WO_op (x := .bp 0 0) (σ' := ⟨[], [some [qi a1.Kind, qi a1.N, qs a1.S, .c (cL eS a1.Keys), .c (cL eR_Node a1.Kids)]], []⟩) rfl rfl rfl ?_
 refine WO_op (x := .bp 1 0) (σ' := ⟨[], [some [qi a1.Kind, qi a1.N, qs a1.S, .c (cL eS a1.Keys), .c (cL eR_Node a1.Kids)], some [qi a3.Kind, qi a3.N, qs a3.S, .c (cL eS a3.Keys), .c (cL eR_Node a3.Kids)]], []⟩) rfl rfl rfl ?_
 refine WO_op (x := .bp 2 0) (σ' := ⟨[], [some [qi a1.Kind, qi a1.N, qs a1.S, .c (cL eS a1.Keys), .c (cL eR_Node a1.Kids)], some [qi a3.Kind, qi a3.N, qs a3.S, .c (cL eS a3.Keys), .c (cL eR_Node a3.Kids)], some [qi 0, qi 0, qs [], .nil, .nil]], []⟩) rfl rfl rfl ?_; simp only [putT,st,ev,gt,hp,ofV,constT,intT,lm]
 refine WO_nil (W_seq (W_seq (W_region ?_)))
 iterate 2 (refine WO_op rfl rfl rfl ?_; simp only [putT,st,ev,gt,hp,ofV,constT,intT,lm])
 refine WO_nil ?_
 refine W_cond rfl (fun hc => ?_) (fun hc => ?_)
 ·
  replace H := tr hc H
  refine W_seq (W_region ?_)
  refine WO_op (x := .ag [qi a1.Kind, qi a1.N, qs a1.S, .c (cL eS a1.Keys), .c (cL eR_Node a1.Kids)]) rfl rfl rfl ?_
  refine WO_op (x := .no) (σ' := ⟨[], [some [qi a1.Kind, qi a1.N, qs a1.S, .c (cL eS a1.Keys), .c (cL eR_Node a1.Kids)], some [qi a3.Kind, qi a3.N, qs a3.S, .c (cL eS a3.Keys), .c (cL eR_Node a3.Kids)], some [qi a1.Kind, qi a1.N, qs a1.S, .c (cL eS a1.Keys), .c (cL eR_Node a1.Kids)]], []⟩) rfl rfl rfl ?_; simp only [putT,st,ev,gt,hp,ofV,constT,intT,lm]
  refine WO_nil ?_
  refine W_ret ?_
  obtain rfl := Option.some.inj H
  exact told5w rfl rfl rfl rfl (fitAs_nz rfl) rfl rfl
 ·
  replace H := fl hc H
  refine W_skip ?_
  refine W_seq (W_region ?_)
  refine WO_op (x := .ag [qi a1.Kind, qi a1.N, qs a1.S, .c (cL eS a1.Keys), .c (cL eR_Node a1.Kids)]) rfl rfl rfl ?_
  refine WO_op rfl rfl rfl ?_
  refine WO_op (x := .ag [qi a3.Kind, qi a3.N, qs a3.S, .c (cL eS a3.Keys), .c (cL eR_Node a3.Kids)]) rfl rfl rfl ?_; simp only [putT,st,ev,gt,hp,ofV,constT,intT,lm]
  obtain ⟨x5, hx5, H⟩ := bnd H
  refine WO_op (x := .ag [qi x5.Kind, qi x5.N, qs x5.S, .row 0, .row 1]) (σ' := ⟨[], [some [qi a1.Kind, qi a1.N, qs a1.S, .c (cL eS a1.Keys), .c (cL eR_Node a1.Kids)], some [qi a3.Kind, qi a3.N, qs a3.S, .c (cL eS a3.Keys), .c (cL eR_Node a3.Kids)], some [qi 0, qi 0, qs [], .nil, .nil]], [rr 1 eS x5.Keys true, rr 5 eR_Node x5.Kids true]⟩) rfl rfl (ev_callG (al := [.ag [qi a1.Kind, qi a1.N, qs a1.S, .c (cL eS a1.Keys), .c (cL eR_Node a1.Kids)], qs a2, .ag [qi a3.Kind, qi a3.N, qs a3.S, .c (cL eS a3.Keys), .c (cL eR_Node a3.Kids)]]) (ls := []) (spec_Set_ok hx5) rfl rfl rfl rfl rfl (by decide) rfl rfl rfl rfl rfl rfl) ?_; simp only [putT,st,ev,gt,hp,ofV,constT,intT,lm]
  refine WO_op (x := .no) (σ' := ⟨[], [some [qi a1.Kind, qi a1.N, qs a1.S, .c (cL eS a1.Keys), .c (cL eR_Node a1.Kids)], some [qi a3.Kind, qi a3.N, qs a3.S, .c (cL eS a3.Keys), .c (cL eR_Node a3.Kids)], some [qi x5.Kind, qi x5.N, qs x5.S, .row 0, .row 1]], [rr 1 eS x5.Keys true, rr 5 eR_Node x5.Kids true]⟩) rfl rfl rfl ?_; simp only [putT,st,ev,gt,hp,ofV,constT,intT,lm]
  refine WO_nil ?_
  refine W_ret ?_
  obtain rfl := Option.some.inj H
  exact told5w rfl rfl rfl rfl (fitAs_nz rfl) rfl rfl
end Go.Pu
