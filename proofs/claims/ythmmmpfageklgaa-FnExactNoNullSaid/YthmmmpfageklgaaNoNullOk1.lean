import Derived.Test.YthmmmpfageklgaaNoNullOk0
set_option linter.unusedVariables false
set_option linter.unusedSimpArgs false
set_option synthInstance.maxSize 1000000000
set_option maxRecDepth 20000
set_option maxHeartbeats 20000000
namespace Go.Pu
open Go Go.SX Go.Nt Go.Proofs
theorem impl_shapeOk_ok  {a1 : Node} {r : Bool} (H : impl_shapeOk a1 = some r) : R 29 [.ag [(cI .i64 a1.Kind, none), (cI .i64 a1.N, none), (cS a1.S, none), (cL eS a1.Keys, none), (cL eR_Node a1.Kids, none)]] = some (.c (cB r) none, []) := by
 unfold impl_shapeOk at H
 refine Fz_walk 116 rfl rfl Try.func29 rfl (by kernel_rfl) rfl rfl rfl rfl ?_
 simp only [tellVs, tellV, tells, tell, st0, padT, SX.newRow, SX.newBox, List.length_cons, List.length_nil, Nat.reduceAdd, Nat.reduceSub, List.replicate, List.cons_append, List.nil_append, List.foldl_cons, List.foldl_nil]
 refine W_seq (W_region ?_)
 refine WO_op (x := .bp 0 0) (σ' := ⟨[], [some [qi a1.Kind, qi a1.N, qs a1.S, .c (cL eS a1.Keys), .c (cL eR_Node a1.Kids)]], []⟩) rfl rfl rfl ?_
 refine WO_op rfl rfl rfl ?_; simp only [putT,st,ev,gt,hp,ofV,constT,intT,lm]
 refine WO_nil (W_seq (W_region ?_))
 refine WO_op (x := .bp 0 0) rfl rfl rfl ?_
 refine WO_op (x := qi a1.Kind) rfl rfl rfl ?_
 refine WO_op (x := .ag [qi a1.Kind, qi 0, qs [], .nil, .nil]) rfl rfl rfl ?_
 refine WO_op (x := .bp 1 0) (σ' := ⟨[], [some [qi a1.Kind, qi a1.N, qs a1.S, .c (cL eS a1.Keys), .c (cL eR_Node a1.Kids)], some [qi 0, qi 0, qs [], .nil, .nil]], []⟩) rfl rfl rfl ?_; simp only [putT,st,ev,gt,hp,ofV,constT,intT,lm]
 refine WO_op (x := .no) (σ' := ⟨[], [some [qi a1.Kind, qi a1.N, qs a1.S, .c (cL eS a1.Keys), .c (cL eR_Node a1.Kids)], some [qi a1.Kind, qi 0, qs [], .nil, .nil]], []⟩) rfl rfl rfl ?_; simp only [putT,st,ev,gt,hp,ofV,constT,intT,lm]
 refine WO_nil (W_seq (W_seq (W_region ?_)))
 refine WO_op (x := .bp 0 0) rfl rfl rfl ?_
 refine WO_op (x := qi a1.Kind) rfl rfl rfl ?_; simp only [putT,st,ev,gt,hp,ofV,constT,intT,lm]
 refine WO_nil ?_
 refine W_block ?_
 refine W_seq (W_region ?_)
 iterate 2 (refine WO_op rfl rfl rfl ?_; simp only [putT,st,ev,gt,hp,ofV,constT,intT,lm])
 refine WO_nil ?_
 refine W_cond rfl (fun hc => ?_) (fun hc => ?_)
 ·
  replace H := tr hc H
  refine W_skip ?_
  refine W_seq (W_seq (W_region ?_))
  refine WO_op (x := .bp 1 3) rfl rfl rfl ?_
  refine WO_op (x := .nil) rfl rfl rfl ?_; simp only [putT,st,ev,gt,hp,ofV,constT,intT,lm]
  iterate 2 (refine WO_op rfl rfl rfl ?_; simp only [putT,st,ev,gt,hp,ofV,constT,intT,lm])
  refine WO_nil ?_
  refine W_block ?_
  obtain ⟨t2, ht2, H⟩ := bnd H
  refine loop_rule (ls := []) 1 (fun t2 : Unit => ⟨[.no, .bp 0 0, .no, .bp 1 0], [some [qi a1.Kind, qi a1.N, qs a1.S, .c (cL eS a1.Keys), .c (cL eR_Node a1.Kids)], some [qi a1.Kind, qi 0, qs [], .nil, .nil]], []⟩) (fun t => t2 = t) ⟨[.no, .bp 0 0, .no, .bp 1 0, .no, .no, .no, .no, .no, .no, .no, .no, .no, .no, .no, .no, .no, .no, .no, .no, .no, .no, .no, .no, .no, .no, .no, .no, .no, .no, .no, .no, .no, .no, .no, .no, .no, .no, .no, .no, .no, .no, .no, .no, .no, .no, .no, .no, .no, .no, .no, .no, .no, .no, .no, .no, .no, .no, .no, .no, .no, .nil, qi 0, qi 0], [some [qi a1.Kind, qi a1.N, qs a1.S, .c (cL eS a1.Keys), .c (cL eR_Node a1.Kids)], some [qi a1.Kind, qi 0, qs [], .nil, .nil]], []⟩ (by repeat (first | exact mono_told | refine mono_seq ?_ | refine mono_blk ?_ | refine mono_lp ?_)) (le_intro [0, 1] [] (by decide) (by decide) rfl (by simp [leS, leT, leA, gt]) (by simp [leB, leT, leA]) (by simp [leR])) ?_ ?_
  ·
   rintro t1 rfl
   refine W_seq (W_region ?_)
   refine WO_op (x := .bp 0 1) rfl rfl rfl ?_
   refine WO_op (x := qi a1.N) rfl rfl rfl ?_
   refine WO_op (x := .bp 1 1) rfl rfl rfl ?_
   refine WO_op (x := qi 0) rfl rfl rfl ?_; simp only [putT,st,ev,gt,hp,ofV,constT,intT,lm]
   iterate 2 (refine WO_op rfl rfl rfl ?_; simp only [putT,st,ev,gt,hp,ofV,constT,intT,lm])
   refine WO_if rfl rfl rfl (fun hc => ?_) (fun hc => ?_)
   ·
    replace H := tr hc H
    refine WO_want (x := .bp 0 2) rfl rfl rfl ?_
    refine WO_want (x := qs a1.S) rfl rfl rfl ?_
    refine WO_want (x := .bp 1 2) rfl rfl rfl ?_; simp only [putT,st,ev,gt,hp,ofV,constT,intT,lm]
    refine WO_want (x := qs []) rfl rfl rfl ?_; simp only [putT,st,ev,gt,hp,ofV,constT,intT,lm]
    refine WO_want rfl rfl (ev_eql_s rfl rfl rfl) ?_; simp only [putT,st,ev,gt,hp,ofV,constT,intT,lm]
    refine WO_op (x := qb (a1.S == [])) rfl rfl rfl ?_
    refine WO_op rfl rfl rfl ?_; simp only [putT,st,ev,gt,hp,ofV,constT,intT,lm]
    refine WO_if rfl rfl rfl (fun hc => ?_) (fun hc => ?_)
    ·
     replace H := tr hc H
     refine WO_want (x := .bp 0 3) rfl rfl rfl ?_
     refine WO_want (x := .c (cL eS a1.Keys)) rfl rfl rfl ?_
     refine WO_want rfl rfl rfl ?_; simp only [putT,st,ev,gt,hp,ofV,constT,intT,lm]
     refine WO_want (x := .bp 1 3) rfl rfl rfl ?_
     refine WO_want (x := .nil) rfl rfl rfl ?_; simp only [putT,st,ev,gt,hp,ofV,constT,intT,lm]
     iterate 2 (refine WO_want rfl rfl rfl ?_; simp only [putT,st,ev,gt,hp,ofV,constT,intT,lm])
     refine WO_op (x := qb ((a1.Keys.length : Int) == 0)) rfl rfl rfl ?_
     refine WO_op rfl rfl rfl ?_; simp only [putT,st,ev,gt,hp,ofV,constT,intT,lm]
     refine WO_if rfl rfl rfl (fun hc => ?_) (fun hc => ?_)
     ·
      replace H := tr hc H
      refine WO_want (x := .bp 0 4) rfl rfl rfl ?_
      refine WO_want (x := .c (cL eR_Node a1.Kids)) rfl rfl rfl ?_
      refine WO_want rfl rfl rfl ?_; simp only [putT,st,ev,gt,hp,ofV,constT,intT,lm]
      refine WO_want (x := .bp 1 4) rfl rfl rfl ?_
      refine WO_want (x := .nil) rfl rfl rfl ?_; simp only [putT,st,ev,gt,hp,ofV,constT,intT,lm]
      iterate 2 (refine WO_want rfl rfl rfl ?_; simp only [putT,st,ev,gt,hp,ofV,constT,intT,lm])
      refine WO_op (x := qb ((a1.Kids.length : Int) == 0)) rfl rfl rfl ?_
      refine WO_op rfl rfl rfl ?_; simp only [putT,st,ev,gt,hp,ofV,constT,intT,lm]
      refine WO_nil ?_
      refine W_ret ?_
      obtain rfl := Option.some.inj H
      exact told3 rfl
     ·
      replace H := fl hc H
      simp only [putT,st,ev,gt,hp,ofV,constT,intT,lm]
      iterate 7 refine WO_skip rfl rfl ?_
      refine WO_op (x := qb false) rfl rfl rfl ?_
      refine WO_op rfl rfl rfl ?_; simp only [putT,st,ev,gt,hp,ofV,constT,intT,lm]
      refine WO_nil ?_
      refine W_ret ?_
      obtain rfl := Option.some.inj H
      exact told3 rfl
    ·
     replace H := fl hc H
     simp only [putT,st,ev,gt,hp,ofV,constT,intT,lm]
     iterate 7 refine WO_skip rfl rfl ?_
     refine WO_op (x := qb false) rfl rfl rfl ?_
     refine WO_op rfl rfl rfl ?_; simp only [putT,st,ev,gt,hp,ofV,constT,intT,lm]
     iterate 7 refine WO_skip rfl rfl ?_
     refine WO_op (x := qb false) rfl rfl rfl ?_
     refine WO_op rfl rfl rfl ?_; simp only [putT,st,ev,gt,hp,ofV,constT,intT,lm]
     refine WO_nil ?_
     refine W_ret ?_
     obtain rfl := Option.some.inj H
     exact told3 rfl
   ·
    replace H := fl hc H
    simp only [putT,st,ev,gt,hp,ofV,constT,intT,lm]
    iterate 5 refine WO_skip rfl rfl ?_
    refine WO_op (x := qb false) rfl rfl rfl ?_
    refine WO_op rfl rfl rfl ?_; simp only [putT,st,ev,gt,hp,ofV,constT,intT,lm]
    iterate 7 refine WO_skip rfl rfl ?_
    refine WO_op (x := qb false) rfl rfl rfl ?_
    refine WO_op rfl rfl rfl ?_; simp only [putT,st,ev,gt,hp,ofV,constT,intT,lm]
    iterate 7 refine WO_skip rfl rfl ?_
    refine WO_op (x := qb false) rfl rfl rfl ?_
    refine WO_op rfl rfl rfl ?_; simp only [putT,st,ev,gt,hp,ofV,constT,intT,lm]
    refine WO_nil ?_
    refine W_ret ?_
    obtain rfl := Option.some.inj H
    exact told3 rfl
  ·
   intro V1 hV1 hW1 hX1
   refine (show ∀ s', impl_shapeOk.l0 = some s' → s' = t2 → (V1 ⟨[.no, .bp 0 0, .no, .bp 1 0, .no, .no, .no, .no, .no, .no, .no, .no, .no, .no, .no, .no, .no, .no, .no, .no, .no, .no, .no, .no, .no, .no, .no, .no, .no, .no, .no, .no, .no, .no, .no, .no, .no, .no, .no, .no, .no, .no, .no, .no, .no, .no, .no, .no, .no, .no, .no, .no, .no, .no, .no, .no, .no, .no, .no, .no, .no, .nil, qi 0, qi 0], [some [qi a1.Kind, qi a1.N, qs a1.S, .c (cL eS a1.Keys), .c (cL eR_Node a1.Kids)], some [qi a1.Kind, qi 0, qs [], .nil, .nil]], []⟩) from ?_) _ ht2 rfl
   intro  s' H1 e
   unfold impl_shapeOk.l0 at H1
   subst e
   refine hV1 _ ?_
   refine W_seq (W_region ?_)
   refine WO_op (x := qb false) rfl rfl rfl ?_; simp only [putT,st,ev,gt,hp,ofV,constT,intT,lm]
   refine WO_nil (W_seq ?_)
   refine W_cond (t := false) rfl (fun h => by cases h) (fun _ => ?_)
   refine W_exit ?_
   obtain rfl := Option.some.inj H1
   exact hX1 () _ rfl (le_intro [0, 1] [] (by decide) (by decide) rfl (by simp [leS, leT, leA, gt]) (by simp [leB, leT, leA]) (by simp [leR]))
 ·
  replace H := fl hc H
  refine W_seq (W_region ?_)
  iterate 2 (refine WO_op rfl rfl rfl ?_; simp only [putT,st,ev,gt,hp,ofV,constT,intT,lm])
  refine WO_nil ?_
  refine W_cond rfl (fun hc => ?_) (fun hc => ?_)
  ·
   replace H := tr hc H
   refine W_seq (W_seq (W_region ?_))
   refine WO_op (x := .bp 0 1) rfl rfl rfl ?_
   refine WO_op (x := qi a1.N) rfl rfl rfl ?_; simp only [putT,st,ev,gt,hp,ofV,constT,intT,lm]
   obtain ⟨x4, hx4, H⟩ := bnd H
   refine WO_op (x := qb x4) (σ' := ⟨[], [some [qi a1.Kind, qi a1.N, qs a1.S, .c (cL eS a1.Keys), .c (cL eR_Node a1.Kids)], some [qi a1.Kind, qi 0, qs [], .nil, .nil]], []⟩) rfl rfl (ev_callG (al := [qi a1.N, qi 0, qi 1]) (ls := []) (impl_from_ok hx4) rfl rfl rfl rfl rfl (by decide) rfl rfl rfl rfl rfl rfl) ?_; simp only [putT,st,ev,gt,hp,ofV,constT,intT,lm]
   refine WO_op rfl rfl rfl ?_; simp only [putT,st,ev,gt,hp,ofV,constT,intT,lm]
   refine WO_nil ?_
   refine W_cond rfl (fun hc => ?_) (fun hc => ?_)
   ·
    replace H := tr hc H
    refine W_seq (W_region ?_)
    refine WO_op rfl rfl rfl ?_; simp only [putT,st,ev,gt,hp,ofV,constT,intT,lm]
    refine WO_nil ?_
    refine W_ret ?_
    obtain rfl := Option.some.inj H
    exact told3 rfl
   ·
    replace H := fl hc H
    refine W_skip ?_
    refine W_region ?_
    refine WO_op (x := .bp 0 1) rfl rfl rfl ?_
    refine WO_op (x := qi a1.N) rfl rfl rfl ?_
    refine WO_op (x := .bp 1 1) rfl rfl rfl ?_
    refine WO_op (x := .no) (σ' := ⟨[], [some [qi a1.Kind, qi a1.N, qs a1.S, .c (cL eS a1.Keys), .c (cL eR_Node a1.Kids)], some [qi a1.Kind, qi a1.N, qs [], .nil, .nil]], []⟩) rfl rfl rfl ?_; simp only [putT,st,ev,gt,hp,ofV,constT,intT,lm]
    refine WO_nil (W_seq (W_seq (W_region ?_)))
    refine WO_op (x := .bp 1 3) rfl rfl rfl ?_
    refine WO_op (x := .nil) rfl rfl rfl ?_; simp only [putT,st,ev,gt,hp,ofV,constT,intT,lm]
    iterate 2 (refine WO_op rfl rfl rfl ?_; simp only [putT,st,ev,gt,hp,ofV,constT,intT,lm])
    refine WO_nil ?_
    refine W_block ?_
    obtain ⟨t5, ht5, H⟩ := bnd H
    refine loop_rule (ls := []) 1 (fun t5 : Unit => ⟨[.no, .bp 0 0, .no, .bp 1 0], [some [qi a1.Kind, qi a1.N, qs a1.S, .c (cL eS a1.Keys), .c (cL eR_Node a1.Kids)], some [qi a1.Kind, qi a1.N, qs [], .nil, .nil]], []⟩) (fun t => t5 = t) ⟨[.no, .bp 0 0, .no, .bp 1 0, .no, .no, .no, .no, .no, .no, .no, .no, .no, .no, .no, .no, .no, .no, .no, .no, .no, .no, .no, .no, .no, .no, .no, .no, .no, .no, .no, .no, .no, .no, .no, .no, .no, .no, .no, .no, .no, .no, .no, .no, .no, .no, .no, .no, .no, .no, .no, .no, .no, .no, .no, .no, .no, .no, .no, .no, .no, .nil, qi 0, qi 0], [some [qi a1.Kind, qi a1.N, qs a1.S, .c (cL eS a1.Keys), .c (cL eR_Node a1.Kids)], some [qi a1.Kind, qi a1.N, qs [], .nil, .nil]], []⟩ (by repeat (first | exact mono_told | refine mono_seq ?_ | refine mono_blk ?_ | refine mono_lp ?_)) (le_intro [0, 1] [] (by decide) (by decide) rfl (by simp [leS, leT, leA, gt]) (by simp [leB, leT, leA]) (by simp [leR])) ?_ ?_
    ·
     rintro t1 rfl
     refine W_seq (W_region ?_)
     refine WO_op (x := .bp 0 1) rfl rfl rfl ?_
     refine WO_op (x := qi a1.N) rfl rfl rfl ?_
     refine WO_op (x := .bp 1 1) rfl rfl rfl ?_
     refine WO_op (x := qi a1.N) rfl rfl rfl ?_; simp only [putT,st,ev,gt,hp,ofV,constT,intT,lm]
     iterate 2 (refine WO_op rfl rfl rfl ?_; simp only [putT,st,ev,gt,hp,ofV,constT,intT,lm])
     refine WO_if rfl rfl rfl (fun hc => ?_) (fun hc => ?_)
     ·
      replace H := tr hc H
      refine WO_want (x := .bp 0 2) rfl rfl rfl ?_
      refine WO_want (x := qs a1.S) rfl rfl rfl ?_
      refine WO_want (x := .bp 1 2) rfl rfl rfl ?_; simp only [putT,st,ev,gt,hp,ofV,constT,intT,lm]
      refine WO_want (x := qs []) rfl rfl rfl ?_; simp only [putT,st,ev,gt,hp,ofV,constT,intT,lm]
      refine WO_want rfl rfl (ev_eql_s rfl rfl rfl) ?_; simp only [putT,st,ev,gt,hp,ofV,constT,intT,lm]
      refine WO_op (x := qb (a1.S == [])) rfl rfl rfl ?_
      refine WO_op rfl rfl rfl ?_; simp only [putT,st,ev,gt,hp,ofV,constT,intT,lm]
      refine WO_if rfl rfl rfl (fun hc => ?_) (fun hc => ?_)
      ·
       replace H := tr hc H
       refine WO_want (x := .bp 0 3) rfl rfl rfl ?_
       refine WO_want (x := .c (cL eS a1.Keys)) rfl rfl rfl ?_
       refine WO_want rfl rfl rfl ?_; simp only [putT,st,ev,gt,hp,ofV,constT,intT,lm]
       refine WO_want (x := .bp 1 3) rfl rfl rfl ?_
       refine WO_want (x := .nil) rfl rfl rfl ?_; simp only [putT,st,ev,gt,hp,ofV,constT,intT,lm]
       iterate 2 (refine WO_want rfl rfl rfl ?_; simp only [putT,st,ev,gt,hp,ofV,constT,intT,lm])
       refine WO_op (x := qb ((a1.Keys.length : Int) == 0)) rfl rfl rfl ?_
       refine WO_op rfl rfl rfl ?_; simp only [putT,st,ev,gt,hp,ofV,constT,intT,lm]
       refine WO_if rfl rfl rfl (fun hc => ?_) (fun hc => ?_)
       ·
        replace H := tr hc H
        refine WO_want (x := .bp 0 4) rfl rfl rfl ?_
        refine WO_want (x := .c (cL eR_Node a1.Kids)) rfl rfl rfl ?_
        refine WO_want rfl rfl rfl ?_; simp only [putT,st,ev,gt,hp,ofV,constT,intT,lm]
        refine WO_want (x := .bp 1 4) rfl rfl rfl ?_
        refine WO_want (x := .nil) rfl rfl rfl ?_; simp only [putT,st,ev,gt,hp,ofV,constT,intT,lm]
        iterate 2 (refine WO_want rfl rfl rfl ?_; simp only [putT,st,ev,gt,hp,ofV,constT,intT,lm])
        refine WO_op (x := qb ((a1.Kids.length : Int) == 0)) rfl rfl rfl ?_
        refine WO_op rfl rfl rfl ?_; simp only [putT,st,ev,gt,hp,ofV,constT,intT,lm]
        refine WO_nil ?_
        refine W_ret ?_
        obtain rfl := Option.some.inj H
        exact told3 rfl
       ·
        replace H := fl hc H
        simp only [putT,st,ev,gt,hp,ofV,constT,intT,lm]
        iterate 7 refine WO_skip rfl rfl ?_
        refine WO_op (x := qb false) rfl rfl rfl ?_
        refine WO_op rfl rfl rfl ?_; simp only [putT,st,ev,gt,hp,ofV,constT,intT,lm]
        refine WO_nil ?_
        refine W_ret ?_
        obtain rfl := Option.some.inj H
        exact told3 rfl
      ·
       replace H := fl hc H
       simp only [putT,st,ev,gt,hp,ofV,constT,intT,lm]
       iterate 7 refine WO_skip rfl rfl ?_
       refine WO_op (x := qb false) rfl rfl rfl ?_
       refine WO_op rfl rfl rfl ?_; simp only [putT,st,ev,gt,hp,ofV,constT,intT,lm]
       iterate 7 refine WO_skip rfl rfl ?_
       refine WO_op (x := qb false) rfl rfl rfl ?_
       refine WO_op rfl rfl rfl ?_; simp only [putT,st,ev,gt,hp,ofV,constT,intT,lm]
       refine WO_nil ?_
       refine W_ret ?_
       obtain rfl := Option.some.inj H
       exact told3 rfl
     ·
      replace H := fl hc H
      simp only [putT,st,ev,gt,hp,ofV,constT,intT,lm]
      iterate 5 refine WO_skip rfl rfl ?_
      refine WO_op (x := qb false) rfl rfl rfl ?_
      refine WO_op rfl rfl rfl ?_; simp only [putT,st,ev,gt,hp,ofV,constT,intT,lm]
      iterate 7 refine WO_skip rfl rfl ?_
      refine WO_op (x := qb false) rfl rfl rfl ?_
      refine WO_op rfl rfl rfl ?_; simp only [putT,st,ev,gt,hp,ofV,constT,intT,lm]
      iterate 7 refine WO_skip rfl rfl ?_
      refine WO_op (x := qb false) rfl rfl rfl ?_
      refine WO_op rfl rfl rfl ?_; simp only [putT,st,ev,gt,hp,ofV,constT,intT,lm]
      refine WO_nil ?_
      refine W_ret ?_
      obtain rfl := Option.some.inj H
      exact told3 rfl
    ·
     intro V1 hV1 hW1 hX1
     refine (show ∀ s', impl_shapeOk.l1 = some s' → s' = t5 → (V1 ⟨[.no, .bp 0 0, .no, .bp 1 0, .no, .no, .no, .no, .no, .no, .no, .no, .no, .no, .no, .no, .no, .no, .no, .no, .no, .no, .no, .no, .no, .no, .no, .no, .no, .no, .no, .no, .no, .no, .no, .no, .no, .no, .no, .no, .no, .no, .no, .no, .no, .no, .no, .no, .no, .no, .no, .no, .no, .no, .no, .no, .no, .no, .no, .no, .no, .nil, qi 0, qi 0], [some [qi a1.Kind, qi a1.N, qs a1.S, .c (cL eS a1.Keys), .c (cL eR_Node a1.Kids)], some [qi a1.Kind, qi a1.N, qs [], .nil, .nil]], []⟩) from ?_) _ ht5 rfl
     intro  s' H1 e
     unfold impl_shapeOk.l1 at H1
     subst e
     refine hV1 _ ?_
     refine W_seq (W_region ?_)
     refine WO_op (x := qb false) rfl rfl rfl ?_; simp only [putT,st,ev,gt,hp,ofV,constT,intT,lm]
     refine WO_nil (W_seq ?_)
     refine W_cond (t := false) rfl (fun h => by cases h) (fun _ => ?_)
     refine W_exit ?_
     obtain rfl := Option.some.inj H1
     exact hX1 () _ rfl (le_intro [0, 1] [] (by decide) (by decide) rfl (by simp [leS, leT, leA, gt]) (by simp [leB, leT, leA]) (by simp [leR]))
  ·
   replace H := fl hc H
   refine W_seq (W_region ?_)
   iterate 2 (refine WO_op rfl rfl rfl ?_; simp only [putT,st,ev,gt,hp,ofV,constT,intT,lm])
   refine WO_nil ?_
   refine W_cond rfl (fun hc => ?_) (fun hc => ?_)
   ·
    replace H := tr hc H
    refine W_seq (W_seq (W_region ?_))
    refine WO_op (x := .bp 0 1) rfl rfl rfl ?_
    refine WO_op (x := qi a1.N) rfl rfl rfl ?_; simp only [putT,st,ev,gt,hp,ofV,constT,intT,lm]
    obtain ⟨x7, hx7, H⟩ := bnd H
    refine WO_op (x := qb x7) (σ' := ⟨[], [some [qi a1.Kind, qi a1.N, qs a1.S, .c (cL eS a1.Keys), .c (cL eR_Node a1.Kids)], some [qi a1.Kind, qi 0, qs [], .nil, .nil]], []⟩) rfl rfl (ev_callG (al := [qi a1.N, qi (-1000000000000), qi 1000000000000]) (ls := []) (impl_from_ok hx7) rfl rfl rfl rfl rfl (by decide) rfl rfl rfl rfl rfl rfl) ?_; simp only [putT,st,ev,gt,hp,ofV,constT,intT,lm]
    refine WO_op rfl rfl rfl ?_; simp only [putT,st,ev,gt,hp,ofV,constT,intT,lm]
    refine WO_nil ?_
    refine W_cond rfl (fun hc => ?_) (fun hc => ?_)
    ·
     replace H := tr hc H
     refine W_seq (W_region ?_)
     refine WO_op rfl rfl rfl ?_; simp only [putT,st,ev,gt,hp,ofV,constT,intT,lm]
     refine WO_nil ?_
     refine W_ret ?_
     obtain rfl := Option.some.inj H
     exact told3 rfl
    ·
     replace H := fl hc H
     refine W_skip ?_
     refine W_region ?_
     refine WO_op (x := .bp 0 1) rfl rfl rfl ?_
     refine WO_op (x := qi a1.N) rfl rfl rfl ?_
     refine WO_op (x := .bp 1 1) rfl rfl rfl ?_
     refine WO_op (x := .no) (σ' := ⟨[], [some [qi a1.Kind, qi a1.N, qs a1.S, .c (cL eS a1.Keys), .c (cL eR_Node a1.Kids)], some [qi a1.Kind, qi a1.N, qs [], .nil, .nil]], []⟩) rfl rfl rfl ?_; simp only [putT,st,ev,gt,hp,ofV,constT,intT,lm]
     refine WO_nil (W_seq (W_seq (W_region ?_)))
     refine WO_op (x := .bp 1 3) rfl rfl rfl ?_
     refine WO_op (x := .nil) rfl rfl rfl ?_; simp only [putT,st,ev,gt,hp,ofV,constT,intT,lm]
     iterate 2 (refine WO_op rfl rfl rfl ?_; simp only [putT,st,ev,gt,hp,ofV,constT,intT,lm])
     refine WO_nil ?_
     refine W_block ?_
     obtain ⟨t8, ht8, H⟩ := bnd H
     refine loop_rule (ls := []) 1 (fun t8 : Unit => ⟨[.no, .bp 0 0, .no, .bp 1 0], [some [qi a1.Kind, qi a1.N, qs a1.S, .c (cL eS a1.Keys), .c (cL eR_Node a1.Kids)], some [qi a1.Kind, qi a1.N, qs [], .nil, .nil]], []⟩) (fun t => t8 = t) ⟨[.no, .bp 0 0, .no, .bp 1 0, .no, .no, .no, .no, .no, .no, .no, .no, .no, .no, .no, .no, .no, .no, .no, .no, .no, .no, .no, .no, .no, .no, .no, .no, .no, .no, .no, .no, .no, .no, .no, .no, .no, .no, .no, .no, .no, .no, .no, .no, .no, .no, .no, .no, .no, .no, .no, .no, .no, .no, .no, .no, .no, .no, .no, .no, .no, .nil, qi 0, qi 0], [some [qi a1.Kind, qi a1.N, qs a1.S, .c (cL eS a1.Keys), .c (cL eR_Node a1.Kids)], some [qi a1.Kind, qi a1.N, qs [], .nil, .nil]], []⟩ (by repeat (first | exact mono_told | refine mono_seq ?_ | refine mono_blk ?_ | refine mono_lp ?_)) (le_intro [0, 1] [] (by decide) (by decide) rfl (by simp [leS, leT, leA, gt]) (by simp [leB, leT, leA]) (by simp [leR])) ?_ ?_
     ·
      rintro t1 rfl
      refine W_seq (W_region ?_)
      refine WO_op (x := .bp 0 1) rfl rfl rfl ?_
      refine WO_op (x := qi a1.N) rfl rfl rfl ?_
      refine WO_op (x := .bp 1 1) rfl rfl rfl ?_
      refine WO_op (x := qi a1.N) rfl rfl rfl ?_; simp only [putT,st,ev,gt,hp,ofV,constT,intT,lm]
      iterate 2 (refine WO_op rfl rfl rfl ?_; simp only [putT,st,ev,gt,hp,ofV,constT,intT,lm])
      refine WO_if rfl rfl rfl (fun hc => ?_) (fun hc => ?_)
      ·
       replace H := tr hc H
       refine WO_want (x := .bp 0 2) rfl rfl rfl ?_
       refine WO_want (x := qs a1.S) rfl rfl rfl ?_
       refine WO_want (x := .bp 1 2) rfl rfl rfl ?_; simp only [putT,st,ev,gt,hp,ofV,constT,intT,lm]
       refine WO_want (x := qs []) rfl rfl rfl ?_; simp only [putT,st,ev,gt,hp,ofV,constT,intT,lm]
       refine WO_want rfl rfl (ev_eql_s rfl rfl rfl) ?_; simp only [putT,st,ev,gt,hp,ofV,constT,intT,lm]
       refine WO_op (x := qb (a1.S == [])) rfl rfl rfl ?_
       refine WO_op rfl rfl rfl ?_; simp only [putT,st,ev,gt,hp,ofV,constT,intT,lm]
       refine WO_if rfl rfl rfl (fun hc => ?_) (fun hc => ?_)
       ·
        replace H := tr hc H
        refine WO_want (x := .bp 0 3) rfl rfl rfl ?_
        refine WO_want (x := .c (cL eS a1.Keys)) rfl rfl rfl ?_
        refine WO_want rfl rfl rfl ?_; simp only [putT,st,ev,gt,hp,ofV,constT,intT,lm]
        refine WO_want (x := .bp 1 3) rfl rfl rfl ?_
        refine WO_want (x := .nil) rfl rfl rfl ?_; simp only [putT,st,ev,gt,hp,ofV,constT,intT,lm]
        iterate 2 (refine WO_want rfl rfl rfl ?_; simp only [putT,st,ev,gt,hp,ofV,constT,intT,lm])
        refine WO_op (x := qb ((a1.Keys.length : Int) == 0)) rfl rfl rfl ?_
        refine WO_op rfl rfl rfl ?_; simp only [putT,st,ev,gt,hp,ofV,constT,intT,lm]
        refine WO_if rfl rfl rfl (fun hc => ?_) (fun hc => ?_)
        ·
         replace H := tr hc H
         refine WO_want (x := .bp 0 4) rfl rfl rfl ?_
         refine WO_want (x := .c (cL eR_Node a1.Kids)) rfl rfl rfl ?_
         refine WO_want rfl rfl rfl ?_; simp only [putT,st,ev,gt,hp,ofV,constT,intT,lm]
         refine WO_want (x := .bp 1 4) rfl rfl rfl ?_
         refine WO_want (x := .nil) rfl rfl rfl ?_; simp only [putT,st,ev,gt,hp,ofV,constT,intT,lm]
         iterate 2 (refine WO_want rfl rfl rfl ?_; simp only [putT,st,ev,gt,hp,ofV,constT,intT,lm])
         refine WO_op (x := qb ((a1.Kids.length : Int) == 0)) rfl rfl rfl ?_
         refine WO_op rfl rfl rfl ?_; simp only [putT,st,ev,gt,hp,ofV,constT,intT,lm]
         refine WO_nil ?_
         refine W_ret ?_
         obtain rfl := Option.some.inj H
         exact told3 rfl
        ·
         replace H := fl hc H
         simp only [putT,st,ev,gt,hp,ofV,constT,intT,lm]
         iterate 7 refine WO_skip rfl rfl ?_
         refine WO_op (x := qb false) rfl rfl rfl ?_
         refine WO_op rfl rfl rfl ?_; simp only [putT,st,ev,gt,hp,ofV,constT,intT,lm]
         refine WO_nil ?_
         refine W_ret ?_
         obtain rfl := Option.some.inj H
         exact told3 rfl
       ·
        replace H := fl hc H
        simp only [putT,st,ev,gt,hp,ofV,constT,intT,lm]
        iterate 7 refine WO_skip rfl rfl ?_
        refine WO_op (x := qb false) rfl rfl rfl ?_
        refine WO_op rfl rfl rfl ?_; simp only [putT,st,ev,gt,hp,ofV,constT,intT,lm]
        iterate 7 refine WO_skip rfl rfl ?_
        refine WO_op (x := qb false) rfl rfl rfl ?_
        refine WO_op rfl rfl rfl ?_; simp only [putT,st,ev,gt,hp,ofV,constT,intT,lm]
        refine WO_nil ?_
        refine W_ret ?_
        obtain rfl := Option.some.inj H
        exact told3 rfl
      ·
       replace H := fl hc H
       simp only [putT,st,ev,gt,hp,ofV,constT,intT,lm]
       iterate 5 refine WO_skip rfl rfl ?_
       refine WO_op (x := qb false) rfl rfl rfl ?_
       refine WO_op rfl rfl rfl ?_; simp only [putT,st,ev,gt,hp,ofV,constT,intT,lm]
       iterate 7 refine WO_skip rfl rfl ?_
       refine WO_op (x := qb false) rfl rfl rfl ?_
       refine WO_op rfl rfl rfl ?_; simp only [putT,st,ev,gt,hp,ofV,constT,intT,lm]
       iterate 7 refine WO_skip rfl rfl ?_
       refine WO_op (x := qb false) rfl rfl rfl ?_
       refine WO_op rfl rfl rfl ?_; simp only [putT,st,ev,gt,hp,ofV,constT,intT,lm]
       refine WO_nil ?_
       refine W_ret ?_
       obtain rfl := Option.some.inj H
       exact told3 rfl
     ·
      intro V1 hV1 hW1 hX1
      refine (show ∀ s', impl_shapeOk.l2 = some s' → s' = t8 → (V1 ⟨[.no, .bp 0 0, .no, .bp 1 0, .no, .no, .no, .no, .no, .no, .no, .no, .no, .no, .no, .no, .no, .no, .no, .no, .no, .no, .no, .no, .no, .no, .no, .no, .no, .no, .no, .no, .no, .no, .no, .no, .no, .no, .no, .no, .no, .no, .no, .no, .no, .no, .no, .no, .no, .no, .no, .no, .no, .no, .no, .no, .no, .no, .no, .no, .no, .nil, qi 0, qi 0], [some [qi a1.Kind, qi a1.N, qs a1.S, .c (cL eS a1.Keys), .c (cL eR_Node a1.Kids)], some [qi a1.Kind, qi a1.N, qs [], .nil, .nil]], []⟩) from ?_) _ ht8 rfl
      intro  s' H1 e
      unfold impl_shapeOk.l2 at H1
      subst e
      refine hV1 _ ?_
      refine W_seq (W_region ?_)
      refine WO_op (x := qb false) rfl rfl rfl ?_; simp only [putT,st,ev,gt,hp,ofV,constT,intT,lm]
      refine WO_nil (W_seq ?_)
      refine W_cond (t := false) rfl (fun h => by cases h) (fun _ => ?_)
      refine W_exit ?_
      obtain rfl := Option.some.inj H1
      exact hX1 () _ rfl (le_intro [0, 1] [] (by decide) (by decide) rfl (by simp [leS, leT, leA, gt]) (by simp [leB, leT, leA]) (by simp [leR]))
   ·
    replace H := fl hc H
    refine W_seq (W_region ?_)
    iterate 2 (refine WO_op rfl rfl rfl ?_; simp only [putT,st,ev,gt,hp,ofV,constT,intT,lm])
    refine WO_nil ?_
    refine W_cond rfl (fun hc => ?_) (fun hc => ?_)
    ·
     replace H := tr hc H
     refine W_seq (W_seq (W_region ?_))
     refine WO_op (x := .bp 0 2) rfl rfl rfl ?_
     refine WO_op (x := qs a1.S) rfl rfl rfl ?_; simp only [putT,st,ev,gt,hp,ofV,constT,intT,lm]
     obtain ⟨x10, hx10, H⟩ := bnd H
     refine WO_op (x := qb x10) (σ' := ⟨[], [some [qi a1.Kind, qi a1.N, qs a1.S, .c (cL eS a1.Keys), .c (cL eR_Node a1.Kids)], some [qi a1.Kind, qi 0, qs [], .nil, .nil]], []⟩) rfl rfl (ev_callG (al := [qs a1.S]) (ls := []) (impl_TextOk_ok hx10) rfl rfl rfl rfl rfl (by decide) rfl rfl rfl rfl rfl rfl) ?_; simp only [putT,st,ev,gt,hp,ofV,constT,intT,lm]
     refine WO_op rfl rfl rfl ?_; simp only [putT,st,ev,gt,hp,ofV,constT,intT,lm]
     refine WO_nil ?_
     refine W_cond rfl (fun hc => ?_) (fun hc => ?_)
     ·
      replace H := tr hc H
      refine W_seq (W_region ?_)
      refine WO_op rfl rfl rfl ?_; simp only [putT,st,ev,gt,hp,ofV,constT,intT,lm]
      refine WO_nil ?_
      refine W_ret ?_
      obtain rfl := Option.some.inj H
      exact told3 rfl
     ·
      replace H := fl hc H
      refine W_skip ?_
      refine W_region ?_
      refine WO_op (x := .bp 0 2) rfl rfl rfl ?_
      refine WO_op (x := qs a1.S) rfl rfl rfl ?_
      refine WO_op (x := .bp 1 2) rfl rfl rfl ?_
      refine WO_op (x := .no) (σ' := ⟨[], [some [qi a1.Kind, qi a1.N, qs a1.S, .c (cL eS a1.Keys), .c (cL eR_Node a1.Kids)], some [qi a1.Kind, qi 0, qs a1.S, .nil, .nil]], []⟩) rfl rfl rfl ?_; simp only [putT,st,ev,gt,hp,ofV,constT,intT,lm]
      refine WO_nil (W_seq (W_seq (W_region ?_)))
      refine WO_op (x := .bp 1 3) rfl rfl rfl ?_
      refine WO_op (x := .nil) rfl rfl rfl ?_; simp only [putT,st,ev,gt,hp,ofV,constT,intT,lm]
      iterate 2 (refine WO_op rfl rfl rfl ?_; simp only [putT,st,ev,gt,hp,ofV,constT,intT,lm])
      refine WO_nil ?_
      refine W_block ?_
      obtain ⟨t11, ht11, H⟩ := bnd H
      refine loop_rule (ls := []) 1 (fun t11 : Unit => ⟨[.no, .bp 0 0, .no, .bp 1 0], [some [qi a1.Kind, qi a1.N, qs a1.S, .c (cL eS a1.Keys), .c (cL eR_Node a1.Kids)], some [qi a1.Kind, qi 0, qs a1.S, .nil, .nil]], []⟩) (fun t => t11 = t) ⟨[.no, .bp 0 0, .no, .bp 1 0, .no, .no, .no, .no, .no, .no, .no, .no, .no, .no, .no, .no, .no, .no, .no, .no, .no, .no, .no, .no, .no, .no, .no, .no, .no, .no, .no, .no, .no, .no, .no, .no, .no, .no, .no, .no, .no, .no, .no, .no, .no, .no, .no, .no, .no, .no, .no, .no, .no, .no, .no, .no, .no, .no, .no, .no, .no, .nil, qi 0, qi 0], [some [qi a1.Kind, qi a1.N, qs a1.S, .c (cL eS a1.Keys), .c (cL eR_Node a1.Kids)], some [qi a1.Kind, qi 0, qs a1.S, .nil, .nil]], []⟩ (by repeat (first | exact mono_told | refine mono_seq ?_ | refine mono_blk ?_ | refine mono_lp ?_)) (le_intro [0, 1] [] (by decide) (by decide) rfl (by simp [leS, leT, leA, gt]) (by simp [leB, leT, leA]) (by simp [leR])) ?_ ?_
      ·
       rintro t1 rfl
       refine W_seq (W_region ?_)
       refine WO_op (x := .bp 0 1) rfl rfl rfl ?_
       refine WO_op (x := qi a1.N) rfl rfl rfl ?_
       refine WO_op (x := .bp 1 1) rfl rfl rfl ?_
       refine WO_op (x := qi 0) rfl rfl rfl ?_; simp only [putT,st,ev,gt,hp,ofV,constT,intT,lm]
       iterate 2 (refine WO_op rfl rfl rfl ?_; simp only [putT,st,ev,gt,hp,ofV,constT,intT,lm])
       refine WO_if rfl rfl rfl (fun hc => ?_) (fun hc => ?_)
       ·
        replace H := tr hc H
        refine WO_want (x := .bp 0 2) rfl rfl rfl ?_
        refine WO_want (x := qs a1.S) rfl rfl rfl ?_
        refine WO_want (x := .bp 1 2) rfl rfl rfl ?_; simp only [putT,st,ev,gt,hp,ofV,constT,intT,lm]
        refine WO_want (x := qs a1.S) rfl rfl rfl ?_; simp only [putT,st,ev,gt,hp,ofV,constT,intT,lm]
        refine WO_want rfl rfl (ev_eql_s rfl rfl rfl) ?_; simp only [putT,st,ev,gt,hp,ofV,constT,intT,lm]
        refine WO_op (x := qb (a1.S == a1.S)) rfl rfl rfl ?_
        refine WO_op rfl rfl rfl ?_; simp only [putT,st,ev,gt,hp,ofV,constT,intT,lm]
        refine WO_if rfl rfl rfl (fun hc => ?_) (fun hc => ?_)
        ·
         replace H := tr hc H
         refine WO_want (x := .bp 0 3) rfl rfl rfl ?_
         refine WO_want (x := .c (cL eS a1.Keys)) rfl rfl rfl ?_
         refine WO_want rfl rfl rfl ?_; simp only [putT,st,ev,gt,hp,ofV,constT,intT,lm]
         refine WO_want (x := .bp 1 3) rfl rfl rfl ?_
         refine WO_want (x := .nil) rfl rfl rfl ?_; simp only [putT,st,ev,gt,hp,ofV,constT,intT,lm]
         iterate 2 (refine WO_want rfl rfl rfl ?_; simp only [putT,st,ev,gt,hp,ofV,constT,intT,lm])
         refine WO_op (x := qb ((a1.Keys.length : Int) == 0)) rfl rfl rfl ?_
         refine WO_op rfl rfl rfl ?_; simp only [putT,st,ev,gt,hp,ofV,constT,intT,lm]
         refine WO_if rfl rfl rfl (fun hc => ?_) (fun hc => ?_)
         ·
          replace H := tr hc H
          refine WO_want (x := .bp 0 4) rfl rfl rfl ?_
          refine WO_want (x := .c (cL eR_Node a1.Kids)) rfl rfl rfl ?_
          refine WO_want rfl rfl rfl ?_; simp only [putT,st,ev,gt,hp,ofV,constT,intT,lm]
          refine WO_want (x := .bp 1 4) rfl rfl rfl ?_
          refine WO_want (x := .nil) rfl rfl rfl ?_; simp only [putT,st,ev,gt,hp,ofV,constT,intT,lm]
          iterate 2 (refine WO_want rfl rfl rfl ?_; simp only [putT,st,ev,gt,hp,ofV,constT,intT,lm])
          refine WO_op (x := qb ((a1.Kids.length : Int) == 0)) rfl rfl rfl ?_
          refine WO_op rfl rfl rfl ?_; simp only [putT,st,ev,gt,hp,ofV,constT,intT,lm]
          refine WO_nil ?_
          refine W_ret ?_
          obtain rfl := Option.some.inj H
          exact told3 rfl
         ·
          replace H := fl hc H
          simp only [putT,st,ev,gt,hp,ofV,constT,intT,lm]
          iterate 7 refine WO_skip rfl rfl ?_
          refine WO_op (x := qb false) rfl rfl rfl ?_
          refine WO_op rfl rfl rfl ?_; simp only [putT,st,ev,gt,hp,ofV,constT,intT,lm]
          refine WO_nil ?_
          refine W_ret ?_
          obtain rfl := Option.some.inj H
          exact told3 rfl
        ·
         replace H := fl hc H
         simp only [putT,st,ev,gt,hp,ofV,constT,intT,lm]
         iterate 7 refine WO_skip rfl rfl ?_
         refine WO_op (x := qb false) rfl rfl rfl ?_
         refine WO_op rfl rfl rfl ?_; simp only [putT,st,ev,gt,hp,ofV,constT,intT,lm]
         iterate 7 refine WO_skip rfl rfl ?_
         refine WO_op (x := qb false) rfl rfl rfl ?_
         refine WO_op rfl rfl rfl ?_; simp only [putT,st,ev,gt,hp,ofV,constT,intT,lm]
         refine WO_nil ?_
         refine W_ret ?_
         obtain rfl := Option.some.inj H
         exact told3 rfl
       ·
        replace H := fl hc H
        simp only [putT,st,ev,gt,hp,ofV,constT,intT,lm]
        iterate 5 refine WO_skip rfl rfl ?_
        refine WO_op (x := qb false) rfl rfl rfl ?_
        refine WO_op rfl rfl rfl ?_; simp only [putT,st,ev,gt,hp,ofV,constT,intT,lm]
        iterate 7 refine WO_skip rfl rfl ?_
        refine WO_op (x := qb false) rfl rfl rfl ?_
        refine WO_op rfl rfl rfl ?_; simp only [putT,st,ev,gt,hp,ofV,constT,intT,lm]
        iterate 7 refine WO_skip rfl rfl ?_
        refine WO_op (x := qb false) rfl rfl rfl ?_
        refine WO_op rfl rfl rfl ?_; simp only [putT,st,ev,gt,hp,ofV,constT,intT,lm]
        refine WO_nil ?_
        refine W_ret ?_
        obtain rfl := Option.some.inj H
        exact told3 rfl
      ·
       intro V1 hV1 hW1 hX1
       refine (show ∀ s', impl_shapeOk.l3 = some s' → s' = t11 → (V1 ⟨[.no, .bp 0 0, .no, .bp 1 0, .no, .no, .no, .no, .no, .no, .no, .no, .no, .no, .no, .no, .no, .no, .no, .no, .no, .no, .no, .no, .no, .no, .no, .no, .no, .no, .no, .no, .no, .no, .no, .no, .no, .no, .no, .no, .no, .no, .no, .no, .no, .no, .no, .no, .no, .no, .no, .no, .no, .no, .no, .no, .no, .no, .no, .no, .no, .nil, qi 0, qi 0], [some [qi a1.Kind, qi a1.N, qs a1.S, .c (cL eS a1.Keys), .c (cL eR_Node a1.Kids)], some [qi a1.Kind, qi 0, qs a1.S, .nil, .nil]], []⟩) from ?_) _ ht11 rfl
       intro  s' H1 e
       unfold impl_shapeOk.l3 at H1
       subst e
       refine hV1 _ ?_
       refine W_seq (W_region ?_)
       refine WO_op (x := qb false) rfl rfl rfl ?_; simp only [putT,st,ev,gt,hp,ofV,constT,intT,lm]
       refine WO_nil (W_seq ?_)
       refine W_cond (t := false) rfl (fun h => by cases h) (fun _ => ?_)
       refine W_exit ?_
       obtain rfl := Option.some.inj H1
       exact hX1 () _ rfl (le_intro [0, 1] [] (by decide) (by decide) rfl (by simp [leS, leT, leA, gt]) (by simp [leB, leT, leA]) (by simp [leR]))
    ·
     replace H := fl hc H
     refine W_seq (W_region ?_)
     iterate 2 (refine WO_op rfl rfl rfl ?_; simp only [putT,st,ev,gt,hp,ofV,constT,intT,lm])
     refine WO_nil ?_
     refine W_cond rfl (fun hc => ?_) (fun hc => ?_)
     ·
      replace H := tr hc H
      refine W_region ?_
      refine WO_op (x := .bp 0 4) rfl rfl rfl ?_
      refine WO_op (x := .c (cL eR_Node a1.Kids)) rfl rfl rfl ?_
      refine WO_op (x := .bp 1 4) rfl rfl rfl ?_
      refine WO_op (x := .no) (σ' := ⟨[], [some [qi a1.Kind, qi a1.N, qs a1.S, .c (cL eS a1.Keys), .c (cL eR_Node a1.Kids)], some [qi a1.Kind, qi 0, qs [], .nil, .c (cL eR_Node a1.Kids)]], []⟩) rfl rfl rfl ?_; simp only [putT,st,ev,gt,hp,ofV,constT,intT,lm]
      refine WO_nil (W_seq (W_seq (W_region ?_)))
      refine WO_op (x := .bp 1 3) rfl rfl rfl ?_
      refine WO_op (x := .nil) rfl rfl rfl ?_; simp only [putT,st,ev,gt,hp,ofV,constT,intT,lm]
      iterate 2 (refine WO_op rfl rfl rfl ?_; simp only [putT,st,ev,gt,hp,ofV,constT,intT,lm])
      refine WO_nil ?_
      refine W_block ?_
      obtain ⟨t13, ht13, H⟩ := bnd H
      refine loop_rule (ls := []) 1 (fun t13 : Unit => ⟨[.no, .bp 0 0, .no, .bp 1 0], [some [qi a1.Kind, qi a1.N, qs a1.S, .c (cL eS a1.Keys), .c (cL eR_Node a1.Kids)], some [qi a1.Kind, qi 0, qs [], .nil, .c (cL eR_Node a1.Kids)]], []⟩) (fun t => t13 = t) ⟨[.no, .bp 0 0, .no, .bp 1 0, .no, .no, .no, .no, .no, .no, .no, .no, .no, .no, .no, .no, .no, .no, .no, .no, .no, .no, .no, .no, .no, .no, .no, .no, .no, .no, .no, .no, .no, .no, .no, .no, .no, .no, .no, .no, .no, .no, .no, .no, .no, .no, .no, .no, .no, .no, .no, .no, .no, .no, .no, .no, .no, .no, .no, .no, .no, .nil, qi 0, qi 0], [some [qi a1.Kind, qi a1.N, qs a1.S, .c (cL eS a1.Keys), .c (cL eR_Node a1.Kids)], some [qi a1.Kind, qi 0, qs [], .nil, .c (cL eR_Node a1.Kids)]], []⟩ (by repeat (first | exact mono_told | refine mono_seq ?_ | refine mono_blk ?_ | refine mono_lp ?_)) (le_intro [0, 1] [] (by decide) (by decide) rfl (by simp [leS, leT, leA, gt]) (by simp [leB, leT, leA]) (by simp [leR])) ?_ ?_
      ·
       rintro t1 rfl
       refine W_seq (W_region ?_)
       refine WO_op (x := .bp 0 1) rfl rfl rfl ?_
       refine WO_op (x := qi a1.N) rfl rfl rfl ?_
       refine WO_op (x := .bp 1 1) rfl rfl rfl ?_
       refine WO_op (x := qi 0) rfl rfl rfl ?_; simp only [putT,st,ev,gt,hp,ofV,constT,intT,lm]
       iterate 2 (refine WO_op rfl rfl rfl ?_; simp only [putT,st,ev,gt,hp,ofV,constT,intT,lm])
       refine WO_if rfl rfl rfl (fun hc => ?_) (fun hc => ?_)
       ·
        replace H := tr hc H
        refine WO_want (x := .bp 0 2) rfl rfl rfl ?_
        refine WO_want (x := qs a1.S) rfl rfl rfl ?_
        refine WO_want (x := .bp 1 2) rfl rfl rfl ?_; simp only [putT,st,ev,gt,hp,ofV,constT,intT,lm]
        refine WO_want (x := qs []) rfl rfl rfl ?_; simp only [putT,st,ev,gt,hp,ofV,constT,intT,lm]
        refine WO_want rfl rfl (ev_eql_s rfl rfl rfl) ?_; simp only [putT,st,ev,gt,hp,ofV,constT,intT,lm]
        refine WO_op (x := qb (a1.S == [])) rfl rfl rfl ?_
        refine WO_op rfl rfl rfl ?_; simp only [putT,st,ev,gt,hp,ofV,constT,intT,lm]
        refine WO_if rfl rfl rfl (fun hc => ?_) (fun hc => ?_)
        ·
         replace H := tr hc H
         refine WO_want (x := .bp 0 3) rfl rfl rfl ?_
         refine WO_want (x := .c (cL eS a1.Keys)) rfl rfl rfl ?_
         refine WO_want rfl rfl rfl ?_; simp only [putT,st,ev,gt,hp,ofV,constT,intT,lm]
         refine WO_want (x := .bp 1 3) rfl rfl rfl ?_
         refine WO_want (x := .nil) rfl rfl rfl ?_; simp only [putT,st,ev,gt,hp,ofV,constT,intT,lm]
         iterate 2 (refine WO_want rfl rfl rfl ?_; simp only [putT,st,ev,gt,hp,ofV,constT,intT,lm])
         refine WO_op (x := qb ((a1.Keys.length : Int) == 0)) rfl rfl rfl ?_
         refine WO_op rfl rfl rfl ?_; simp only [putT,st,ev,gt,hp,ofV,constT,intT,lm]
         refine WO_if rfl rfl rfl (fun hc => ?_) (fun hc => ?_)
         ·
          replace H := tr hc H
          refine WO_want (x := .bp 0 4) rfl rfl rfl ?_
          refine WO_want (x := .c (cL eR_Node a1.Kids)) rfl rfl rfl ?_
          refine WO_want rfl rfl rfl ?_; simp only [putT,st,ev,gt,hp,ofV,constT,intT,lm]
          refine WO_want (x := .bp 1 4) rfl rfl rfl ?_
          refine WO_want (x := .c (cL eR_Node a1.Kids)) rfl rfl rfl ?_; simp only [putT,st,ev,gt,hp,ofV,constT,intT,lm]
          iterate 2 (refine WO_want rfl rfl rfl ?_; simp only [putT,st,ev,gt,hp,ofV,constT,intT,lm])
          refine WO_op (x := qb ((a1.Kids.length : Int) == (a1.Kids.length : Int))) rfl rfl rfl ?_
          refine WO_op rfl rfl rfl ?_; simp only [putT,st,ev,gt,hp,ofV,constT,intT,lm]
          refine WO_nil ?_
          refine W_ret ?_
          obtain rfl := Option.some.inj H
          exact told3 rfl
         ·
          replace H := fl hc H
          simp only [putT,st,ev,gt,hp,ofV,constT,intT,lm]
          iterate 7 refine WO_skip rfl rfl ?_
          refine WO_op (x := qb false) rfl rfl rfl ?_
          refine WO_op rfl rfl rfl ?_; simp only [putT,st,ev,gt,hp,ofV,constT,intT,lm]
          refine WO_nil ?_
          refine W_ret ?_
          obtain rfl := Option.some.inj H
          exact told3 rfl
        ·
         replace H := fl hc H
         simp only [putT,st,ev,gt,hp,ofV,constT,intT,lm]
         iterate 7 refine WO_skip rfl rfl ?_
         refine WO_op (x := qb false) rfl rfl rfl ?_
         refine WO_op rfl rfl rfl ?_; simp only [putT,st,ev,gt,hp,ofV,constT,intT,lm]
         iterate 7 refine WO_skip rfl rfl ?_
         refine WO_op (x := qb false) rfl rfl rfl ?_
         refine WO_op rfl rfl rfl ?_; simp only [putT,st,ev,gt,hp,ofV,constT,intT,lm]
         refine WO_nil ?_
         refine W_ret ?_
         obtain rfl := Option.some.inj H
         exact told3 rfl
       ·
        replace H := fl hc H
        simp only [putT,st,ev,gt,hp,ofV,constT,intT,lm]
        iterate 5 refine WO_skip rfl rfl ?_
        refine WO_op (x := qb false) rfl rfl rfl ?_
        refine WO_op rfl rfl rfl ?_; simp only [putT,st,ev,gt,hp,ofV,constT,intT,lm]
        iterate 7 refine WO_skip rfl rfl ?_
        refine WO_op (x := qb false) rfl rfl rfl ?_
        refine WO_op rfl rfl rfl ?_; simp only [putT,st,ev,gt,hp,ofV,constT,intT,lm]
        iterate 7 refine WO_skip rfl rfl ?_
        refine WO_op (x := qb false) rfl rfl rfl ?_
        refine WO_op rfl rfl rfl ?_; simp only [putT,st,ev,gt,hp,ofV,constT,intT,lm]
        refine WO_nil ?_
        refine W_ret ?_
        obtain rfl := Option.some.inj H
        exact told3 rfl
      ·
       intro V1 hV1 hW1 hX1
       refine (show ∀ s', impl_shapeOk.l4 = some s' → s' = t13 → (V1 ⟨[.no, .bp 0 0, .no, .bp 1 0, .no, .no, .no, .no, .no, .no, .no, .no, .no, .no, .no, .no, .no, .no, .no, .no, .no, .no, .no, .no, .no, .no, .no, .no, .no, .no, .no, .no, .no, .no, .no, .no, .no, .no, .no, .no, .no, .no, .no, .no, .no, .no, .no, .no, .no, .no, .no, .no, .no, .no, .no, .no, .no, .no, .no, .no, .no, .nil, qi 0, qi 0], [some [qi a1.Kind, qi a1.N, qs a1.S, .c (cL eS a1.Keys), .c (cL eR_Node a1.Kids)], some [qi a1.Kind, qi 0, qs [], .nil, .c (cL eR_Node a1.Kids)]], []⟩) from ?_) _ ht13 rfl
       intro  s' H1 e
       unfold impl_shapeOk.l4 at H1
       subst e
       refine hV1 _ ?_
       refine W_seq (W_region ?_)
       refine WO_op (x := qb false) rfl rfl rfl ?_; simp only [putT,st,ev,gt,hp,ofV,constT,intT,lm]
       refine WO_nil (W_seq ?_)
       refine W_cond (t := false) rfl (fun h => by cases h) (fun _ => ?_)
       refine W_exit ?_
       obtain rfl := Option.some.inj H1
       exact hX1 () _ rfl (le_intro [0, 1] [] (by decide) (by decide) rfl (by simp [leS, leT, leA, gt]) (by simp [leB, leT, leA]) (by simp [leR]))
     ·
      replace H := fl hc H
      refine W_seq (W_region ?_)
      iterate 2 (refine WO_op rfl rfl rfl ?_; simp only [putT,st,ev,gt,hp,ofV,constT,intT,lm])
      refine WO_nil ?_
      refine W_cond rfl (fun hc => ?_) (fun hc => ?_)
      ·
       replace H := tr hc H
       refine W_seq (W_seq (W_region ?_))
       refine WO_op (x := .bp 0 3) rfl rfl rfl ?_
       refine WO_op (x := .c (cL eS a1.Keys)) rfl rfl rfl ?_
       refine WO_op rfl rfl rfl ?_
       refine WO_op (x := .bp 0 4) rfl rfl rfl ?_; simp only [putT,st,ev,gt,hp,ofV,constT,intT,lm]
       refine WO_op (x := .c (cL eR_Node a1.Kids)) rfl rfl rfl ?_; simp only [putT,st,ev,gt,hp,ofV,constT,intT,lm]
       iterate 2 (refine WO_op rfl rfl rfl ?_; simp only [putT,st,ev,gt,hp,ofV,constT,intT,lm])
       refine WO_nil ?_
       refine W_cond rfl (fun hc => ?_) (fun hc => ?_)
       ·
        replace H := tr hc H
        refine W_seq (W_region ?_)
        refine WO_op rfl rfl rfl ?_; simp only [putT,st,ev,gt,hp,ofV,constT,intT,lm]
        refine WO_nil ?_
        refine W_ret ?_
        obtain rfl := Option.some.inj H
        exact told3 rfl
       ·
        replace H := fl hc H
        refine W_skip ?_
        refine W_drawL (by kernel_rfl) (by decide +kernel) ?_
        refine WL_op (x := .bp 0 3) rfl rfl rfl rfl ?_
        refine WL_op (x := .c (cL eS a1.Keys)) rfl rfl rfl rfl ?_
        refine WL_op (x := .bp 0 4) rfl rfl rfl rfl ?_
        refine WL_op (x := .c (cL eR_Node a1.Kids)) rfl rfl rfl rfl ?_; simp only [putT,st,ev,gt,hp,ofV,constT,intT,lm]
        refine WL_op (x := .bp 1 3) rfl rfl rfl rfl ?_
        refine WL_op (x := .no) (σ' := ⟨[], [some [qi a1.Kind, qi a1.N, qs a1.S, .c (cL eS a1.Keys), .c (cL eR_Node a1.Kids)], some [qi a1.Kind, qi 0, qs [], .c (cL eS a1.Keys), .nil]], []⟩) rfl rfl rfl rfl ?_
        refine WL_op (x := .bp 1 4) rfl rfl rfl rfl ?_
        refine WL_op (x := .no) (σ' := ⟨[], [some [qi a1.Kind, qi a1.N, qs a1.S, .c (cL eS a1.Keys), .c (cL eR_Node a1.Kids)], some [qi a1.Kind, qi 0, qs [], .c (cL eS a1.Keys), .c (cL eR_Node a1.Kids)]], []⟩) rfl rfl rfl rfl ?_; simp only [putT,st,ev,gt,hp,ofV,constT,intT,lm]
        refine WL_nil (by kernel_rfl) ?_
        refine W_seq (W_seq (W_region ?_))
        refine WO_op (x := .bp 1 3) rfl rfl rfl ?_
        refine WO_op (x := .c (cL eS a1.Keys)) rfl rfl rfl ?_; simp only [putT,st,ev,gt,hp,ofV,constT,intT,lm]
        iterate 2 (refine WO_op rfl rfl rfl ?_; simp only [putT,st,ev,gt,hp,ofV,constT,intT,lm])
        refine WO_nil ?_
        refine W_block ?_
        obtain ⟨s20, hs20, H⟩ := bnd H
        refine loop_rule (ls := []) 1 (fun t19 : Unit => ⟨[.no, .bp 0 0, .no, .bp 1 0], [some [qi a1.Kind, qi a1.N, qs a1.S, .c (cL eS a1.Keys), .c (cL eR_Node a1.Kids)], some [qi a1.Kind, qi 0, qs [], .c (cL eS a1.Keys), .c (cL eR_Node a1.Kids)]], []⟩) (fun t => s20 = .inr t) ⟨[.no, .bp 0 0, .no, .bp 1 0, .no, .no, .no, .no, .no, .no, .no, .no, .no, .no, .no, .no, .no, .no, .no, .no, .no, .no, .no, .no, .no, .no, .no, .no, .no, .no, .no, .no, .no, .no, .no, .no, .no, .no, .no, .no, .no, .no, .no, .no, .no, .no, .no, .no, .no, .no, .no, .no, .no, .no, .no, .no, .no, .no, .no, .no, .no, .c (cL eS a1.Keys), qi (a1.Keys.length : Int), qi 0], [some [qi a1.Kind, qi a1.N, qs a1.S, .c (cL eS a1.Keys), .c (cL eR_Node a1.Kids)], some [qi a1.Kind, qi 0, qs [], .c (cL eS a1.Keys), .c (cL eR_Node a1.Kids)]], []⟩ (by repeat (first | exact mono_told | refine mono_seq ?_ | refine mono_blk ?_ | refine mono_lp ?_)) (le_intro [0, 1] [] (by decide) (by decide) rfl (by simp [leS, leT, leA, gt]) (by simp [leB, leT, leA]) (by simp [leR])) ?_ ?_
        ·
         rintro t19 rfl
         refine W_seq (W_region ?_)
         refine WO_op (x := .bp 0 1) rfl rfl rfl ?_
         refine WO_op (x := qi a1.N) rfl rfl rfl ?_
         refine WO_op (x := .bp 1 1) rfl rfl rfl ?_
         refine WO_op (x := qi 0) rfl rfl rfl ?_; simp only [putT,st,ev,gt,hp,ofV,constT,intT,lm]
         iterate 2 (refine WO_op rfl rfl rfl ?_; simp only [putT,st,ev,gt,hp,ofV,constT,intT,lm])
         refine WO_if rfl rfl rfl (fun hc => ?_) (fun hc => ?_)
         ·
          replace H := tr hc H
          refine WO_want (x := .bp 0 2) rfl rfl rfl ?_
          refine WO_want (x := qs a1.S) rfl rfl rfl ?_
          refine WO_want (x := .bp 1 2) rfl rfl rfl ?_; simp only [putT,st,ev,gt,hp,ofV,constT,intT,lm]
          refine WO_want (x := qs []) rfl rfl rfl ?_; simp only [putT,st,ev,gt,hp,ofV,constT,intT,lm]
          refine WO_want rfl rfl (ev_eql_s rfl rfl rfl) ?_; simp only [putT,st,ev,gt,hp,ofV,constT,intT,lm]
          refine WO_op (x := qb (a1.S == [])) rfl rfl rfl ?_
          refine WO_op rfl rfl rfl ?_; simp only [putT,st,ev,gt,hp,ofV,constT,intT,lm]
          refine WO_if rfl rfl rfl (fun hc => ?_) (fun hc => ?_)
          ·
           replace H := tr hc H
           refine WO_want (x := .bp 0 3) rfl rfl rfl ?_
           refine WO_want (x := .c (cL eS a1.Keys)) rfl rfl rfl ?_
           refine WO_want rfl rfl rfl ?_; simp only [putT,st,ev,gt,hp,ofV,constT,intT,lm]
           refine WO_want (x := .bp 1 3) rfl rfl rfl ?_
           refine WO_want (x := .c (cL eS a1.Keys)) rfl rfl rfl ?_; simp only [putT,st,ev,gt,hp,ofV,constT,intT,lm]
           iterate 2 (refine WO_want rfl rfl rfl ?_; simp only [putT,st,ev,gt,hp,ofV,constT,intT,lm])
           refine WO_op (x := qb ((a1.Keys.length : Int) == (a1.Keys.length : Int))) rfl rfl rfl ?_
           refine WO_op rfl rfl rfl ?_; simp only [putT,st,ev,gt,hp,ofV,constT,intT,lm]
           refine WO_if rfl rfl rfl (fun hc => ?_) (fun hc => ?_)
           ·
            replace H := tr hc H
            refine WO_want (x := .bp 0 4) rfl rfl rfl ?_
            refine WO_want (x := .c (cL eR_Node a1.Kids)) rfl rfl rfl ?_
            refine WO_want rfl rfl rfl ?_; simp only [putT,st,ev,gt,hp,ofV,constT,intT,lm]
            refine WO_want (x := .bp 1 4) rfl rfl rfl ?_
            refine WO_want (x := .c (cL eR_Node a1.Kids)) rfl rfl rfl ?_; simp only [putT,st,ev,gt,hp,ofV,constT,intT,lm]
            iterate 2 (refine WO_want rfl rfl rfl ?_; simp only [putT,st,ev,gt,hp,ofV,constT,intT,lm])
            refine WO_op (x := qb ((a1.Kids.length : Int) == (a1.Kids.length : Int))) rfl rfl rfl ?_
            refine WO_op rfl rfl rfl ?_; simp only [putT,st,ev,gt,hp,ofV,constT,intT,lm]
            refine WO_nil ?_
            refine W_ret ?_
            obtain rfl := Option.some.inj H
            exact told3 rfl
           ·
            replace H := fl hc H
            simp only [putT,st,ev,gt,hp,ofV,constT,intT,lm]
            iterate 7 refine WO_skip rfl rfl ?_
            refine WO_op (x := qb false) rfl rfl rfl ?_
            refine WO_op rfl rfl rfl ?_; simp only [putT,st,ev,gt,hp,ofV,constT,intT,lm]
            refine WO_nil ?_
            refine W_ret ?_
            obtain rfl := Option.some.inj H
            exact told3 rfl
          ·
           replace H := fl hc H
           simp only [putT,st,ev,gt,hp,ofV,constT,intT,lm]
           iterate 7 refine WO_skip rfl rfl ?_
           refine WO_op (x := qb false) rfl rfl rfl ?_
           refine WO_op rfl rfl rfl ?_; simp only [putT,st,ev,gt,hp,ofV,constT,intT,lm]
           iterate 7 refine WO_skip rfl rfl ?_
           refine WO_op (x := qb false) rfl rfl rfl ?_
           refine WO_op rfl rfl rfl ?_; simp only [putT,st,ev,gt,hp,ofV,constT,intT,lm]
           refine WO_nil ?_
           refine W_ret ?_
           obtain rfl := Option.some.inj H
           exact told3 rfl
         ·
          replace H := fl hc H
          simp only [putT,st,ev,gt,hp,ofV,constT,intT,lm]
          iterate 5 refine WO_skip rfl rfl ?_
          refine WO_op (x := qb false) rfl rfl rfl ?_
          refine WO_op rfl rfl rfl ?_; simp only [putT,st,ev,gt,hp,ofV,constT,intT,lm]
          iterate 7 refine WO_skip rfl rfl ?_
          refine WO_op (x := qb false) rfl rfl rfl ?_
          refine WO_op rfl rfl rfl ?_; simp only [putT,st,ev,gt,hp,ofV,constT,intT,lm]
          iterate 7 refine WO_skip rfl rfl ?_
          refine WO_op (x := qb false) rfl rfl rfl ?_
          refine WO_op rfl rfl rfl ?_; simp only [putT,st,ev,gt,hp,ofV,constT,intT,lm]
          refine WO_nil ?_
          refine W_ret ?_
          obtain rfl := Option.some.inj H
          exact told3 rfl
        ·
         intro V1 hV1 hW1 hX1
         refine (impl_shapeOk.l5.partial_correctness a1 (fun v15 s' => s' = s20 → (V1 ⟨[.no, .bp 0 0, .no, .bp 1 0, .no, .no, .no, .no, .no, .no, .no, .no, .no, .no, .no, .no, .no, .no, .no, .no, .no, .no, .no, .no, .no, .no, .no, .no, .no, .no, .no, .no, .no, .no, .no, .no, .no, .no, .no, .no, .no, .no, .no, .no, .no, .no, .no, .no, .no, .no, .no, .no, .no, .no, .no, .no, .no, .no, .no, .no, .no, .c (cL eS a1.Keys), qi (a1.Keys.length : Int), qi v15], [some [qi a1.Kind, qi a1.N, qs a1.S, .c (cL eS a1.Keys), .c (cL eR_Node a1.Kids)], some [qi a1.Kind, qi 0, qs [], .c (cL eS a1.Keys), .c (cL eR_Node a1.Kids)]], []⟩)) ?_ _ _ hs20 rfl)
         intro l0 IH1 v15 s' H1 e
         subst e
         refine hV1 _ ?_
         refine W_seq (W_region ?_)
         refine WO_op rfl rfl rfl ?_; simp only [putT,st,ev,gt,hp,ofV,constT,intT,lm]
         refine WO_nil (W_seq ?_)
         refine W_cond rfl (fun hc => ?_) (fun hc => ?_)
         ·
          replace H1 := tr hc H1
          refine W_skip ?_
          refine W_seq ?_
          refine W_block ?_
          refine W_seq (W_region ?_)
          refine WO_op rfl rfl rfl ?_; simp only [putT,st,ev,gt,hp,ofV,constT,intT,lm]
          obtain ⟨x16, hx16, H1⟩ := bnd H1
          refine WO_op rfl rfl (ev_ix (en := eS) hx16 rfl rfl rfl rfl rfl rfl rfl) ?_; simp only [putT,st,ev,gt,hp,ofV,constT,intT,lm]
          refine WO_op (x := qs x16) rfl rfl rfl ?_; simp only [putT,st,ev,gt,hp,ofV,constT,intT,lm]
          iterate 2 (refine WO_op rfl rfl rfl ?_; simp only [putT,st,ev,gt,hp,ofV,constT,intT,lm])
          refine WO_nil (W_seq (W_region ?_))
          refine WO_op rfl rfl rfl ?_; simp only [putT,st,ev,gt,hp,ofV,constT,intT,lm]
          obtain ⟨x17, hx17, H1⟩ := bnd H1
          refine WO_op (x := qb x17) (σ' := ⟨[], [some [qi a1.Kind, qi a1.N, qs a1.S, .c (cL eS a1.Keys), .c (cL eR_Node a1.Kids)], some [qi a1.Kind, qi 0, qs [], .c (cL eS a1.Keys), .c (cL eR_Node a1.Kids)]], []⟩) rfl rfl (ev_callG (al := [qs x16]) (ls := []) (impl_TextOk_ok hx17) rfl rfl rfl rfl rfl (by decide) rfl rfl rfl rfl rfl rfl) ?_; simp only [putT,st,ev,gt,hp,ofV,constT,intT,lm]
          iterate 2 (refine WO_op rfl rfl rfl ?_; simp only [putT,st,ev,gt,hp,ofV,constT,intT,lm])
          refine WO_if rfl rfl rfl (fun hc => ?_) (fun hc => ?_)
          ·
           replace H1 := tr hc H1
           simp only [putT,st,ev,gt,hp,ofV,constT,intT,lm]
           iterate 12 refine WO_skip rfl rfl ?_
           refine WO_op (x := qb true) rfl rfl rfl ?_; simp only [putT,st,ev,gt,hp,ofV,constT,intT,lm]
           refine WO_nil ?_
           refine W_cond (t := true) rfl (fun _ => ?_) (fun h => by cases h)
           refine W_seq (W_region ?_)
           refine WO_op rfl rfl rfl ?_; simp only [putT,st,ev,gt,hp,ofV,constT,intT,lm]
           refine WO_nil ?_
           refine W_ret ?_
           obtain rfl := Option.some.inj H1
           obtain rfl := Option.some.inj H
           exact told3 rfl
          ·
           replace H1 := fl hc H1
           simp only [putT,st,ev,gt,hp,ofV,constT,intT,lm]
           iterate 3 (refine WO_want rfl rfl rfl ?_; simp only [putT,st,ev,gt,hp,ofV,constT,intT,lm])
           refine WO_if rfl rfl rfl (fun hc => ?_) (fun hc => ?_)
           ·
            replace H1 := tr hc H1
            refine WO_want (x := .bp 0 3) rfl rfl rfl ?_
            refine WO_want (x := .c (cL eS a1.Keys)) rfl rfl rfl ?_; simp only [putT,st,ev,gt,hp,ofV,constT,intT,lm]
            iterate 2 (refine WO_want rfl rfl rfl ?_; simp only [putT,st,ev,gt,hp,ofV,constT,intT,lm])
            obtain ⟨x18, hx18, H1⟩ := bnd H1
            refine WO_want rfl rfl (ev_ix (en := eS) hx18 rfl rfl rfl rfl rfl rfl rfl) ?_; simp only [putT,st,ev,gt,hp,ofV,constT,intT,lm]
            refine WO_want (x := qs x18) rfl rfl rfl ?_
            refine WO_want rfl rfl rfl ?_; simp only [putT,st,ev,gt,hp,ofV,constT,intT,lm]
            refine WO_want rfl rfl (ev_geq_s rfl rfl rfl) ?_; simp only [putT,st,ev,gt,hp,ofV,constT,intT,lm]
            refine WO_want (x := qb (!(slt x18 x16))) rfl rfl rfl ?_
            refine WO_op (x := qb (!(slt x18 x16))) rfl rfl rfl ?_; simp only [putT,st,ev,gt,hp,ofV,constT,intT,lm]
            refine WO_nil ?_
            refine W_cond rfl (fun hc => ?_) (fun hc => ?_)
            ·
             replace H1 := tr hc H1
             refine W_seq (W_region ?_)
             refine WO_op rfl rfl rfl ?_; simp only [putT,st,ev,gt,hp,ofV,constT,intT,lm]
             refine WO_nil ?_
             refine W_ret ?_
             obtain rfl := Option.some.inj H1
             obtain rfl := Option.some.inj H
             exact told3 rfl
            ·
             replace H1 := fl hc H1
             refine W_skip ?_
             refine W_region ?_
             iterate 2 (refine WO_op rfl rfl rfl ?_; simp only [putT,st,ev,gt,hp,ofV,constT,intT,lm])
             refine WO_nil ?_
             exact hW1 _ _ ((IH1 _ _ H1 rfl)) (le_intro [0, 1] [] (by decide) (by decide) rfl (by simp [leS, leT, leA, gt]) (by simp [leB, leT, leA]) (by simp [leR]))
           ·
            replace H1 := fl hc H1
            simp only [putT,st,ev,gt,hp,ofV,constT,intT,lm]
            iterate 8 refine WO_skip rfl rfl ?_
            refine WO_want (x := qb false) rfl rfl rfl ?_
            refine WO_op (x := qb false) rfl rfl rfl ?_; simp only [putT,st,ev,gt,hp,ofV,constT,intT,lm]
            refine WO_nil ?_
            refine W_cond (t := false) rfl (fun h => by cases h) (fun _ => ?_)
            refine W_skip ?_
            refine W_region ?_
            iterate 2 (refine WO_op rfl rfl rfl ?_; simp only [putT,st,ev,gt,hp,ofV,constT,intT,lm])
            refine WO_nil ?_
            exact hW1 _ _ ((IH1 _ _ H1 rfl)) (le_intro [0, 1] [] (by decide) (by decide) rfl (by simp [leS, leT, leA, gt]) (by simp [leB, leT, leA]) (by simp [leR]))
         ·
          replace H1 := fl hc H1
          refine W_exit ?_
          obtain rfl := Option.some.inj H1
          exact hX1 () _ rfl (le_intro [0, 1] [] (by decide) (by decide) rfl (by simp [leS, leT, leA, gt]) (by simp [leB, leT, leA]) (by simp [leR]))
      ·
       replace H := fl hc H
       refine W_seq (W_region ?_)
       refine WO_op rfl rfl rfl ?_; simp only [putT,st,ev,gt,hp,ofV,constT,intT,lm]
       refine WO_nil ?_
       refine W_ret ?_
       obtain rfl := Option.some.inj H
       exact told3 rfl
theorem impl_allShapes_1_ok {rc22 : Node → Option (Bool)} (hrc22 : ∀ {a1 : Node} {r : Bool}, rc22 a1 = some r → R 23 [.ag [(cI .i64 a1.Kind, none), (cI .i64 a1.N, none), (cS a1.S, none), (cL eS a1.Keys, none), (cL eR_Node a1.Kids, none)]] = some (.c (cB r) none, [])) {a1 : Node} {r : Bool} (H : impl_allShapes_1 rc22 a1 = some r) : R 30 [.ag [(cI .i64 a1.Kind, none), (cI .i64 a1.N, none), (cS a1.S, none), (cL eS a1.Keys, none), (cL eR_Node a1.Kids, none)]] = some (.c (cB r) none, []) := by
 unfold impl_allShapes_1 at H
 refine Fz_walk 6 rfl rfl Try.func30 rfl (by kernel_rfl) rfl rfl rfl rfl ?_
 simp only [tellVs, tellV, tells, tell, st0, padT, SX.newRow, SX.newBox, List.length_cons, List.length_nil, Nat.reduceAdd, Nat.reduceSub, List.replicate, List.cons_append, List.nil_append, List.foldl_cons, List.foldl_nil]
 refine W_seq (W_region ?_)
 refine WO_op (x := .bp 0 0) (σ' := ⟨[], [some [qi a1.Kind, qi a1.N, qs a1.S, .c (cL eS a1.Keys), .c (cL eR_Node a1.Kids)]], []⟩) rfl rfl rfl ?_
 refine WO_op rfl rfl rfl ?_; simp only [putT,st,ev,gt,hp,ofV,constT,intT,lm]
 refine WO_nil (W_seq (W_region ?_))
 refine WO_op (x := .ag [qi a1.Kind, qi a1.N, qs a1.S, .c (cL eS a1.Keys), .c (cL eR_Node a1.Kids)]) rfl rfl rfl ?_; simp only [putT,st,ev,gt,hp,ofV,constT,intT,lm]
 obtain ⟨x2, hx2, H⟩ := bnd H
 refine WO_op (x := qb x2) (σ' := ⟨[], [some [qi a1.Kind, qi a1.N, qs a1.S, .c (cL eS a1.Keys), .c (cL eR_Node a1.Kids)]], []⟩) rfl rfl (ev_callG (al := [.ag [qi a1.Kind, qi a1.N, qs a1.S, .c (cL eS a1.Keys), .c (cL eR_Node a1.Kids)]]) (ls := []) (hrc22 hx2) rfl rfl rfl rfl rfl (by decide) rfl rfl rfl rfl rfl rfl) ?_; simp only [putT,st,ev,gt,hp,ofV,constT,intT,lm]
 iterate 2 (refine WO_op rfl rfl rfl ?_; simp only [putT,st,ev,gt,hp,ofV,constT,intT,lm])
 refine WO_nil ?_
 refine W_ret ?_
 obtain rfl := Option.some.inj H
 exact told3 rfl
theorem slices_IndexFunc_Simpl_Node_impl_Node_impl_allShapes_1_ok {rc22 : Node → Option (Bool)} (hrc22 : ∀ {a1 : Node} {r : Bool}, rc22 a1 = some r → R 23 [.ag [(cI .i64 a1.Kind, none), (cI .i64 a1.N, none), (cS a1.S, none), (cL eS a1.Keys, none), (cL eR_Node a1.Kids, none)]] = some (.c (cB r) none, [])) {a1 : List RNode} {r : Int} (H : slices_IndexFunc_Simpl_Node_impl_Node_impl_allShapes_1 rc22 a1 = some r) : R 31 [.c (cL eR_Node a1) none, .f 30 []] = some (.c (cI .i64 r) none, []) := by
 unfold slices_IndexFunc_Simpl_Node_impl_Node_impl_allShapes_1 at H
 refine Fz_walk 19 rfl rfl Try.func31 rfl (by kernel_rfl) rfl rfl rfl rfl ?_
 simp only [tellVs, tellV, tells, tell, st0, padT, SX.newRow, SX.newBox, List.length_cons, List.length_nil, Nat.reduceAdd, Nat.reduceSub, List.replicate, List.cons_append, List.nil_append, List.foldl_cons, List.foldl_nil]
 refine W_seq (W_region ?_)
 refine WO_op rfl rfl rfl ?_; simp only [putT,st,ev,gt,hp,ofV,constT,intT,lm]
 refine WO_nil (W_seq (W_seq (W_region ?_)))
 iterate 3 (refine WO_op rfl rfl rfl ?_; simp only [putT,st,ev,gt,hp,ofV,constT,intT,lm])
 refine WO_nil ?_
 refine W_block ?_
 obtain ⟨s7, hs7, H⟩ := bnd H
 refine loop_rule (ls := []) 0 (fun t6 : Unit => ⟨[], [], []⟩) (fun t => s7 = .inr t) ⟨[.c (cL eR_Node a1), .fn 30 [], .no, .no, .no, .no, .no, qi (a1.length : Int), qi 0], [], []⟩ (by repeat (first | exact mono_told | refine mono_seq ?_ | refine mono_blk ?_ | refine mono_lp ?_)) (le_intro [] [] (by decide) (by decide) rfl (by simp [leS, leT, leA, gt]) (by simp [leB, leT, leA]) (by simp [leR])) ?_ ?_
 ·
  rintro t6 rfl
  refine W_seq (W_region ?_)
  refine WO_op rfl rfl rfl ?_; simp only [putT,st,ev,gt,hp,ofV,constT,intT,lm]
  refine WO_nil ?_
  refine W_ret ?_
  obtain rfl := Option.some.inj H
  exact told3 rfl
 ·
  intro V1 hV1 hW1 hX1
  refine (slices_IndexFunc_Simpl_Node_impl_Node_impl_allShapes_1.l0.partial_correctness rc22 a1 (fun v2 s' => s' = s7 → (V1 ⟨[.c (cL eR_Node a1), .fn 30 [], .no, .no, .no, .no, .no, qi (a1.length : Int), qi v2], [], []⟩)) ?_ _ _ hs7 rfl)
  intro l0 IH1 v2 s' H1 e
  subst e
  refine hV1 _ ?_
  refine W_seq (W_region ?_)
  refine WO_op rfl rfl rfl ?_; simp only [putT,st,ev,gt,hp,ofV,constT,intT,lm]
  refine WO_nil (W_seq ?_)
  refine W_cond rfl (fun hc => ?_) (fun hc => ?_)
  ·
   replace H1 := tr hc H1
   refine W_skip ?_
   refine W_seq ?_
   refine W_block ?_
   refine W_seq (W_region ?_)
   iterate 2 (refine WO_op rfl rfl rfl ?_; simp only [putT,st,ev,gt,hp,ofV,constT,intT,lm])
   refine WO_nil (W_seq (W_region ?_))
   iterate 3 (refine WO_op rfl rfl rfl ?_; simp only [putT,st,ev,gt,hp,ofV,constT,intT,lm])
   obtain ⟨x3, hx3, H1⟩ := bnd H1
   obtain ⟨y4, hy4, H1⟩ := bnd H1
   rw [dN_Node_some hy4] at hx3
   refine WO_op rfl rfl (ev_ix (en := eR_Node) hx3 rfl rfl rfl rfl rfl rfl rfl) ?_; simp only [putT,st,ev,gt,hp,ofV,constT,intT,lm]
   refine WO_op (x := .ag [qi y4.Kind, qi y4.N, qs y4.S, .c (cL eS y4.Keys), .c (cL eR_Node y4.Kids)]) rfl rfl rfl ?_; simp only [putT,st,ev,gt,hp,ofV,constT,intT,lm]
   obtain ⟨x5, hx5, H1⟩ := bnd H1
   refine WO_op (x := qb x5) (σ' := ⟨[], [], []⟩) rfl rfl (ev_callG (al := [.ag [qi y4.Kind, qi y4.N, qs y4.S, .c (cL eS y4.Keys), .c (cL eR_Node y4.Kids)]]) (ls := []) (impl_allShapes_1_ok hrc22 hx5) rfl rfl rfl rfl rfl (by decide) rfl rfl rfl rfl rfl rfl) ?_; simp only [putT,st,ev,gt,hp,ofV,constT,intT,lm]
   refine WO_nil ?_
   refine W_cond rfl (fun hc => ?_) (fun hc => ?_)
   ·
    replace H1 := tr hc H1
    refine W_seq (W_region ?_)
    iterate 2 (refine WO_op rfl rfl rfl ?_; simp only [putT,st,ev,gt,hp,ofV,constT,intT,lm])
    refine WO_nil ?_
    refine W_ret ?_
    obtain rfl := Option.some.inj H1
    obtain rfl := Option.some.inj H
    exact told3 rfl
   ·
    replace H1 := fl hc H1
    refine W_skip ?_
    refine W_region ?_
    iterate 2 (refine WO_op rfl rfl rfl ?_; simp only [putT,st,ev,gt,hp,ofV,constT,intT,lm])
    refine WO_nil ?_
    exact hW1 _ _ ((IH1 _ _ H1 rfl)) (le_intro [] [] (by decide) (by decide) rfl (by simp [leS, leT, leA, gt]) (by simp [leB, leT, leA]) (by simp [leR]))
  ·
   replace H1 := fl hc H1
   refine W_exit ?_
   obtain rfl := Option.some.inj H1
   exact hX1 () _ rfl (le_intro [] [] (by decide) (by decide) rfl (by simp [leS, leT, leA, gt]) (by simp [leB, leT, leA]) (by simp [leR]))
theorem slices_ContainsFunc_Simpl_Node_impl_Node_impl_allShapes_1_ok {rc22 : Node → Option (Bool)} (hrc22 : ∀ {a1 : Node} {r : Bool}, rc22 a1 = some r → R 23 [.ag [(cI .i64 a1.Kind, none), (cI .i64 a1.N, none), (cS a1.S, none), (cL eS a1.Keys, none), (cL eR_Node a1.Kids, none)]] = some (.c (cB r) none, [])) {a1 : List RNode} {r : Bool} (H : slices_ContainsFunc_Simpl_Node_impl_Node_impl_allShapes_1 rc22 a1 = some r) : R 24 [.c (cL eR_Node a1) none, .f 30 []] = some (.c (cB r) none, []) := by
 unfold slices_ContainsFunc_Simpl_Node_impl_Node_impl_allShapes_1 at H
 refine Fz_walk 9 rfl rfl Try.func24 rfl (by kernel_rfl) rfl rfl rfl rfl ?_
 simp only [tellVs, tellV, tells, tell, st0, padT, SX.newRow, SX.newBox, List.length_cons, List.length_nil, Nat.reduceAdd, Nat.reduceSub, List.replicate, List.cons_append, List.nil_append, List.foldl_cons, List.foldl_nil]
 refine W_seq (W_region ?_)
 refine WO_op rfl rfl rfl ?_; simp only [putT,st,ev,gt,hp,ofV,constT,intT,lm]
 refine WO_nil (W_seq (W_region ?_))
 iterate 2 (refine WO_op rfl rfl rfl ?_; simp only [putT,st,ev,gt,hp,ofV,constT,intT,lm])
 obtain ⟨x2, hx2, H⟩ := bnd H
 refine WO_op (x := qi x2) (σ' := ⟨[], [], []⟩) rfl rfl (ev_callG (al := [.c (cL eR_Node a1), .fn 30 []]) (ls := []) (slices_IndexFunc_Simpl_Node_impl_Node_impl_allShapes_1_ok hrc22 hx2) rfl rfl rfl rfl rfl (by decide) rfl rfl rfl rfl rfl rfl) ?_; simp only [putT,st,ev,gt,hp,ofV,constT,intT,lm]
 iterate 2 (refine WO_op rfl rfl rfl ?_; simp only [putT,st,ev,gt,hp,ofV,constT,intT,lm])
 refine WO_nil ?_
 refine W_ret ?_
 obtain rfl := Option.some.inj H
 exact told3 rfl
theorem impl_allShapes_F_ok {rc22 : Node → Option (Bool)} (hrc22 : ∀ {a1 : Node} {r : Bool}, rc22 a1 = some r → R 23 [.ag [(cI .i64 a1.Kind, none), (cI .i64 a1.N, none), (cS a1.S, none), (cL eS a1.Keys, none), (cL eR_Node a1.Kids, none)]] = some (.c (cB r) none, [])) {a1 : Node} {r : Bool} (H : impl_allShapes_F rc22 a1 = some r) : R 23 [.ag [(cI .i64 a1.Kind, none), (cI .i64 a1.N, none), (cS a1.S, none), (cL eS a1.Keys, none), (cL eR_Node a1.Kids, none)]] = some (.c (cB r) none, []) := by
 unfold impl_allShapes_F at H
 refine Fz_walk 11 rfl rfl Try.func23 rfl (by kernel_rfl) rfl rfl rfl rfl ?_
 simp only [tellVs, tellV, tells, tell, st0, padT, SX.newRow, SX.newBox, List.length_cons, List.length_nil, Nat.reduceAdd, Nat.reduceSub, List.replicate, List.cons_append, List.nil_append, List.foldl_cons, List.foldl_nil]
 refine W_seq (W_region ?_)
 refine WO_op (x := .bp 0 0) (σ' := ⟨[], [some [qi a1.Kind, qi a1.N, qs a1.S, .c (cL eS a1.Keys), .c (cL eR_Node a1.Kids)]], []⟩) rfl rfl rfl ?_
 refine WO_op rfl rfl rfl ?_; simp only [putT,st,ev,gt,hp,ofV,constT,intT,lm]
 refine WO_nil (W_seq (W_region ?_))
 refine WO_op (x := .ag [qi a1.Kind, qi a1.N, qs a1.S, .c (cL eS a1.Keys), .c (cL eR_Node a1.Kids)]) rfl rfl rfl ?_; simp only [putT,st,ev,gt,hp,ofV,constT,intT,lm]
 obtain ⟨x2, hx2, H⟩ := bnd H
 refine WO_op (x := qb x2) (σ' := ⟨[], [some [qi a1.Kind, qi a1.N, qs a1.S, .c (cL eS a1.Keys), .c (cL eR_Node a1.Kids)]], []⟩) rfl rfl (ev_callG (al := [.ag [qi a1.Kind, qi a1.N, qs a1.S, .c (cL eS a1.Keys), .c (cL eR_Node a1.Kids)]]) (ls := []) (impl_shapeOk_ok hx2) rfl rfl rfl rfl rfl (by decide) rfl rfl rfl rfl rfl rfl) ?_; simp only [putT,st,ev,gt,hp,ofV,constT,intT,lm]
 refine WO_op rfl rfl rfl ?_; simp only [putT,st,ev,gt,hp,ofV,constT,intT,lm]
 refine WO_if rfl rfl rfl (fun hc => ?_) (fun hc => ?_)
 ·
  replace H := tr hc H
  refine WO_want (x := .bp 0 4) rfl rfl rfl ?_
  refine WO_want (x := .c (cL eR_Node a1.Kids)) rfl rfl rfl ?_; simp only [putT,st,ev,gt,hp,ofV,constT,intT,lm]
  obtain ⟨x3, hx3, H⟩ := bnd H
  refine WO_want (x := qb x3) (σ' := ⟨[], [some [qi a1.Kind, qi a1.N, qs a1.S, .c (cL eS a1.Keys), .c (cL eR_Node a1.Kids)]], []⟩) rfl rfl (ev_callG (al := [.c (cL eR_Node a1.Kids), .fn 30 []]) (ls := []) (slices_ContainsFunc_Simpl_Node_impl_Node_impl_allShapes_1_ok hrc22 hx3) rfl rfl rfl rfl rfl (by decide) rfl rfl rfl rfl rfl rfl) ?_; simp only [putT,st,ev,gt,hp,ofV,constT,intT,lm]
  refine WO_want rfl rfl rfl ?_
  refine WO_op (x := qb (!x3)) rfl rfl rfl ?_
  refine WO_op rfl rfl rfl ?_; simp only [putT,st,ev,gt,hp,ofV,constT,intT,lm]
  refine WO_nil ?_
  refine W_ret ?_
  obtain rfl := Option.some.inj H
  exact told3 rfl
 ·
  replace H := fl hc H
  simp only [putT,st,ev,gt,hp,ofV,constT,intT,lm]
  iterate 4 refine WO_skip rfl rfl ?_
  refine WO_op (x := qb false) rfl rfl rfl ?_
  refine WO_op rfl rfl rfl ?_; simp only [putT,st,ev,gt,hp,ofV,constT,intT,lm]
  refine WO_nil ?_
  refine W_ret ?_
  obtain rfl := Option.some.inj H
  exact told3 rfl
theorem impl_allShapes_n_ok : ∀ (k : Nat) {a1 : Node} {r : Bool}, impl_allShapes_n k a1 = some r → R 23 [.ag [(cI .i64 a1.Kind, none), (cI .i64 a1.N, none), (cS a1.S, none), (cL eS a1.Keys, none), (cL eR_Node a1.Kids, none)]] = some (.c (cB r) none, [])
  | 0, _, _, h => by simp [impl_allShapes_n] at h
  | k + 1, _, _, h => impl_allShapes_F_ok (fun h => impl_allShapes_n_ok k h) h
theorem impl_allShapes_ok {a1 : Node} {r : Bool} (H : impl_allShapes a1 = some r) : R 23 [.ag [(cI .i64 a1.Kind, none), (cI .i64 a1.N, none), (cS a1.S, none), (cL eS a1.Keys, none), (cL eR_Node a1.Kids, none)]] = some (.c (cB r) none, []) := by
  obtain ⟨k, hk⟩ := Nt.lim_ex H
  exact impl_allShapes_n_ok k (hk k (Nat.le_refl k))
theorem impl_TreeOk_ok  {a1 : Node} {r : Bool} (H : impl_TreeOk a1 = some r) : R 15 [.ag [(cI .i64 a1.Kind, none), (cI .i64 a1.N, none), (cS a1.S, none), (cL eS a1.Keys, none), (cL eR_Node a1.Kids, none)]] = some (.c (cB r) none, []) := by
 unfold impl_TreeOk at H
 refine Fz_walk 20 rfl rfl Try.func15 rfl (by kernel_rfl) rfl rfl rfl rfl ?_
 simp only [tellVs, tellV, tells, tell, st0, padT, SX.newRow, SX.newBox, List.length_cons, List.length_nil, Nat.reduceAdd, Nat.reduceSub, List.replicate, List.cons_append, List.nil_append, List.foldl_cons, List.foldl_nil]
 refine W_seq (W_region ?_)
 refine WO_op (x := .bp 0 0) (σ' := ⟨[], [some [qi a1.Kind, qi a1.N, qs a1.S, .c (cL eS a1.Keys), .c (cL eR_Node a1.Kids)]], []⟩) rfl rfl rfl ?_
 refine WO_op rfl rfl rfl ?_; simp only [putT,st,ev,gt,hp,ofV,constT,intT,lm]
 refine WO_nil (W_seq (W_region ?_))
 refine WO_op (x := .ag [qi a1.Kind, qi a1.N, qs a1.S, .c (cL eS a1.Keys), .c (cL eR_Node a1.Kids)]) rfl rfl rfl ?_; simp only [putT,st,ev,gt,hp,ofV,constT,intT,lm]
 obtain ⟨x2, hx2, H⟩ := bnd H
 refine WO_op (x := .tu [qi x2.1, qi x2.2]) (σ' := ⟨[], [some [qi a1.Kind, qi a1.N, qs a1.S, .c (cL eS a1.Keys), .c (cL eR_Node a1.Kids)]], []⟩) rfl rfl (ev_callG (al := [.ag [qi a1.Kind, qi a1.N, qs a1.S, .c (cL eS a1.Keys), .c (cL eR_Node a1.Kids)], qi 9]) (ls := []) (impl_size_ok hx2) rfl rfl rfl rfl rfl (by decide) rfl rfl rfl rfl rfl rfl) ?_; simp only [putT,st,ev,gt,hp,ofV,constT,intT,lm]
 refine WO_op rfl rfl rfl ?_
 refine WO_op (x := qi x2.1) rfl rfl rfl ?_
 refine WO_op (x := qi x2.2) rfl rfl rfl ?_; simp only [putT,st,ev,gt,hp,ofV,constT,intT,lm]
 iterate 2 (refine WO_op rfl rfl rfl ?_; simp only [putT,st,ev,gt,hp,ofV,constT,intT,lm])
 refine WO_nil (W_seq (W_region ?_))
 iterate 3 (refine WO_op rfl rfl rfl ?_; simp only [putT,st,ev,gt,hp,ofV,constT,intT,lm])
 refine WO_if rfl rfl rfl (fun hc => ?_) (fun hc => ?_)
 ·
  replace H := tr hc H
  simp only [putT,st,ev,gt,hp,ofV,constT,intT,lm]
  iterate 2 (refine WO_want rfl rfl rfl ?_; simp only [putT,st,ev,gt,hp,ofV,constT,intT,lm])
  refine WO_op (x := qb (decide (x2.2 ≤ 8))) rfl rfl rfl ?_
  refine WO_op rfl rfl rfl ?_; simp only [putT,st,ev,gt,hp,ofV,constT,intT,lm]
  refine WO_if rfl rfl rfl (fun hc => ?_) (fun hc => ?_)
  ·
   replace H := tr hc H
   refine WO_want (x := .ag [qi a1.Kind, qi a1.N, qs a1.S, .c (cL eS a1.Keys), .c (cL eR_Node a1.Kids)]) rfl rfl rfl ?_; simp only [putT,st,ev,gt,hp,ofV,constT,intT,lm]
   obtain ⟨x3, hx3, H⟩ := bnd H
   refine WO_want (x := qb x3) (σ' := ⟨[], [some [qi a1.Kind, qi a1.N, qs a1.S, .c (cL eS a1.Keys), .c (cL eR_Node a1.Kids)]], []⟩) rfl rfl (ev_callG (al := [.ag [qi a1.Kind, qi a1.N, qs a1.S, .c (cL eS a1.Keys), .c (cL eR_Node a1.Kids)]]) (ls := []) (impl_allShapes_ok hx3) rfl rfl rfl rfl rfl (by decide) rfl rfl rfl rfl rfl rfl) ?_; simp only [putT,st,ev,gt,hp,ofV,constT,intT,lm]
   refine WO_op (x := qb x3) rfl rfl rfl ?_
   refine WO_op rfl rfl rfl ?_; simp only [putT,st,ev,gt,hp,ofV,constT,intT,lm]
   refine WO_nil ?_
   refine W_ret ?_
   obtain rfl := Option.some.inj H
   exact told3 rfl
  ·
   replace H := fl hc H
   simp only [putT,st,ev,gt,hp,ofV,constT,intT,lm]
   iterate 2 refine WO_skip rfl rfl ?_
   refine WO_op (x := qb false) rfl rfl rfl ?_
   refine WO_op rfl rfl rfl ?_; simp only [putT,st,ev,gt,hp,ofV,constT,intT,lm]
   refine WO_nil ?_
   refine W_ret ?_
   obtain rfl := Option.some.inj H
   exact told3 rfl
 ·
  replace H := fl hc H
  simp only [putT,st,ev,gt,hp,ofV,constT,intT,lm]
  iterate 2 refine WO_skip rfl rfl ?_
  refine WO_op (x := qb false) rfl rfl rfl ?_
  refine WO_op rfl rfl rfl ?_; simp only [putT,st,ev,gt,hp,ofV,constT,intT,lm]
  iterate 2 refine WO_skip rfl rfl ?_
  refine WO_op (x := qb false) rfl rfl rfl ?_
  refine WO_op rfl rfl rfl ?_; simp only [putT,st,ev,gt,hp,ofV,constT,intT,lm]
  refine WO_nil ?_
  refine W_ret ?_
  obtain rfl := Option.some.inj H
  exact told3 rfl
theorem impl_noNull_1_ok {rc29 : Node → Option (Bool)} (hrc29 : ∀ {a1 : Node} {r : Bool}, rc29 a1 = some r → R 16 [.ag [(cI .i64 a1.Kind, none), (cI .i64 a1.N, none), (cS a1.S, none), (cL eS a1.Keys, none), (cL eR_Node a1.Kids, none)]] = some (.c (cB r) none, [])) {a1 : Node} {a2 : Node} {r : Bool × Node} (H : impl_noNull_1 rc29 a1 a2 = some r) : R 25 [.ag [(cI .i64 a1.Kind, none), (cI .i64 a1.N, none), (cS a1.S, none), (cL eS a1.Keys, none), (cL eR_Node a1.Kids, none)], .p [(cI .i64 a2.Kind, none), (cI .i64 a2.N, none), (cS a2.S, none), (cL eS a2.Keys, none), (cL eR_Node a2.Kids, none)]] = some (.c (cB r.1) none, [some [(cI .i64 r.2.Kind, none), (cI .i64 r.2.N, none), (cS r.2.S, none), (cL eS r.2.Keys, none), (cL eR_Node r.2.Kids, none)]]) := by
 unfold impl_noNull_1 at H
 refine Fz_walk 17 rfl rfl Try.func25 rfl (by kernel_rfl) rfl rfl rfl rfl ?_
 simp only [tellVs, tellV, tells, tell, st0, padT, SX.newRow, SX.newBox, List.length_cons, List.length_nil, Nat.reduceAdd, Nat.reduceSub, List.replicate, List.cons_append, List.nil_append, List.foldl_cons, List.foldl_nil]
 refine W_seq (W_region ?_)
 refine WO_op (x := .bp 1 0) (σ' := ⟨[], [some [qi a2.Kind, qi a2.N, qs a2.S, .c (cL eS a2.Keys), .c (cL eR_Node a2.Kids)], some [qi a1.Kind, qi a1.N, qs a1.S, .c (cL eS a1.Keys), .c (cL eR_Node a1.Kids)]], []⟩) rfl rfl rfl ?_
 refine WO_op rfl rfl rfl ?_; simp only [putT,st,ev,gt,hp,ofV,constT,intT,lm]
 refine WO_nil (W_seq (W_region ?_))
 refine WO_op (x := .bp 0 0) rfl rfl rfl ?_
 refine WO_op (x := qi a2.Kind) rfl rfl rfl ?_; simp only [putT,st,ev,gt,hp,ofV,constT,intT,lm]
 iterate 2 (refine WO_op rfl rfl rfl ?_; simp only [putT,st,ev,gt,hp,ofV,constT,intT,lm])
 refine WO_if rfl rfl rfl (fun hc => ?_) (fun hc => ?_)
 ·
  replace H := tr hc H
  refine WO_want (x := .bp 1 0) rfl rfl rfl ?_
  refine WO_want (x := qi a1.Kind) rfl rfl rfl ?_
  refine WO_want rfl rfl rfl ?_; simp only [putT,st,ev,gt,hp,ofV,constT,intT,lm]
  refine WO_op (x := qb (a1.Kind == 0)) rfl rfl rfl ?_
  refine WO_op rfl rfl rfl ?_; simp only [putT,st,ev,gt,hp,ofV,constT,intT,lm]
  refine WO_if rfl rfl rfl (fun hc => ?_) (fun hc => ?_)
  ·
   replace H := tr hc H
   simp only [putT,st,ev,gt,hp,ofV,constT,intT,lm]
   iterate 3 refine WO_skip rfl rfl ?_
   refine WO_op (x := qb true) rfl rfl rfl ?_
   refine WO_op rfl rfl rfl ?_; simp only [putT,st,ev,gt,hp,ofV,constT,intT,lm]
   refine WO_nil ?_
   refine W_ret ?_
   obtain rfl := Option.some.inj H
   exact told3 rfl
  ·
   replace H := fl hc H
   refine WO_want (x := .ag [qi a1.Kind, qi a1.N, qs a1.S, .c (cL eS a1.Keys), .c (cL eR_Node a1.Kids)]) rfl rfl rfl ?_; simp only [putT,st,ev,gt,hp,ofV,constT,intT,lm]
   obtain ⟨x3, hx3, H⟩ := bnd H
   refine WO_want (x := qb x3) (σ' := ⟨[], [some [qi a2.Kind, qi a2.N, qs a2.S, .c (cL eS a2.Keys), .c (cL eR_Node a2.Kids)], some [qi a1.Kind, qi a1.N, qs a1.S, .c (cL eS a1.Keys), .c (cL eR_Node a1.Kids)]], []⟩) rfl rfl (ev_callG (al := [.ag [qi a1.Kind, qi a1.N, qs a1.S, .c (cL eS a1.Keys), .c (cL eR_Node a1.Kids)]]) (ls := []) (hrc29 hx3) rfl rfl rfl rfl rfl (by decide) rfl rfl rfl rfl rfl rfl) ?_; simp only [putT,st,ev,gt,hp,ofV,constT,intT,lm]
   refine WO_want rfl rfl rfl ?_
   refine WO_op (x := qb (!x3)) rfl rfl rfl ?_
   refine WO_op rfl rfl rfl ?_; simp only [putT,st,ev,gt,hp,ofV,constT,intT,lm]
   refine WO_nil ?_
   refine W_ret ?_
   obtain rfl := Option.some.inj H
   exact told3 rfl
 ·
  replace H := fl hc H
  simp only [putT,st,ev,gt,hp,ofV,constT,intT,lm]
  iterate 3 refine WO_skip rfl rfl ?_
  refine WO_op (x := qb false) rfl rfl rfl ?_
  refine WO_op rfl rfl rfl ?_
  refine WO_want (x := .ag [qi a1.Kind, qi a1.N, qs a1.S, .c (cL eS a1.Keys), .c (cL eR_Node a1.Kids)]) rfl rfl rfl ?_; simp only [putT,st,ev,gt,hp,ofV,constT,intT,lm]
  obtain ⟨x4, hx4, H⟩ := bnd H
  refine WO_want (x := qb x4) (σ' := ⟨[], [some [qi a2.Kind, qi a2.N, qs a2.S, .c (cL eS a2.Keys), .c (cL eR_Node a2.Kids)], some [qi a1.Kind, qi a1.N, qs a1.S, .c (cL eS a1.Keys), .c (cL eR_Node a1.Kids)]], []⟩) rfl rfl (ev_callG (al := [.ag [qi a1.Kind, qi a1.N, qs a1.S, .c (cL eS a1.Keys), .c (cL eR_Node a1.Kids)]]) (ls := []) (hrc29 hx4) rfl rfl rfl rfl rfl (by decide) rfl rfl rfl rfl rfl rfl) ?_; simp only [putT,st,ev,gt,hp,ofV,constT,intT,lm]
  refine WO_want rfl rfl rfl ?_
  refine WO_op (x := qb (!x4)) rfl rfl rfl ?_
  refine WO_op rfl rfl rfl ?_; simp only [putT,st,ev,gt,hp,ofV,constT,intT,lm]
  refine WO_nil ?_
  refine W_ret ?_
  obtain rfl := Option.some.inj H
  exact told3 rfl
theorem slices_IndexFunc_Simpl_Node_impl_Node_impl_noNull_1_ok {rc29 : Node → Option (Bool)} (hrc29 : ∀ {a1 : Node} {r : Bool}, rc29 a1 = some r → R 16 [.ag [(cI .i64 a1.Kind, none), (cI .i64 a1.N, none), (cS a1.S, none), (cL eS a1.Keys, none), (cL eR_Node a1.Kids, none)]] = some (.c (cB r) none, [])) {a1 : List RNode} {a2 : Node} {r : Int × Node} (H : slices_IndexFunc_Simpl_Node_impl_Node_impl_noNull_1 rc29 a1 a2 = some r) : R 31 [.c (cL eR_Node a1) none, .f 25 [[(cI .i64 a2.Kind, none), (cI .i64 a2.N, none), (cS a2.S, none), (cL eS a2.Keys, none), (cL eR_Node a2.Kids, none)]]] = some (.c (cI .i64 r.1) none, [some [(cI .i64 r.2.Kind, none), (cI .i64 r.2.N, none), (cS r.2.S, none), (cL eS r.2.Keys, none), (cL eR_Node r.2.Kids, none)]]) := by
 unfold slices_IndexFunc_Simpl_Node_impl_Node_impl_noNull_1 at H
 refine Fz_walk 19 rfl rfl Try.func31 rfl (by kernel_rfl) rfl rfl rfl rfl ?_
 simp only [tellVs, tellV, tells, tell, st0, padT, SX.newRow, SX.newBox, List.length_cons, List.length_nil, Nat.reduceAdd, Nat.reduceSub, List.replicate, List.cons_append, List.nil_append, List.foldl_cons, List.foldl_nil]
 refine W_seq (W_region ?_)
 refine WO_op rfl rfl rfl ?_; simp only [putT,st,ev,gt,hp,ofV,constT,intT,lm]
 refine WO_nil (W_seq (W_seq (W_region ?_)))
 iterate 3 (refine WO_op rfl rfl rfl ?_; simp only [putT,st,ev,gt,hp,ofV,constT,intT,lm])
 refine WO_nil ?_
 refine W_block ?_
 obtain ⟨s13, hs13, H⟩ := bnd H
 refine loop_rule (ls := [.b 0]) 0 (fun t12 : Int × Int × Str × List Str × List RNode => ⟨[], [some [qi t12.1, qi t12.2.1, qs t12.2.2.1, .c (cL eS t12.2.2.2.1), .c (cL eR_Node t12.2.2.2.2)]], []⟩) (fun t => s13 = .inr t) ⟨[.c (cL eR_Node a1), .fn 25 [0], .no, .no, .no, .no, .no, qi (a1.length : Int), qi 0], [some [qi a2.Kind, qi a2.N, qs a2.S, .c (cL eS a2.Keys), .c (cL eR_Node a2.Kids)]], []⟩ (by repeat (first | exact mono_told | refine mono_seq ?_ | refine mono_blk ?_ | refine mono_lp ?_)) (le_intro [0] [] (by decide) (by decide) rfl (by simp [leS, leT, leA, gt]) (by simp [leB, leT, leA]) (by simp [leR])) ?_ ?_
 ·
  rintro t12 rfl
  refine W_seq (W_region ?_)
  refine WO_op rfl rfl rfl ?_; simp only [putT,st,ev,gt,hp,ofV,constT,intT,lm]
  refine WO_nil ?_
  refine W_ret ?_
  obtain rfl := Option.some.inj H
  exact told3 rfl
 ·
  intro V1 hV1 hW1 hX1
  refine (slices_IndexFunc_Simpl_Node_impl_Node_impl_noNull_1.l0.partial_correctness rc29 a1 (fun v3 v4 v5 v6 v7 v8 s' => s' = s13 → (V1 ⟨[.c (cL eR_Node a1), .fn 25 [0], .no, .no, .no, .no, .no, qi (a1.length : Int), qi v3], [some [qi v4, qi v5, qs v6, .c (cL eS v7), .c (cL eR_Node v8)]], []⟩)) ?_ _ _ _ _ _ _ _ hs13 rfl)
  intro l0 IH1 v3 v4 v5 v6 v7 v8 s' H1 e
  subst e
  refine hV1 _ ?_
  refine W_seq (W_region ?_)
  refine WO_op rfl rfl rfl ?_; simp only [putT,st,ev,gt,hp,ofV,constT,intT,lm]
  refine WO_nil (W_seq ?_)
  refine W_cond rfl (fun hc => ?_) (fun hc => ?_)
  ·
   replace H1 := tr hc H1
   refine W_skip ?_
   refine W_seq ?_
   refine W_block ?_
   refine W_seq (W_region ?_)
   iterate 2 (refine WO_op rfl rfl rfl ?_; simp only [putT,st,ev,gt,hp,ofV,constT,intT,lm])
   refine WO_nil (W_seq (W_region ?_))
   iterate 3 (refine WO_op rfl rfl rfl ?_; simp only [putT,st,ev,gt,hp,ofV,constT,intT,lm])
   obtain ⟨x9, hx9, H1⟩ := bnd H1
   obtain ⟨y10, hy10, H1⟩ := bnd H1
   rw [dN_Node_some hy10] at hx9
   refine WO_op rfl rfl (ev_ix (en := eR_Node) hx9 rfl rfl rfl rfl rfl rfl rfl) ?_; simp only [putT,st,ev,gt,hp,ofV,constT,intT,lm]
   refine WO_op (x := .ag [qi y10.Kind, qi y10.N, qs y10.S, .c (cL eS y10.Keys), .c (cL eR_Node y10.Kids)]) rfl rfl rfl ?_; simp only [putT,st,ev,gt,hp,ofV,constT,intT,lm]
   obtain ⟨x11, hx11, H1⟩ := bnd H1
   refine WO_op (x := qb x11.1) (σ' := ⟨[], [some [qi x11.2.Kind, qi x11.2.N, qs x11.2.S, .c (cL eS x11.2.Keys), .c (cL eR_Node x11.2.Kids)]], []⟩) rfl rfl (ev_callG (al := [.ag [qi y10.Kind, qi y10.N, qs y10.S, .c (cL eS y10.Keys), .c (cL eR_Node y10.Kids)], .bp 0 0]) (ls := [.b 0]) (impl_noNull_1_ok hrc29 hx11) rfl rfl rfl rfl rfl (by decide) rfl rfl rfl rfl rfl rfl) ?_; simp only [putT,st,ev,gt,hp,ofV,constT,intT,lm]
   refine WO_nil ?_
   refine W_cond rfl (fun hc => ?_) (fun hc => ?_)
   ·
    replace H1 := tr hc H1
    refine W_seq (W_region ?_)
    iterate 2 (refine WO_op rfl rfl rfl ?_; simp only [putT,st,ev,gt,hp,ofV,constT,intT,lm])
    refine WO_nil ?_
    refine W_ret ?_
    obtain rfl := Option.some.inj H1
    obtain rfl := Option.some.inj H
    exact told3 rfl
   ·
    replace H1 := fl hc H1
    refine W_skip ?_
    refine W_region ?_
    iterate 2 (refine WO_op rfl rfl rfl ?_; simp only [putT,st,ev,gt,hp,ofV,constT,intT,lm])
    refine WO_nil ?_
    exact hW1 _ _ ((IH1 _ _ _ _ _ _ _ H1 rfl)) (le_intro [0] [] (by decide) (by decide) rfl (by simp [leS, leT, leA, gt]) (by simp [leB, leT, leA]) (by simp [leR]))
  ·
   replace H1 := fl hc H1
   refine W_exit ?_
   obtain rfl := Option.some.inj H1
   exact hX1 (v4, v5, v6, v7, v8) _ rfl (le_intro [0] [] (by decide) (by decide) rfl (by simp [leS, leT, leA, gt]) (by simp [leB, leT, leA]) (by simp [leR]))
theorem slices_ContainsFunc_Simpl_Node_impl_Node_impl_noNull_1_ok {rc29 : Node → Option (Bool)} (hrc29 : ∀ {a1 : Node} {r : Bool}, rc29 a1 = some r → R 16 [.ag [(cI .i64 a1.Kind, none), (cI .i64 a1.N, none), (cS a1.S, none), (cL eS a1.Keys, none), (cL eR_Node a1.Kids, none)]] = some (.c (cB r) none, [])) {a1 : List RNode} {a2 : Node} {r : Bool × Node} (H : slices_ContainsFunc_Simpl_Node_impl_Node_impl_noNull_1 rc29 a1 a2 = some r) : R 24 [.c (cL eR_Node a1) none, .f 25 [[(cI .i64 a2.Kind, none), (cI .i64 a2.N, none), (cS a2.S, none), (cL eS a2.Keys, none), (cL eR_Node a2.Kids, none)]]] = some (.c (cB r.1) none, [some [(cI .i64 r.2.Kind, none), (cI .i64 r.2.N, none), (cS r.2.S, none), (cL eS r.2.Keys, none), (cL eR_Node r.2.Kids, none)]]) := by
 unfold slices_ContainsFunc_Simpl_Node_impl_Node_impl_noNull_1 at H
 refine Fz_walk 9 rfl rfl Try.func24 rfl (by kernel_rfl) rfl rfl rfl rfl ?_
 simp only [tellVs, tellV, tells, tell, st0, padT, SX.newRow, SX.newBox, List.length_cons, List.length_nil, Nat.reduceAdd, Nat.reduceSub, List.replicate, List.cons_append, List.nil_append, List.foldl_cons, List.foldl_nil]
 refine W_seq (W_region ?_)
 refine WO_op rfl rfl rfl ?_; simp only [putT,st,ev,gt,hp,ofV,constT,intT,lm]
 refine WO_nil (W_seq (W_region ?_))
 iterate 2 (refine WO_op rfl rfl rfl ?_; simp only [putT,st,ev,gt,hp,ofV,constT,intT,lm])
 obtain ⟨x3, hx3, H⟩ := bnd H
 refine WO_op (x := qi x3.1) (σ' := ⟨[], [some [qi x3.2.Kind, qi x3.2.N, qs x3.2.S, .c (cL eS x3.2.Keys), .c (cL eR_Node x3.2.Kids)]], []⟩) rfl rfl (ev_callG (al := [.c (cL eR_Node a1), .fn 25 [0]]) (ls := [.b 0]) (slices_IndexFunc_Simpl_Node_impl_Node_impl_noNull_1_ok hrc29 hx3) rfl rfl rfl rfl rfl (by decide) rfl rfl rfl rfl rfl rfl) ?_; simp only [putT,st,ev,gt,hp,ofV,constT,intT,lm]
 iterate 2 (refine WO_op rfl rfl rfl ?_; simp only [putT,st,ev,gt,hp,ofV,constT,intT,lm])
 refine WO_nil ?_
 refine W_ret ?_
 obtain rfl := Option.some.inj H
 exact told3 rfl
theorem impl_noNull_F_ok {rc29 : Node → Option (Bool)} (hrc29 : ∀ {a1 : Node} {r : Bool}, rc29 a1 = some r → R 16 [.ag [(cI .i64 a1.Kind, none), (cI .i64 a1.N, none), (cS a1.S, none), (cL eS a1.Keys, none), (cL eR_Node a1.Kids, none)]] = some (.c (cB r) none, [])) {a1 : Node} {r : Bool} (H : impl_noNull_F rc29 a1 = some r) : R 16 [.ag [(cI .i64 a1.Kind, none), (cI .i64 a1.N, none), (cS a1.S, none), (cL eS a1.Keys, none), (cL eR_Node a1.Kids, none)]] = some (.c (cB r) none, []) := by
 unfold impl_noNull_F at H
 refine Fz_walk 8 rfl rfl Try.func16 rfl (by kernel_rfl) rfl rfl rfl rfl ?_
 simp only [tellVs, tellV, tells, tell, st0, padT, SX.newRow, SX.newBox, List.length_cons, List.length_nil, Nat.reduceAdd, Nat.reduceSub, List.replicate, List.cons_append, List.nil_append, List.foldl_cons, List.foldl_nil]
 refine W_seq (W_region ?_)
 refine WO_op (x := .bp 0 0) (σ' := ⟨[], [some [qi a1.Kind, qi a1.N, qs a1.S, .c (cL eS a1.Keys), .c (cL eR_Node a1.Kids)]], []⟩) rfl rfl rfl ?_
 refine WO_op rfl rfl rfl ?_; simp only [putT,st,ev,gt,hp,ofV,constT,intT,lm]
 refine WO_nil (W_seq (W_region ?_))
 refine WO_op (x := .bp 0 4) rfl rfl rfl ?_
 refine WO_op (x := .c (cL eR_Node a1.Kids)) rfl rfl rfl ?_
 refine WO_op rfl rfl rfl ?_; simp only [putT,st,ev,gt,hp,ofV,constT,intT,lm]
 obtain ⟨x2, hx2, H⟩ := bnd H
 refine WO_op (x := qb x2.1) (σ' := ⟨[], [some [qi x2.2.Kind, qi x2.2.N, qs x2.2.S, .c (cL eS x2.2.Keys), .c (cL eR_Node x2.2.Kids)]], []⟩) rfl rfl (ev_callG (al := [.c (cL eR_Node a1.Kids), .fn 25 [0]]) (ls := [.b 0]) (slices_ContainsFunc_Simpl_Node_impl_Node_impl_noNull_1_ok hrc29 hx2) rfl rfl rfl rfl rfl (by decide) rfl rfl rfl rfl rfl rfl) ?_; simp only [putT,st,ev,gt,hp,ofV,constT,intT,lm]
 iterate 2 (refine WO_op rfl rfl rfl ?_; simp only [putT,st,ev,gt,hp,ofV,constT,intT,lm])
 refine WO_nil ?_
 refine W_ret ?_
 obtain rfl := Option.some.inj H
 exact told3 rfl
theorem impl_noNull_n_ok : ∀ (k : Nat) {a1 : Node} {r : Bool}, impl_noNull_n k a1 = some r → R 16 [.ag [(cI .i64 a1.Kind, none), (cI .i64 a1.N, none), (cS a1.S, none), (cL eS a1.Keys, none), (cL eR_Node a1.Kids, none)]] = some (.c (cB r) none, [])
  | 0, _, _, h => by simp [impl_noNull_n] at h
  | k + 1, _, _, h => impl_noNull_F_ok (fun h => impl_noNull_n_ok k h) h
theorem impl_noNull_ok {a1 : Node} {r : Bool} (H : impl_noNull a1 = some r) : R 16 [.ag [(cI .i64 a1.Kind, none), (cI .i64 a1.N, none), (cS a1.S, none), (cL eS a1.Keys, none), (cL eR_Node a1.Kids, none)]] = some (.c (cB r) none, []) := by
  obtain ⟨k, hk⟩ := Nt.lim_ex H
  exact impl_noNull_n_ok k (hk k (Nat.le_refl k))
theorem impl_NoNull_ok  {a1 : Node} {r : Bool} (H : impl_NoNull a1 = some r) : R 7 [.ag [(cI .i64 a1.Kind, none), (cI .i64 a1.N, none), (cS a1.S, none), (cL eS a1.Keys, none), (cL eR_Node a1.Kids, none)]] = some (.c (cB r) none, []) := by
 unfold impl_NoNull at H
 refine Fz_walk 9 rfl rfl Try.func7 rfl (by kernel_rfl) rfl rfl rfl rfl ?_
 simp only [tellVs, tellV, tells, tell, st0, padT, SX.newRow, SX.newBox, List.length_cons, List.length_nil, Nat.reduceAdd, Nat.reduceSub, List.replicate, List.cons_append, List.nil_append, List.foldl_cons, List.foldl_nil]
 refine W_seq (W_region ?_)
 refine WO_op (x := .bp 0 0) (σ' := ⟨[], [some [qi a1.Kind, qi a1.N, qs a1.S, .c (cL eS a1.Keys), .c (cL eR_Node a1.Kids)]], []⟩) rfl rfl rfl ?_
 refine WO_op rfl rfl rfl ?_; simp only [putT,st,ev,gt,hp,ofV,constT,intT,lm]
 refine WO_nil (W_seq (W_region ?_))
 refine WO_op (x := .ag [qi a1.Kind, qi a1.N, qs a1.S, .c (cL eS a1.Keys), .c (cL eR_Node a1.Kids)]) rfl rfl rfl ?_; simp only [putT,st,ev,gt,hp,ofV,constT,intT,lm]
 obtain ⟨x2, hx2, H⟩ := bnd H
 refine WO_op (x := qb x2) (σ' := ⟨[], [some [qi a1.Kind, qi a1.N, qs a1.S, .c (cL eS a1.Keys), .c (cL eR_Node a1.Kids)]], []⟩) rfl rfl (ev_callG (al := [.ag [qi a1.Kind, qi a1.N, qs a1.S, .c (cL eS a1.Keys), .c (cL eR_Node a1.Kids)]]) (ls := []) (impl_TreeOk_ok hx2) rfl rfl rfl rfl rfl (by decide) rfl rfl rfl rfl rfl rfl) ?_; simp only [putT,st,ev,gt,hp,ofV,constT,intT,lm]
 refine WO_op rfl rfl rfl ?_; simp only [putT,st,ev,gt,hp,ofV,constT,intT,lm]
 refine WO_if rfl rfl rfl (fun hc => ?_) (fun hc => ?_)
 ·
  replace H := tr hc H
  refine WO_want (x := .ag [qi a1.Kind, qi a1.N, qs a1.S, .c (cL eS a1.Keys), .c (cL eR_Node a1.Kids)]) rfl rfl rfl ?_; simp only [putT,st,ev,gt,hp,ofV,constT,intT,lm]
  obtain ⟨x3, hx3, H⟩ := bnd H
  refine WO_want (x := qb x3) (σ' := ⟨[], [some [qi a1.Kind, qi a1.N, qs a1.S, .c (cL eS a1.Keys), .c (cL eR_Node a1.Kids)]], []⟩) rfl rfl (ev_callG (al := [.ag [qi a1.Kind, qi a1.N, qs a1.S, .c (cL eS a1.Keys), .c (cL eR_Node a1.Kids)]]) (ls := []) (impl_noNull_ok hx3) rfl rfl rfl rfl rfl (by decide) rfl rfl rfl rfl rfl rfl) ?_; simp only [putT,st,ev,gt,hp,ofV,constT,intT,lm]
  refine WO_op (x := qb x3) rfl rfl rfl ?_
  refine WO_op rfl rfl rfl ?_; simp only [putT,st,ev,gt,hp,ofV,constT,intT,lm]
  refine WO_nil ?_
  refine W_ret ?_
  obtain rfl := Option.some.inj H
  exact told3 rfl
 ·
  replace H := fl hc H
  simp only [putT,st,ev,gt,hp,ofV,constT,intT,lm]
  iterate 2 refine WO_skip rfl rfl ?_
  refine WO_op (x := qb false) rfl rfl rfl ?_
  refine WO_op rfl rfl rfl ?_; simp only [putT,st,ev,gt,hp,ofV,constT,intT,lm]
  refine WO_nil ?_
  refine W_ret ?_
  obtain rfl := Option.some.inj H
  exact told3 rfl
theorem laws_eqStringS_ok  {a1 : List Str} {a2 : List Str} {r : Bool} (H : laws_eqStringS a1 a2 = some r) : R 17 [.c (cL eS a1) none, .c (cL eS a2) none] = some (.c (cB r) none, []) := by
 unfold laws_eqStringS at H
 refine Fz_walk 26 rfl rfl Try.func17 rfl (by kernel_rfl) rfl rfl rfl rfl ?_
 simp only [tellVs, tellV, tells, tell, st0, padT, SX.newRow, SX.newBox, List.length_cons, List.length_nil, Nat.reduceAdd, Nat.reduceSub, List.replicate, List.cons_append, List.nil_append, List.foldl_cons, List.foldl_nil]
 refine W_seq (W_region ?_)
 refine WO_op rfl rfl rfl ?_; simp only [putT,st,ev,gt,hp,ofV,constT,intT,lm]
 refine WO_nil (W_seq (W_seq (W_region ?_)))
 iterate 5 (refine WO_op rfl rfl rfl ?_; simp only [putT,st,ev,gt,hp,ofV,constT,intT,lm])
 refine WO_nil ?_
 refine W_cond rfl (fun hc => ?_) (fun hc => ?_)
 ·
  replace H := tr hc H
  refine W_seq (W_region ?_)
  refine WO_op rfl rfl rfl ?_; simp only [putT,st,ev,gt,hp,ofV,constT,intT,lm]
  refine WO_nil ?_
  refine W_ret ?_
  obtain rfl := Option.some.inj H
  exact told3 rfl
 ·
  replace H := fl hc H
  refine W_skip ?_
  refine W_seq (W_seq (W_region ?_))
  refine WO_op rfl rfl rfl ?_; simp only [putT,st,ev,gt,hp,ofV,constT,intT,lm]
  refine WO_nil ?_
  refine W_block ?_
  obtain ⟨s7, hs7, H⟩ := bnd H
  refine loop_rule (ls := []) 0 (fun t6 : Unit => ⟨[], [], []⟩) (fun t => s7 = .inr t) ⟨[.c (cL eS a1), .c (cL eS a2), .no, .no, .no, qi 0], [], []⟩ (by repeat (first | exact mono_told | refine mono_seq ?_ | refine mono_blk ?_ | refine mono_lp ?_)) (le_intro [] [] (by decide) (by decide) rfl (by simp [leS, leT, leA, gt]) (by simp [leB, leT, leA]) (by simp [leR])) ?_ ?_
  ·
   rintro t6 rfl
   refine W_seq (W_region ?_)
   refine WO_op rfl rfl rfl ?_; simp only [putT,st,ev,gt,hp,ofV,constT,intT,lm]
   refine WO_nil ?_
   refine W_ret ?_
   obtain rfl := Option.some.inj H
   exact told3 rfl
  ·
   intro V1 hV1 hW1 hX1
   refine (laws_eqStringS.l0.partial_correctness a1 a2 (fun v3 s' => s' = s7 → (V1 ⟨[.c (cL eS a1), .c (cL eS a2), .no, .no, .no, qi v3], [], []⟩)) ?_ _ _ hs7 rfl)
   intro l0 IH1 v3 s' H1 e
   subst e
   refine hV1 _ ?_
   refine W_seq (W_seq (W_region ?_))
   iterate 4 (refine WO_op rfl rfl rfl ?_; simp only [putT,st,ev,gt,hp,ofV,constT,intT,lm])
   refine WO_nil ?_
   refine W_cond rfl (fun hc => ?_) (fun hc => ?_)
   ·
    replace H1 := tr hc H1
    refine W_skip ?_
    refine W_seq ?_
    refine W_block ?_
    refine W_seq ?_
    refine W_draw (by kernel_rfl) (by kernel_rfl) ?_
    iterate 2 (refine WO_op rfl rfl rfl ?_; simp only [putT,st,ev,gt,hp,ofV,constT,intT,lm])
    obtain ⟨x4, hx4, H1⟩ := bnd H1
    refine WO_op rfl rfl (ev_ix (en := eS) hx4 rfl rfl rfl rfl rfl rfl rfl) ?_; simp only [putT,st,ev,gt,hp,ofV,constT,intT,lm]
    refine WO_op (x := qs x4) rfl rfl rfl ?_; simp only [putT,st,ev,gt,hp,ofV,constT,intT,lm]
    iterate 2 (refine WO_op rfl rfl rfl ?_; simp only [putT,st,ev,gt,hp,ofV,constT,intT,lm])
    obtain ⟨x5, hx5, H1⟩ := bnd H1
    refine WO_op rfl rfl (ev_ix (en := eS) hx5 rfl rfl rfl rfl rfl rfl rfl) ?_; simp only [putT,st,ev,gt,hp,ofV,constT,intT,lm]
    refine WO_op (x := qs x5) rfl rfl rfl ?_; simp only [putT,st,ev,gt,hp,ofV,constT,intT,lm]
    refine WO_op rfl rfl (ev_neq_s rfl rfl rfl) ?_; simp only [putT,st,ev,gt,hp,ofV,constT,intT,lm]
    refine WO_nil ?_
    refine W_cond rfl (fun hc => ?_) (fun hc => ?_)
    ·
     replace H1 := tr hc H1
     refine W_seq (W_region ?_)
     refine WO_op rfl rfl rfl ?_; simp only [putT,st,ev,gt,hp,ofV,constT,intT,lm]
     refine WO_nil ?_
     refine W_ret ?_
     obtain rfl := Option.some.inj H1
     obtain rfl := Option.some.inj H
     exact told3 rfl
    ·
     replace H1 := fl hc H1
     refine W_skip ?_
     refine W_region ?_
     iterate 3 (refine WO_op rfl rfl rfl ?_; simp only [putT,st,ev,gt,hp,ofV,constT,intT,lm])
     refine WO_nil ?_
     exact hW1 _ _ ((IH1 _ _ H1 rfl)) (le_intro [] [] (by decide) (by decide) rfl (by simp [leS, leT, leA, gt]) (by simp [leB, leT, leA]) (by simp [leR]))
   ·
    replace H1 := fl hc H1
    refine W_exit ?_
    obtain rfl := Option.some.inj H1
    exact hX1 () _ rfl (le_intro [] [] (by decide) (by decide) rfl (by simp [leS, leT, leA, gt]) (by simp [leB, leT, leA]) (by simp [leR]))
theorem laws_eqNodeS_ok {rc33 : Node → Node → Option (Bool)} (hrc33 : ∀ {a1 : Node} {a2 : Node} {r : Bool}, rc33 a1 a2 = some r → R 8 [.ag [(cI .i64 a1.Kind, none), (cI .i64 a1.N, none), (cS a1.S, none), (cL eS a1.Keys, none), (cL eR_Node a1.Kids, none)], .ag [(cI .i64 a2.Kind, none), (cI .i64 a2.N, none), (cS a2.S, none), (cL eS a2.Keys, none), (cL eR_Node a2.Kids, none)]] = some (.c (cB r) none, [])) {a1 : List RNode} {a2 : List RNode} {r : Bool} (H : laws_eqNodeS rc33 a1 a2 = some r) : R 18 [.c (cL eR_Node a1) none, .c (cL eR_Node a2) none] = some (.c (cB r) none, []) := by
 unfold laws_eqNodeS at H
 refine Fz_walk 27 rfl rfl Try.func18 rfl (by kernel_rfl) rfl rfl rfl rfl ?_
 simp only [tellVs, tellV, tells, tell, st0, padT, SX.newRow, SX.newBox, List.length_cons, List.length_nil, Nat.reduceAdd, Nat.reduceSub, List.replicate, List.cons_append, List.nil_append, List.foldl_cons, List.foldl_nil]
 refine W_seq (W_region ?_)
 refine WO_op rfl rfl rfl ?_; simp only [putT,st,ev,gt,hp,ofV,constT,intT,lm]
 refine WO_nil (W_seq (W_seq (W_region ?_)))
 iterate 5 (refine WO_op rfl rfl rfl ?_; simp only [putT,st,ev,gt,hp,ofV,constT,intT,lm])
 refine WO_nil ?_
 refine W_cond rfl (fun hc => ?_) (fun hc => ?_)
 ·
  replace H := tr hc H
  refine W_seq (W_region ?_)
  refine WO_op rfl rfl rfl ?_; simp only [putT,st,ev,gt,hp,ofV,constT,intT,lm]
  refine WO_nil ?_
  refine W_ret ?_
  obtain rfl := Option.some.inj H
  exact told3 rfl
 ·
  replace H := fl hc H
  refine W_skip ?_
  refine W_seq (W_seq (W_region ?_))
  refine WO_op rfl rfl rfl ?_; simp only [putT,st,ev,gt,hp,ofV,constT,intT,lm]
  refine WO_nil ?_
  refine W_block ?_
  obtain ⟨s10, hs10, H⟩ := bnd H
  refine loop_rule (ls := []) 0 (fun t9 : Unit => ⟨[], [], []⟩) (fun t => s10 = .inr t) ⟨[.c (cL eR_Node a1), .c (cL eR_Node a2), .no, .no, .no, qi 0], [], []⟩ (by repeat (first | exact mono_told | refine mono_seq ?_ | refine mono_blk ?_ | refine mono_lp ?_)) (le_intro [] [] (by decide) (by decide) rfl (by simp [leS, leT, leA, gt]) (by simp [leB, leT, leA]) (by simp [leR])) ?_ ?_
  ·
   rintro t9 rfl
   refine W_seq (W_region ?_)
   refine WO_op rfl rfl rfl ?_; simp only [putT,st,ev,gt,hp,ofV,constT,intT,lm]
   refine WO_nil ?_
   refine W_ret ?_
   obtain rfl := Option.some.inj H
   exact told3 rfl
  ·
   intro V1 hV1 hW1 hX1
   refine (laws_eqNodeS.l0.partial_correctness rc33 a1 a2 (fun v3 s' => s' = s10 → (V1 ⟨[.c (cL eR_Node a1), .c (cL eR_Node a2), .no, .no, .no, qi v3], [], []⟩)) ?_ _ _ hs10 rfl)
   intro l0 IH1 v3 s' H1 e
   subst e
   refine hV1 _ ?_
   refine W_seq (W_seq (W_region ?_))
   iterate 4 (refine WO_op rfl rfl rfl ?_; simp only [putT,st,ev,gt,hp,ofV,constT,intT,lm])
   refine WO_nil ?_
   refine W_cond rfl (fun hc => ?_) (fun hc => ?_)
   ·
    replace H1 := tr hc H1
    refine W_skip ?_
    refine W_seq ?_
    refine W_block ?_
    refine W_seq ?_
    refine W_draw (by kernel_rfl) (by kernel_rfl) ?_
    iterate 2 (refine WO_op rfl rfl rfl ?_; simp only [putT,st,ev,gt,hp,ofV,constT,intT,lm])
    obtain ⟨x4, hx4, H1⟩ := bnd H1
    obtain ⟨y5, hy5, H1⟩ := bnd H1
    rw [dN_Node_some hy5] at hx4
    refine WO_op rfl rfl (ev_ix (en := eR_Node) hx4 rfl rfl rfl rfl rfl rfl rfl) ?_; simp only [putT,st,ev,gt,hp,ofV,constT,intT,lm]
    refine WO_op (x := .ag [qi y5.Kind, qi y5.N, qs y5.S, .c (cL eS y5.Keys), .c (cL eR_Node y5.Kids)]) rfl rfl rfl ?_; simp only [putT,st,ev,gt,hp,ofV,constT,intT,lm]
    iterate 2 (refine WO_op rfl rfl rfl ?_; simp only [putT,st,ev,gt,hp,ofV,constT,intT,lm])
    obtain ⟨x6, hx6, H1⟩ := bnd H1
    obtain ⟨y7, hy7, H1⟩ := bnd H1
    rw [dN_Node_some hy7] at hx6
    refine WO_op rfl rfl (ev_ix (en := eR_Node) hx6 rfl rfl rfl rfl rfl rfl rfl) ?_; simp only [putT,st,ev,gt,hp,ofV,constT,intT,lm]
    refine WO_op (x := .ag [qi y7.Kind, qi y7.N, qs y7.S, .c (cL eS y7.Keys), .c (cL eR_Node y7.Kids)]) rfl rfl rfl ?_; simp only [putT,st,ev,gt,hp,ofV,constT,intT,lm]
    obtain ⟨x8, hx8, H1⟩ := bnd H1
    refine WO_op (x := qb x8) (σ' := ⟨[], [], []⟩) rfl rfl (ev_callG (al := [.ag [qi y5.Kind, qi y5.N, qs y5.S, .c (cL eS y5.Keys), .c (cL eR_Node y5.Kids)], .ag [qi y7.Kind, qi y7.N, qs y7.S, .c (cL eS y7.Keys), .c (cL eR_Node y7.Kids)]]) (ls := []) (hrc33 hx8) rfl rfl rfl rfl rfl (by decide) rfl rfl rfl rfl rfl rfl) ?_; simp only [putT,st,ev,gt,hp,ofV,constT,intT,lm]
    refine WO_op rfl rfl rfl ?_; simp only [putT,st,ev,gt,hp,ofV,constT,intT,lm]
    refine WO_nil ?_
    refine W_cond rfl (fun hc => ?_) (fun hc => ?_)
    ·
     replace H1 := tr hc H1
     refine W_seq (W_region ?_)
     refine WO_op rfl rfl rfl ?_; simp only [putT,st,ev,gt,hp,ofV,constT,intT,lm]
     refine WO_nil ?_
     refine W_ret ?_
     obtain rfl := Option.some.inj H1
     obtain rfl := Option.some.inj H
     exact told3 rfl
    ·
     replace H1 := fl hc H1
     refine W_skip ?_
     refine W_region ?_
     iterate 3 (refine WO_op rfl rfl rfl ?_; simp only [putT,st,ev,gt,hp,ofV,constT,intT,lm])
     refine WO_nil ?_
     exact hW1 _ _ ((IH1 _ _ H1 rfl)) (le_intro [] [] (by decide) (by decide) rfl (by simp [leS, leT, leA, gt]) (by simp [leB, leT, leA]) (by simp [leR]))
   ·
    replace H1 := fl hc H1
    refine W_exit ?_
    obtain rfl := Option.some.inj H1
    exact hX1 () _ rfl (le_intro [] [] (by decide) (by decide) rfl (by simp [leS, leT, leA, gt]) (by simp [leB, leT, leA]) (by simp [leR]))
theorem laws_eqNode_F_ok {rc33 : Node → Node → Option (Bool)} (hrc33 : ∀ {a1 : Node} {a2 : Node} {r : Bool}, rc33 a1 a2 = some r → R 8 [.ag [(cI .i64 a1.Kind, none), (cI .i64 a1.N, none), (cS a1.S, none), (cL eS a1.Keys, none), (cL eR_Node a1.Kids, none)], .ag [(cI .i64 a2.Kind, none), (cI .i64 a2.N, none), (cS a2.S, none), (cL eS a2.Keys, none), (cL eR_Node a2.Kids, none)]] = some (.c (cB r) none, [])) {a1 : Node} {a2 : Node} {r : Bool} (H : laws_eqNode_F rc33 a1 a2 = some r) : R 8 [.ag [(cI .i64 a1.Kind, none), (cI .i64 a1.N, none), (cS a1.S, none), (cL eS a1.Keys, none), (cL eR_Node a1.Kids, none)], .ag [(cI .i64 a2.Kind, none), (cI .i64 a2.N, none), (cS a2.S, none), (cL eS a2.Keys, none), (cL eR_Node a2.Kids, none)]] = some (.c (cB r) none, []) := by
 unfold laws_eqNode_F at H
 refine Fz_walk 32 rfl rfl Try.func8 rfl (by kernel_rfl) rfl rfl rfl rfl ?_
 simp only [tellVs, tellV, tells, tell, st0, padT, SX.newRow, SX.newBox, List.length_cons, List.length_nil, Nat.reduceAdd, Nat.reduceSub, List.replicate, List.cons_append, List.nil_append, List.foldl_cons, List.foldl_nil]
 refine W_seq (W_region ?_)
 refine WO_op (x := .bp 0 0) (σ' := ⟨[], [some [qi a1.Kind, qi a1.N, qs a1.S, .c (cL eS a1.Keys), .c (cL eR_Node a1.Kids)]], []⟩) rfl rfl rfl ?_
 refine WO_op (x := .bp 1 0) (σ' := ⟨[], [some [qi a1.Kind, qi a1.N, qs a1.S, .c (cL eS a1.Keys), .c (cL eR_Node a1.Kids)], some [qi a2.Kind, qi a2.N, qs a2.S, .c (cL eS a2.Keys), .c (cL eR_Node a2.Kids)]], []⟩) rfl rfl rfl ?_
 refine WO_op rfl rfl rfl ?_; simp only [putT,st,ev,gt,hp,ofV,constT,intT,lm]
 refine WO_nil (W_seq (W_seq (W_region ?_)))
 refine WO_op (x := .bp 0 0) rfl rfl rfl ?_
 refine WO_op (x := qi a1.Kind) rfl rfl rfl ?_
 refine WO_op (x := .bp 1 0) rfl rfl rfl ?_
 refine WO_op (x := qi a2.Kind) rfl rfl rfl ?_; simp only [putT,st,ev,gt,hp,ofV,constT,intT,lm]
 refine WO_op rfl rfl rfl ?_; simp only [putT,st,ev,gt,hp,ofV,constT,intT,lm]
 refine WO_nil ?_
 refine W_cond rfl (fun hc => ?_) (fun hc => ?_)
 ·
  replace H := tr hc H
  refine W_seq (W_region ?_)
  refine WO_op rfl rfl rfl ?_; simp only [putT,st,ev,gt,hp,ofV,constT,intT,lm]
  refine WO_nil ?_
  refine W_ret ?_
  obtain rfl := Option.some.inj H
  exact told3 rfl
 ·
  replace H := fl hc H
  refine W_skip ?_
  refine W_seq (W_seq (W_region ?_))
  refine WO_op (x := .bp 0 1) rfl rfl rfl ?_
  refine WO_op (x := qi a1.N) rfl rfl rfl ?_
  refine WO_op (x := .bp 1 1) rfl rfl rfl ?_
  refine WO_op (x := qi a2.N) rfl rfl rfl ?_; simp only [putT,st,ev,gt,hp,ofV,constT,intT,lm]
  refine WO_op rfl rfl rfl ?_; simp only [putT,st,ev,gt,hp,ofV,constT,intT,lm]
  refine WO_nil ?_
  refine W_cond rfl (fun hc => ?_) (fun hc => ?_)
  ·
   replace H := tr hc H
   refine W_seq (W_region ?_)
   refine WO_op rfl rfl rfl ?_; simp only [putT,st,ev,gt,hp,ofV,constT,intT,lm]
   refine WO_nil ?_
   refine W_ret ?_
   obtain rfl := Option.some.inj H
   exact told3 rfl
  ·
   replace H := fl hc H
   refine W_skip ?_
   refine W_seq (W_seq (W_region ?_))
   refine WO_op (x := .bp 0 2) rfl rfl rfl ?_
   refine WO_op (x := qs a1.S) rfl rfl rfl ?_
   refine WO_op (x := .bp 1 2) rfl rfl rfl ?_
   refine WO_op (x := qs a2.S) rfl rfl rfl ?_; simp only [putT,st,ev,gt,hp,ofV,constT,intT,lm]
   refine WO_op rfl rfl (ev_neq_s rfl rfl rfl) ?_; simp only [putT,st,ev,gt,hp,ofV,constT,intT,lm]
   refine WO_nil ?_
   refine W_cond rfl (fun hc => ?_) (fun hc => ?_)
   ·
    replace H := tr hc H
    refine W_seq (W_region ?_)
    refine WO_op rfl rfl rfl ?_; simp only [putT,st,ev,gt,hp,ofV,constT,intT,lm]
    refine WO_nil ?_
    refine W_ret ?_
    obtain rfl := Option.some.inj H
    exact told3 rfl
   ·
    replace H := fl hc H
    refine W_skip ?_
    refine W_seq (W_seq (W_region ?_))
    refine WO_op (x := .bp 0 3) rfl rfl rfl ?_
    refine WO_op (x := .c (cL eS a1.Keys)) rfl rfl rfl ?_
    refine WO_op (x := .bp 1 3) rfl rfl rfl ?_
    refine WO_op (x := .c (cL eS a2.Keys)) rfl rfl rfl ?_; simp only [putT,st,ev,gt,hp,ofV,constT,intT,lm]
    obtain ⟨x3, hx3, H⟩ := bnd H
    refine WO_op (x := qb x3) (σ' := ⟨[], [some [qi a1.Kind, qi a1.N, qs a1.S, .c (cL eS a1.Keys), .c (cL eR_Node a1.Kids)], some [qi a2.Kind, qi a2.N, qs a2.S, .c (cL eS a2.Keys), .c (cL eR_Node a2.Kids)]], []⟩) rfl rfl (ev_callG (al := [.c (cL eS a1.Keys), .c (cL eS a2.Keys)]) (ls := []) (laws_eqStringS_ok hx3) rfl rfl rfl rfl rfl (by decide) rfl rfl rfl rfl rfl rfl) ?_; simp only [putT,st,ev,gt,hp,ofV,constT,intT,lm]
    refine WO_op rfl rfl rfl ?_; simp only [putT,st,ev,gt,hp,ofV,constT,intT,lm]
    refine WO_nil ?_
    refine W_cond rfl (fun hc => ?_) (fun hc => ?_)
    ·
     replace H := tr hc H
     refine W_seq (W_region ?_)
     refine WO_op rfl rfl rfl ?_; simp only [putT,st,ev,gt,hp,ofV,constT,intT,lm]
     refine WO_nil ?_
     refine W_ret ?_
     obtain rfl := Option.some.inj H
     exact told3 rfl
    ·
     replace H := fl hc H
     refine W_skip ?_
     refine W_seq (W_seq (W_region ?_))
     refine WO_op (x := .bp 0 4) rfl rfl rfl ?_
     refine WO_op (x := .c (cL eR_Node a1.Kids)) rfl rfl rfl ?_
     refine WO_op (x := .bp 1 4) rfl rfl rfl ?_
     refine WO_op (x := .c (cL eR_Node a2.Kids)) rfl rfl rfl ?_; simp only [putT,st,ev,gt,hp,ofV,constT,intT,lm]
     obtain ⟨x4, hx4, H⟩ := bnd H
     refine WO_op (x := qb x4) (σ' := ⟨[], [some [qi a1.Kind, qi a1.N, qs a1.S, .c (cL eS a1.Keys), .c (cL eR_Node a1.Kids)], some [qi a2.Kind, qi a2.N, qs a2.S, .c (cL eS a2.Keys), .c (cL eR_Node a2.Kids)]], []⟩) rfl rfl (ev_callG (al := [.c (cL eR_Node a1.Kids), .c (cL eR_Node a2.Kids)]) (ls := []) (laws_eqNodeS_ok hrc33 hx4) rfl rfl rfl rfl rfl (by decide) rfl rfl rfl rfl rfl rfl) ?_; simp only [putT,st,ev,gt,hp,ofV,constT,intT,lm]
     refine WO_op rfl rfl rfl ?_; simp only [putT,st,ev,gt,hp,ofV,constT,intT,lm]
     refine WO_nil ?_
     refine W_cond rfl (fun hc => ?_) (fun hc => ?_)
     ·
      replace H := tr hc H
      refine W_seq (W_region ?_)
      refine WO_op rfl rfl rfl ?_; simp only [putT,st,ev,gt,hp,ofV,constT,intT,lm]
      refine WO_nil ?_
      refine W_ret ?_
      obtain rfl := Option.some.inj H
      exact told3 rfl
     ·
      replace H := fl hc H
      refine W_skip ?_
      refine W_seq (W_region ?_)
      refine WO_op rfl rfl rfl ?_; simp only [putT,st,ev,gt,hp,ofV,constT,intT,lm]
      refine WO_nil ?_
      refine W_ret ?_
      obtain rfl := Option.some.inj H
      exact told3 rfl
theorem laws_eqNode_n_ok : ∀ (k : Nat) {a1 : Node} {a2 : Node} {r : Bool}, laws_eqNode_n k a1 a2 = some r → R 8 [.ag [(cI .i64 a1.Kind, none), (cI .i64 a1.N, none), (cS a1.S, none), (cL eS a1.Keys, none), (cL eR_Node a1.Kids, none)], .ag [(cI .i64 a2.Kind, none), (cI .i64 a2.N, none), (cS a2.S, none), (cL eS a2.Keys, none), (cL eR_Node a2.Kids, none)]] = some (.c (cB r) none, [])
  | 0, _, _, _, h => by simp [laws_eqNode_n] at h
  | k + 1, _, _, _, h => laws_eqNode_F_ok (fun h => laws_eqNode_n_ok k h) h
theorem laws_eqNode_ok {a1 : Node} {a2 : Node} {r : Bool} (H : laws_eqNode a1 a2 = some r) : R 8 [.ag [(cI .i64 a1.Kind, none), (cI .i64 a1.N, none), (cS a1.S, none), (cL eS a1.Keys, none), (cL eR_Node a1.Kids, none)], .ag [(cI .i64 a2.Kind, none), (cI .i64 a2.N, none), (cS a2.S, none), (cL eS a2.Keys, none), (cL eR_Node a2.Kids, none)]] = some (.c (cB r) none, []) := by
  obtain ⟨k, hk⟩ := Nt.lim_ex H
  exact laws_eqNode_n_ok k (hk k (Nat.le_refl k))
theorem laws_FnExactNoNull_ok  {a1 : Node} {r : Bool} (H : laws_FnExactNoNull a1 = some r) : R 3 [.ag [(cI .i64 a1.Kind, none), (cI .i64 a1.N, none), (cS a1.S, none), (cL eS a1.Keys, none), (cL eR_Node a1.Kids, none)]] = some (.c (cB r) none, []) := by
 unfold laws_FnExactNoNull at H
 refine Fz_walk 27 rfl rfl Try.func3 rfl (by kernel_rfl) rfl rfl rfl rfl ?_
 simp only [tellVs, tellV, tells, tell, st0, padT, SX.newRow, SX.newBox, List.length_cons, List.length_nil, Nat.reduceAdd, Nat.reduceSub, List.replicate, List.cons_append, List.nil_append, List.foldl_cons, List.foldl_nil]
 refine W_seq (W_region ?_)
 refine WO_op (x := .bp 0 0) (σ' := ⟨[], [some [qi a1.Kind, qi a1.N, qs a1.S, .c (cL eS a1.Keys), .c (cL eR_Node a1.Kids)]], []⟩) rfl rfl rfl ?_
 refine WO_op rfl rfl rfl ?_; simp only [putT,st,ev,gt,hp,ofV,constT,intT,lm]
 refine WO_nil (W_seq (W_region ?_))
 refine WO_op rfl rfl rfl ?_; simp only [putT,st,ev,gt,hp,ofV,constT,intT,lm]
 refine WO_nil (W_seq (W_region ?_))
 refine WO_op (x := .ag [qi a1.Kind, qi a1.N, qs a1.S, .c (cL eS a1.Keys), .c (cL eR_Node a1.Kids)]) rfl rfl rfl ?_
 refine WO_op rfl rfl rfl ?_; simp only [putT,st,ev,gt,hp,ofV,constT,intT,lm]
 obtain ⟨x2, hx2, H⟩ := bnd H
 refine WO_op (x := qi x2) (σ' := ⟨[], [some [qi a1.Kind, qi a1.N, qs a1.S, .c (cL eS a1.Keys), .c (cL eR_Node a1.Kids)]], []⟩) rfl rfl (ev_callG (al := [.ag [qi a1.Kind, qi a1.N, qs a1.S, .c (cL eS a1.Keys), .c (cL eR_Node a1.Kids)], qi 1048576]) (ls := []) (laws_szNode_ok hx2) rfl rfl rfl rfl rfl (by decide) rfl rfl rfl rfl rfl rfl) ?_; simp only [putT,st,ev,gt,hp,ofV,constT,intT,lm]
 refine WO_op rfl rfl rfl ?_; simp only [putT,st,ev,gt,hp,ofV,constT,intT,lm]
 refine WO_nil (W_seq (W_seq (W_region ?_)))
 iterate 2 (refine WO_op rfl rfl rfl ?_; simp only [putT,st,ev,gt,hp,ofV,constT,intT,lm])
 refine WO_nil ?_
 refine W_cond rfl (fun hc => ?_) (fun hc => ?_)
 ·
  replace H := tr hc H
  refine W_seq (W_region ?_)
  refine WO_op rfl rfl rfl ?_; simp only [putT,st,ev,gt,hp,ofV,constT,intT,lm]
  refine WO_nil ?_
  refine W_ret ?_
  obtain rfl := Option.some.inj H
  exact told3 rfl
 ·
  replace H := fl hc H
  refine W_skip ?_
  refine W_seq (W_region ?_)
  refine WO_op (x := .ag [qi a1.Kind, qi a1.N, qs a1.S, .c (cL eS a1.Keys), .c (cL eR_Node a1.Kids)]) rfl rfl rfl ?_; simp only [putT,st,ev,gt,hp,ofV,constT,intT,lm]
  obtain ⟨x3, hx3, H⟩ := bnd H
  refine WO_op (x := .ag [qi x3.Kind, qi x3.N, qs x3.S, .row 0, .row 1]) (σ' := ⟨[], [some [qi a1.Kind, qi a1.N, qs a1.S, .c (cL eS a1.Keys), .c (cL eR_Node a1.Kids)]], [rr 1 eS x3.Keys true, rr 5 eR_Node x3.Kids true]⟩) rfl rfl (ev_callG (al := [.ag [qi a1.Kind, qi a1.N, qs a1.S, .c (cL eS a1.Keys), .c (cL eR_Node a1.Kids)]]) (ls := []) (laws_toNode_ok hx3) rfl rfl rfl rfl rfl (by decide) rfl rfl rfl rfl rfl rfl) ?_; simp only [putT,st,ev,gt,hp,ofV,constT,intT,lm]
  obtain ⟨x4, hx4, H⟩ := bnd H
  refine WO_op (x := qb x4) (σ' := ⟨[], [some [qi a1.Kind, qi a1.N, qs a1.S, .c (cL eS a1.Keys), .c (cL eR_Node a1.Kids)]], [rr 1 eS x3.Keys true, rr 5 eR_Node x3.Kids true]⟩) rfl rfl (ev_callG (al := [.ag [qi x3.Kind, qi x3.N, qs x3.S, .row 0, .row 1]]) (ls := []) (spec_NoNull_ok hx4) rfl rfl rfl rfl rfl (by decide) rfl rfl rfl rfl rfl rfl) ?_; simp only [putT,st,ev,gt,hp,ofV,constT,intT,lm]
  refine WO_op rfl rfl rfl ?_; simp only [putT,st,ev,gt,hp,ofV,constT,intT,lm]
  refine WO_nil (W_seq (W_region ?_))
  refine WO_op (x := .ag [qi a1.Kind, qi a1.N, qs a1.S, .c (cL eS a1.Keys), .c (cL eR_Node a1.Kids)]) rfl rfl rfl ?_; simp only [putT,st,ev,gt,hp,ofV,constT,intT,lm]
  obtain ⟨x5, hx5, H⟩ := bnd H
  refine WO_op (x := .ag [qi x5.Kind, qi x5.N, qs x5.S, .row 2, .row 3]) (σ' := ⟨[], [some [qi a1.Kind, qi a1.N, qs a1.S, .c (cL eS a1.Keys), .c (cL eR_Node a1.Kids)]], [rr 1 eS x3.Keys true, rr 5 eR_Node x3.Kids true, rr 1 eS x5.Keys true, rr 5 eR_Node x5.Kids true]⟩) rfl rfl (ev_callG (al := [.ag [qi a1.Kind, qi a1.N, qs a1.S, .c (cL eS a1.Keys), .c (cL eR_Node a1.Kids)]]) (ls := []) (laws_toNode_ok hx5) rfl rfl rfl rfl rfl (by decide) rfl rfl rfl rfl rfl rfl) ?_; simp only [putT,st,ev,gt,hp,ofV,constT,intT,lm]
  refine WO_op (x := .bp 1 0) (σ' := ⟨[], [some [qi a1.Kind, qi a1.N, qs a1.S, .c (cL eS a1.Keys), .c (cL eR_Node a1.Kids)], some [qi 0, qi 0, qs [], .nil, .nil]], [rr 1 eS x3.Keys true, rr 5 eR_Node x3.Kids true, rr 1 eS x5.Keys true, rr 5 eR_Node x5.Kids true]⟩) rfl rfl rfl ?_
  refine WO_op (x := .no) (σ' := ⟨[], [some [qi a1.Kind, qi a1.N, qs a1.S, .c (cL eS a1.Keys), .c (cL eR_Node a1.Kids)], some [qi x5.Kind, qi x5.N, qs x5.S, .row 2, .row 3]], [rr 1 eS x3.Keys true, rr 5 eR_Node x3.Kids true, rr 1 eS x5.Keys true, rr 5 eR_Node x5.Kids true]⟩) rfl rfl rfl ?_; simp only [putT,st,ev,gt,hp,ofV,constT,intT,lm]
  refine WO_nil (W_seq (W_region ?_))
  refine WO_op (x := .ag [qi x5.Kind, qi x5.N, qs x5.S, .row 2, .row 3]) rfl rfl rfl ?_; simp only [putT,st,ev,gt,hp,ofV,constT,intT,lm]
  obtain ⟨x6, hx6, H⟩ := bnd H
  refine WO_op (x := qb x6) (σ' := ⟨[], [some [qi a1.Kind, qi a1.N, qs a1.S, .c (cL eS a1.Keys), .c (cL eR_Node a1.Kids)], some [qi x5.Kind, qi x5.N, qs x5.S, .row 2, .row 3]], [rr 1 eS x3.Keys true, rr 5 eR_Node x3.Kids true, rr 1 eS x5.Keys true, rr 5 eR_Node x5.Kids true]⟩) rfl rfl (ev_callG (al := [.ag [qi x5.Kind, qi x5.N, qs x5.S, .row 2, .row 3]]) (ls := []) (impl_NoNull_ok hx6) rfl rfl rfl rfl rfl (by decide) rfl rfl rfl rfl rfl rfl) ?_; simp only [putT,st,ev,gt,hp,ofV,constT,intT,lm]
  refine WO_op rfl rfl rfl ?_; simp only [putT,st,ev,gt,hp,ofV,constT,intT,lm]
  refine WO_nil (W_seq (W_seq (W_region ?_)))
  iterate 3 (refine WO_op rfl rfl rfl ?_; simp only [putT,st,ev,gt,hp,ofV,constT,intT,lm])
  refine WO_nil ?_
  refine W_cond rfl (fun hc => ?_) (fun hc => ?_)
  ·
   replace H := tr hc H
   refine W_seq (W_region ?_)
   refine WO_op rfl rfl rfl ?_; simp only [putT,st,ev,gt,hp,ofV,constT,intT,lm]
   refine WO_nil ?_
   refine W_ret ?_
   obtain rfl := Option.some.inj H
   exact told3 rfl
  ·
   replace H := fl hc H
   refine W_skip ?_
   refine W_seq (W_seq ?_)
   refine W_drawL (by kernel_rfl) (by decide +kernel) ?_
   refine WL_op (x := .ag [qi x5.Kind, qi x5.N, qs x5.S, .row 2, .row 3]) rfl rfl rfl rfl ?_
   refine WL_op (x := .ag [qi a1.Kind, qi a1.N, qs a1.S, .c (cL eS a1.Keys), .c (cL eR_Node a1.Kids)]) rfl rfl rfl rfl ?_; simp only [putT,st,ev,gt,hp,ofV,constT,intT,lm]
   obtain ⟨x7, hx7, H⟩ := bnd H
   refine WL_op (x := .ag [qi x7.Kind, qi x7.N, qs x7.S, .row 4, .row 5]) (σ' := ⟨[], [some [qi a1.Kind, qi a1.N, qs a1.S, .c (cL eS a1.Keys), .c (cL eR_Node a1.Kids)], some [qi x5.Kind, qi x5.N, qs x5.S, .row 2, .row 3]], [rr 1 eS x3.Keys true, rr 5 eR_Node x3.Kids true, rr 1 eS x5.Keys true, rr 5 eR_Node x5.Kids true, rr 1 eS x7.Keys true, rr 5 eR_Node x7.Kids true]⟩) rfl rfl rfl (ev_callG (al := [.ag [qi a1.Kind, qi a1.N, qs a1.S, .c (cL eS a1.Keys), .c (cL eR_Node a1.Kids)]]) (ls := []) (laws_toNode_ok hx7) rfl rfl rfl rfl rfl (by decide) rfl rfl rfl rfl rfl rfl) ?_; simp only [putT,st,ev,gt,hp,ofV,constT,intT,lm]
   obtain ⟨x8, hx8, H⟩ := bnd H
   refine WL_op (x := qb x8) (σ' := ⟨[], [some [qi a1.Kind, qi a1.N, qs a1.S, .c (cL eS a1.Keys), .c (cL eR_Node a1.Kids)], some [qi x5.Kind, qi x5.N, qs x5.S, .row 2, .row 3]], [rr 1 eS x3.Keys true, rr 5 eR_Node x3.Kids true, rr 1 eS x5.Keys true, rr 5 eR_Node x5.Kids true, rr 1 eS x7.Keys true, rr 5 eR_Node x7.Kids true]⟩) rfl rfl rfl (ev_callG (al := [.ag [qi x5.Kind, qi x5.N, qs x5.S, .row 2, .row 3], .ag [qi x7.Kind, qi x7.N, qs x7.S, .row 4, .row 5]]) (ls := []) (laws_eqNode_ok hx8) rfl rfl rfl rfl rfl (by decide) rfl rfl rfl rfl rfl rfl) ?_; simp only [putT,st,ev,gt,hp,ofV,constT,intT,lm]
   refine WL_op rfl rfl rfl rfl ?_; simp only [putT,st,ev,gt,hp,ofV,constT,intT,lm]
   refine WL_nil (by kernel_rfl) ?_
   refine W_cond rfl (fun hc => ?_) (fun hc => ?_)
   ·
    replace H := tr hc H
    refine W_seq (W_region ?_)
    refine WO_op rfl rfl rfl ?_; simp only [putT,st,ev,gt,hp,ofV,constT,intT,lm]
    refine WO_nil ?_
    refine W_ret ?_
    obtain rfl := Option.some.inj H
    exact told3 rfl
   ·
    replace H := fl hc H
    refine W_skip ?_
    refine W_seq (W_region ?_)
    refine WO_op rfl rfl rfl ?_; simp only [putT,st,ev,gt,hp,ofV,constT,intT,lm]
    refine WO_nil ?_
    refine W_ret ?_
    obtain rfl := Option.some.inj H
    exact told3 rfl
end Go.Pu
