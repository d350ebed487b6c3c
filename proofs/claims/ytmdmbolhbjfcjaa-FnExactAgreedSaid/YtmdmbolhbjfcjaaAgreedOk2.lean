import Derived.Test.YtmdmbolhbjfcjaaAgreedOk1
set_option linter.unusedVariables false
set_option linter.unusedSimpArgs false
set_option synthInstance.maxSize 1000000000
set_option maxRecDepth 20000
set_option maxHeartbeats 20000000
namespace Go.Pu
open Go Go.SX Go.Nt Go.Proofs
theorem impl_copyTree_F_ok {rc36 : Node → Option (Node)} (hrc36 : ∀ {a1 : Node} {r : Node}, rc36 a1 = some r → R 22 [.ag [(cI .i64 a1.Kind, none), (cI .i64 a1.N, none), (cS a1.S, none), (cL eS a1.Keys, none), (cL eR_Node a1.Kids, none)]] = some (.ag [(cI .i64 r.Kind, none), (cI .i64 r.N, none), (cS r.S, none), (cL eS r.Keys, some 1), (cL eR_Node r.Kids, some 5)], [])) {a1 : Node} {r : Node} (H : impl_copyTree_F rc36 a1 = some r) : R 22 [.ag [(cI .i64 a1.Kind, none), (cI .i64 a1.N, none), (cS a1.S, none), (cL eS a1.Keys, none), (cL eR_Node a1.Kids, none)]] = some (.ag [(cI .i64 r.Kind, none), (cI .i64 r.N, none), (cS r.S, none), (cL eS r.Keys, some 1), (cL eR_Node r.Kids, some 5)], []) := by
 unfold impl_copyTree_F at H
 refine Fz_walk false 27 rfl rfl rfl Try.func22 rfl (by kernel_rfl) rfl rfl rfl rfl ?_
 simp only [tellVs, tellV, tells, tell, st0, padT, SX.newRow, SX.newBox, List.length_cons, List.length_nil, Nat.reduceAdd, Nat.reduceSub, List.replicate, List.cons_append, List.nil_append, List.foldl_cons, List.foldl_nil]
 refine W_seq (W_region ?_)
 refine WO_op (x := .bp 0 0) (σ' := ⟨[], [some [qi a1.Kind, qi a1.N, qs a1.S, .c (cL eS a1.Keys), .c (cL eR_Node a1.Kids)]], []⟩) rfl rfl rfl ?_
 refine WO_op (x := .bp 1 0) (σ' := ⟨[], [some [qi a1.Kind, qi a1.N, qs a1.S, .c (cL eS a1.Keys), .c (cL eR_Node a1.Kids)], some [qi 0, qi 0, qs [], .nil, .nil]], []⟩) rfl rfl rfl ?_; simp only [putT,st,ev,gt,hp,ofV,constT,intT,lm]
 refine WO_nil (W_seq (W_region ?_))
 refine WO_op (x := .bp 0 3) rfl rfl rfl ?_
 refine WO_op (x := .c (cL eS a1.Keys)) rfl rfl rfl ?_; simp only [putT,st,ev,gt,hp,ofV,constT,intT,lm]
 obtain ⟨x2, hx2, H⟩ := bnd H
 refine WO_op (x := .row 0) (σ' := ⟨[], [some [qi a1.Kind, qi a1.N, qs a1.S, .c (cL eS a1.Keys), .c (cL eR_Node a1.Kids)], some [qi 0, qi 0, qs [], .nil, .nil]], [rr 1 eS x2 true]⟩) rfl rfl (ev_callG (al := [.c (cL eS a1.Keys)]) (ls := []) (slices_Clone_Sstring_string_ok hx2) rfl rfl rfl rfl rfl (by decide) rfl rfl (by simp only [flatA, flatV, flatC, List.all_cons, List.all_nil, Option.all_some, Option.all_none, Bool.and_self, Bool.or_true, fl_eS]) rfl rfl rfl) ?_; simp only [putT,st,ev,gt,hp,ofV,constT,intT,lm]
 refine WO_op (x := .bp 0 3) rfl rfl rfl ?_
 refine WO_op (x := .no) (σ' := ⟨[], [some [qi a1.Kind, qi a1.N, qs a1.S, .row 0, .c (cL eR_Node a1.Kids)], some [qi 0, qi 0, qs [], .nil, .nil]], [rr 1 eS x2 true]⟩) rfl rfl rfl ?_; simp only [putT,st,ev,gt,hp,ofV,constT,intT,lm]
 refine WO_nil (W_seq (W_region ?_))
 refine WO_op (x := .row 1) (σ' := ⟨[], [some [qi a1.Kind, qi a1.N, qs a1.S, .row 0, .c (cL eR_Node a1.Kids)], some [qi 0, qi 0, qs [], .nil, .nil]], [rr 1 eS x2 true, rr 5 eR_Node ([] : List RNode) true]⟩) rfl rfl (ev_bs ([] : List RNode) eR_Node rfl rfl rfl rfl) ?_; simp only [putT,st,ev,gt,hp,ofV,constT,intT,lm]
 refine WO_op rfl rfl rfl ?_; simp only [putT,st,ev,gt,hp,ofV,constT,intT,lm]
 refine WO_nil (W_seq (W_seq (W_region ?_)))
 refine WO_op (x := .bp 0 4) rfl rfl rfl ?_
 refine WO_op (x := .c (cL eR_Node a1.Kids)) rfl rfl rfl ?_; simp only [putT,st,ev,gt,hp,ofV,constT,intT,lm]
 iterate 2 (refine WO_op rfl rfl rfl ?_; simp only [putT,st,ev,gt,hp,ofV,constT,intT,lm])
 refine WO_nil ?_
 refine W_block ?_
 obtain ⟨t9, ht9, H⟩ := bnd H
 refine loop_rule (ls := []) 0 (fun t9 : List RNode => ⟨[.no, .bp 0 0, .bp 1 0, .row 0], [some [qi a1.Kind, qi a1.N, qs a1.S, .row 1, .c (cL eR_Node a1.Kids)], some [qi 0, qi 0, qs [], .nil, .nil]], [rr 5 eR_Node t9 true, rr 1 eS x2 true]⟩) (fun t => t9 = t) ⟨[.no, .bp 0 0, .bp 1 0, .row 0, .no, .no, .no, .no, .no, .no, .no, .no, .c (cL eR_Node a1.Kids), qi (a1.Kids.length : Int), qi 0], [some [qi a1.Kind, qi a1.N, qs a1.S, .row 1, .c (cL eR_Node a1.Kids)], some [qi 0, qi 0, qs [], .nil, .nil]], [rr 5 eR_Node ([] : List RNode) true, rr 1 eS x2 true]⟩ (by repeat (first | exact mono_told | refine mono_seq ?_ | refine mono_blk ?_ | refine mono_lp ?_)) (le_intro [0, 1] [1, 0] (by decide) (by decide) rfl (by simp [leS, leT, leA, gt]) (by simp [leB, leT, leA]) (by simp [leR])) ?_ ?_
 ·
  rintro t1 rfl
  refine W_seq (W_region ?_)
  refine WO_op rfl rfl rfl ?_
  refine WO_op (x := .bp 0 4) rfl rfl rfl ?_
  refine WO_op (x := .no) (σ' := ⟨[], [some [qi a1.Kind, qi a1.N, qs a1.S, .row 1, .row 0], some [qi 0, qi 0, qs [], .nil, .nil]], [rr 5 eR_Node t9 true, rr 1 eS x2 true]⟩) rfl rfl rfl ?_; simp only [putT,st,ev,gt,hp,ofV,constT,intT,lm]
  refine WO_nil (W_seq (W_region ?_))
  refine WO_op (x := .ag [qi a1.Kind, qi a1.N, qs a1.S, .row 1, .row 0]) rfl rfl rfl ?_
  refine WO_op (x := .no) (σ' := ⟨[], [some [qi a1.Kind, qi a1.N, qs a1.S, .row 1, .row 0], some [qi a1.Kind, qi a1.N, qs a1.S, .row 1, .row 0]], [rr 5 eR_Node t9 true, rr 1 eS x2 true]⟩) rfl rfl rfl ?_; simp only [putT,st,ev,gt,hp,ofV,constT,intT,lm]
  refine WO_nil ?_
  refine W_ret ?_
  obtain rfl := Option.some.inj H
  exact told5 rfl rfl rfl rfl (fitAs_nz rfl) rfl
 ·
  intro V1 hV1 hW1 hX1
  refine (impl_copyTree.l0.partial_correctness rc36 a1 (fun v3 v4 s' => s' = t9 → (V1 ⟨[.no, .bp 0 0, .bp 1 0, .row 0, .no, .no, .no, .no, .no, .no, .no, .no, .c (cL eR_Node a1.Kids), qi (a1.Kids.length : Int), qi v3], [some [qi a1.Kind, qi a1.N, qs a1.S, .row 1, .c (cL eR_Node a1.Kids)], some [qi 0, qi 0, qs [], .nil, .nil]], [rr 5 eR_Node v4 true, rr 1 eS x2 true]⟩)) ?_ _ _ _ ht9 rfl)
  intro l0 IH1 v3 v4 s' H1 e
  subst e
  refine hV1 _ ?_
  refine W_seq (W_region ?_)
  refine WO_op rfl rfl rfl ?_; simp only [putT,st,ev,gt,hp,ofV,constT,intT,lm]
  refine WO_nil (W_seq ?_)
  refine W_cond rfl (fun hc => ?_) (fun hc => ?_)
  ·
   replace H1 := tr hc H1
   refine W_skip ?_
   refine W_seq ?_
   refine W_block ?_
   refine W_seq (W_region ?_)
   obtain ⟨x5, hx5, H1⟩ := bnd H1
   obtain ⟨y6, hy6, H1⟩ := bnd H1
   rw [dN_Node_some hy6] at hx5
   refine WO_op rfl rfl (ev_ix (en := eR_Node) hx5 rfl rfl rfl rfl rfl rfl rfl) ?_; simp only [putT,st,ev,gt,hp,ofV,constT,intT,lm]
   refine WO_op (x := .ag [qi y6.Kind, qi y6.N, qs y6.S, .c (cL eS y6.Keys), .c (cL eR_Node y6.Kids)]) rfl rfl rfl ?_
   refine WO_op (x := .bp 2 0) (σ' := ⟨[], [some [qi a1.Kind, qi a1.N, qs a1.S, .row 1, .c (cL eR_Node a1.Kids)], some [qi 0, qi 0, qs [], .nil, .nil], some [qi 0, qi 0, qs [], .nil, .nil]], [rr 5 eR_Node v4 true, rr 1 eS x2 true]⟩) rfl rfl rfl ?_
   refine WO_op (x := .no) (σ' := ⟨[], [some [qi a1.Kind, qi a1.N, qs a1.S, .row 1, .c (cL eR_Node a1.Kids)], some [qi 0, qi 0, qs [], .nil, .nil], some [qi y6.Kind, qi y6.N, qs y6.S, .c (cL eS y6.Keys), .c (cL eR_Node y6.Kids)]], [rr 5 eR_Node v4 true, rr 1 eS x2 true]⟩) rfl rfl rfl ?_; simp only [putT,st,ev,gt,hp,ofV,constT,intT,lm]
   refine WO_nil (W_region ?_)
   refine WO_op rfl rfl rfl ?_
   refine WO_op (x := .ag [qi y6.Kind, qi y6.N, qs y6.S, .c (cL eS y6.Keys), .c (cL eR_Node y6.Kids)]) rfl rfl rfl ?_; simp only [putT,st,ev,gt,hp,ofV,constT,intT,lm]
   obtain ⟨x7, hx7, H1⟩ := bnd H1
   refine WO_op (x := .ag [qi x7.Kind, qi x7.N, qs x7.S, .row 2, .row 3]) (σ' := ⟨[], [some [qi a1.Kind, qi a1.N, qs a1.S, .row 1, .c (cL eR_Node a1.Kids)], some [qi 0, qi 0, qs [], .nil, .nil], some [qi y6.Kind, qi y6.N, qs y6.S, .c (cL eS y6.Keys), .c (cL eR_Node y6.Kids)]], [rr 5 eR_Node v4 true, rr 1 eS x2 true, rr 1 eS x7.Keys true, rr 5 eR_Node x7.Kids true]⟩) rfl rfl (ev_callG (al := [.ag [qi y6.Kind, qi y6.N, qs y6.S, .c (cL eS y6.Keys), .c (cL eR_Node y6.Kids)]]) (ls := []) (hrc36 hx7) rfl rfl rfl rfl rfl (by decide) rfl rfl rfl rfl rfl rfl) ?_; simp only [putT,st,ev,gt,hp,ofV,constT,intT,lm]
   refine WO_op (x := .row 4) (σ' := ⟨[], [some [qi a1.Kind, qi a1.N, qs a1.S, .row 1, .c (cL eR_Node a1.Kids)], some [qi 0, qi 0, qs [], .nil, .nil], some [qi y6.Kind, qi y6.N, qs y6.S, .c (cL eS y6.Keys), .c (cL eR_Node y6.Kids)]], [rr 5 eR_Node v4 true, rr 1 eS x2 true, rr 1 eS x7.Keys false, rr 5 eR_Node x7.Kids false, rr 5 eR_Node ([rN_Node x7] : List RNode) true]⟩) rfl rfl (ev_bs ([rN_Node x7] : List RNode) eR_Node rfl rfl rfl rfl) ?_; simp only [putT,st,ev,gt,hp,ofV,constT,intT,lm]
   obtain ⟨m8, hm8, H1⟩ := bnd H1
   refine WO_op (x := .row 5) (σ' := ⟨[], [some [qi a1.Kind, qi a1.N, qs a1.S, .row 1, .c (cL eR_Node a1.Kids)], some [qi 0, qi 0, qs [], .nil, .nil], some [qi y6.Kind, qi y6.N, qs y6.S, .c (cL eS y6.Keys), .c (cL eR_Node y6.Kids)]], [none, rr 1 eS x2 true, rr 1 eS x7.Keys false, rr 5 eR_Node x7.Kids false, rr 5 eR_Node ([rN_Node x7] : List RNode) true, rr 5 eR_Node m8 true]⟩) rfl rfl (ev_app (en := eR_Node) hm8 rfl rfl rfl rfl (Or.inl rfl) rfl rfl rfl rfl rfl rfl rfl rfl rfl rfl rfl (fun _ => rfl) rfl (Or.inr rfl) rfl) ?_; simp only [putT,st,ev,gt,hp,ofV,constT,intT,lm]
   refine WO_op rfl rfl rfl ?_; simp only [putT,st,ev,gt,hp,ofV,constT,intT,lm]
   refine WO_nil (W_region ?_)
   iterate 2 (refine WO_op rfl rfl rfl ?_; simp only [putT,st,ev,gt,hp,ofV,constT,intT,lm])
   refine WO_nil ?_
   exact hW1 _ _ ((IH1 _ _ _ H1 rfl)) (le_intro [0, 1] [5, 1] (by decide) (by decide) rfl (by simp [leS, leT, leA, gt]) (by simp [leB, leT, leA]) (by simp [leR]))
  ·
   replace H1 := fl hc H1
   refine W_exit ?_
   obtain rfl := Option.some.inj H1
   exact hX1 v4 _ rfl (le_intro [0, 1] [0, 1] (by decide) (by decide) rfl (by simp [leS, leT, leA, gt]) (by simp [leB, leT, leA]) (by simp [leR]))
theorem impl_copyTree_n_ok : ∀ (k : Nat) {a1 : Node} {r : Node}, impl_copyTree_n k a1 = some r → R 22 [.ag [(cI .i64 a1.Kind, none), (cI .i64 a1.N, none), (cS a1.S, none), (cL eS a1.Keys, none), (cL eR_Node a1.Kids, none)]] = some (.ag [(cI .i64 r.Kind, none), (cI .i64 r.N, none), (cS r.S, none), (cL eS r.Keys, some 1), (cL eR_Node r.Kids, some 5)], [])
  | 0, _, _, h => by simp [impl_copyTree_n] at h
  | k + 1, _, _, h => impl_copyTree_F_ok (fun h => impl_copyTree_n_ok k h) h
theorem impl_copyTree_ok {a1 : Node} {r : Node} (H : impl_copyTree a1 = some r) : R 22 [.ag [(cI .i64 a1.Kind, none), (cI .i64 a1.N, none), (cS a1.S, none), (cL eS a1.Keys, none), (cL eR_Node a1.Kids, none)]] = some (.ag [(cI .i64 r.Kind, none), (cI .i64 r.N, none), (cS r.S, none), (cL eS r.Keys, some 1), (cL eR_Node r.Kids, some 5)], []) := by
  obtain ⟨k, hk⟩ := Nt.lim_ex H
  exact impl_copyTree_n_ok k (hk k (Nat.le_refl k))
theorem slices_Sort_Sstring_string_ok {a1 r : List Str} (H : slices_Sort_Sstring_string a1 = some r) : R 37 [.c (cL eS a1) (some 1)] = some (.tu [], [some [(cL eS r, some 1)]]) :=
  Fz_pr rfl (sortF_of H)
theorem impl_keysOf_ok  {a1 : Node} {r : List Str} (H : impl_keysOf a1 = some r) : R 36 [.ag [(cI .i64 a1.Kind, none), (cI .i64 a1.N, none), (cS a1.S, none), (cL eS a1.Keys, none), (cL eR_Node a1.Kids, none)]] = some (.c (cL eS r) (some 1), []) := by
 unfold impl_keysOf at H
 refine Fz_walk false 18 rfl rfl rfl Try.func36 rfl (by kernel_rfl) rfl rfl rfl rfl ?_
 simp only [tellVs, tellV, tells, tell, st0, padT, SX.newRow, SX.newBox, List.length_cons, List.length_nil, Nat.reduceAdd, Nat.reduceSub, List.replicate, List.cons_append, List.nil_append, List.foldl_cons, List.foldl_nil]
 refine W_seq (W_region ?_)
 refine WO_op (x := .bp 0 0) (σ' := ⟨[], [some [qi a1.Kind, qi a1.N, qs a1.S, .c (cL eS a1.Keys), .c (cL eR_Node a1.Kids)]], []⟩) rfl rfl rfl ?_
 refine WO_op rfl rfl rfl ?_; simp only [putT,st,ev,gt,hp,ofV,constT,intT,lm]
 refine WO_nil (W_seq (W_region ?_))
 refine WO_op (x := .bp 0 3) rfl rfl rfl ?_
 refine WO_op (x := .c (cL eS a1.Keys)) rfl rfl rfl ?_
 refine WO_op (x := .bp 0 3) rfl rfl rfl ?_
 refine WO_op (x := .c (cL eS a1.Keys)) rfl rfl rfl ?_; simp only [putT,st,ev,gt,hp,ofV,constT,intT,lm]
 refine WO_op rfl rfl rfl ?_
 refine WO_op (x := .bp 0 4) rfl rfl rfl ?_
 refine WO_op (x := .c (cL eR_Node a1.Kids)) rfl rfl rfl ?_; simp only [putT,st,ev,gt,hp,ofV,constT,intT,lm]
 iterate 2 (refine WO_op rfl rfl rfl ?_; simp only [putT,st,ev,gt,hp,ofV,constT,intT,lm])
 obtain ⟨s2, hs2, H⟩ := bnd H
 refine WO_op rfl rfl (ev_sl (en := eS) hs2 rfl rfl rfl rfl rfl ⟨_, rfl⟩ (fun _ => rfl)) ?_; simp only [putT,st,ev,gt,hp,ofV,constT,intT,lm]
 obtain ⟨x3, hx3, H⟩ := bnd H
 refine WO_op (x := .row 0) (σ' := ⟨[], [some [qi a1.Kind, qi a1.N, qs a1.S, .c (cL eS a1.Keys), .c (cL eR_Node a1.Kids)]], [rr 1 eS x3 true]⟩) rfl rfl (ev_callG (al := [.c (cL eS s2)]) (ls := []) (slices_Clone_Sstring_string_ok hx3) rfl rfl rfl rfl rfl (by decide) rfl rfl (by simp only [flatA, flatV, flatC, List.all_cons, List.all_nil, Option.all_some, Option.all_none, Bool.and_self, Bool.or_true, fl_eS]) rfl rfl rfl) ?_; simp only [putT,st,ev,gt,hp,ofV,constT,intT,lm]
 refine WO_op rfl rfl rfl ?_; simp only [putT,st,ev,gt,hp,ofV,constT,intT,lm]
 refine WO_nil (W_seq (W_region ?_))
 refine WO_op rfl rfl rfl ?_; simp only [putT,st,ev,gt,hp,ofV,constT,intT,lm]
 obtain ⟨x4, hx4, H⟩ := bnd H
 refine WO_op (x := .tu []) (σ' := ⟨[], [some [qi a1.Kind, qi a1.N, qs a1.S, .c (cL eS a1.Keys), .c (cL eR_Node a1.Kids)]], [rr 1 eS x4 true]⟩) rfl rfl (ev_callG (al := [.row 0]) (ls := [.r 0]) (slices_Sort_Sstring_string_ok hx4) rfl rfl rfl rfl rfl (by decide) rfl rfl (by simp only [flatA, flatV, flatC, List.all_cons, List.all_nil, Option.all_some, Option.all_none, Bool.and_self, Bool.or_true, fl_eS]) rfl rfl rfl) ?_; simp only [putT,st,ev,gt,hp,ofV,constT,intT,lm]
 refine WO_nil (W_seq (W_region ?_))
 iterate 2 (refine WO_op rfl rfl rfl ?_; simp only [putT,st,ev,gt,hp,ofV,constT,intT,lm])
 refine WO_nil ?_
 refine W_ret ?_
 obtain rfl := Option.some.inj H
 exact told5 rfl rfl rfl rfl (fitAs_nz rfl) rfl
theorem slices_Compact_Sstring_string_ok {a1 r : List Str} (H : slices_Compact_Sstring_string a1 = some r) : R 38 [.c (cL eS a1) (some 1)] = some (.c (cL eS r) (some 1), [none]) :=
  Fz_pr rfl (compactF_of H)
theorem impl_union_ok  {a1 : List RNode} {r : List Str} (H : impl_union a1 = some r) : R 23 [.c (cL eR_Node a1) none] = some (.c (cL eS r) (some 1), []) := by
 unfold impl_union at H
 refine Fz_walk false 22 rfl rfl rfl Try.func23 rfl (by kernel_rfl) rfl rfl rfl rfl ?_
 simp only [tellVs, tellV, tells, tell, st0, padT, SX.newRow, SX.newBox, List.length_cons, List.length_nil, Nat.reduceAdd, Nat.reduceSub, List.replicate, List.cons_append, List.nil_append, List.foldl_cons, List.foldl_nil]
 refine W_seq (W_region ?_)
 refine WO_op rfl rfl rfl ?_; simp only [putT,st,ev,gt,hp,ofV,constT,intT,lm]
 refine WO_nil (W_seq (W_region ?_))
 refine WO_op (x := .row 0) (σ' := ⟨[], [], [rr 1 eS ([] : List Str) true]⟩) rfl rfl (ev_bs ([] : List Str) eS rfl rfl rfl rfl) ?_; simp only [putT,st,ev,gt,hp,ofV,constT,intT,lm]
 refine WO_op rfl rfl rfl ?_; simp only [putT,st,ev,gt,hp,ofV,constT,intT,lm]
 refine WO_nil (W_seq (W_seq (W_region ?_)))
 iterate 3 (refine WO_op rfl rfl rfl ?_; simp only [putT,st,ev,gt,hp,ofV,constT,intT,lm])
 refine WO_nil ?_
 refine W_block ?_
 obtain ⟨t8, ht8, H⟩ := bnd H
 refine loop_rule (ls := []) 0 (fun t8 : List Str => ⟨[.no, .no, .no, .row 0], [], [rr 1 eS t8 true]⟩) (fun t => t8 = t) ⟨[.no, .no, .no, .row 0, .no, .no, .no, .c (cL eR_Node a1), qi (a1.length : Int), qi 0], [], [rr 1 eS ([] : List Str) true]⟩ (by repeat (first | exact mono_told | refine mono_seq ?_ | refine mono_blk ?_ | refine mono_lp ?_)) (le_intro [] [0] (by decide) (by decide) rfl (by simp [leS, leT, leA, gt]) (by simp [leB, leT, leA]) (by simp [leR])) ?_ ?_
 ·
  rintro t1 rfl
  refine W_seq (W_region ?_)
  refine WO_op rfl rfl rfl ?_; simp only [putT,st,ev,gt,hp,ofV,constT,intT,lm]
  obtain ⟨x9, hx9, H⟩ := bnd H
  refine WO_op (x := .tu []) (σ' := ⟨[], [], [rr 1 eS x9 true]⟩) rfl rfl (ev_callG (al := [.row 0]) (ls := [.r 0]) (slices_Sort_Sstring_string_ok hx9) rfl rfl rfl rfl rfl (by decide) rfl rfl (by simp only [flatA, flatV, flatC, List.all_cons, List.all_nil, Option.all_some, Option.all_none, Bool.and_self, Bool.or_true, fl_eS]) rfl rfl rfl) ?_; simp only [putT,st,ev,gt,hp,ofV,constT,intT,lm]
  refine WO_nil (W_seq (W_region ?_))
  refine WO_op rfl rfl rfl ?_; simp only [putT,st,ev,gt,hp,ofV,constT,intT,lm]
  obtain ⟨x10, hx10, H⟩ := bnd H
  refine WO_op (x := .row 1) (σ' := ⟨[], [], [none, rr 1 eS x10 true]⟩) rfl rfl (ev_callG (al := [.row 0]) (ls := [.r 0]) (slices_Compact_Sstring_string_ok hx10) rfl rfl rfl rfl rfl (by decide) rfl rfl (by simp only [flatA, flatV, flatC, List.all_cons, List.all_nil, Option.all_some, Option.all_none, Bool.and_self, Bool.or_true, fl_eS]) rfl rfl rfl) ?_; simp only [putT,st,ev,gt,hp,ofV,constT,intT,lm]
  refine WO_op rfl rfl rfl ?_; simp only [putT,st,ev,gt,hp,ofV,constT,intT,lm]
  refine WO_nil ?_
  refine W_ret ?_
  obtain rfl := Option.some.inj H
  exact told5 rfl rfl rfl rfl (fitAs_nz rfl) rfl
 ·
  intro V1 hV1 hW1 hX1
  refine (impl_union.l0.partial_correctness a1 (fun v2 v3 s' => s' = t8 → (V1 ⟨[.no, .no, .no, .row 0, .no, .no, .no, .c (cL eR_Node a1), qi (a1.length : Int), qi v2], [], [rr 1 eS v3 true]⟩)) ?_ _ _ _ ht8 rfl)
  intro l0 IH1 v2 v3 s' H1 e
  subst e
  refine hV1 _ ?_
  refine W_seq (W_region ?_)
  refine WO_op rfl rfl rfl ?_; simp only [putT,st,ev,gt,hp,ofV,constT,intT,lm]
  refine WO_nil (W_seq ?_)
  refine W_cond rfl (fun hc => ?_) (fun hc => ?_)
  ·
   replace H1 := tr hc H1
   refine W_skip ?_
   refine W_seq ?_
   refine W_block ?_
   refine W_seq (W_region ?_)
   obtain ⟨x4, hx4, H1⟩ := bnd H1
   obtain ⟨y5, hy5, H1⟩ := bnd H1
   rw [dN_Node_some hy5] at hx4
   refine WO_op rfl rfl (ev_ix (en := eR_Node) hx4 rfl rfl rfl rfl rfl rfl rfl) ?_; simp only [putT,st,ev,gt,hp,ofV,constT,intT,lm]
   refine WO_op (x := .ag [qi y5.Kind, qi y5.N, qs y5.S, .c (cL eS y5.Keys), .c (cL eR_Node y5.Kids)]) rfl rfl rfl ?_
   refine WO_op (x := .bp 0 0) (σ' := ⟨[], [some [qi 0, qi 0, qs [], .nil, .nil]], [rr 1 eS v3 true]⟩) rfl rfl rfl ?_
   refine WO_op (x := .no) (σ' := ⟨[], [some [qi y5.Kind, qi y5.N, qs y5.S, .c (cL eS y5.Keys), .c (cL eR_Node y5.Kids)]], [rr 1 eS v3 true]⟩) rfl rfl rfl ?_; simp only [putT,st,ev,gt,hp,ofV,constT,intT,lm]
   refine WO_nil (W_region ?_)
   refine WO_op rfl rfl rfl ?_
   refine WO_op (x := .ag [qi y5.Kind, qi y5.N, qs y5.S, .c (cL eS y5.Keys), .c (cL eR_Node y5.Kids)]) rfl rfl rfl ?_; simp only [putT,st,ev,gt,hp,ofV,constT,intT,lm]
   obtain ⟨x6, hx6, H1⟩ := bnd H1
   refine WO_op (x := .row 1) (σ' := ⟨[], [some [qi y5.Kind, qi y5.N, qs y5.S, .c (cL eS y5.Keys), .c (cL eR_Node y5.Kids)]], [rr 1 eS v3 true, rr 1 eS x6 true]⟩) rfl rfl (ev_callG (al := [.ag [qi y5.Kind, qi y5.N, qs y5.S, .c (cL eS y5.Keys), .c (cL eR_Node y5.Kids)]]) (ls := []) (impl_keysOf_ok hx6) rfl rfl rfl rfl rfl (by decide) rfl rfl (by simp only [flatA, flatV, flatC, List.all_cons, List.all_nil, Option.all_some, Option.all_none, Bool.and_self, Bool.or_true, fl_eS]) rfl rfl rfl) ?_; simp only [putT,st,ev,gt,hp,ofV,constT,intT,lm]
   obtain ⟨m7, hm7, H1⟩ := bnd H1
   refine WO_op (x := .row 2) (σ' := ⟨[], [some [qi y5.Kind, qi y5.N, qs y5.S, .c (cL eS y5.Keys), .c (cL eR_Node y5.Kids)]], [none, rr 1 eS x6 true, rr 1 eS m7 true]⟩) rfl rfl (ev_app (en := eS) hm7 rfl rfl rfl rfl (Or.inl rfl) rfl rfl rfl rfl rfl rfl rfl rfl rfl rfl rfl (fun _ => rfl) rfl (Or.inr rfl) rfl) ?_; simp only [putT,st,ev,gt,hp,ofV,constT,intT,lm]
   refine WO_op rfl rfl rfl ?_; simp only [putT,st,ev,gt,hp,ofV,constT,intT,lm]
   refine WO_nil (W_region ?_)
   iterate 2 (refine WO_op rfl rfl rfl ?_; simp only [putT,st,ev,gt,hp,ofV,constT,intT,lm])
   refine WO_nil ?_
   exact hW1 _ _ ((IH1 _ _ _ H1 rfl)) (le_intro [] [2] (by decide) (by decide) rfl (by simp [leS, leT, leA, gt]) (by simp [leB, leT, leA]) (by simp [leR]))
  ·
   replace H1 := fl hc H1
   refine W_exit ?_
   obtain rfl := Option.some.inj H1
   exact hX1 v3 _ rfl (le_intro [] [0] (by decide) (by decide) rfl (by simp [leS, leT, leA, gt]) (by simp [leB, leT, leA]) (by simp [leR]))
theorem slices_Index_Sstring_string_ok  {a1 : List Str} {a2 : Str} {r : Int} (H : slices_Index_Sstring_string a1 a2 = some r) : R 39 [.c (cL eS a1) none, .c (cS a2) none] = some (.c (cI .i64 r) none, []) := by
 unfold slices_Index_Sstring_string at H
 refine Fz_walk false 19 rfl rfl rfl Try.func39 rfl (by kernel_rfl) rfl rfl rfl rfl ?_
 simp only [tellVs, tellV, tells, tell, st0, padT, SX.newRow, SX.newBox, List.length_cons, List.length_nil, Nat.reduceAdd, Nat.reduceSub, List.replicate, List.cons_append, List.nil_append, List.foldl_cons, List.foldl_nil]
 refine W_seq (W_region ?_)
 refine WO_op rfl rfl rfl ?_; simp only [putT,st,ev,gt,hp,ofV,constT,intT,lm]
 refine WO_nil (W_seq (W_seq (W_region ?_)))
 iterate 3 (refine WO_op rfl rfl rfl ?_; simp only [putT,st,ev,gt,hp,ofV,constT,intT,lm])
 refine WO_nil ?_
 refine W_block ?_
 obtain ⟨s6, hs6, H⟩ := bnd H
 refine loop_rule (ls := []) 0 (fun t5 : Unit => ⟨[], [], []⟩) (fun t => s6 = .inr t) ⟨[.c (cL eS a1), qs a2, .no, .no, .no, .no, .no, qi (a1.length : Int), qi 0], [], []⟩ (by repeat (first | exact mono_told | refine mono_seq ?_ | refine mono_blk ?_ | refine mono_lp ?_)) (le_intro [] [] (by decide) (by decide) rfl (by simp [leS, leT, leA, gt]) (by simp [leB, leT, leA]) (by simp [leR])) ?_ ?_
 ·
  rintro t5 rfl
  refine W_seq (W_region ?_)
  refine WO_op rfl rfl rfl ?_; simp only [putT,st,ev,gt,hp,ofV,constT,intT,lm]
  refine WO_nil ?_
  refine W_ret ?_
  obtain rfl := Option.some.inj H
  exact told3 rfl
 ·
  intro V1 hV1 hW1 hX1
  refine (slices_Index_Sstring_string.l0.partial_correctness a1 a2 (fun v3 s' => s' = s6 → (V1 ⟨[.c (cL eS a1), qs a2, .no, .no, .no, .no, .no, qi (a1.length : Int), qi v3], [], []⟩)) ?_ _ _ hs6 rfl)
  intro l0 IH1 v3 s' H1 e
  subst e
  refine hV1 _ ?_
  refine W_seq (W_region ?_)
  refine WO_op rfl rfl rfl ?_; simp only [putT,st,ev,gt,hp,ofV,constT,intT,lm]
  refine WO_nil (W_seq ?_)
  refine W_cond rfl (fun hc => ?_) (fun hc => ?_)
  ·
   replace H1 := tr hc H1
   refine W_skip ?_
   refine W_seq ?_
   refine W_block ?_
   refine W_seq (W_region ?_)
   iterate 2 (refine WO_op rfl rfl rfl ?_; simp only [putT,st,ev,gt,hp,ofV,constT,intT,lm])
   refine WO_nil (W_seq (W_region ?_))
   iterate 3 (refine WO_op rfl rfl rfl ?_; simp only [putT,st,ev,gt,hp,ofV,constT,intT,lm])
   obtain ⟨x4, hx4, H1⟩ := bnd H1
   refine WO_op rfl rfl (ev_ix (en := eS) hx4 rfl rfl rfl rfl rfl rfl rfl) ?_; simp only [putT,st,ev,gt,hp,ofV,constT,intT,lm]
   refine WO_op (x := qs x4) rfl rfl rfl ?_; simp only [putT,st,ev,gt,hp,ofV,constT,intT,lm]
   refine WO_op rfl rfl (ev_eql_s rfl rfl rfl) ?_; simp only [putT,st,ev,gt,hp,ofV,constT,intT,lm]
   refine WO_nil ?_
   refine W_cond rfl (fun hc => ?_) (fun hc => ?_)
   ·
    replace H1 := tr hc H1
    refine W_seq (W_region ?_)
    iterate 2 (refine WO_op rfl rfl rfl ?_; simp only [putT,st,ev,gt,hp,ofV,constT,intT,lm])
    refine WO_nil ?_
    refine W_ret ?_
    obtain rfl := Option.some.inj H1
    obtain rfl := Option.some.inj H
    exact told3 rfl
   ·
    replace H1 := fl hc H1
    refine W_skip ?_
    refine W_region ?_
    iterate 2 (refine WO_op rfl rfl rfl ?_; simp only [putT,st,ev,gt,hp,ofV,constT,intT,lm])
    refine WO_nil ?_
    exact hW1 _ _ ((IH1 _ _ H1 rfl)) (le_intro [] [] (by decide) (by decide) rfl (by simp [leS, leT, leA, gt]) (by simp [leB, leT, leA]) (by simp [leR]))
  ·
   replace H1 := fl hc H1
   refine W_exit ?_
   obtain rfl := Option.some.inj H1
   exact hX1 () _ rfl (le_intro [] [] (by decide) (by decide) rfl (by simp [leS, leT, leA, gt]) (by simp [leB, leT, leA]) (by simp [leR]))
theorem impl_Get_ok  {a1 : Node} {a2 : Str} {r : Node × Bool} (H : impl_Get a1 a2 = some r) : R 24 [.ag [(cI .i64 a1.Kind, none), (cI .i64 a1.N, none), (cS a1.S, none), (cL eS a1.Keys, none), (cL eR_Node a1.Kids, none)], .c (cS a2) none] = some (.tu [.ag [(cI .i64 r.1.Kind, none), (cI .i64 r.1.N, none), (cS r.1.S, none), (cL eS r.1.Keys, some 1), (cL eR_Node r.1.Kids, some 5)], .c (cB r.2) none], []) := by
 unfold impl_Get at H
 refine Fz_walk false 32 rfl rfl rfl Try.func24 rfl (by kernel_rfl) rfl rfl rfl rfl ?_
 simp only [tellVs, tellV, tells, tell, st0, padT, SX.newRow, SX.newBox, List.length_cons, List.length_nil, Nat.reduceAdd, Nat.reduceSub, List.replicate, List.cons_append, List.nil_append, List.foldl_cons, List.foldl_nil]
 refine W_seq (W_region ?_)
 refine WO_op (x := .bp 0 0) (σ' := ⟨[], [some [qi a1.Kind, qi a1.N, qs a1.S, .c (cL eS a1.Keys), .c (cL eR_Node a1.Kids)]], []⟩) rfl rfl rfl ?_
 refine WO_op (x := .bp 1 0) (σ' := ⟨[], [some [qi a1.Kind, qi a1.N, qs a1.S, .c (cL eS a1.Keys), .c (cL eR_Node a1.Kids)], some [qi 0, qi 0, qs [], .nil, .nil]], []⟩) rfl rfl rfl ?_
 refine WO_op rfl rfl rfl ?_; simp only [putT,st,ev,gt,hp,ofV,constT,intT,lm]
 refine WO_nil (W_seq (W_region ?_))
 refine WO_op (x := .bp 0 3) rfl rfl rfl ?_
 refine WO_op (x := .c (cL eS a1.Keys)) rfl rfl rfl ?_
 refine WO_op rfl rfl rfl ?_; simp only [putT,st,ev,gt,hp,ofV,constT,intT,lm]
 obtain ⟨x3, hx3, H⟩ := bnd H
 refine WO_op (x := qi x3) (σ' := ⟨[], [some [qi a1.Kind, qi a1.N, qs a1.S, .c (cL eS a1.Keys), .c (cL eR_Node a1.Kids)], some [qi 0, qi 0, qs [], .nil, .nil]], []⟩) rfl rfl (ev_callG (al := [.c (cL eS a1.Keys), qs a2]) (ls := []) (slices_Index_Sstring_string_ok hx3) rfl rfl rfl rfl rfl (by decide) rfl rfl rfl rfl rfl rfl) ?_; simp only [putT,st,ev,gt,hp,ofV,constT,intT,lm]
 refine WO_op rfl rfl rfl ?_; simp only [putT,st,ev,gt,hp,ofV,constT,intT,lm]
 refine WO_nil (W_seq (W_seq (W_region ?_)))
 refine WO_op (x := .bp 0 0) rfl rfl rfl ?_
 refine WO_op (x := qi a1.Kind) rfl rfl rfl ?_; simp only [putT,st,ev,gt,hp,ofV,constT,intT,lm]
 iterate 2 (refine WO_op rfl rfl rfl ?_; simp only [putT,st,ev,gt,hp,ofV,constT,intT,lm])
 refine WO_if rfl rfl rfl (fun hc => ?_) (fun hc => ?_)
 ·
  replace H := tr hc H
  simp only [putT,st,ev,gt,hp,ofV,constT,intT,lm]
  iterate 2 refine WO_skip rfl rfl ?_
  refine WO_op (x := qb true) rfl rfl rfl ?_
  refine WO_op rfl rfl rfl ?_; simp only [putT,st,ev,gt,hp,ofV,constT,intT,lm]
  iterate 5 refine WO_skip rfl rfl ?_
  refine WO_op (x := qb true) rfl rfl rfl ?_; simp only [putT,st,ev,gt,hp,ofV,constT,intT,lm]
  refine WO_nil ?_
  refine W_cond (t := true) rfl (fun _ => ?_) (fun h => by cases h)
  refine W_seq (W_region ?_)
  refine WO_op (x := .ag [qi 0, qi 0, qs [], .nil, .nil]) rfl rfl rfl ?_
  refine WO_op (x := .no) (σ' := ⟨[], [some [qi a1.Kind, qi a1.N, qs a1.S, .c (cL eS a1.Keys), .c (cL eR_Node a1.Kids)], some [qi 0, qi 0, qs [], .nil, .nil]], []⟩) rfl rfl rfl ?_
  refine WO_op rfl rfl rfl ?_; simp only [putT,st,ev,gt,hp,ofV,constT,intT,lm]
  refine WO_nil ?_
  refine W_ret ?_
  obtain rfl := Option.some.inj H
  exact told5 rfl rfl rfl rfl rfl rfl
 ·
  replace H := fl hc H
  simp only [putT,st,ev,gt,hp,ofV,constT,intT,lm]
  iterate 2 (refine WO_want rfl rfl rfl ?_; simp only [putT,st,ev,gt,hp,ofV,constT,intT,lm])
  refine WO_op (x := qb (decide (x3 < 0))) rfl rfl rfl ?_
  refine WO_op rfl rfl rfl ?_; simp only [putT,st,ev,gt,hp,ofV,constT,intT,lm]
  refine WO_if rfl rfl rfl (fun hc => ?_) (fun hc => ?_)
  ·
   replace H := tr hc H
   simp only [putT,st,ev,gt,hp,ofV,constT,intT,lm]
   iterate 5 refine WO_skip rfl rfl ?_
   refine WO_op (x := qb true) rfl rfl rfl ?_; simp only [putT,st,ev,gt,hp,ofV,constT,intT,lm]
   refine WO_nil ?_
   refine W_cond (t := true) rfl (fun _ => ?_) (fun h => by cases h)
   refine W_seq (W_region ?_)
   refine WO_op (x := .ag [qi 0, qi 0, qs [], .nil, .nil]) rfl rfl rfl ?_
   refine WO_op (x := .no) (σ' := ⟨[], [some [qi a1.Kind, qi a1.N, qs a1.S, .c (cL eS a1.Keys), .c (cL eR_Node a1.Kids)], some [qi 0, qi 0, qs [], .nil, .nil]], []⟩) rfl rfl rfl ?_
   refine WO_op rfl rfl rfl ?_; simp only [putT,st,ev,gt,hp,ofV,constT,intT,lm]
   refine WO_nil ?_
   refine W_ret ?_
   obtain rfl := Option.some.inj H
   exact told5 rfl rfl rfl rfl rfl rfl
  ·
   replace H := fl hc H
   refine WO_want rfl rfl rfl ?_
   refine WO_want (x := .bp 0 4) rfl rfl rfl ?_
   refine WO_want (x := .c (cL eR_Node a1.Kids)) rfl rfl rfl ?_; simp only [putT,st,ev,gt,hp,ofV,constT,intT,lm]
   iterate 2 (refine WO_want rfl rfl rfl ?_; simp only [putT,st,ev,gt,hp,ofV,constT,intT,lm])
   refine WO_op (x := qb (decide (x3 ≥ (a1.Kids.length : Int)))) rfl rfl rfl ?_; simp only [putT,st,ev,gt,hp,ofV,constT,intT,lm]
   refine WO_nil ?_
   refine W_cond rfl (fun hc => ?_) (fun hc => ?_)
   ·
    replace H := tr hc H
    refine W_seq (W_region ?_)
    refine WO_op (x := .ag [qi 0, qi 0, qs [], .nil, .nil]) rfl rfl rfl ?_
    refine WO_op (x := .no) (σ' := ⟨[], [some [qi a1.Kind, qi a1.N, qs a1.S, .c (cL eS a1.Keys), .c (cL eR_Node a1.Kids)], some [qi 0, qi 0, qs [], .nil, .nil]], []⟩) rfl rfl rfl ?_
    refine WO_op rfl rfl rfl ?_; simp only [putT,st,ev,gt,hp,ofV,constT,intT,lm]
    refine WO_nil ?_
    refine W_ret ?_
    obtain rfl := Option.some.inj H
    exact told5 rfl rfl rfl rfl rfl rfl
   ·
    replace H := fl hc H
    refine W_skip ?_
    refine W_seq (W_region ?_)
    refine WO_op (x := .bp 0 4) rfl rfl rfl ?_
    refine WO_op (x := .c (cL eR_Node a1.Kids)) rfl rfl rfl ?_
    refine WO_op rfl rfl rfl ?_; simp only [putT,st,ev,gt,hp,ofV,constT,intT,lm]
    obtain ⟨x4, hx4, H⟩ := bnd H
    obtain ⟨y5, hy5, H⟩ := bnd H
    rw [dN_Node_some hy5] at hx4
    refine WO_op rfl rfl (ev_ix (en := eR_Node) hx4 rfl rfl rfl rfl rfl rfl rfl) ?_; simp only [putT,st,ev,gt,hp,ofV,constT,intT,lm]
    refine WO_op (x := .ag [qi y5.Kind, qi y5.N, qs y5.S, .c (cL eS y5.Keys), .c (cL eR_Node y5.Kids)]) rfl rfl rfl ?_; simp only [putT,st,ev,gt,hp,ofV,constT,intT,lm]
    obtain ⟨x6, hx6, H⟩ := bnd H
    refine WO_op (x := .ag [qi x6.Kind, qi x6.N, qs x6.S, .row 0, .row 1]) (σ' := ⟨[], [some [qi a1.Kind, qi a1.N, qs a1.S, .c (cL eS a1.Keys), .c (cL eR_Node a1.Kids)], some [qi 0, qi 0, qs [], .nil, .nil]], [rr 1 eS x6.Keys true, rr 5 eR_Node x6.Kids true]⟩) rfl rfl (ev_callG (al := [.ag [qi y5.Kind, qi y5.N, qs y5.S, .c (cL eS y5.Keys), .c (cL eR_Node y5.Kids)]]) (ls := []) (impl_copyTree_ok hx6) rfl rfl rfl rfl rfl (by decide) rfl rfl rfl rfl rfl rfl) ?_; simp only [putT,st,ev,gt,hp,ofV,constT,intT,lm]
    refine WO_op (x := .no) (σ' := ⟨[], [some [qi a1.Kind, qi a1.N, qs a1.S, .c (cL eS a1.Keys), .c (cL eR_Node a1.Kids)], some [qi x6.Kind, qi x6.N, qs x6.S, .row 0, .row 1]], [rr 1 eS x6.Keys true, rr 5 eR_Node x6.Kids true]⟩) rfl rfl rfl ?_
    refine WO_op rfl rfl rfl ?_; simp only [putT,st,ev,gt,hp,ofV,constT,intT,lm]
    refine WO_nil ?_
    refine W_ret ?_
    obtain rfl := Option.some.inj H
    exact told5 rfl rfl rfl rfl (fitAs_nz rfl) rfl
theorem impl_isMap_ok  {a1 : Node} {r : Bool} (H : impl_isMap a1 = some r) : R 40 [.ag [(cI .i64 a1.Kind, none), (cI .i64 a1.N, none), (cS a1.S, none), (cL eS a1.Keys, none), (cL eR_Node a1.Kids, none)]] = some (.c (cB r) none, []) := by
 unfold impl_isMap at H
 refine Fz_walk false 15 rfl rfl rfl Try.func40 rfl (by kernel_rfl) rfl rfl rfl rfl ?_
 simp only [tellVs, tellV, tells, tell, st0, padT, SX.newRow, SX.newBox, List.length_cons, List.length_nil, Nat.reduceAdd, Nat.reduceSub, List.replicate, List.cons_append, List.nil_append, List.foldl_cons, List.foldl_nil]
 refine W_seq (W_region ?_)
 refine WO_op (x := .bp 0 0) (σ' := ⟨[], [some [qi a1.Kind, qi a1.N, qs a1.S, .c (cL eS a1.Keys), .c (cL eR_Node a1.Kids)]], []⟩) rfl rfl rfl ?_
 refine WO_op rfl rfl rfl ?_; simp only [putT,st,ev,gt,hp,ofV,constT,intT,lm]
 refine WO_nil (W_seq (W_region ?_))
 refine WO_op (x := .bp 0 0) rfl rfl rfl ?_
 refine WO_op (x := qi a1.Kind) rfl rfl rfl ?_; simp only [putT,st,ev,gt,hp,ofV,constT,intT,lm]
 iterate 2 (refine WO_op rfl rfl rfl ?_; simp only [putT,st,ev,gt,hp,ofV,constT,intT,lm])
 refine WO_if rfl rfl rfl (fun hc => ?_) (fun hc => ?_)
 ·
  replace H := tr hc H
  refine WO_want (x := .bp 0 3) rfl rfl rfl ?_
  refine WO_want (x := .c (cL eS a1.Keys)) rfl rfl rfl ?_
  refine WO_want rfl rfl rfl ?_; simp only [putT,st,ev,gt,hp,ofV,constT,intT,lm]
  refine WO_want (x := .bp 0 4) rfl rfl rfl ?_
  refine WO_want (x := .c (cL eR_Node a1.Kids)) rfl rfl rfl ?_; simp only [putT,st,ev,gt,hp,ofV,constT,intT,lm]
  iterate 2 (refine WO_want rfl rfl rfl ?_; simp only [putT,st,ev,gt,hp,ofV,constT,intT,lm])
  refine WO_op (x := qb ((a1.Keys.length : Int) == (a1.Kids.length : Int))) rfl rfl rfl ?_
  refine WO_op rfl rfl rfl ?_; simp only [putT,st,ev,gt,hp,ofV,constT,intT,lm]
  refine WO_nil ?_
  refine W_ret ?_
  obtain rfl := Option.some.inj H
  exact told3 rfl
 ·
  replace H := fl hc H
  simp only [putT,st,ev,gt,hp,ofV,constT,intT,lm]
  iterate 7 refine WO_skip rfl rfl ?_
  refine WO_op (x := qb false) rfl rfl rfl ?_
  refine WO_op rfl rfl rfl ?_; simp only [putT,st,ev,gt,hp,ofV,constT,intT,lm]
  refine WO_nil ?_
  refine W_ret ?_
  obtain rfl := Option.some.inj H
  exact told3 rfl
theorem impl_Set_1_ok  {a1 : Str} {a2 : Str} {r : Bool × Str} (H : impl_Set_1 a1 a2 = some r) : R 42 [.c (cS a1) none, .p [(cS a2, none)]] = some (.c (cB r.1) none, [some [(cS r.2, none)]]) := by
 unfold impl_Set_1 at H
 refine Fz_walk false 7 rfl rfl rfl Try.func42 rfl (by kernel_rfl) rfl rfl rfl rfl ?_
 simp only [tellVs, tellV, tells, tell, st0, padT, SX.newRow, SX.newBox, List.length_cons, List.length_nil, Nat.reduceAdd, Nat.reduceSub, List.replicate, List.cons_append, List.nil_append, List.foldl_cons, List.foldl_nil]
 refine W_seq (W_region ?_)
 refine WO_op rfl rfl rfl ?_; simp only [putT,st,ev,gt,hp,ofV,constT,intT,lm]
 refine WO_nil (W_seq (W_region ?_))
 refine WO_op rfl rfl rfl ?_
 refine WO_op (x := qs a2) rfl rfl rfl ?_; simp only [putT,st,ev,gt,hp,ofV,constT,intT,lm]
 refine WO_op rfl rfl (ev_gtr_s rfl rfl rfl) ?_; simp only [putT,st,ev,gt,hp,ofV,constT,intT,lm]
 refine WO_op rfl rfl rfl ?_; simp only [putT,st,ev,gt,hp,ofV,constT,intT,lm]
 refine WO_nil ?_
 refine W_ret ?_
 obtain rfl := Option.some.inj H
 exact told3 rfl
theorem slices_IndexFunc_Sstring_string_impl_Set_1_ok  {a1 : List Str} {a2 : Str} {r : Int × Str} (H : slices_IndexFunc_Sstring_string_impl_Set_1 a1 a2 = some r) : R 41 [.c (cL eS a1) none, .f 42 [[(cS a2, none)]]] = some (.c (cI .i64 r.1) none, [some [(cS r.2, none)]]) := by
 unfold slices_IndexFunc_Sstring_string_impl_Set_1 at H
 refine Fz_walk false 19 rfl rfl rfl Try.func41 rfl (by kernel_rfl) rfl rfl rfl rfl ?_
 simp only [tellVs, tellV, tells, tell, st0, padT, SX.newRow, SX.newBox, List.length_cons, List.length_nil, Nat.reduceAdd, Nat.reduceSub, List.replicate, List.cons_append, List.nil_append, List.foldl_cons, List.foldl_nil]
 refine W_seq (W_region ?_)
 refine WO_op rfl rfl rfl ?_; simp only [putT,st,ev,gt,hp,ofV,constT,intT,lm]
 refine WO_nil (W_seq (W_seq (W_region ?_)))
 iterate 3 (refine WO_op rfl rfl rfl ?_; simp only [putT,st,ev,gt,hp,ofV,constT,intT,lm])
 refine WO_nil ?_
 refine W_block ?_
 obtain ⟨s8, hs8, H⟩ := bnd H
 refine loop_rule (ls := [.b 0]) 0 (fun t7 : Str => ⟨[], [some [qs t7]], []⟩) (fun t => s8 = .inr t) ⟨[.c (cL eS a1), .fn 42 [0], .no, .no, .no, .no, .no, qi (a1.length : Int), qi 0], [some [qs a2]], []⟩ (by repeat (first | exact mono_told | refine mono_seq ?_ | refine mono_blk ?_ | refine mono_lp ?_)) (le_intro [0] [] (by decide) (by decide) rfl (by simp [leS, leT, leA, gt]) (by simp [leB, leT, leA]) (by simp [leR])) ?_ ?_
 ·
  rintro t7 rfl
  refine W_seq (W_region ?_)
  refine WO_op rfl rfl rfl ?_; simp only [putT,st,ev,gt,hp,ofV,constT,intT,lm]
  refine WO_nil ?_
  refine W_ret ?_
  obtain rfl := Option.some.inj H
  exact told3 rfl
 ·
  intro V1 hV1 hW1 hX1
  refine (slices_IndexFunc_Sstring_string_impl_Set_1.l0.partial_correctness a1 (fun v3 v4 s' => s' = s8 → (V1 ⟨[.c (cL eS a1), .fn 42 [0], .no, .no, .no, .no, .no, qi (a1.length : Int), qi v3], [some [qs v4]], []⟩)) ?_ _ _ _ hs8 rfl)
  intro l0 IH1 v3 v4 s' H1 e
  subst e
  refine hV1 _ ?_
  refine W_seq (W_region ?_)
  refine WO_op rfl rfl rfl ?_; simp only [putT,st,ev,gt,hp,ofV,constT,intT,lm]
  refine WO_nil (W_seq ?_)
  refine W_cond rfl (fun hc => ?_) (fun hc => ?_)
  ·
   replace H1 := tr hc H1
   refine W_skip ?_
   refine W_seq ?_
   refine W_block ?_
   refine W_seq (W_region ?_)
   iterate 2 (refine WO_op rfl rfl rfl ?_; simp only [putT,st,ev,gt,hp,ofV,constT,intT,lm])
   refine WO_nil (W_seq (W_region ?_))
   iterate 3 (refine WO_op rfl rfl rfl ?_; simp only [putT,st,ev,gt,hp,ofV,constT,intT,lm])
   obtain ⟨x5, hx5, H1⟩ := bnd H1
   refine WO_op rfl rfl (ev_ix (en := eS) hx5 rfl rfl rfl rfl rfl rfl rfl) ?_; simp only [putT,st,ev,gt,hp,ofV,constT,intT,lm]
   refine WO_op (x := qs x5) rfl rfl rfl ?_; simp only [putT,st,ev,gt,hp,ofV,constT,intT,lm]
   obtain ⟨x6, hx6, H1⟩ := bnd H1
   refine WO_op (x := qb x6.1) (σ' := ⟨[], [some [qs x6.2]], []⟩) rfl rfl (ev_callG (al := [qs x5, .bp 0 0]) (ls := [.b 0]) (impl_Set_1_ok hx6) rfl rfl rfl rfl rfl (by decide) rfl rfl rfl rfl rfl rfl) ?_; simp only [putT,st,ev,gt,hp,ofV,constT,intT,lm]
   refine WO_nil ?_
   refine W_cond rfl (fun hc => ?_) (fun hc => ?_)
   ·
    replace H1 := tr hc H1
    refine W_seq (W_region ?_)
    iterate 2 (refine WO_op rfl rfl rfl ?_; simp only [putT,st,ev,gt,hp,ofV,constT,intT,lm])
    refine WO_nil ?_
    refine W_ret ?_
    obtain rfl := Option.some.inj H1
    obtain rfl := Option.some.inj H
    exact told3 rfl
   ·
    replace H1 := fl hc H1
    refine W_skip ?_
    refine W_region ?_
    iterate 2 (refine WO_op rfl rfl rfl ?_; simp only [putT,st,ev,gt,hp,ofV,constT,intT,lm])
    refine WO_nil ?_
    exact hW1 _ _ ((IH1 _ _ _ H1 rfl)) (le_intro [0] [] (by decide) (by decide) rfl (by simp [leS, leT, leA, gt]) (by simp [leB, leT, leA]) (by simp [leR]))
  ·
   replace H1 := fl hc H1
   refine W_exit ?_
   obtain rfl := Option.some.inj H1
   exact hX1 v4 _ rfl (le_intro [0] [] (by decide) (by decide) rfl (by simp [leS, leT, leA, gt]) (by simp [leB, leT, leA]) (by simp [leR]))
theorem slices_Insert_Sstring_string_ok {a1 : List Str} {a2 : Int} {a3 r : List Str} (H : slices_Insert_Sstring_string a1 a2 a3 = some r) : R 43 [.c (cL eS a1) (some 1), .c (cI .i64 a2) none, .c (cL eS a3) (some 1)] = some (.c (cL eS r) (some 1), [none, none]) :=
  Fz_pr rfl (insF_of H)
theorem slices_Insert_Simpl_Node_impl_Node_ok {a1 : List RNode} {a2 : Int} {a3 r : List RNode} (H : slices_Insert_Simpl_Node_impl_Node a1 a2 a3 = some r) : R 44 [.c (cL eR_Node a1) (some 5), .c (cI .i64 a2) none, .c (cL eR_Node a3) (some 5)] = some (.c (cL eR_Node r) (some 5), [none, none]) :=
  Fz_pr rfl (insF_of H)
theorem impl_Set_ok  {a1 : Node} {a2 : Str} {a3 : Node} {r : Node} (H : impl_Set a1 a2 a3 = some r) : R 25 [.ag [(cI .i64 a1.Kind, none), (cI .i64 a1.N, none), (cS a1.S, none), (cL eS a1.Keys, none), (cL eR_Node a1.Kids, none)], .c (cS a2) none, .ag [(cI .i64 a3.Kind, none), (cI .i64 a3.N, none), (cS a3.S, none), (cL eS a3.Keys, none), (cL eR_Node a3.Kids, none)]] = some (.ag [(cI .i64 r.Kind, none), (cI .i64 r.N, none), (cS r.S, none), (cL eS r.Keys, some 1), (cL eR_Node r.Kids, some 5)], []) := by
 unfold impl_Set at H
 refine Fz_walk false 53 rfl rfl rfl Try.func25 rfl (by kernel_rfl) rfl rfl rfl rfl ?_
 simp only [tellVs, tellV, tells, tell, st0, padT, SX.newRow, SX.newBox, List.length_cons, List.length_nil, Nat.reduceAdd, Nat.reduceSub, List.replicate, List.cons_append, List.nil_append, List.foldl_cons, List.foldl_nil]
 refine W_seq (W_region ?_)
 refine WO_op (x := .bp 0 0) (σ' := ⟨[], [some [qi a1.Kind, qi a1.N, qs a1.S, .c (cL eS a1.Keys), .c (cL eR_Node a1.Kids)]], []⟩) rfl rfl rfl ?_
 refine WO_op (x := .bp 1 0) (σ' := ⟨[], [some [qi a1.Kind, qi a1.N, qs a1.S, .c (cL eS a1.Keys), .c (cL eR_Node a1.Kids)], some [qs a2]], []⟩) rfl rfl rfl ?_
 refine WO_op (x := .bp 2 0) (σ' := ⟨[], [some [qi a1.Kind, qi a1.N, qs a1.S, .c (cL eS a1.Keys), .c (cL eR_Node a1.Kids)], some [qs a2], some [qi a3.Kind, qi a3.N, qs a3.S, .c (cL eS a3.Keys), .c (cL eR_Node a3.Kids)]], []⟩) rfl rfl rfl ?_
 refine WO_op (x := .bp 3 0) (σ' := ⟨[], [some [qi a1.Kind, qi a1.N, qs a1.S, .c (cL eS a1.Keys), .c (cL eR_Node a1.Kids)], some [qs a2], some [qi a3.Kind, qi a3.N, qs a3.S, .c (cL eS a3.Keys), .c (cL eR_Node a3.Kids)], some [qi 0, qi 0, qs [], .nil, .nil]], []⟩) rfl rfl rfl ?_; simp only [putT,st,ev,gt,hp,ofV,constT,intT,lm]
 refine WO_nil (W_seq (W_region ?_))
 refine WO_op (x := .ag [qi a1.Kind, qi a1.N, qs a1.S, .c (cL eS a1.Keys), .c (cL eR_Node a1.Kids)]) rfl rfl rfl ?_; simp only [putT,st,ev,gt,hp,ofV,constT,intT,lm]
 obtain ⟨x4, hx4, H⟩ := bnd H
 refine WO_op (x := .ag [qi x4.Kind, qi x4.N, qs x4.S, .row 0, .row 1]) (σ' := ⟨[], [some [qi a1.Kind, qi a1.N, qs a1.S, .c (cL eS a1.Keys), .c (cL eR_Node a1.Kids)], some [qs a2], some [qi a3.Kind, qi a3.N, qs a3.S, .c (cL eS a3.Keys), .c (cL eR_Node a3.Kids)], some [qi 0, qi 0, qs [], .nil, .nil]], [rr 1 eS x4.Keys true, rr 5 eR_Node x4.Kids true]⟩) rfl rfl (ev_callG (al := [.ag [qi a1.Kind, qi a1.N, qs a1.S, .c (cL eS a1.Keys), .c (cL eR_Node a1.Kids)]]) (ls := []) (impl_copyTree_ok hx4) rfl rfl rfl rfl rfl (by decide) rfl rfl rfl rfl rfl rfl) ?_; simp only [putT,st,ev,gt,hp,ofV,constT,intT,lm]
 refine WO_op (x := .no) (σ' := ⟨[], [some [qi x4.Kind, qi x4.N, qs x4.S, .row 0, .row 1], some [qs a2], some [qi a3.Kind, qi a3.N, qs a3.S, .c (cL eS a3.Keys), .c (cL eR_Node a3.Kids)], some [qi 0, qi 0, qs [], .nil, .nil]], [rr 1 eS x4.Keys true, rr 5 eR_Node x4.Kids true]⟩) rfl rfl rfl ?_; simp only [putT,st,ev,gt,hp,ofV,constT,intT,lm]
 refine WO_nil (W_seq (W_seq (W_region ?_)))
 refine WO_op (x := .ag [qi x4.Kind, qi x4.N, qs x4.S, .row 0, .row 1]) rfl rfl rfl ?_; simp only [putT,st,ev,gt,hp,ofV,constT,intT,lm]
 obtain ⟨x5, hx5, H⟩ := bnd H
 refine WO_op (x := qb x5) (σ' := ⟨[], [some [qi x4.Kind, qi x4.N, qs x4.S, .row 0, .row 1], some [qs a2], some [qi a3.Kind, qi a3.N, qs a3.S, .c (cL eS a3.Keys), .c (cL eR_Node a3.Kids)], some [qi 0, qi 0, qs [], .nil, .nil]], [rr 1 eS x4.Keys true, rr 5 eR_Node x4.Kids true]⟩) rfl rfl (ev_callG (al := [.ag [qi x4.Kind, qi x4.N, qs x4.S, .row 0, .row 1]]) (ls := []) (impl_isMap_ok hx5) rfl rfl rfl rfl rfl (by decide) rfl rfl rfl rfl rfl rfl) ?_; simp only [putT,st,ev,gt,hp,ofV,constT,intT,lm]
 refine WO_op rfl rfl rfl ?_; simp only [putT,st,ev,gt,hp,ofV,constT,intT,lm]
 refine WO_nil ?_
 refine W_cond rfl (fun hc => ?_) (fun hc => ?_)
 ·
  replace H := tr hc H
  refine W_seq (W_region ?_)
  refine WO_op (x := .ag [qi x4.Kind, qi x4.N, qs x4.S, .row 0, .row 1]) rfl rfl rfl ?_
  refine WO_op (x := .no) (σ' := ⟨[], [some [qi x4.Kind, qi x4.N, qs x4.S, .row 0, .row 1], some [qs a2], some [qi a3.Kind, qi a3.N, qs a3.S, .c (cL eS a3.Keys), .c (cL eR_Node a3.Kids)], some [qi x4.Kind, qi x4.N, qs x4.S, .row 0, .row 1]], [rr 1 eS x4.Keys true, rr 5 eR_Node x4.Kids true]⟩) rfl rfl rfl ?_; simp only [putT,st,ev,gt,hp,ofV,constT,intT,lm]
  refine WO_nil ?_
  refine W_ret ?_
  obtain rfl := Option.some.inj H
  exact told5 rfl rfl rfl rfl (fitAs_nz rfl) rfl
 ·
  replace H := fl hc H
  refine W_skip ?_
  refine W_seq (W_seq (W_region ?_))
  refine WO_op (x := .bp 0 3) rfl rfl rfl ?_
  refine WO_op (x := .row 0) rfl rfl rfl ?_
  refine WO_op (x := qs a2) rfl rfl rfl ?_; simp only [putT,st,ev,gt,hp,ofV,constT,intT,lm]
  obtain ⟨x6, hx6, H⟩ := bnd H
  refine WO_op (x := qi x6) (σ' := ⟨[], [some [qi x4.Kind, qi x4.N, qs x4.S, .row 0, .row 1], some [qs a2], some [qi a3.Kind, qi a3.N, qs a3.S, .c (cL eS a3.Keys), .c (cL eR_Node a3.Kids)], some [qi 0, qi 0, qs [], .nil, .nil]], [rr 1 eS x4.Keys true, rr 5 eR_Node x4.Kids true]⟩) rfl rfl (ev_callG (al := [.row 0, qs a2]) (ls := []) (slices_Index_Sstring_string_ok hx6) rfl rfl rfl rfl rfl (by decide) rfl rfl rfl rfl rfl rfl) ?_; simp only [putT,st,ev,gt,hp,ofV,constT,intT,lm]
  refine WO_op rfl rfl rfl ?_; simp only [putT,st,ev,gt,hp,ofV,constT,intT,lm]
  refine WO_nil (W_seq (W_region ?_))
  iterate 2 (refine WO_op rfl rfl rfl ?_; simp only [putT,st,ev,gt,hp,ofV,constT,intT,lm])
  refine WO_nil ?_
  refine W_cond rfl (fun hc => ?_) (fun hc => ?_)
  ·
   replace H := tr hc H
   refine W_seq ?_
   refine W_drawL (by kernel_rfl) (by decide +kernel) ?_
   refine WL_op (x := .bp 0 4) rfl rfl rfl rfl ?_
   refine WL_op (x := .row 1) rfl rfl rfl rfl ?_
   refine WL_op rfl rfl rfl rfl ?_
   refine WL_op (x := .ag [qi a3.Kind, qi a3.N, qs a3.S, .c (cL eS a3.Keys), .c (cL eR_Node a3.Kids)]) rfl rfl rfl rfl ?_; simp only [putT,st,ev,gt,hp,ofV,constT,intT,lm]
   obtain ⟨x7, hx7, H⟩ := bnd H
   refine WL_op (x := .ag [qi x7.Kind, qi x7.N, qs x7.S, .row 2, .row 3]) (σ' := ⟨[], [some [qi x4.Kind, qi x4.N, qs x4.S, .row 0, .row 1], some [qs a2], some [qi a3.Kind, qi a3.N, qs a3.S, .c (cL eS a3.Keys), .c (cL eR_Node a3.Kids)], some [qi 0, qi 0, qs [], .nil, .nil]], [rr 1 eS x4.Keys true, rr 5 eR_Node x4.Kids true, rr 1 eS x7.Keys true, rr 5 eR_Node x7.Kids true]⟩) rfl rfl rfl (ev_callG (al := [.ag [qi a3.Kind, qi a3.N, qs a3.S, .c (cL eS a3.Keys), .c (cL eR_Node a3.Kids)]]) (ls := []) (impl_copyTree_ok hx7) rfl rfl rfl rfl rfl (by decide) rfl rfl rfl rfl rfl rfl) ?_; simp only [putT,st,ev,gt,hp,ofV,constT,intT,lm]
   obtain ⟨x8, hx8, H⟩ := bnd H
   obtain ⟨y9, hy9, H⟩ := bnd H
   rw [dN_Node_some hy9] at hx8
   refine WL_op rfl rfl rfl (ev_ixR (en := eR_Node) hx8 rfl rfl rfl rfl rfl rfl rfl) ?_; simp only [putT,st,ev,gt,hp,ofV,constT,intT,lm]
   obtain ⟨m10, hm10, H⟩ := bnd H
   refine WL_op (x := .no) (σ' := ⟨[], [some [qi x4.Kind, qi x4.N, qs x4.S, .row 0, .row 1], some [qs a2], some [qi a3.Kind, qi a3.N, qs a3.S, .c (cL eS a3.Keys), .c (cL eR_Node a3.Kids)], some [qi 0, qi 0, qs [], .nil, .nil]], [rr 1 eS x4.Keys true, rr 5 eR_Node m10 true, rr 1 eS x7.Keys false, rr 5 eR_Node x7.Kids false]⟩) rfl rfl rfl (ev_stR (en := eR_Node) hm10 hx8 rfl rfl rfl rfl rfl rfl rfl rfl) ?_; simp only [putT,st,ev,gt,hp,ofV,constT,intT,lm]
   refine WL_nil (by kernel_rfl) ?_
   refine W_seq (W_region ?_)
   refine WO_op (x := .ag [qi x4.Kind, qi x4.N, qs x4.S, .row 0, .row 1]) rfl rfl rfl ?_
   refine WO_op (x := .no) (σ' := ⟨[], [some [qi x4.Kind, qi x4.N, qs x4.S, .row 0, .row 1], some [qs a2], some [qi a3.Kind, qi a3.N, qs a3.S, .c (cL eS a3.Keys), .c (cL eR_Node a3.Kids)], some [qi x4.Kind, qi x4.N, qs x4.S, .row 0, .row 1]], [rr 1 eS x4.Keys true, rr 5 eR_Node m10 true, rr 1 eS x7.Keys false, rr 5 eR_Node x7.Kids false]⟩) rfl rfl rfl ?_; simp only [putT,st,ev,gt,hp,ofV,constT,intT,lm]
   refine WO_nil ?_
   refine W_ret ?_
   obtain rfl := Option.some.inj H
   exact told5 rfl rfl rfl rfl (fitAs_nz rfl) rfl
  ·
   replace H := fl hc H
   refine W_skip ?_
   refine W_seq (W_region ?_)
   refine WO_op (x := .bp 0 3) rfl rfl rfl ?_
   refine WO_op (x := .row 0) rfl rfl rfl ?_
   refine WO_op rfl rfl rfl ?_; simp only [putT,st,ev,gt,hp,ofV,constT,intT,lm]
   obtain ⟨x11, hx11, H⟩ := bnd H
   refine WO_op (x := qi x11.1) (σ' := ⟨[], [some [qi x4.Kind, qi x4.N, qs x4.S, .row 0, .row 1], some [qs x11.2], some [qi a3.Kind, qi a3.N, qs a3.S, .c (cL eS a3.Keys), .c (cL eR_Node a3.Kids)], some [qi 0, qi 0, qs [], .nil, .nil]], [rr 1 eS x4.Keys true, rr 5 eR_Node x4.Kids true]⟩) rfl rfl (ev_callG (al := [.row 0, .fn 42 [1]]) (ls := [.b 1]) (slices_IndexFunc_Sstring_string_impl_Set_1_ok hx11) rfl rfl rfl rfl rfl (by decide) rfl rfl rfl rfl rfl rfl) ?_; simp only [putT,st,ev,gt,hp,ofV,constT,intT,lm]
   refine WO_op rfl rfl rfl ?_; simp only [putT,st,ev,gt,hp,ofV,constT,intT,lm]
   refine WO_nil (W_seq (W_seq (W_region ?_)))
   iterate 2 (refine WO_op rfl rfl rfl ?_; simp only [putT,st,ev,gt,hp,ofV,constT,intT,lm])
   refine WO_nil ?_
   refine W_cond rfl (fun hc => ?_) (fun hc => ?_)
   ·
    replace H := tr hc H
    refine W_region ?_
    refine WO_op (x := .bp 0 3) rfl rfl rfl ?_
    refine WO_op (x := .row 0) rfl rfl rfl ?_; simp only [putT,st,ev,gt,hp,ofV,constT,intT,lm]
    iterate 2 (refine WO_op rfl rfl rfl ?_; simp only [putT,st,ev,gt,hp,ofV,constT,intT,lm])
    refine WO_nil (W_seq (W_region ?_))
    refine WO_op (x := .bp 0 3) rfl rfl rfl ?_
    refine WO_op (x := .row 0) rfl rfl rfl ?_
    refine WO_op rfl rfl rfl ?_
    refine WO_op (x := qs x11.2) rfl rfl rfl ?_; simp only [putT,st,ev,gt,hp,ofV,constT,intT,lm]
    refine WO_op (x := .row 2) (σ' := ⟨[], [some [qi x4.Kind, qi x4.N, qs x4.S, .row 0, .row 1], some [qs x11.2], some [qi a3.Kind, qi a3.N, qs a3.S, .c (cL eS a3.Keys), .c (cL eR_Node a3.Kids)], some [qi 0, qi 0, qs [], .nil, .nil]], [rr 1 eS x4.Keys true, rr 5 eR_Node x4.Kids true, rr 1 eS ([x11.2] : List Str) true]⟩) rfl rfl (ev_bs ([x11.2] : List Str) eS rfl rfl rfl rfl) ?_; simp only [putT,st,ev,gt,hp,ofV,constT,intT,lm]
    obtain ⟨x12, hx12, H⟩ := bnd H
    refine WO_op (x := .row 3) (σ' := ⟨[], [some [qi x4.Kind, qi x4.N, qs x4.S, .row 0, .row 1], some [qs x11.2], some [qi a3.Kind, qi a3.N, qs a3.S, .c (cL eS a3.Keys), .c (cL eR_Node a3.Kids)], some [qi 0, qi 0, qs [], .nil, .nil]], [none, rr 5 eR_Node x4.Kids true, none, rr 1 eS x12 true]⟩) rfl rfl (ev_callG (al := [.row 0, qi (x4.Keys.length : Int), .row 2]) (ls := [.r 0, .r 2]) (slices_Insert_Sstring_string_ok hx12) rfl rfl rfl rfl rfl (by decide) rfl rfl (by simp only [flatA, flatV, flatC, List.all_cons, List.all_nil, Option.all_some, Option.all_none, Bool.and_self, Bool.or_true, fl_eS]) rfl rfl rfl) ?_; simp only [putT,st,ev,gt,hp,ofV,constT,intT,lm]
    refine WO_op (x := .bp 0 3) rfl rfl rfl ?_
    refine WO_op (x := .no) (σ' := ⟨[], [some [qi x4.Kind, qi x4.N, qs x4.S, .row 3, .row 1], some [qs x11.2], some [qi a3.Kind, qi a3.N, qs a3.S, .c (cL eS a3.Keys), .c (cL eR_Node a3.Kids)], some [qi 0, qi 0, qs [], .nil, .nil]], [none, rr 5 eR_Node x4.Kids true, none, rr 1 eS x12 true]⟩) rfl rfl rfl ?_; simp only [putT,st,ev,gt,hp,ofV,constT,intT,lm]
    refine WO_nil (W_seq ?_)
    refine W_drawL (by kernel_rfl) (by decide +kernel) ?_
    refine WL_op (x := .bp 0 4) rfl rfl rfl rfl ?_
    refine WL_op (x := .row 1) rfl rfl rfl rfl ?_
    refine WL_op rfl rfl rfl rfl ?_
    refine WL_op (x := .ag [qi a3.Kind, qi a3.N, qs a3.S, .c (cL eS a3.Keys), .c (cL eR_Node a3.Kids)]) rfl rfl rfl rfl ?_; simp only [putT,st,ev,gt,hp,ofV,constT,intT,lm]
    obtain ⟨x13, hx13, H⟩ := bnd H
    refine WL_op (x := .ag [qi x13.Kind, qi x13.N, qs x13.S, .row 4, .row 5]) (σ' := ⟨[], [some [qi x4.Kind, qi x4.N, qs x4.S, .row 3, .row 1], some [qs x11.2], some [qi a3.Kind, qi a3.N, qs a3.S, .c (cL eS a3.Keys), .c (cL eR_Node a3.Kids)], some [qi 0, qi 0, qs [], .nil, .nil]], [none, rr 5 eR_Node x4.Kids true, none, rr 1 eS x12 true, rr 1 eS x13.Keys true, rr 5 eR_Node x13.Kids true]⟩) rfl rfl rfl (ev_callG (al := [.ag [qi a3.Kind, qi a3.N, qs a3.S, .c (cL eS a3.Keys), .c (cL eR_Node a3.Kids)]]) (ls := []) (impl_copyTree_ok hx13) rfl rfl rfl rfl rfl (by decide) rfl rfl rfl rfl rfl rfl) ?_; simp only [putT,st,ev,gt,hp,ofV,constT,intT,lm]
    refine WL_op (x := .row 6) (σ' := ⟨[], [some [qi x4.Kind, qi x4.N, qs x4.S, .row 3, .row 1], some [qs x11.2], some [qi a3.Kind, qi a3.N, qs a3.S, .c (cL eS a3.Keys), .c (cL eR_Node a3.Kids)], some [qi 0, qi 0, qs [], .nil, .nil]], [none, rr 5 eR_Node x4.Kids true, none, rr 1 eS x12 true, rr 1 eS x13.Keys false, rr 5 eR_Node x13.Kids false, rr 5 eR_Node ([rN_Node x13] : List RNode) true]⟩) rfl rfl rfl (ev_bs ([rN_Node x13] : List RNode) eR_Node rfl rfl rfl rfl) ?_; simp only [putT,st,ev,gt,hp,ofV,constT,intT,lm]
    obtain ⟨x14, hx14, H⟩ := bnd H
    refine WL_op (x := .row 7) (σ' := ⟨[], [some [qi x4.Kind, qi x4.N, qs x4.S, .row 3, .row 1], some [qs x11.2], some [qi a3.Kind, qi a3.N, qs a3.S, .c (cL eS a3.Keys), .c (cL eR_Node a3.Kids)], some [qi 0, qi 0, qs [], .nil, .nil]], [none, none, none, rr 1 eS x12 true, rr 1 eS x13.Keys false, rr 5 eR_Node x13.Kids false, none, rr 5 eR_Node x14 true]⟩) rfl rfl rfl (ev_callG (al := [.row 1, qi (x4.Keys.length : Int), .row 6]) (ls := [.r 1, .r 6]) (slices_Insert_Simpl_Node_impl_Node_ok hx14) rfl rfl rfl rfl rfl (by decide) rfl rfl rfl rfl rfl rfl) ?_; simp only [putT,st,ev,gt,hp,ofV,constT,intT,lm]
    refine WL_op (x := .bp 0 4) rfl rfl rfl rfl ?_
    refine WL_op (x := .no) (σ' := ⟨[], [some [qi x4.Kind, qi x4.N, qs x4.S, .row 3, .row 7], some [qs x11.2], some [qi a3.Kind, qi a3.N, qs a3.S, .c (cL eS a3.Keys), .c (cL eR_Node a3.Kids)], some [qi 0, qi 0, qs [], .nil, .nil]], [none, none, none, rr 1 eS x12 true, rr 1 eS x13.Keys false, rr 5 eR_Node x13.Kids false, none, rr 5 eR_Node x14 true]⟩) rfl rfl rfl rfl ?_; simp only [putT,st,ev,gt,hp,ofV,constT,intT,lm]
    refine WL_nil (by kernel_rfl) ?_
    refine W_seq (W_region ?_)
    refine WO_op (x := .ag [qi x4.Kind, qi x4.N, qs x4.S, .row 3, .row 7]) rfl rfl rfl ?_
    refine WO_op (x := .no) (σ' := ⟨[], [some [qi x4.Kind, qi x4.N, qs x4.S, .row 3, .row 7], some [qs x11.2], some [qi a3.Kind, qi a3.N, qs a3.S, .c (cL eS a3.Keys), .c (cL eR_Node a3.Kids)], some [qi x4.Kind, qi x4.N, qs x4.S, .row 3, .row 7]], [none, none, none, rr 1 eS x12 true, rr 1 eS x13.Keys false, rr 5 eR_Node x13.Kids false, none, rr 5 eR_Node x14 true]⟩) rfl rfl rfl ?_; simp only [putT,st,ev,gt,hp,ofV,constT,intT,lm]
    refine WO_nil ?_
    refine W_ret ?_
    obtain rfl := Option.some.inj H
    exact told5 rfl rfl rfl rfl (fitAs_nz rfl) rfl
   ·
    replace H := fl hc H
    refine W_skip ?_
    refine W_seq (W_region ?_)
    refine WO_op (x := .bp 0 3) rfl rfl rfl ?_
    refine WO_op (x := .row 0) rfl rfl rfl ?_
    refine WO_op rfl rfl rfl ?_
    refine WO_op (x := qs x11.2) rfl rfl rfl ?_; simp only [putT,st,ev,gt,hp,ofV,constT,intT,lm]
    refine WO_op (x := .row 2) (σ' := ⟨[], [some [qi x4.Kind, qi x4.N, qs x4.S, .row 0, .row 1], some [qs x11.2], some [qi a3.Kind, qi a3.N, qs a3.S, .c (cL eS a3.Keys), .c (cL eR_Node a3.Kids)], some [qi 0, qi 0, qs [], .nil, .nil]], [rr 1 eS x4.Keys true, rr 5 eR_Node x4.Kids true, rr 1 eS ([x11.2] : List Str) true]⟩) rfl rfl (ev_bs ([x11.2] : List Str) eS rfl rfl rfl rfl) ?_; simp only [putT,st,ev,gt,hp,ofV,constT,intT,lm]
    obtain ⟨x15, hx15, H⟩ := bnd H
    refine WO_op (x := .row 3) (σ' := ⟨[], [some [qi x4.Kind, qi x4.N, qs x4.S, .row 0, .row 1], some [qs x11.2], some [qi a3.Kind, qi a3.N, qs a3.S, .c (cL eS a3.Keys), .c (cL eR_Node a3.Kids)], some [qi 0, qi 0, qs [], .nil, .nil]], [none, rr 5 eR_Node x4.Kids true, none, rr 1 eS x15 true]⟩) rfl rfl (ev_callG (al := [.row 0, qi x11.1, .row 2]) (ls := [.r 0, .r 2]) (slices_Insert_Sstring_string_ok hx15) rfl rfl rfl rfl rfl (by decide) rfl rfl (by simp only [flatA, flatV, flatC, List.all_cons, List.all_nil, Option.all_some, Option.all_none, Bool.and_self, Bool.or_true, fl_eS]) rfl rfl rfl) ?_; simp only [putT,st,ev,gt,hp,ofV,constT,intT,lm]
    refine WO_op (x := .bp 0 3) rfl rfl rfl ?_
    refine WO_op (x := .no) (σ' := ⟨[], [some [qi x4.Kind, qi x4.N, qs x4.S, .row 3, .row 1], some [qs x11.2], some [qi a3.Kind, qi a3.N, qs a3.S, .c (cL eS a3.Keys), .c (cL eR_Node a3.Kids)], some [qi 0, qi 0, qs [], .nil, .nil]], [none, rr 5 eR_Node x4.Kids true, none, rr 1 eS x15 true]⟩) rfl rfl rfl ?_; simp only [putT,st,ev,gt,hp,ofV,constT,intT,lm]
    refine WO_nil (W_seq ?_)
    refine W_drawL (by kernel_rfl) (by decide +kernel) ?_
    refine WL_op (x := .bp 0 4) rfl rfl rfl rfl ?_
    refine WL_op (x := .row 1) rfl rfl rfl rfl ?_
    refine WL_op rfl rfl rfl rfl ?_
    refine WL_op (x := .ag [qi a3.Kind, qi a3.N, qs a3.S, .c (cL eS a3.Keys), .c (cL eR_Node a3.Kids)]) rfl rfl rfl rfl ?_; simp only [putT,st,ev,gt,hp,ofV,constT,intT,lm]
    obtain ⟨x16, hx16, H⟩ := bnd H
    refine WL_op (x := .ag [qi x16.Kind, qi x16.N, qs x16.S, .row 4, .row 5]) (σ' := ⟨[], [some [qi x4.Kind, qi x4.N, qs x4.S, .row 3, .row 1], some [qs x11.2], some [qi a3.Kind, qi a3.N, qs a3.S, .c (cL eS a3.Keys), .c (cL eR_Node a3.Kids)], some [qi 0, qi 0, qs [], .nil, .nil]], [none, rr 5 eR_Node x4.Kids true, none, rr 1 eS x15 true, rr 1 eS x16.Keys true, rr 5 eR_Node x16.Kids true]⟩) rfl rfl rfl (ev_callG (al := [.ag [qi a3.Kind, qi a3.N, qs a3.S, .c (cL eS a3.Keys), .c (cL eR_Node a3.Kids)]]) (ls := []) (impl_copyTree_ok hx16) rfl rfl rfl rfl rfl (by decide) rfl rfl rfl rfl rfl rfl) ?_; simp only [putT,st,ev,gt,hp,ofV,constT,intT,lm]
    refine WL_op (x := .row 6) (σ' := ⟨[], [some [qi x4.Kind, qi x4.N, qs x4.S, .row 3, .row 1], some [qs x11.2], some [qi a3.Kind, qi a3.N, qs a3.S, .c (cL eS a3.Keys), .c (cL eR_Node a3.Kids)], some [qi 0, qi 0, qs [], .nil, .nil]], [none, rr 5 eR_Node x4.Kids true, none, rr 1 eS x15 true, rr 1 eS x16.Keys false, rr 5 eR_Node x16.Kids false, rr 5 eR_Node ([rN_Node x16] : List RNode) true]⟩) rfl rfl rfl (ev_bs ([rN_Node x16] : List RNode) eR_Node rfl rfl rfl rfl) ?_; simp only [putT,st,ev,gt,hp,ofV,constT,intT,lm]
    obtain ⟨x17, hx17, H⟩ := bnd H
    refine WL_op (x := .row 7) (σ' := ⟨[], [some [qi x4.Kind, qi x4.N, qs x4.S, .row 3, .row 1], some [qs x11.2], some [qi a3.Kind, qi a3.N, qs a3.S, .c (cL eS a3.Keys), .c (cL eR_Node a3.Kids)], some [qi 0, qi 0, qs [], .nil, .nil]], [none, none, none, rr 1 eS x15 true, rr 1 eS x16.Keys false, rr 5 eR_Node x16.Kids false, none, rr 5 eR_Node x17 true]⟩) rfl rfl rfl (ev_callG (al := [.row 1, qi x11.1, .row 6]) (ls := [.r 1, .r 6]) (slices_Insert_Simpl_Node_impl_Node_ok hx17) rfl rfl rfl rfl rfl (by decide) rfl rfl rfl rfl rfl rfl) ?_; simp only [putT,st,ev,gt,hp,ofV,constT,intT,lm]
    refine WL_op (x := .bp 0 4) rfl rfl rfl rfl ?_
    refine WL_op (x := .no) (σ' := ⟨[], [some [qi x4.Kind, qi x4.N, qs x4.S, .row 3, .row 7], some [qs x11.2], some [qi a3.Kind, qi a3.N, qs a3.S, .c (cL eS a3.Keys), .c (cL eR_Node a3.Kids)], some [qi 0, qi 0, qs [], .nil, .nil]], [none, none, none, rr 1 eS x15 true, rr 1 eS x16.Keys false, rr 5 eR_Node x16.Kids false, none, rr 5 eR_Node x17 true]⟩) rfl rfl rfl rfl ?_; simp only [putT,st,ev,gt,hp,ofV,constT,intT,lm]
    refine WL_nil (by kernel_rfl) ?_
    refine W_seq (W_region ?_)
    refine WO_op (x := .ag [qi x4.Kind, qi x4.N, qs x4.S, .row 3, .row 7]) rfl rfl rfl ?_
    refine WO_op (x := .no) (σ' := ⟨[], [some [qi x4.Kind, qi x4.N, qs x4.S, .row 3, .row 7], some [qs x11.2], some [qi a3.Kind, qi a3.N, qs a3.S, .c (cL eS a3.Keys), .c (cL eR_Node a3.Kids)], some [qi x4.Kind, qi x4.N, qs x4.S, .row 3, .row 7]], [none, none, none, rr 1 eS x15 true, rr 1 eS x16.Keys false, rr 5 eR_Node x16.Kids false, none, rr 5 eR_Node x17 true]⟩) rfl rfl rfl ?_; simp only [putT,st,ev,gt,hp,ofV,constT,intT,lm]
    refine WO_nil ?_
    refine W_ret ?_
    obtain rfl := Option.some.inj H
    exact told5 rfl rfl rfl rfl (fitAs_nz rfl) rfl
theorem impl_below_ok  {a1 : Str} {a2 : Str} {r : Str} (H : impl_below a1 a2 = some r) : R 26 [.c (cS a1) none, .c (cS a2) none] = some (.c (cS r) none, []) := by
 unfold impl_below at H
 refine Fz_walk false 12 rfl rfl rfl Try.func26 rfl (by kernel_rfl) rfl rfl rfl rfl ?_
 simp only [tellVs, tellV, tells, tell, st0, padT, SX.newRow, SX.newBox, List.length_cons, List.length_nil, Nat.reduceAdd, Nat.reduceSub, List.replicate, List.cons_append, List.nil_append, List.foldl_cons, List.foldl_nil]
 refine W_seq (W_region ?_)
 refine WO_op rfl rfl rfl ?_; simp only [putT,st,ev,gt,hp,ofV,constT,intT,lm]
 refine WO_nil (W_seq (W_seq (W_region ?_)))
 refine WO_op rfl rfl rfl ?_; simp only [putT,st,ev,gt,hp,ofV,constT,intT,lm]
 refine WO_op rfl rfl (ev_eql_s rfl rfl rfl) ?_; simp only [putT,st,ev,gt,hp,ofV,constT,intT,lm]
 refine WO_nil ?_
 refine W_cond rfl (fun hc => ?_) (fun hc => ?_)
 ·
  replace H := tr hc H
  refine W_seq (W_region ?_)
  iterate 2 (refine WO_op rfl rfl rfl ?_; simp only [putT,st,ev,gt,hp,ofV,constT,intT,lm])
  refine WO_nil ?_
  refine W_ret ?_
  obtain rfl := Option.some.inj H
  exact told3 rfl
 ·
  replace H := fl hc H
  refine W_skip ?_
  refine W_seq (W_region ?_)
  refine WO_op rfl rfl rfl ?_; simp only [putT,st,ev,gt,hp,ofV,constT,intT,lm]
  obtain ⟨s3, hs3, H⟩ := bnd H
  refine WO_op rfl rfl (ev_cat hs3 rfl rfl rfl) ?_; simp only [putT,st,ev,gt,hp,ofV,constT,intT,lm]
  refine WO_op rfl rfl rfl ?_; simp only [putT,st,ev,gt,hp,ofV,constT,intT,lm]
  obtain ⟨s4, hs4, H⟩ := bnd H
  refine WO_op rfl rfl (ev_cat hs4 rfl rfl rfl) ?_; simp only [putT,st,ev,gt,hp,ofV,constT,intT,lm]
  refine WO_op rfl rfl rfl ?_; simp only [putT,st,ev,gt,hp,ofV,constT,intT,lm]
  refine WO_nil ?_
  refine W_ret ?_
  obtain rfl := Option.some.inj H
  exact told3 rfl
theorem impl_alike_ok  {a1 : Node} {a2 : Node} {a3 : Str} {r : Bool} (H : impl_alike a1 a2 a3 = some r) : R 27 [.ag [(cI .i64 a1.Kind, none), (cI .i64 a1.N, none), (cS a1.S, none), (cL eS a1.Keys, none), (cL eR_Node a1.Kids, none)], .ag [(cI .i64 a2.Kind, none), (cI .i64 a2.N, none), (cS a2.S, none), (cL eS a2.Keys, none), (cL eR_Node a2.Kids, none)], .c (cS a3) none] = some (.c (cB r) none, []) := by
 unfold impl_alike at H
 refine Fz_walk false 31 rfl rfl rfl Try.func27 rfl (by kernel_rfl) rfl rfl rfl rfl ?_
 simp only [tellVs, tellV, tells, tell, st0, padT, SX.newRow, SX.newBox, List.length_cons, List.length_nil, Nat.reduceAdd, Nat.reduceSub, List.replicate, List.cons_append, List.nil_append, List.foldl_cons, List.foldl_nil]
 refine W_seq (W_region ?_)
 refine WO_op (x := .bp 0 0) (σ' := ⟨[], [some [qi a1.Kind, qi a1.N, qs a1.S, .c (cL eS a1.Keys), .c (cL eR_Node a1.Kids)]], []⟩) rfl rfl rfl ?_
 refine WO_op (x := .bp 1 0) (σ' := ⟨[], [some [qi a1.Kind, qi a1.N, qs a1.S, .c (cL eS a1.Keys), .c (cL eR_Node a1.Kids)], some [qi a2.Kind, qi a2.N, qs a2.S, .c (cL eS a2.Keys), .c (cL eR_Node a2.Kids)]], []⟩) rfl rfl rfl ?_
 refine WO_op rfl rfl rfl ?_; simp only [putT,st,ev,gt,hp,ofV,constT,intT,lm]
 refine WO_nil (W_seq (W_region ?_))
 refine WO_op (x := .ag [qi a1.Kind, qi a1.N, qs a1.S, .c (cL eS a1.Keys), .c (cL eR_Node a1.Kids)]) rfl rfl rfl ?_
 refine WO_op rfl rfl rfl ?_; simp only [putT,st,ev,gt,hp,ofV,constT,intT,lm]
 obtain ⟨x4, hx4, H⟩ := bnd H
 refine WO_op (x := .tu [.ag [qi x4.1.Kind, qi x4.1.N, qs x4.1.S, .row 0, .row 1], qb x4.2]) (σ' := ⟨[], [some [qi a1.Kind, qi a1.N, qs a1.S, .c (cL eS a1.Keys), .c (cL eR_Node a1.Kids)], some [qi a2.Kind, qi a2.N, qs a2.S, .c (cL eS a2.Keys), .c (cL eR_Node a2.Kids)]], [rr 1 eS x4.1.Keys true, rr 5 eR_Node x4.1.Kids true]⟩) rfl rfl (ev_callG (al := [.ag [qi a1.Kind, qi a1.N, qs a1.S, .c (cL eS a1.Keys), .c (cL eR_Node a1.Kids)], qs a3]) (ls := []) (impl_Get_ok hx4) rfl rfl rfl rfl rfl (by decide) rfl rfl rfl rfl rfl rfl) ?_; simp only [putT,st,ev,gt,hp,ofV,constT,intT,lm]
 refine WO_op rfl rfl rfl ?_
 refine WO_op (x := .ag [qi x4.1.Kind, qi x4.1.N, qs x4.1.S, .row 0, .row 1]) rfl rfl rfl ?_
 refine WO_op (x := qb x4.2) rfl rfl rfl ?_
 refine WO_op (x := .bp 2 0) (σ' := ⟨[], [some [qi a1.Kind, qi a1.N, qs a1.S, .c (cL eS a1.Keys), .c (cL eR_Node a1.Kids)], some [qi a2.Kind, qi a2.N, qs a2.S, .c (cL eS a2.Keys), .c (cL eR_Node a2.Kids)], some [qi 0, qi 0, qs [], .nil, .nil]], [rr 1 eS x4.1.Keys true, rr 5 eR_Node x4.1.Kids true]⟩) rfl rfl rfl ?_; simp only [putT,st,ev,gt,hp,ofV,constT,intT,lm]
 refine WO_op (x := .no) (σ' := ⟨[], [some [qi a1.Kind, qi a1.N, qs a1.S, .c (cL eS a1.Keys), .c (cL eR_Node a1.Kids)], some [qi a2.Kind, qi a2.N, qs a2.S, .c (cL eS a2.Keys), .c (cL eR_Node a2.Kids)], some [qi x4.1.Kind, qi x4.1.N, qs x4.1.S, .row 0, .row 1]], [rr 1 eS x4.1.Keys true, rr 5 eR_Node x4.1.Kids true]⟩) rfl rfl rfl ?_
 refine WO_op rfl rfl rfl ?_; simp only [putT,st,ev,gt,hp,ofV,constT,intT,lm]
 refine WO_nil (W_seq (W_region ?_))
 refine WO_op (x := .ag [qi a2.Kind, qi a2.N, qs a2.S, .c (cL eS a2.Keys), .c (cL eR_Node a2.Kids)]) rfl rfl rfl ?_
 refine WO_op rfl rfl rfl ?_; simp only [putT,st,ev,gt,hp,ofV,constT,intT,lm]
 obtain ⟨x5, hx5, H⟩ := bnd H
 refine WO_op (x := .tu [.ag [qi x5.1.Kind, qi x5.1.N, qs x5.1.S, .row 2, .row 3], qb x5.2]) (σ' := ⟨[], [some [qi a1.Kind, qi a1.N, qs a1.S, .c (cL eS a1.Keys), .c (cL eR_Node a1.Kids)], some [qi a2.Kind, qi a2.N, qs a2.S, .c (cL eS a2.Keys), .c (cL eR_Node a2.Kids)], some [qi x4.1.Kind, qi x4.1.N, qs x4.1.S, .row 0, .row 1]], [rr 1 eS x4.1.Keys true, rr 5 eR_Node x4.1.Kids true, rr 1 eS x5.1.Keys true, rr 5 eR_Node x5.1.Kids true]⟩) rfl rfl (ev_callG (al := [.ag [qi a2.Kind, qi a2.N, qs a2.S, .c (cL eS a2.Keys), .c (cL eR_Node a2.Kids)], qs a3]) (ls := []) (impl_Get_ok hx5) rfl rfl rfl rfl rfl (by decide) rfl rfl rfl rfl rfl rfl) ?_; simp only [putT,st,ev,gt,hp,ofV,constT,intT,lm]
 refine WO_op rfl rfl rfl ?_
 refine WO_op (x := .ag [qi x5.1.Kind, qi x5.1.N, qs x5.1.S, .row 2, .row 3]) rfl rfl rfl ?_
 refine WO_op (x := qb x5.2) rfl rfl rfl ?_
 refine WO_op (x := .bp 3 0) (σ' := ⟨[], [some [qi a1.Kind, qi a1.N, qs a1.S, .c (cL eS a1.Keys), .c (cL eR_Node a1.Kids)], some [qi a2.Kind, qi a2.N, qs a2.S, .c (cL eS a2.Keys), .c (cL eR_Node a2.Kids)], some [qi x4.1.Kind, qi x4.1.N, qs x4.1.S, .row 0, .row 1], some [qi 0, qi 0, qs [], .nil, .nil]], [rr 1 eS x4.1.Keys true, rr 5 eR_Node x4.1.Kids true, rr 1 eS x5.1.Keys true, rr 5 eR_Node x5.1.Kids true]⟩) rfl rfl rfl ?_; simp only [putT,st,ev,gt,hp,ofV,constT,intT,lm]
 refine WO_op (x := .no) (σ' := ⟨[], [some [qi a1.Kind, qi a1.N, qs a1.S, .c (cL eS a1.Keys), .c (cL eR_Node a1.Kids)], some [qi a2.Kind, qi a2.N, qs a2.S, .c (cL eS a2.Keys), .c (cL eR_Node a2.Kids)], some [qi x4.1.Kind, qi x4.1.N, qs x4.1.S, .row 0, .row 1], some [qi x5.1.Kind, qi x5.1.N, qs x5.1.S, .row 2, .row 3]], [rr 1 eS x4.1.Keys true, rr 5 eR_Node x4.1.Kids true, rr 1 eS x5.1.Keys true, rr 5 eR_Node x5.1.Kids true]⟩) rfl rfl rfl ?_
 refine WO_op rfl rfl rfl ?_; simp only [putT,st,ev,gt,hp,ofV,constT,intT,lm]
 refine WO_nil (W_seq (W_region ?_))
 iterate 4 (refine WO_op rfl rfl rfl ?_; simp only [putT,st,ev,gt,hp,ofV,constT,intT,lm])
 refine WO_if rfl rfl rfl (fun hc => ?_) (fun hc => ?_)
 ·
  replace H := tr hc H
  refine WO_want (x := .ag [qi x4.1.Kind, qi x4.1.N, qs x4.1.S, .row 0, .row 1]) rfl rfl rfl ?_
  refine WO_want (x := .ag [qi x5.1.Kind, qi x5.1.N, qs x5.1.S, .row 2, .row 3]) rfl rfl rfl ?_; simp only [putT,st,ev,gt,hp,ofV,constT,intT,lm]
  obtain ⟨x6, hx6, H⟩ := bnd H
  refine WO_want (x := qb x6) (σ' := ⟨[], [some [qi a1.Kind, qi a1.N, qs a1.S, .c (cL eS a1.Keys), .c (cL eR_Node a1.Kids)], some [qi a2.Kind, qi a2.N, qs a2.S, .c (cL eS a2.Keys), .c (cL eR_Node a2.Kids)], some [qi x4.1.Kind, qi x4.1.N, qs x4.1.S, .row 0, .row 1], some [qi x5.1.Kind, qi x5.1.N, qs x5.1.S, .row 2, .row 3]], [rr 1 eS x4.1.Keys true, rr 5 eR_Node x4.1.Kids true, rr 1 eS x5.1.Keys true, rr 5 eR_Node x5.1.Kids true]⟩) rfl rfl (ev_callG (al := [.ag [qi x4.1.Kind, qi x4.1.N, qs x4.1.S, .row 0, .row 1], .ag [qi x5.1.Kind, qi x5.1.N, qs x5.1.S, .row 2, .row 3]]) (ls := []) (impl_TreeSame_ok hx6) rfl rfl rfl rfl rfl (by decide) rfl rfl rfl rfl rfl rfl) ?_; simp only [putT,st,ev,gt,hp,ofV,constT,intT,lm]
  refine WO_op (x := qb x6) rfl rfl rfl ?_
  refine WO_op rfl rfl rfl ?_; simp only [putT,st,ev,gt,hp,ofV,constT,intT,lm]
  refine WO_nil ?_
  refine W_ret ?_
  obtain rfl := Option.some.inj H
  exact told3 rfl
 ·
  replace H := fl hc H
  simp only [putT,st,ev,gt,hp,ofV,constT,intT,lm]
  iterate 3 refine WO_skip rfl rfl ?_
  refine WO_op (x := qb false) rfl rfl rfl ?_
  refine WO_op rfl rfl rfl ?_; simp only [putT,st,ev,gt,hp,ofV,constT,intT,lm]
  refine WO_nil ?_
  refine W_ret ?_
  obtain rfl := Option.some.inj H
  exact told3 rfl
end Go.Pu
