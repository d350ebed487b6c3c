import Derived.Test.YtmdmbolhbjfcjaaAgreedOk0
set_option linter.unusedVariables false
set_option linter.unusedSimpArgs false
set_option synthInstance.maxSize 1000000000
set_option maxRecDepth 20000
set_option maxHeartbeats 20000000
namespace Go.Pu
open Go Go.SX Go.Nt Go.Proofs
theorem spec_l11Key_ok {rc20 : Node → Node → Node → Option (Node × List Str)} (hrc20 : ∀ {a1 : Node} {a2 : Node} {a3 : Node} {r : Node × List Str}, rc20 a1 a2 a3 = some r → R 11 [.ag [(cI .i64 a1.Kind, none), (cI .i64 a1.N, none), (cS a1.S, none), (cL eS a1.Keys, none), (cL eR_Node a1.Kids, none)], .ag [(cI .i64 a2.Kind, none), (cI .i64 a2.N, none), (cS a2.S, none), (cL eS a2.Keys, none), (cL eR_Node a2.Kids, none)], .ag [(cI .i64 a3.Kind, none), (cI .i64 a3.N, none), (cS a3.S, none), (cL eS a3.Keys, none), (cL eR_Node a3.Kids, none)]] = some (.tu [.ag [(cI .i64 r.1.Kind, none), (cI .i64 r.1.N, none), (cS r.1.S, none), (cL eS r.1.Keys, none), (cL eR_Node r.1.Kids, none)], .c (cL eS r.2) none], [])) {a1 : Node} {a2 : Node} {a3 : Node} {a4 : Node} {a5 : Str} {r : Node × List Str} (H : spec_l11Key rc20 a1 a2 a3 a4 a5 = some r) : R 20 [.ag [(cI .i64 a1.Kind, none), (cI .i64 a1.N, none), (cS a1.S, none), (cL eS a1.Keys, none), (cL eR_Node a1.Kids, none)], .ag [(cI .i64 a2.Kind, none), (cI .i64 a2.N, none), (cS a2.S, none), (cL eS a2.Keys, none), (cL eR_Node a2.Kids, none)], .ag [(cI .i64 a3.Kind, none), (cI .i64 a3.N, none), (cS a3.S, none), (cL eS a3.Keys, none), (cL eR_Node a3.Kids, none)], .ag [(cI .i64 a4.Kind, none), (cI .i64 a4.N, none), (cS a4.S, none), (cL eS a4.Keys, none), (cL eR_Node a4.Kids, none)], .c (cS a5) none] = some (.tu [.ag [(cI .i64 r.1.Kind, none), (cI .i64 r.1.N, none), (cS r.1.S, none), (cL eS r.1.Keys, none), (cL eR_Node r.1.Kids, none)], .c (cL eS r.2) none], []) := by
 unfold spec_l11Key at H
 refine Fz_walk true 111 rfl rfl rfl Try.func20 rfl (by kernel_rfl) rfl rfl rfl rfl ?_
 simp only [tellVs, tellV, tells, tell, st0, padT, SX.newRow, SX.newBox, List.length_cons, List.length_nil, Nat.reduceAdd, Nat.reduceSub, List.replicate, List.cons_append, List.nil_append, List.foldl_cons, List.foldl_nil]
 refine W_seq (W_region ?_)
 refine WO_op (x := .bp 0 0) (σ' := ⟨[], [some [qi a1.Kind, qi a1.N, qs a1.S, .c (cL eS a1.Keys), .c (cL eR_Node a1.Kids)]], []⟩) rfl rfl rfl ?_
 refine WO_op (x := .bp 1 0) (σ' := ⟨[], [some [qi a1.Kind, qi a1.N, qs a1.S, .c (cL eS a1.Keys), .c (cL eR_Node a1.Kids)], some [qi a2.Kind, qi a2.N, qs a2.S, .c (cL eS a2.Keys), .c (cL eR_Node a2.Kids)]], []⟩) rfl rfl rfl ?_
 refine WO_op (x := .bp 2 0) (σ' := ⟨[], [some [qi a1.Kind, qi a1.N, qs a1.S, .c (cL eS a1.Keys), .c (cL eR_Node a1.Kids)], some [qi a2.Kind, qi a2.N, qs a2.S, .c (cL eS a2.Keys), .c (cL eR_Node a2.Kids)], some [qi a3.Kind, qi a3.N, qs a3.S, .c (cL eS a3.Keys), .c (cL eR_Node a3.Kids)]], []⟩) rfl rfl rfl ?_
 refine WO_op (x := .bp 3 0) (σ' := ⟨[], [some [qi a1.Kind, qi a1.N, qs a1.S, .c (cL eS a1.Keys), .c (cL eR_Node a1.Kids)], some [qi a2.Kind, qi a2.N, qs a2.S, .c (cL eS a2.Keys), .c (cL eR_Node a2.Kids)], some [qi a3.Kind, qi a3.N, qs a3.S, .c (cL eS a3.Keys), .c (cL eR_Node a3.Kids)], some [qi a4.Kind, qi a4.N, qs a4.S, .c (cL eS a4.Keys), .c (cL eR_Node a4.Kids)]], []⟩) rfl rfl rfl ?_; simp only [putT,st,ev,gt,hp,ofV,constT,intT,lm]
 refine WO_op (x := .bp 4 0) (σ' := ⟨[], [some [qi a1.Kind, qi a1.N, qs a1.S, .c (cL eS a1.Keys), .c (cL eR_Node a1.Kids)], some [qi a2.Kind, qi a2.N, qs a2.S, .c (cL eS a2.Keys), .c (cL eR_Node a2.Kids)], some [qi a3.Kind, qi a3.N, qs a3.S, .c (cL eS a3.Keys), .c (cL eR_Node a3.Kids)], some [qi a4.Kind, qi a4.N, qs a4.S, .c (cL eS a4.Keys), .c (cL eR_Node a4.Kids)], some [qi 0, qi 0, qs [], .nil, .nil]], []⟩) rfl rfl rfl ?_
 refine WO_op rfl rfl rfl ?_; simp only [putT,st,ev,gt,hp,ofV,constT,intT,lm]
 refine WO_nil (W_seq (W_region ?_))
 refine WO_op (x := .ag [qi a2.Kind, qi a2.N, qs a2.S, .c (cL eS a2.Keys), .c (cL eR_Node a2.Kids)]) rfl rfl rfl ?_
 refine WO_op rfl rfl rfl ?_; simp only [putT,st,ev,gt,hp,ofV,constT,intT,lm]
 obtain ⟨x6, hx6, H⟩ := bnd H
 refine WO_op (x := .tu [.ag [qi x6.1.Kind, qi x6.1.N, qs x6.1.S, .row 0, .row 1], qb x6.2]) (σ' := ⟨[], [some [qi a1.Kind, qi a1.N, qs a1.S, .c (cL eS a1.Keys), .c (cL eR_Node a1.Kids)], some [qi a2.Kind, qi a2.N, qs a2.S, .c (cL eS a2.Keys), .c (cL eR_Node a2.Kids)], some [qi a3.Kind, qi a3.N, qs a3.S, .c (cL eS a3.Keys), .c (cL eR_Node a3.Kids)], some [qi a4.Kind, qi a4.N, qs a4.S, .c (cL eS a4.Keys), .c (cL eR_Node a4.Kids)], some [qi 0, qi 0, qs [], .nil, .nil]], [rr 1 eS x6.1.Keys true, rr 5 eR_Node x6.1.Kids true]⟩) rfl rfl (ev_callG (al := [.ag [qi a2.Kind, qi a2.N, qs a2.S, .c (cL eS a2.Keys), .c (cL eR_Node a2.Kids)], qs a5]) (ls := []) (spec_Get_ok hx6) rfl rfl rfl rfl rfl (by decide) rfl rfl rfl rfl rfl rfl) ?_; simp only [putT,st,ev,gt,hp,ofV,constT,intT,lm]
 refine WO_op rfl rfl rfl ?_
 refine WO_op (x := .ag [qi x6.1.Kind, qi x6.1.N, qs x6.1.S, .row 0, .row 1]) rfl rfl rfl ?_
 refine WO_op (x := qb x6.2) rfl rfl rfl ?_
 refine WO_op (x := .bp 5 0) (σ' := ⟨[], [some [qi a1.Kind, qi a1.N, qs a1.S, .c (cL eS a1.Keys), .c (cL eR_Node a1.Kids)], some [qi a2.Kind, qi a2.N, qs a2.S, .c (cL eS a2.Keys), .c (cL eR_Node a2.Kids)], some [qi a3.Kind, qi a3.N, qs a3.S, .c (cL eS a3.Keys), .c (cL eR_Node a3.Kids)], some [qi a4.Kind, qi a4.N, qs a4.S, .c (cL eS a4.Keys), .c (cL eR_Node a4.Kids)], some [qi 0, qi 0, qs [], .nil, .nil], some [qi 0, qi 0, qs [], .nil, .nil]], [rr 1 eS x6.1.Keys true, rr 5 eR_Node x6.1.Kids true]⟩) rfl rfl rfl ?_; simp only [putT,st,ev,gt,hp,ofV,constT,intT,lm]
 refine WO_op (x := .no) (σ' := ⟨[], [some [qi a1.Kind, qi a1.N, qs a1.S, .c (cL eS a1.Keys), .c (cL eR_Node a1.Kids)], some [qi a2.Kind, qi a2.N, qs a2.S, .c (cL eS a2.Keys), .c (cL eR_Node a2.Kids)], some [qi a3.Kind, qi a3.N, qs a3.S, .c (cL eS a3.Keys), .c (cL eR_Node a3.Kids)], some [qi a4.Kind, qi a4.N, qs a4.S, .c (cL eS a4.Keys), .c (cL eR_Node a4.Kids)], some [qi 0, qi 0, qs [], .nil, .nil], some [qi x6.1.Kind, qi x6.1.N, qs x6.1.S, .row 0, .row 1]], [rr 1 eS x6.1.Keys true, rr 5 eR_Node x6.1.Kids true]⟩) rfl rfl rfl ?_
 refine WO_op rfl rfl rfl ?_; simp only [putT,st,ev,gt,hp,ofV,constT,intT,lm]
 refine WO_nil (W_seq (W_region ?_))
 refine WO_op (x := .ag [qi a3.Kind, qi a3.N, qs a3.S, .c (cL eS a3.Keys), .c (cL eR_Node a3.Kids)]) rfl rfl rfl ?_
 refine WO_op rfl rfl rfl ?_; simp only [putT,st,ev,gt,hp,ofV,constT,intT,lm]
 obtain ⟨x7, hx7, H⟩ := bnd H
 refine WO_op (x := .tu [.ag [qi x7.1.Kind, qi x7.1.N, qs x7.1.S, .row 2, .row 3], qb x7.2]) (σ' := ⟨[], [some [qi a1.Kind, qi a1.N, qs a1.S, .c (cL eS a1.Keys), .c (cL eR_Node a1.Kids)], some [qi a2.Kind, qi a2.N, qs a2.S, .c (cL eS a2.Keys), .c (cL eR_Node a2.Kids)], some [qi a3.Kind, qi a3.N, qs a3.S, .c (cL eS a3.Keys), .c (cL eR_Node a3.Kids)], some [qi a4.Kind, qi a4.N, qs a4.S, .c (cL eS a4.Keys), .c (cL eR_Node a4.Kids)], some [qi 0, qi 0, qs [], .nil, .nil], some [qi x6.1.Kind, qi x6.1.N, qs x6.1.S, .row 0, .row 1]], [rr 1 eS x6.1.Keys true, rr 5 eR_Node x6.1.Kids true, rr 1 eS x7.1.Keys true, rr 5 eR_Node x7.1.Kids true]⟩) rfl rfl (ev_callG (al := [.ag [qi a3.Kind, qi a3.N, qs a3.S, .c (cL eS a3.Keys), .c (cL eR_Node a3.Kids)], qs a5]) (ls := []) (spec_Get_ok hx7) rfl rfl rfl rfl rfl (by decide) rfl rfl rfl rfl rfl rfl) ?_; simp only [putT,st,ev,gt,hp,ofV,constT,intT,lm]
 refine WO_op rfl rfl rfl ?_
 refine WO_op (x := .ag [qi x7.1.Kind, qi x7.1.N, qs x7.1.S, .row 2, .row 3]) rfl rfl rfl ?_
 refine WO_op (x := qb x7.2) rfl rfl rfl ?_
 refine WO_op (x := .bp 6 0) (σ' := ⟨[], [some [qi a1.Kind, qi a1.N, qs a1.S, .c (cL eS a1.Keys), .c (cL eR_Node a1.Kids)], some [qi a2.Kind, qi a2.N, qs a2.S, .c (cL eS a2.Keys), .c (cL eR_Node a2.Kids)], some [qi a3.Kind, qi a3.N, qs a3.S, .c (cL eS a3.Keys), .c (cL eR_Node a3.Kids)], some [qi a4.Kind, qi a4.N, qs a4.S, .c (cL eS a4.Keys), .c (cL eR_Node a4.Kids)], some [qi 0, qi 0, qs [], .nil, .nil], some [qi x6.1.Kind, qi x6.1.N, qs x6.1.S, .row 0, .row 1], some [qi 0, qi 0, qs [], .nil, .nil]], [rr 1 eS x6.1.Keys true, rr 5 eR_Node x6.1.Kids true, rr 1 eS x7.1.Keys true, rr 5 eR_Node x7.1.Kids true]⟩) rfl rfl rfl ?_; simp only [putT,st,ev,gt,hp,ofV,constT,intT,lm]
 refine WO_op (x := .no) (σ' := ⟨[], [some [qi a1.Kind, qi a1.N, qs a1.S, .c (cL eS a1.Keys), .c (cL eR_Node a1.Kids)], some [qi a2.Kind, qi a2.N, qs a2.S, .c (cL eS a2.Keys), .c (cL eR_Node a2.Kids)], some [qi a3.Kind, qi a3.N, qs a3.S, .c (cL eS a3.Keys), .c (cL eR_Node a3.Kids)], some [qi a4.Kind, qi a4.N, qs a4.S, .c (cL eS a4.Keys), .c (cL eR_Node a4.Kids)], some [qi 0, qi 0, qs [], .nil, .nil], some [qi x6.1.Kind, qi x6.1.N, qs x6.1.S, .row 0, .row 1], some [qi x7.1.Kind, qi x7.1.N, qs x7.1.S, .row 2, .row 3]], [rr 1 eS x6.1.Keys true, rr 5 eR_Node x6.1.Kids true, rr 1 eS x7.1.Keys true, rr 5 eR_Node x7.1.Kids true]⟩) rfl rfl rfl ?_
 refine WO_op rfl rfl rfl ?_; simp only [putT,st,ev,gt,hp,ofV,constT,intT,lm]
 refine WO_nil (W_seq (W_region ?_))
 refine WO_op (x := .ag [qi a4.Kind, qi a4.N, qs a4.S, .c (cL eS a4.Keys), .c (cL eR_Node a4.Kids)]) rfl rfl rfl ?_
 refine WO_op rfl rfl rfl ?_; simp only [putT,st,ev,gt,hp,ofV,constT,intT,lm]
 obtain ⟨x8, hx8, H⟩ := bnd H
 refine WO_op (x := .tu [.ag [qi x8.1.Kind, qi x8.1.N, qs x8.1.S, .row 4, .row 5], qb x8.2]) (σ' := ⟨[], [some [qi a1.Kind, qi a1.N, qs a1.S, .c (cL eS a1.Keys), .c (cL eR_Node a1.Kids)], some [qi a2.Kind, qi a2.N, qs a2.S, .c (cL eS a2.Keys), .c (cL eR_Node a2.Kids)], some [qi a3.Kind, qi a3.N, qs a3.S, .c (cL eS a3.Keys), .c (cL eR_Node a3.Kids)], some [qi a4.Kind, qi a4.N, qs a4.S, .c (cL eS a4.Keys), .c (cL eR_Node a4.Kids)], some [qi 0, qi 0, qs [], .nil, .nil], some [qi x6.1.Kind, qi x6.1.N, qs x6.1.S, .row 0, .row 1], some [qi x7.1.Kind, qi x7.1.N, qs x7.1.S, .row 2, .row 3]], [rr 1 eS x6.1.Keys true, rr 5 eR_Node x6.1.Kids true, rr 1 eS x7.1.Keys true, rr 5 eR_Node x7.1.Kids true, rr 1 eS x8.1.Keys true, rr 5 eR_Node x8.1.Kids true]⟩) rfl rfl (ev_callG (al := [.ag [qi a4.Kind, qi a4.N, qs a4.S, .c (cL eS a4.Keys), .c (cL eR_Node a4.Kids)], qs a5]) (ls := []) (spec_Get_ok hx8) rfl rfl rfl rfl rfl (by decide) rfl rfl rfl rfl rfl rfl) ?_; simp only [putT,st,ev,gt,hp,ofV,constT,intT,lm]
 refine WO_op rfl rfl rfl ?_
 refine WO_op (x := .ag [qi x8.1.Kind, qi x8.1.N, qs x8.1.S, .row 4, .row 5]) rfl rfl rfl ?_
 refine WO_op (x := qb x8.2) rfl rfl rfl ?_
 refine WO_op (x := .bp 7 0) (σ' := ⟨[], [some [qi a1.Kind, qi a1.N, qs a1.S, .c (cL eS a1.Keys), .c (cL eR_Node a1.Kids)], some [qi a2.Kind, qi a2.N, qs a2.S, .c (cL eS a2.Keys), .c (cL eR_Node a2.Kids)], some [qi a3.Kind, qi a3.N, qs a3.S, .c (cL eS a3.Keys), .c (cL eR_Node a3.Kids)], some [qi a4.Kind, qi a4.N, qs a4.S, .c (cL eS a4.Keys), .c (cL eR_Node a4.Kids)], some [qi 0, qi 0, qs [], .nil, .nil], some [qi x6.1.Kind, qi x6.1.N, qs x6.1.S, .row 0, .row 1], some [qi x7.1.Kind, qi x7.1.N, qs x7.1.S, .row 2, .row 3], some [qi 0, qi 0, qs [], .nil, .nil]], [rr 1 eS x6.1.Keys true, rr 5 eR_Node x6.1.Kids true, rr 1 eS x7.1.Keys true, rr 5 eR_Node x7.1.Kids true, rr 1 eS x8.1.Keys true, rr 5 eR_Node x8.1.Kids true]⟩) rfl rfl rfl ?_; simp only [putT,st,ev,gt,hp,ofV,constT,intT,lm]
 refine WO_op (x := .no) (σ' := ⟨[], [some [qi a1.Kind, qi a1.N, qs a1.S, .c (cL eS a1.Keys), .c (cL eR_Node a1.Kids)], some [qi a2.Kind, qi a2.N, qs a2.S, .c (cL eS a2.Keys), .c (cL eR_Node a2.Kids)], some [qi a3.Kind, qi a3.N, qs a3.S, .c (cL eS a3.Keys), .c (cL eR_Node a3.Kids)], some [qi a4.Kind, qi a4.N, qs a4.S, .c (cL eS a4.Keys), .c (cL eR_Node a4.Kids)], some [qi 0, qi 0, qs [], .nil, .nil], some [qi x6.1.Kind, qi x6.1.N, qs x6.1.S, .row 0, .row 1], some [qi x7.1.Kind, qi x7.1.N, qs x7.1.S, .row 2, .row 3], some [qi x8.1.Kind, qi x8.1.N, qs x8.1.S, .row 4, .row 5]], [rr 1 eS x6.1.Keys true, rr 5 eR_Node x6.1.Kids true, rr 1 eS x7.1.Keys true, rr 5 eR_Node x7.1.Kids true, rr 1 eS x8.1.Keys true, rr 5 eR_Node x8.1.Kids true]⟩) rfl rfl rfl ?_
 refine WO_op rfl rfl rfl ?_; simp only [putT,st,ev,gt,hp,ofV,constT,intT,lm]
 refine WO_nil (W_seq (W_seq (W_region ?_)))
 iterate 2 (refine WO_op rfl rfl rfl ?_; simp only [putT,st,ev,gt,hp,ofV,constT,intT,lm])
 refine WO_if rfl rfl rfl (fun hc => ?_) (fun hc => ?_)
 ·
  replace H := tr hc H
  refine WO_want rfl rfl rfl ?_
  refine WO_op (x := qb x7.2) rfl rfl rfl ?_
  refine WO_op rfl rfl rfl ?_; simp only [putT,st,ev,gt,hp,ofV,constT,intT,lm]
  refine WO_if rfl rfl rfl (fun hc => ?_) (fun hc => ?_)
  ·
   replace H := tr hc H
   refine WO_want rfl rfl rfl ?_
   refine WO_op (x := qb x8.2) rfl rfl rfl ?_; simp only [putT,st,ev,gt,hp,ofV,constT,intT,lm]
   refine WO_nil ?_
   refine W_cond rfl (fun hc => ?_) (fun hc => ?_)
   ·
    replace H := tr hc H
    refine W_seq (W_region ?_)
    refine WO_op (x := .ag [qi x6.1.Kind, qi x6.1.N, qs x6.1.S, .row 0, .row 1]) rfl rfl rfl ?_
    refine WO_op (x := .ag [qi x7.1.Kind, qi x7.1.N, qs x7.1.S, .row 2, .row 3]) rfl rfl rfl ?_
    refine WO_op (x := .ag [qi x8.1.Kind, qi x8.1.N, qs x8.1.S, .row 4, .row 5]) rfl rfl rfl ?_; simp only [putT,st,ev,gt,hp,ofV,constT,intT,lm]
    obtain ⟨x9, hx9, H⟩ := bnd H
    refine WO_op (x := .tu [.ag [qi x9.1.Kind, qi x9.1.N, qs x9.1.S, .c (cL eS x9.1.Keys), .c (cL eR_Node x9.1.Kids)], .c (cL eS x9.2)]) (σ' := ⟨[], [some [qi a1.Kind, qi a1.N, qs a1.S, .c (cL eS a1.Keys), .c (cL eR_Node a1.Kids)], some [qi a2.Kind, qi a2.N, qs a2.S, .c (cL eS a2.Keys), .c (cL eR_Node a2.Kids)], some [qi a3.Kind, qi a3.N, qs a3.S, .c (cL eS a3.Keys), .c (cL eR_Node a3.Kids)], some [qi a4.Kind, qi a4.N, qs a4.S, .c (cL eS a4.Keys), .c (cL eR_Node a4.Kids)], some [qi 0, qi 0, qs [], .nil, .nil], some [qi x6.1.Kind, qi x6.1.N, qs x6.1.S, .row 0, .row 1], some [qi x7.1.Kind, qi x7.1.N, qs x7.1.S, .row 2, .row 3], some [qi x8.1.Kind, qi x8.1.N, qs x8.1.S, .row 4, .row 5]], [rr 1 eS x6.1.Keys false, rr 5 eR_Node x6.1.Kids false, rr 1 eS x7.1.Keys false, rr 5 eR_Node x7.1.Kids false, rr 1 eS x8.1.Keys false, rr 5 eR_Node x8.1.Kids false]⟩) rfl rfl (ev_callG (al := [.ag [qi x6.1.Kind, qi x6.1.N, qs x6.1.S, .row 0, .row 1], .ag [qi x7.1.Kind, qi x7.1.N, qs x7.1.S, .row 2, .row 3], .ag [qi x8.1.Kind, qi x8.1.N, qs x8.1.S, .row 4, .row 5]]) (ls := []) (hrc20 hx9) rfl rfl rfl rfl rfl (by decide) rfl rfl rfl rfl rfl rfl) ?_; simp only [putT,st,ev,gt,hp,ofV,constT,intT,lm]
    refine WO_op rfl rfl rfl ?_
    refine WO_op (x := .ag [qi x9.1.Kind, qi x9.1.N, qs x9.1.S, .c (cL eS x9.1.Keys), .c (cL eR_Node x9.1.Kids)]) rfl rfl rfl ?_
    refine WO_op (x := .c (cL eS x9.2)) rfl rfl rfl ?_
    refine WO_op (x := .bp 8 0) (σ' := ⟨[], [some [qi a1.Kind, qi a1.N, qs a1.S, .c (cL eS a1.Keys), .c (cL eR_Node a1.Kids)], some [qi a2.Kind, qi a2.N, qs a2.S, .c (cL eS a2.Keys), .c (cL eR_Node a2.Kids)], some [qi a3.Kind, qi a3.N, qs a3.S, .c (cL eS a3.Keys), .c (cL eR_Node a3.Kids)], some [qi a4.Kind, qi a4.N, qs a4.S, .c (cL eS a4.Keys), .c (cL eR_Node a4.Kids)], some [qi 0, qi 0, qs [], .nil, .nil], some [qi x6.1.Kind, qi x6.1.N, qs x6.1.S, .row 0, .row 1], some [qi x7.1.Kind, qi x7.1.N, qs x7.1.S, .row 2, .row 3], some [qi x8.1.Kind, qi x8.1.N, qs x8.1.S, .row 4, .row 5], some [qi 0, qi 0, qs [], .nil, .nil]], [rr 1 eS x6.1.Keys false, rr 5 eR_Node x6.1.Kids false, rr 1 eS x7.1.Keys false, rr 5 eR_Node x7.1.Kids false, rr 1 eS x8.1.Keys false, rr 5 eR_Node x8.1.Kids false]⟩) rfl rfl rfl ?_; simp only [putT,st,ev,gt,hp,ofV,constT,intT,lm]
    refine WO_op (x := .no) (σ' := ⟨[], [some [qi a1.Kind, qi a1.N, qs a1.S, .c (cL eS a1.Keys), .c (cL eR_Node a1.Kids)], some [qi a2.Kind, qi a2.N, qs a2.S, .c (cL eS a2.Keys), .c (cL eR_Node a2.Kids)], some [qi a3.Kind, qi a3.N, qs a3.S, .c (cL eS a3.Keys), .c (cL eR_Node a3.Kids)], some [qi a4.Kind, qi a4.N, qs a4.S, .c (cL eS a4.Keys), .c (cL eR_Node a4.Kids)], some [qi 0, qi 0, qs [], .nil, .nil], some [qi x6.1.Kind, qi x6.1.N, qs x6.1.S, .row 0, .row 1], some [qi x7.1.Kind, qi x7.1.N, qs x7.1.S, .row 2, .row 3], some [qi x8.1.Kind, qi x8.1.N, qs x8.1.S, .row 4, .row 5], some [qi x9.1.Kind, qi x9.1.N, qs x9.1.S, .c (cL eS x9.1.Keys), .c (cL eR_Node x9.1.Kids)]], [rr 1 eS x6.1.Keys false, rr 5 eR_Node x6.1.Kids false, rr 1 eS x7.1.Keys false, rr 5 eR_Node x7.1.Kids false, rr 1 eS x8.1.Keys false, rr 5 eR_Node x8.1.Kids false]⟩) rfl rfl rfl ?_
    refine WO_op rfl rfl rfl ?_; simp only [putT,st,ev,gt,hp,ofV,constT,intT,lm]
    refine WO_nil (W_seq (W_region ?_))
    refine WO_op (x := .row 6) (σ' := ⟨[], [some [qi a1.Kind, qi a1.N, qs a1.S, .c (cL eS a1.Keys), .c (cL eR_Node a1.Kids)], some [qi a2.Kind, qi a2.N, qs a2.S, .c (cL eS a2.Keys), .c (cL eR_Node a2.Kids)], some [qi a3.Kind, qi a3.N, qs a3.S, .c (cL eS a3.Keys), .c (cL eR_Node a3.Kids)], some [qi a4.Kind, qi a4.N, qs a4.S, .c (cL eS a4.Keys), .c (cL eR_Node a4.Kids)], some [qi 0, qi 0, qs [], .nil, .nil], some [qi x6.1.Kind, qi x6.1.N, qs x6.1.S, .row 0, .row 1], some [qi x7.1.Kind, qi x7.1.N, qs x7.1.S, .row 2, .row 3], some [qi x8.1.Kind, qi x8.1.N, qs x8.1.S, .row 4, .row 5], some [qi x9.1.Kind, qi x9.1.N, qs x9.1.S, .c (cL eS x9.1.Keys), .c (cL eR_Node x9.1.Kids)]], [rr 1 eS x6.1.Keys false, rr 5 eR_Node x6.1.Kids false, rr 1 eS x7.1.Keys false, rr 5 eR_Node x7.1.Kids false, rr 1 eS x8.1.Keys false, rr 5 eR_Node x8.1.Kids false, rr 1 eS ([] : List Str) true]⟩) rfl rfl (ev_bs ([] : List Str) eS rfl rfl rfl rfl) ?_; simp only [putT,st,ev,gt,hp,ofV,constT,intT,lm]
    refine WO_op rfl rfl rfl ?_; simp only [putT,st,ev,gt,hp,ofV,constT,intT,lm]
    refine WO_nil (W_seq (W_seq (W_region ?_)))
    refine WO_op rfl rfl rfl ?_; simp only [putT,st,ev,gt,hp,ofV,constT,intT,lm]
    refine WO_nil ?_
    refine W_block ?_
    obtain ⟨t15, ht15, H⟩ := bnd H
    refine loop_rule (ls := []) 0 (fun t15 : List Str => ⟨[.no, .no, .no, .no, qs a5, .bp 0 0, .no, .no, .no, .no, .bp 1 0, .no, .no, .no, .no, .no, .no, .no, .bp 2 0, .no, .row 0], [some [qi a1.Kind, qi a1.N, qs a1.S, .c (cL eS a1.Keys), .c (cL eR_Node a1.Kids)], some [qi 0, qi 0, qs [], .nil, .nil], some [qi x9.1.Kind, qi x9.1.N, qs x9.1.S, .c (cL eS x9.1.Keys), .c (cL eR_Node x9.1.Kids)]], [rr 1 eS t15 true]⟩) (fun t => t15 = t) ⟨[.no, .no, .no, .no, qs a5, .bp 0 0, .no, .no, .no, .no, .bp 1 0, .no, .no, .no, .no, .no, .no, .no, .bp 2 0, .c (cL eS x9.2), .row 0, qi 0], [some [qi a1.Kind, qi a1.N, qs a1.S, .c (cL eS a1.Keys), .c (cL eR_Node a1.Kids)], some [qi 0, qi 0, qs [], .nil, .nil], some [qi x9.1.Kind, qi x9.1.N, qs x9.1.S, .c (cL eS x9.1.Keys), .c (cL eR_Node x9.1.Kids)]], [rr 1 eS ([] : List Str) true]⟩ (by repeat (first | exact mono_told | refine mono_seq ?_ | refine mono_blk ?_ | refine mono_lp ?_)) (le_intro [0, 4, 8] [6] (by decide) (by decide) rfl (by simp [leS, leT, leA, gt]) (by simp [leB, leT, leA]) (by simp [leR])) ?_ ?_
    ·
     rintro t1 rfl
     refine W_seq (W_region ?_)
     refine WO_op (x := .ag [qi a1.Kind, qi a1.N, qs a1.S, .c (cL eS a1.Keys), .c (cL eR_Node a1.Kids)]) rfl rfl rfl ?_
     refine WO_op rfl rfl rfl ?_
     refine WO_op (x := .ag [qi x9.1.Kind, qi x9.1.N, qs x9.1.S, .c (cL eS x9.1.Keys), .c (cL eR_Node x9.1.Kids)]) rfl rfl rfl ?_; simp only [putT,st,ev,gt,hp,ofV,constT,intT,lm]
     obtain ⟨x16, hx16, H⟩ := bnd H
     refine WO_op (x := .ag [qi x16.Kind, qi x16.N, qs x16.S, .row 1, .row 2]) (σ' := ⟨[], [some [qi a1.Kind, qi a1.N, qs a1.S, .c (cL eS a1.Keys), .c (cL eR_Node a1.Kids)], some [qi 0, qi 0, qs [], .nil, .nil], some [qi x9.1.Kind, qi x9.1.N, qs x9.1.S, .c (cL eS x9.1.Keys), .c (cL eR_Node x9.1.Kids)]], [rr 1 eS t15 true, rr 1 eS x16.Keys true, rr 5 eR_Node x16.Kids true]⟩) rfl rfl (ev_callG (al := [.ag [qi a1.Kind, qi a1.N, qs a1.S, .c (cL eS a1.Keys), .c (cL eR_Node a1.Kids)], qs a5, .ag [qi x9.1.Kind, qi x9.1.N, qs x9.1.S, .c (cL eS x9.1.Keys), .c (cL eR_Node x9.1.Kids)]]) (ls := []) (spec_Set_ok hx16) rfl rfl rfl rfl rfl (by decide) rfl rfl rfl rfl rfl rfl) ?_; simp only [putT,st,ev,gt,hp,ofV,constT,intT,lm]
     refine WO_op rfl rfl rfl ?_
     refine WO_op (x := .no) (σ' := ⟨[], [some [qi a1.Kind, qi a1.N, qs a1.S, .c (cL eS a1.Keys), .c (cL eR_Node a1.Kids)], some [qi x16.Kind, qi x16.N, qs x16.S, .row 1, .row 2], some [qi x9.1.Kind, qi x9.1.N, qs x9.1.S, .c (cL eS x9.1.Keys), .c (cL eR_Node x9.1.Kids)]], [rr 1 eS t15 true, rr 1 eS x16.Keys true, rr 5 eR_Node x16.Kids true]⟩) rfl rfl rfl ?_
     refine WO_op rfl rfl rfl ?_; simp only [putT,st,ev,gt,hp,ofV,constT,intT,lm]
     refine WO_nil ?_
     refine W_ret ?_
     obtain rfl := Option.some.inj H
     exact told5w rfl rfl rfl rfl (fitAs_nz rfl) rfl rfl
    ·
     intro V1 hV1 hW1 hX1
     refine (spec_l11Key.l0.partial_correctness a5 x9 (fun v10 v11 s' => s' = t15 → (V1 ⟨[.no, .no, .no, .no, qs a5, .bp 0 0, .no, .no, .no, .no, .bp 1 0, .no, .no, .no, .no, .no, .no, .no, .bp 2 0, .c (cL eS x9.2), .row 0, qi v10], [some [qi a1.Kind, qi a1.N, qs a1.S, .c (cL eS a1.Keys), .c (cL eR_Node a1.Kids)], some [qi 0, qi 0, qs [], .nil, .nil], some [qi x9.1.Kind, qi x9.1.N, qs x9.1.S, .c (cL eS x9.1.Keys), .c (cL eR_Node x9.1.Kids)]], [rr 1 eS v11 true]⟩)) ?_ _ _ _ ht15 rfl)
     intro l0 IH1 v10 v11 s' H1 e
     subst e
     refine hV1 _ ?_
     refine W_seq (W_seq (W_region ?_))
     iterate 4 (refine WO_op rfl rfl rfl ?_; simp only [putT,st,ev,gt,hp,ofV,constT,intT,lm])
     refine WO_nil ?_
     refine W_cond rfl (fun hc => ?_) (fun hc => ?_)
     ·
      replace H1 := tr hc H1
      refine W_skip ?_
      refine W_seq ?_
      refine W_block ?_
      refine W_region ?_
      iterate 4 (refine WO_op rfl rfl rfl ?_; simp only [putT,st,ev,gt,hp,ofV,constT,intT,lm])
      obtain ⟨x12, hx12, H1⟩ := bnd H1
      refine WO_op rfl rfl (ev_ix (en := eS) hx12 rfl rfl rfl rfl rfl rfl rfl) ?_; simp only [putT,st,ev,gt,hp,ofV,constT,intT,lm]
      refine WO_op (x := qs x12) rfl rfl rfl ?_; simp only [putT,st,ev,gt,hp,ofV,constT,intT,lm]
      obtain ⟨x13, hx13, H1⟩ := bnd H1
      refine WO_op (x := qs x13) (σ' := ⟨[], [some [qi a1.Kind, qi a1.N, qs a1.S, .c (cL eS a1.Keys), .c (cL eR_Node a1.Kids)], some [qi 0, qi 0, qs [], .nil, .nil], some [qi x9.1.Kind, qi x9.1.N, qs x9.1.S, .c (cL eS x9.1.Keys), .c (cL eR_Node x9.1.Kids)]], [rr 1 eS v11 true]⟩) rfl rfl (ev_callG (al := [qs a5, qs x12]) (ls := []) (spec_l7Way_ok hx13) rfl rfl rfl rfl rfl (by decide) rfl rfl rfl rfl rfl rfl) ?_; simp only [putT,st,ev,gt,hp,ofV,constT,intT,lm]
      refine WO_op (x := .row 1) (σ' := ⟨[], [some [qi a1.Kind, qi a1.N, qs a1.S, .c (cL eS a1.Keys), .c (cL eR_Node a1.Kids)], some [qi 0, qi 0, qs [], .nil, .nil], some [qi x9.1.Kind, qi x9.1.N, qs x9.1.S, .c (cL eS x9.1.Keys), .c (cL eR_Node x9.1.Kids)]], [rr 1 eS v11 true, rr 1 eS ([x13] : List Str) true]⟩) rfl rfl (ev_bs ([x13] : List Str) eS rfl rfl rfl rfl) ?_; simp only [putT,st,ev,gt,hp,ofV,constT,intT,lm]
      obtain ⟨m14, hm14, H1⟩ := bnd H1
      refine WO_op (x := .row 2) (σ' := ⟨[], [some [qi a1.Kind, qi a1.N, qs a1.S, .c (cL eS a1.Keys), .c (cL eR_Node a1.Kids)], some [qi 0, qi 0, qs [], .nil, .nil], some [qi x9.1.Kind, qi x9.1.N, qs x9.1.S, .c (cL eS x9.1.Keys), .c (cL eR_Node x9.1.Kids)]], [none, rr 1 eS ([x13] : List Str) true, rr 1 eS m14 true]⟩) rfl rfl (ev_app (en := eS) hm14 rfl rfl rfl rfl (Or.inl rfl) rfl rfl rfl rfl rfl rfl rfl rfl rfl rfl rfl (fun _ => rfl) rfl (Or.inr rfl) rfl) ?_; simp only [putT,st,ev,gt,hp,ofV,constT,intT,lm]
      refine WO_op rfl rfl rfl ?_; simp only [putT,st,ev,gt,hp,ofV,constT,intT,lm]
      refine WO_nil (W_region ?_)
      iterate 3 (refine WO_op rfl rfl rfl ?_; simp only [putT,st,ev,gt,hp,ofV,constT,intT,lm])
      refine WO_nil ?_
      exact hW1 _ _ ((IH1 _ _ _ H1 rfl)) (le_intro [0, 1, 2] [2] (by decide) (by decide) rfl (by simp [leS, leT, leA, gt]) (by simp [leB, leT, leA]) (by simp [leR]))
     ·
      replace H1 := fl hc H1
      refine W_exit ?_
      obtain rfl := Option.some.inj H1
      exact hX1 v11 _ rfl (le_intro [0, 1, 2] [0] (by decide) (by decide) rfl (by simp [leS, leT, leA, gt]) (by simp [leB, leT, leA]) (by simp [leR]))
   ·
    replace H := fl hc H
    refine W_skip ?_
    refine W_seq ?_
    refine W_block ?_
    refine W_seq (W_seq (W_region ?_))
    refine WO_op (x := .ag [qi x8.1.Kind, qi x8.1.N, qs x8.1.S, .row 4, .row 5]) rfl rfl rfl ?_
    refine WO_op rfl rfl rfl ?_
    refine WO_op (x := .ag [qi x6.1.Kind, qi x6.1.N, qs x6.1.S, .row 0, .row 1]) rfl rfl rfl ?_
    refine WO_op rfl rfl rfl ?_; simp only [putT,st,ev,gt,hp,ofV,constT,intT,lm]
    obtain ⟨x18, hx18, H⟩ := bnd H
    refine WO_op (x := qb x18) (σ' := ⟨[], [some [qi a1.Kind, qi a1.N, qs a1.S, .c (cL eS a1.Keys), .c (cL eR_Node a1.Kids)], some [qi a2.Kind, qi a2.N, qs a2.S, .c (cL eS a2.Keys), .c (cL eR_Node a2.Kids)], some [qi a3.Kind, qi a3.N, qs a3.S, .c (cL eS a3.Keys), .c (cL eR_Node a3.Kids)], some [qi a4.Kind, qi a4.N, qs a4.S, .c (cL eS a4.Keys), .c (cL eR_Node a4.Kids)], some [qi 0, qi 0, qs [], .nil, .nil], some [qi x6.1.Kind, qi x6.1.N, qs x6.1.S, .row 0, .row 1], some [qi x7.1.Kind, qi x7.1.N, qs x7.1.S, .row 2, .row 3], some [qi x8.1.Kind, qi x8.1.N, qs x8.1.S, .row 4, .row 5]], [rr 1 eS x6.1.Keys true, rr 5 eR_Node x6.1.Kids true, rr 1 eS x7.1.Keys true, rr 5 eR_Node x7.1.Kids true, rr 1 eS x8.1.Keys true, rr 5 eR_Node x8.1.Kids true]⟩) rfl rfl (ev_callG (al := [.ag [qi x8.1.Kind, qi x8.1.N, qs x8.1.S, .row 4, .row 5], qb x8.2, .ag [qi x6.1.Kind, qi x6.1.N, qs x6.1.S, .row 0, .row 1], qb x6.2]) (ls := []) (spec_l11Same_ok hx18) rfl rfl rfl rfl rfl (by decide) rfl rfl rfl rfl rfl rfl) ?_; simp only [putT,st,ev,gt,hp,ofV,constT,intT,lm]
    refine WO_op rfl rfl rfl ?_; simp only [putT,st,ev,gt,hp,ofV,constT,intT,lm]
    refine WO_nil ?_
    refine W_cond rfl (fun hc => ?_) (fun hc => ?_)
    ·
     replace H := tr hc H
     refine W_skip ?_
     refine W_cond rfl (fun hc => ?_) (fun hc => ?_)
     ·
      replace H := tr hc H
      refine W_seq (W_region ?_)
      refine WO_op (x := .ag [qi a1.Kind, qi a1.N, qs a1.S, .c (cL eS a1.Keys), .c (cL eR_Node a1.Kids)]) rfl rfl rfl ?_
      refine WO_op rfl rfl rfl ?_
      refine WO_op (x := .ag [qi x7.1.Kind, qi x7.1.N, qs x7.1.S, .row 2, .row 3]) rfl rfl rfl ?_
      refine WO_op rfl rfl rfl ?_; simp only [putT,st,ev,gt,hp,ofV,constT,intT,lm]
      obtain ⟨x19, hx19, H⟩ := bnd H
      refine WO_op (x := .ag [qi x19.Kind, qi x19.N, qs x19.S, .c (cL eS x19.Keys), .c (cL eR_Node x19.Kids)]) (σ' := ⟨[], [some [qi a1.Kind, qi a1.N, qs a1.S, .c (cL eS a1.Keys), .c (cL eR_Node a1.Kids)], some [qi a2.Kind, qi a2.N, qs a2.S, .c (cL eS a2.Keys), .c (cL eR_Node a2.Kids)], some [qi a3.Kind, qi a3.N, qs a3.S, .c (cL eS a3.Keys), .c (cL eR_Node a3.Kids)], some [qi a4.Kind, qi a4.N, qs a4.S, .c (cL eS a4.Keys), .c (cL eR_Node a4.Kids)], some [qi 0, qi 0, qs [], .nil, .nil], some [qi x6.1.Kind, qi x6.1.N, qs x6.1.S, .row 0, .row 1], some [qi x7.1.Kind, qi x7.1.N, qs x7.1.S, .row 2, .row 3], some [qi x8.1.Kind, qi x8.1.N, qs x8.1.S, .row 4, .row 5]], [rr 1 eS x6.1.Keys true, rr 5 eR_Node x6.1.Kids true, rr 1 eS x7.1.Keys false, rr 5 eR_Node x7.1.Kids false, rr 1 eS x8.1.Keys true, rr 5 eR_Node x8.1.Kids true]⟩) rfl rfl (ev_callG (al := [.ag [qi a1.Kind, qi a1.N, qs a1.S, .c (cL eS a1.Keys), .c (cL eR_Node a1.Kids)], qs a5, .ag [qi x7.1.Kind, qi x7.1.N, qs x7.1.S, .row 2, .row 3], qb x7.2]) (ls := []) (spec_l11Put_ok hx19) rfl rfl rfl rfl rfl (by decide) rfl rfl rfl rfl rfl rfl) ?_; simp only [putT,st,ev,gt,hp,ofV,constT,intT,lm]
      refine WO_op (x := .row 6) (σ' := ⟨[], [some [qi a1.Kind, qi a1.N, qs a1.S, .c (cL eS a1.Keys), .c (cL eR_Node a1.Kids)], some [qi a2.Kind, qi a2.N, qs a2.S, .c (cL eS a2.Keys), .c (cL eR_Node a2.Kids)], some [qi a3.Kind, qi a3.N, qs a3.S, .c (cL eS a3.Keys), .c (cL eR_Node a3.Kids)], some [qi a4.Kind, qi a4.N, qs a4.S, .c (cL eS a4.Keys), .c (cL eR_Node a4.Kids)], some [qi 0, qi 0, qs [], .nil, .nil], some [qi x6.1.Kind, qi x6.1.N, qs x6.1.S, .row 0, .row 1], some [qi x7.1.Kind, qi x7.1.N, qs x7.1.S, .row 2, .row 3], some [qi x8.1.Kind, qi x8.1.N, qs x8.1.S, .row 4, .row 5]], [rr 1 eS x6.1.Keys true, rr 5 eR_Node x6.1.Kids true, rr 1 eS x7.1.Keys false, rr 5 eR_Node x7.1.Kids false, rr 1 eS x8.1.Keys true, rr 5 eR_Node x8.1.Kids true, rr 1 eS ([] : List Str) true]⟩) rfl rfl (ev_bs ([] : List Str) eS rfl rfl rfl rfl) ?_; simp only [putT,st,ev,gt,hp,ofV,constT,intT,lm]
      refine WO_op (x := .no) (σ' := ⟨[], [some [qi a1.Kind, qi a1.N, qs a1.S, .c (cL eS a1.Keys), .c (cL eR_Node a1.Kids)], some [qi a2.Kind, qi a2.N, qs a2.S, .c (cL eS a2.Keys), .c (cL eR_Node a2.Kids)], some [qi a3.Kind, qi a3.N, qs a3.S, .c (cL eS a3.Keys), .c (cL eR_Node a3.Kids)], some [qi a4.Kind, qi a4.N, qs a4.S, .c (cL eS a4.Keys), .c (cL eR_Node a4.Kids)], some [qi x19.Kind, qi x19.N, qs x19.S, .c (cL eS x19.Keys), .c (cL eR_Node x19.Kids)], some [qi x6.1.Kind, qi x6.1.N, qs x6.1.S, .row 0, .row 1], some [qi x7.1.Kind, qi x7.1.N, qs x7.1.S, .row 2, .row 3], some [qi x8.1.Kind, qi x8.1.N, qs x8.1.S, .row 4, .row 5]], [rr 1 eS x6.1.Keys true, rr 5 eR_Node x6.1.Kids true, rr 1 eS x7.1.Keys false, rr 5 eR_Node x7.1.Kids false, rr 1 eS x8.1.Keys true, rr 5 eR_Node x8.1.Kids true, rr 1 eS ([] : List Str) true]⟩) rfl rfl rfl ?_
      refine WO_op rfl rfl rfl ?_; simp only [putT,st,ev,gt,hp,ofV,constT,intT,lm]
      refine WO_nil ?_
      refine W_ret ?_
      obtain rfl := Option.some.inj H
      exact told5w rfl rfl rfl rfl (fitAs_nz rfl) rfl rfl
     ·
      replace H := fl hc H
      refine W_seq (W_region ?_)
      refine WO_op (x := .ag [qi x7.1.Kind, qi x7.1.N, qs x7.1.S, .row 2, .row 3]) rfl rfl rfl ?_
      refine WO_op rfl rfl rfl ?_
      refine WO_op (x := .ag [qi x6.1.Kind, qi x6.1.N, qs x6.1.S, .row 0, .row 1]) rfl rfl rfl ?_
      refine WO_op rfl rfl rfl ?_; simp only [putT,st,ev,gt,hp,ofV,constT,intT,lm]
      obtain ⟨x20, hx20, H⟩ := bnd H
      refine WO_op (x := qb x20) (σ' := ⟨[], [some [qi a1.Kind, qi a1.N, qs a1.S, .c (cL eS a1.Keys), .c (cL eR_Node a1.Kids)], some [qi a2.Kind, qi a2.N, qs a2.S, .c (cL eS a2.Keys), .c (cL eR_Node a2.Kids)], some [qi a3.Kind, qi a3.N, qs a3.S, .c (cL eS a3.Keys), .c (cL eR_Node a3.Kids)], some [qi a4.Kind, qi a4.N, qs a4.S, .c (cL eS a4.Keys), .c (cL eR_Node a4.Kids)], some [qi 0, qi 0, qs [], .nil, .nil], some [qi x6.1.Kind, qi x6.1.N, qs x6.1.S, .row 0, .row 1], some [qi x7.1.Kind, qi x7.1.N, qs x7.1.S, .row 2, .row 3], some [qi x8.1.Kind, qi x8.1.N, qs x8.1.S, .row 4, .row 5]], [rr 1 eS x6.1.Keys true, rr 5 eR_Node x6.1.Kids true, rr 1 eS x7.1.Keys true, rr 5 eR_Node x7.1.Kids true, rr 1 eS x8.1.Keys true, rr 5 eR_Node x8.1.Kids true]⟩) rfl rfl (ev_callG (al := [.ag [qi x7.1.Kind, qi x7.1.N, qs x7.1.S, .row 2, .row 3], qb x7.2, .ag [qi x6.1.Kind, qi x6.1.N, qs x6.1.S, .row 0, .row 1], qb x6.2]) (ls := []) (spec_l11Same_ok hx20) rfl rfl rfl rfl rfl (by decide) rfl rfl rfl rfl rfl rfl) ?_; simp only [putT,st,ev,gt,hp,ofV,constT,intT,lm]
      refine WO_op rfl rfl rfl ?_; simp only [putT,st,ev,gt,hp,ofV,constT,intT,lm]
      refine WO_nil ?_
      refine W_cond rfl (fun hc => ?_) (fun hc => ?_)
      ·
       replace H := tr hc H
       refine W_seq (W_region ?_)
       refine WO_op (x := .ag [qi a1.Kind, qi a1.N, qs a1.S, .c (cL eS a1.Keys), .c (cL eR_Node a1.Kids)]) rfl rfl rfl ?_
       refine WO_op rfl rfl rfl ?_
       refine WO_op (x := .ag [qi x8.1.Kind, qi x8.1.N, qs x8.1.S, .row 4, .row 5]) rfl rfl rfl ?_
       refine WO_op rfl rfl rfl ?_; simp only [putT,st,ev,gt,hp,ofV,constT,intT,lm]
       obtain ⟨x21, hx21, H⟩ := bnd H
       refine WO_op (x := .ag [qi x21.Kind, qi x21.N, qs x21.S, .c (cL eS x21.Keys), .c (cL eR_Node x21.Kids)]) (σ' := ⟨[], [some [qi a1.Kind, qi a1.N, qs a1.S, .c (cL eS a1.Keys), .c (cL eR_Node a1.Kids)], some [qi a2.Kind, qi a2.N, qs a2.S, .c (cL eS a2.Keys), .c (cL eR_Node a2.Kids)], some [qi a3.Kind, qi a3.N, qs a3.S, .c (cL eS a3.Keys), .c (cL eR_Node a3.Kids)], some [qi a4.Kind, qi a4.N, qs a4.S, .c (cL eS a4.Keys), .c (cL eR_Node a4.Kids)], some [qi 0, qi 0, qs [], .nil, .nil], some [qi x6.1.Kind, qi x6.1.N, qs x6.1.S, .row 0, .row 1], some [qi x7.1.Kind, qi x7.1.N, qs x7.1.S, .row 2, .row 3], some [qi x8.1.Kind, qi x8.1.N, qs x8.1.S, .row 4, .row 5]], [rr 1 eS x6.1.Keys true, rr 5 eR_Node x6.1.Kids true, rr 1 eS x7.1.Keys true, rr 5 eR_Node x7.1.Kids true, rr 1 eS x8.1.Keys false, rr 5 eR_Node x8.1.Kids false]⟩) rfl rfl (ev_callG (al := [.ag [qi a1.Kind, qi a1.N, qs a1.S, .c (cL eS a1.Keys), .c (cL eR_Node a1.Kids)], qs a5, .ag [qi x8.1.Kind, qi x8.1.N, qs x8.1.S, .row 4, .row 5], qb x8.2]) (ls := []) (spec_l11Put_ok hx21) rfl rfl rfl rfl rfl (by decide) rfl rfl rfl rfl rfl rfl) ?_; simp only [putT,st,ev,gt,hp,ofV,constT,intT,lm]
       refine WO_op (x := .row 6) (σ' := ⟨[], [some [qi a1.Kind, qi a1.N, qs a1.S, .c (cL eS a1.Keys), .c (cL eR_Node a1.Kids)], some [qi a2.Kind, qi a2.N, qs a2.S, .c (cL eS a2.Keys), .c (cL eR_Node a2.Kids)], some [qi a3.Kind, qi a3.N, qs a3.S, .c (cL eS a3.Keys), .c (cL eR_Node a3.Kids)], some [qi a4.Kind, qi a4.N, qs a4.S, .c (cL eS a4.Keys), .c (cL eR_Node a4.Kids)], some [qi 0, qi 0, qs [], .nil, .nil], some [qi x6.1.Kind, qi x6.1.N, qs x6.1.S, .row 0, .row 1], some [qi x7.1.Kind, qi x7.1.N, qs x7.1.S, .row 2, .row 3], some [qi x8.1.Kind, qi x8.1.N, qs x8.1.S, .row 4, .row 5]], [rr 1 eS x6.1.Keys true, rr 5 eR_Node x6.1.Kids true, rr 1 eS x7.1.Keys true, rr 5 eR_Node x7.1.Kids true, rr 1 eS x8.1.Keys false, rr 5 eR_Node x8.1.Kids false, rr 1 eS ([] : List Str) true]⟩) rfl rfl (ev_bs ([] : List Str) eS rfl rfl rfl rfl) ?_; simp only [putT,st,ev,gt,hp,ofV,constT,intT,lm]
       refine WO_op (x := .no) (σ' := ⟨[], [some [qi a1.Kind, qi a1.N, qs a1.S, .c (cL eS a1.Keys), .c (cL eR_Node a1.Kids)], some [qi a2.Kind, qi a2.N, qs a2.S, .c (cL eS a2.Keys), .c (cL eR_Node a2.Kids)], some [qi a3.Kind, qi a3.N, qs a3.S, .c (cL eS a3.Keys), .c (cL eR_Node a3.Kids)], some [qi a4.Kind, qi a4.N, qs a4.S, .c (cL eS a4.Keys), .c (cL eR_Node a4.Kids)], some [qi x21.Kind, qi x21.N, qs x21.S, .c (cL eS x21.Keys), .c (cL eR_Node x21.Kids)], some [qi x6.1.Kind, qi x6.1.N, qs x6.1.S, .row 0, .row 1], some [qi x7.1.Kind, qi x7.1.N, qs x7.1.S, .row 2, .row 3], some [qi x8.1.Kind, qi x8.1.N, qs x8.1.S, .row 4, .row 5]], [rr 1 eS x6.1.Keys true, rr 5 eR_Node x6.1.Kids true, rr 1 eS x7.1.Keys true, rr 5 eR_Node x7.1.Kids true, rr 1 eS x8.1.Keys false, rr 5 eR_Node x8.1.Kids false, rr 1 eS ([] : List Str) true]⟩) rfl rfl rfl ?_
       refine WO_op rfl rfl rfl ?_; simp only [putT,st,ev,gt,hp,ofV,constT,intT,lm]
       refine WO_nil ?_
       refine W_ret ?_
       obtain rfl := Option.some.inj H
       exact told5w rfl rfl rfl rfl (fitAs_nz rfl) rfl rfl
      ·
       replace H := fl hc H
       refine W_skip ?_
       refine W_seq (W_region ?_)
       refine WO_op (x := .ag [qi a1.Kind, qi a1.N, qs a1.S, .c (cL eS a1.Keys), .c (cL eR_Node a1.Kids)]) rfl rfl rfl ?_
       refine WO_op rfl rfl rfl ?_
       refine WO_op (x := .ag [qi x7.1.Kind, qi x7.1.N, qs x7.1.S, .row 2, .row 3]) rfl rfl rfl ?_
       refine WO_op rfl rfl rfl ?_; simp only [putT,st,ev,gt,hp,ofV,constT,intT,lm]
       obtain ⟨x22, hx22, H⟩ := bnd H
       refine WO_op (x := .ag [qi x22.Kind, qi x22.N, qs x22.S, .c (cL eS x22.Keys), .c (cL eR_Node x22.Kids)]) (σ' := ⟨[], [some [qi a1.Kind, qi a1.N, qs a1.S, .c (cL eS a1.Keys), .c (cL eR_Node a1.Kids)], some [qi a2.Kind, qi a2.N, qs a2.S, .c (cL eS a2.Keys), .c (cL eR_Node a2.Kids)], some [qi a3.Kind, qi a3.N, qs a3.S, .c (cL eS a3.Keys), .c (cL eR_Node a3.Kids)], some [qi a4.Kind, qi a4.N, qs a4.S, .c (cL eS a4.Keys), .c (cL eR_Node a4.Kids)], some [qi 0, qi 0, qs [], .nil, .nil], some [qi x6.1.Kind, qi x6.1.N, qs x6.1.S, .row 0, .row 1], some [qi x7.1.Kind, qi x7.1.N, qs x7.1.S, .row 2, .row 3], some [qi x8.1.Kind, qi x8.1.N, qs x8.1.S, .row 4, .row 5]], [rr 1 eS x6.1.Keys true, rr 5 eR_Node x6.1.Kids true, rr 1 eS x7.1.Keys false, rr 5 eR_Node x7.1.Kids false, rr 1 eS x8.1.Keys true, rr 5 eR_Node x8.1.Kids true]⟩) rfl rfl (ev_callG (al := [.ag [qi a1.Kind, qi a1.N, qs a1.S, .c (cL eS a1.Keys), .c (cL eR_Node a1.Kids)], qs a5, .ag [qi x7.1.Kind, qi x7.1.N, qs x7.1.S, .row 2, .row 3], qb x7.2]) (ls := []) (spec_l11Put_ok hx22) rfl rfl rfl rfl rfl (by decide) rfl rfl rfl rfl rfl rfl) ?_; simp only [putT,st,ev,gt,hp,ofV,constT,intT,lm]
       refine WO_op rfl rfl rfl ?_; simp only [putT,st,ev,gt,hp,ofV,constT,intT,lm]
       refine WO_op (x := .row 6) (σ' := ⟨[], [some [qi a1.Kind, qi a1.N, qs a1.S, .c (cL eS a1.Keys), .c (cL eR_Node a1.Kids)], some [qi a2.Kind, qi a2.N, qs a2.S, .c (cL eS a2.Keys), .c (cL eR_Node a2.Kids)], some [qi a3.Kind, qi a3.N, qs a3.S, .c (cL eS a3.Keys), .c (cL eR_Node a3.Kids)], some [qi a4.Kind, qi a4.N, qs a4.S, .c (cL eS a4.Keys), .c (cL eR_Node a4.Kids)], some [qi 0, qi 0, qs [], .nil, .nil], some [qi x6.1.Kind, qi x6.1.N, qs x6.1.S, .row 0, .row 1], some [qi x7.1.Kind, qi x7.1.N, qs x7.1.S, .row 2, .row 3], some [qi x8.1.Kind, qi x8.1.N, qs x8.1.S, .row 4, .row 5]], [rr 1 eS x6.1.Keys true, rr 5 eR_Node x6.1.Kids true, rr 1 eS x7.1.Keys false, rr 5 eR_Node x7.1.Kids false, rr 1 eS x8.1.Keys true, rr 5 eR_Node x8.1.Kids true, rr 1 eS ([a5] : List Str) true]⟩) rfl rfl (ev_bs ([a5] : List Str) eS rfl rfl rfl rfl) ?_; simp only [putT,st,ev,gt,hp,ofV,constT,intT,lm]
       refine WO_op (x := .no) (σ' := ⟨[], [some [qi a1.Kind, qi a1.N, qs a1.S, .c (cL eS a1.Keys), .c (cL eR_Node a1.Kids)], some [qi a2.Kind, qi a2.N, qs a2.S, .c (cL eS a2.Keys), .c (cL eR_Node a2.Kids)], some [qi a3.Kind, qi a3.N, qs a3.S, .c (cL eS a3.Keys), .c (cL eR_Node a3.Kids)], some [qi a4.Kind, qi a4.N, qs a4.S, .c (cL eS a4.Keys), .c (cL eR_Node a4.Kids)], some [qi x22.Kind, qi x22.N, qs x22.S, .c (cL eS x22.Keys), .c (cL eR_Node x22.Kids)], some [qi x6.1.Kind, qi x6.1.N, qs x6.1.S, .row 0, .row 1], some [qi x7.1.Kind, qi x7.1.N, qs x7.1.S, .row 2, .row 3], some [qi x8.1.Kind, qi x8.1.N, qs x8.1.S, .row 4, .row 5]], [rr 1 eS x6.1.Keys true, rr 5 eR_Node x6.1.Kids true, rr 1 eS x7.1.Keys false, rr 5 eR_Node x7.1.Kids false, rr 1 eS x8.1.Keys true, rr 5 eR_Node x8.1.Kids true, rr 1 eS ([a5] : List Str) true]⟩) rfl rfl rfl ?_
       refine WO_op rfl rfl rfl ?_; simp only [putT,st,ev,gt,hp,ofV,constT,intT,lm]
       refine WO_nil ?_
       refine W_ret ?_
       obtain rfl := Option.some.inj H
       exact told5w rfl rfl rfl rfl (fitAs_nz rfl) rfl rfl
    ·
     replace H := fl hc H
     refine W_region ?_
     refine WO_op (x := .ag [qi x7.1.Kind, qi x7.1.N, qs x7.1.S, .row 2, .row 3]) rfl rfl rfl ?_
     refine WO_op rfl rfl rfl ?_
     refine WO_op (x := .ag [qi x8.1.Kind, qi x8.1.N, qs x8.1.S, .row 4, .row 5]) rfl rfl rfl ?_
     refine WO_op rfl rfl rfl ?_; simp only [putT,st,ev,gt,hp,ofV,constT,intT,lm]
     obtain ⟨x23, hx23, H⟩ := bnd H
     refine WO_op (x := qb x23) (σ' := ⟨[], [some [qi a1.Kind, qi a1.N, qs a1.S, .c (cL eS a1.Keys), .c (cL eR_Node a1.Kids)], some [qi a2.Kind, qi a2.N, qs a2.S, .c (cL eS a2.Keys), .c (cL eR_Node a2.Kids)], some [qi a3.Kind, qi a3.N, qs a3.S, .c (cL eS a3.Keys), .c (cL eR_Node a3.Kids)], some [qi a4.Kind, qi a4.N, qs a4.S, .c (cL eS a4.Keys), .c (cL eR_Node a4.Kids)], some [qi 0, qi 0, qs [], .nil, .nil], some [qi x6.1.Kind, qi x6.1.N, qs x6.1.S, .row 0, .row 1], some [qi x7.1.Kind, qi x7.1.N, qs x7.1.S, .row 2, .row 3], some [qi x8.1.Kind, qi x8.1.N, qs x8.1.S, .row 4, .row 5]], [rr 1 eS x6.1.Keys true, rr 5 eR_Node x6.1.Kids true, rr 1 eS x7.1.Keys true, rr 5 eR_Node x7.1.Kids true, rr 1 eS x8.1.Keys true, rr 5 eR_Node x8.1.Kids true]⟩) rfl rfl (ev_callG (al := [.ag [qi x7.1.Kind, qi x7.1.N, qs x7.1.S, .row 2, .row 3], qb x7.2, .ag [qi x8.1.Kind, qi x8.1.N, qs x8.1.S, .row 4, .row 5], qb x8.2]) (ls := []) (spec_l11Same_ok hx23) rfl rfl rfl rfl rfl (by decide) rfl rfl rfl rfl rfl rfl) ?_; simp only [putT,st,ev,gt,hp,ofV,constT,intT,lm]
     refine WO_op rfl rfl rfl ?_; simp only [putT,st,ev,gt,hp,ofV,constT,intT,lm]
     refine WO_nil ?_
     refine W_cond rfl (fun hc => ?_) (fun hc => ?_)
     ·
      replace H := tr hc H
      refine W_seq (W_region ?_)
      refine WO_op (x := .ag [qi a1.Kind, qi a1.N, qs a1.S, .c (cL eS a1.Keys), .c (cL eR_Node a1.Kids)]) rfl rfl rfl ?_
      refine WO_op rfl rfl rfl ?_
      refine WO_op (x := .ag [qi x7.1.Kind, qi x7.1.N, qs x7.1.S, .row 2, .row 3]) rfl rfl rfl ?_
      refine WO_op rfl rfl rfl ?_; simp only [putT,st,ev,gt,hp,ofV,constT,intT,lm]
      obtain ⟨x24, hx24, H⟩ := bnd H
      refine WO_op (x := .ag [qi x24.Kind, qi x24.N, qs x24.S, .c (cL eS x24.Keys), .c (cL eR_Node x24.Kids)]) (σ' := ⟨[], [some [qi a1.Kind, qi a1.N, qs a1.S, .c (cL eS a1.Keys), .c (cL eR_Node a1.Kids)], some [qi a2.Kind, qi a2.N, qs a2.S, .c (cL eS a2.Keys), .c (cL eR_Node a2.Kids)], some [qi a3.Kind, qi a3.N, qs a3.S, .c (cL eS a3.Keys), .c (cL eR_Node a3.Kids)], some [qi a4.Kind, qi a4.N, qs a4.S, .c (cL eS a4.Keys), .c (cL eR_Node a4.Kids)], some [qi 0, qi 0, qs [], .nil, .nil], some [qi x6.1.Kind, qi x6.1.N, qs x6.1.S, .row 0, .row 1], some [qi x7.1.Kind, qi x7.1.N, qs x7.1.S, .row 2, .row 3], some [qi x8.1.Kind, qi x8.1.N, qs x8.1.S, .row 4, .row 5]], [rr 1 eS x6.1.Keys true, rr 5 eR_Node x6.1.Kids true, rr 1 eS x7.1.Keys false, rr 5 eR_Node x7.1.Kids false, rr 1 eS x8.1.Keys true, rr 5 eR_Node x8.1.Kids true]⟩) rfl rfl (ev_callG (al := [.ag [qi a1.Kind, qi a1.N, qs a1.S, .c (cL eS a1.Keys), .c (cL eR_Node a1.Kids)], qs a5, .ag [qi x7.1.Kind, qi x7.1.N, qs x7.1.S, .row 2, .row 3], qb x7.2]) (ls := []) (spec_l11Put_ok hx24) rfl rfl rfl rfl rfl (by decide) rfl rfl rfl rfl rfl rfl) ?_; simp only [putT,st,ev,gt,hp,ofV,constT,intT,lm]
      refine WO_op (x := .row 6) (σ' := ⟨[], [some [qi a1.Kind, qi a1.N, qs a1.S, .c (cL eS a1.Keys), .c (cL eR_Node a1.Kids)], some [qi a2.Kind, qi a2.N, qs a2.S, .c (cL eS a2.Keys), .c (cL eR_Node a2.Kids)], some [qi a3.Kind, qi a3.N, qs a3.S, .c (cL eS a3.Keys), .c (cL eR_Node a3.Kids)], some [qi a4.Kind, qi a4.N, qs a4.S, .c (cL eS a4.Keys), .c (cL eR_Node a4.Kids)], some [qi 0, qi 0, qs [], .nil, .nil], some [qi x6.1.Kind, qi x6.1.N, qs x6.1.S, .row 0, .row 1], some [qi x7.1.Kind, qi x7.1.N, qs x7.1.S, .row 2, .row 3], some [qi x8.1.Kind, qi x8.1.N, qs x8.1.S, .row 4, .row 5]], [rr 1 eS x6.1.Keys true, rr 5 eR_Node x6.1.Kids true, rr 1 eS x7.1.Keys false, rr 5 eR_Node x7.1.Kids false, rr 1 eS x8.1.Keys true, rr 5 eR_Node x8.1.Kids true, rr 1 eS ([] : List Str) true]⟩) rfl rfl (ev_bs ([] : List Str) eS rfl rfl rfl rfl) ?_; simp only [putT,st,ev,gt,hp,ofV,constT,intT,lm]
      refine WO_op (x := .no) (σ' := ⟨[], [some [qi a1.Kind, qi a1.N, qs a1.S, .c (cL eS a1.Keys), .c (cL eR_Node a1.Kids)], some [qi a2.Kind, qi a2.N, qs a2.S, .c (cL eS a2.Keys), .c (cL eR_Node a2.Kids)], some [qi a3.Kind, qi a3.N, qs a3.S, .c (cL eS a3.Keys), .c (cL eR_Node a3.Kids)], some [qi a4.Kind, qi a4.N, qs a4.S, .c (cL eS a4.Keys), .c (cL eR_Node a4.Kids)], some [qi x24.Kind, qi x24.N, qs x24.S, .c (cL eS x24.Keys), .c (cL eR_Node x24.Kids)], some [qi x6.1.Kind, qi x6.1.N, qs x6.1.S, .row 0, .row 1], some [qi x7.1.Kind, qi x7.1.N, qs x7.1.S, .row 2, .row 3], some [qi x8.1.Kind, qi x8.1.N, qs x8.1.S, .row 4, .row 5]], [rr 1 eS x6.1.Keys true, rr 5 eR_Node x6.1.Kids true, rr 1 eS x7.1.Keys false, rr 5 eR_Node x7.1.Kids false, rr 1 eS x8.1.Keys true, rr 5 eR_Node x8.1.Kids true, rr 1 eS ([] : List Str) true]⟩) rfl rfl rfl ?_
      refine WO_op rfl rfl rfl ?_; simp only [putT,st,ev,gt,hp,ofV,constT,intT,lm]
      refine WO_nil ?_
      refine W_ret ?_
      obtain rfl := Option.some.inj H
      exact told5w rfl rfl rfl rfl (fitAs_nz rfl) rfl rfl
     ·
      replace H := fl hc H
      refine W_seq (W_region ?_)
      refine WO_op (x := .ag [qi x7.1.Kind, qi x7.1.N, qs x7.1.S, .row 2, .row 3]) rfl rfl rfl ?_
      refine WO_op rfl rfl rfl ?_
      refine WO_op (x := .ag [qi x6.1.Kind, qi x6.1.N, qs x6.1.S, .row 0, .row 1]) rfl rfl rfl ?_
      refine WO_op rfl rfl rfl ?_; simp only [putT,st,ev,gt,hp,ofV,constT,intT,lm]
      obtain ⟨x25, hx25, H⟩ := bnd H
      refine WO_op (x := qb x25) (σ' := ⟨[], [some [qi a1.Kind, qi a1.N, qs a1.S, .c (cL eS a1.Keys), .c (cL eR_Node a1.Kids)], some [qi a2.Kind, qi a2.N, qs a2.S, .c (cL eS a2.Keys), .c (cL eR_Node a2.Kids)], some [qi a3.Kind, qi a3.N, qs a3.S, .c (cL eS a3.Keys), .c (cL eR_Node a3.Kids)], some [qi a4.Kind, qi a4.N, qs a4.S, .c (cL eS a4.Keys), .c (cL eR_Node a4.Kids)], some [qi 0, qi 0, qs [], .nil, .nil], some [qi x6.1.Kind, qi x6.1.N, qs x6.1.S, .row 0, .row 1], some [qi x7.1.Kind, qi x7.1.N, qs x7.1.S, .row 2, .row 3], some [qi x8.1.Kind, qi x8.1.N, qs x8.1.S, .row 4, .row 5]], [rr 1 eS x6.1.Keys true, rr 5 eR_Node x6.1.Kids true, rr 1 eS x7.1.Keys true, rr 5 eR_Node x7.1.Kids true, rr 1 eS x8.1.Keys true, rr 5 eR_Node x8.1.Kids true]⟩) rfl rfl (ev_callG (al := [.ag [qi x7.1.Kind, qi x7.1.N, qs x7.1.S, .row 2, .row 3], qb x7.2, .ag [qi x6.1.Kind, qi x6.1.N, qs x6.1.S, .row 0, .row 1], qb x6.2]) (ls := []) (spec_l11Same_ok hx25) rfl rfl rfl rfl rfl (by decide) rfl rfl rfl rfl rfl rfl) ?_; simp only [putT,st,ev,gt,hp,ofV,constT,intT,lm]
      refine WO_op rfl rfl rfl ?_; simp only [putT,st,ev,gt,hp,ofV,constT,intT,lm]
      refine WO_nil ?_
      refine W_cond rfl (fun hc => ?_) (fun hc => ?_)
      ·
       replace H := tr hc H
       refine W_seq (W_region ?_)
       refine WO_op (x := .ag [qi a1.Kind, qi a1.N, qs a1.S, .c (cL eS a1.Keys), .c (cL eR_Node a1.Kids)]) rfl rfl rfl ?_
       refine WO_op rfl rfl rfl ?_
       refine WO_op (x := .ag [qi x8.1.Kind, qi x8.1.N, qs x8.1.S, .row 4, .row 5]) rfl rfl rfl ?_
       refine WO_op rfl rfl rfl ?_; simp only [putT,st,ev,gt,hp,ofV,constT,intT,lm]
       obtain ⟨x26, hx26, H⟩ := bnd H
       refine WO_op (x := .ag [qi x26.Kind, qi x26.N, qs x26.S, .c (cL eS x26.Keys), .c (cL eR_Node x26.Kids)]) (σ' := ⟨[], [some [qi a1.Kind, qi a1.N, qs a1.S, .c (cL eS a1.Keys), .c (cL eR_Node a1.Kids)], some [qi a2.Kind, qi a2.N, qs a2.S, .c (cL eS a2.Keys), .c (cL eR_Node a2.Kids)], some [qi a3.Kind, qi a3.N, qs a3.S, .c (cL eS a3.Keys), .c (cL eR_Node a3.Kids)], some [qi a4.Kind, qi a4.N, qs a4.S, .c (cL eS a4.Keys), .c (cL eR_Node a4.Kids)], some [qi 0, qi 0, qs [], .nil, .nil], some [qi x6.1.Kind, qi x6.1.N, qs x6.1.S, .row 0, .row 1], some [qi x7.1.Kind, qi x7.1.N, qs x7.1.S, .row 2, .row 3], some [qi x8.1.Kind, qi x8.1.N, qs x8.1.S, .row 4, .row 5]], [rr 1 eS x6.1.Keys true, rr 5 eR_Node x6.1.Kids true, rr 1 eS x7.1.Keys true, rr 5 eR_Node x7.1.Kids true, rr 1 eS x8.1.Keys false, rr 5 eR_Node x8.1.Kids false]⟩) rfl rfl (ev_callG (al := [.ag [qi a1.Kind, qi a1.N, qs a1.S, .c (cL eS a1.Keys), .c (cL eR_Node a1.Kids)], qs a5, .ag [qi x8.1.Kind, qi x8.1.N, qs x8.1.S, .row 4, .row 5], qb x8.2]) (ls := []) (spec_l11Put_ok hx26) rfl rfl rfl rfl rfl (by decide) rfl rfl rfl rfl rfl rfl) ?_; simp only [putT,st,ev,gt,hp,ofV,constT,intT,lm]
       refine WO_op (x := .row 6) (σ' := ⟨[], [some [qi a1.Kind, qi a1.N, qs a1.S, .c (cL eS a1.Keys), .c (cL eR_Node a1.Kids)], some [qi a2.Kind, qi a2.N, qs a2.S, .c (cL eS a2.Keys), .c (cL eR_Node a2.Kids)], some [qi a3.Kind, qi a3.N, qs a3.S, .c (cL eS a3.Keys), .c (cL eR_Node a3.Kids)], some [qi a4.Kind, qi a4.N, qs a4.S, .c (cL eS a4.Keys), .c (cL eR_Node a4.Kids)], some [qi 0, qi 0, qs [], .nil, .nil], some [qi x6.1.Kind, qi x6.1.N, qs x6.1.S, .row 0, .row 1], some [qi x7.1.Kind, qi x7.1.N, qs x7.1.S, .row 2, .row 3], some [qi x8.1.Kind, qi x8.1.N, qs x8.1.S, .row 4, .row 5]], [rr 1 eS x6.1.Keys true, rr 5 eR_Node x6.1.Kids true, rr 1 eS x7.1.Keys true, rr 5 eR_Node x7.1.Kids true, rr 1 eS x8.1.Keys false, rr 5 eR_Node x8.1.Kids false, rr 1 eS ([] : List Str) true]⟩) rfl rfl (ev_bs ([] : List Str) eS rfl rfl rfl rfl) ?_; simp only [putT,st,ev,gt,hp,ofV,constT,intT,lm]
       refine WO_op (x := .no) (σ' := ⟨[], [some [qi a1.Kind, qi a1.N, qs a1.S, .c (cL eS a1.Keys), .c (cL eR_Node a1.Kids)], some [qi a2.Kind, qi a2.N, qs a2.S, .c (cL eS a2.Keys), .c (cL eR_Node a2.Kids)], some [qi a3.Kind, qi a3.N, qs a3.S, .c (cL eS a3.Keys), .c (cL eR_Node a3.Kids)], some [qi a4.Kind, qi a4.N, qs a4.S, .c (cL eS a4.Keys), .c (cL eR_Node a4.Kids)], some [qi x26.Kind, qi x26.N, qs x26.S, .c (cL eS x26.Keys), .c (cL eR_Node x26.Kids)], some [qi x6.1.Kind, qi x6.1.N, qs x6.1.S, .row 0, .row 1], some [qi x7.1.Kind, qi x7.1.N, qs x7.1.S, .row 2, .row 3], some [qi x8.1.Kind, qi x8.1.N, qs x8.1.S, .row 4, .row 5]], [rr 1 eS x6.1.Keys true, rr 5 eR_Node x6.1.Kids true, rr 1 eS x7.1.Keys true, rr 5 eR_Node x7.1.Kids true, rr 1 eS x8.1.Keys false, rr 5 eR_Node x8.1.Kids false, rr 1 eS ([] : List Str) true]⟩) rfl rfl rfl ?_
       refine WO_op rfl rfl rfl ?_; simp only [putT,st,ev,gt,hp,ofV,constT,intT,lm]
       refine WO_nil ?_
       refine W_ret ?_
       obtain rfl := Option.some.inj H
       exact told5w rfl rfl rfl rfl (fitAs_nz rfl) rfl rfl
      ·
       replace H := fl hc H
       refine W_skip ?_
       refine W_seq (W_region ?_)
       refine WO_op (x := .ag [qi a1.Kind, qi a1.N, qs a1.S, .c (cL eS a1.Keys), .c (cL eR_Node a1.Kids)]) rfl rfl rfl ?_
       refine WO_op rfl rfl rfl ?_
       refine WO_op (x := .ag [qi x7.1.Kind, qi x7.1.N, qs x7.1.S, .row 2, .row 3]) rfl rfl rfl ?_
       refine WO_op rfl rfl rfl ?_; simp only [putT,st,ev,gt,hp,ofV,constT,intT,lm]
       obtain ⟨x27, hx27, H⟩ := bnd H
       refine WO_op (x := .ag [qi x27.Kind, qi x27.N, qs x27.S, .c (cL eS x27.Keys), .c (cL eR_Node x27.Kids)]) (σ' := ⟨[], [some [qi a1.Kind, qi a1.N, qs a1.S, .c (cL eS a1.Keys), .c (cL eR_Node a1.Kids)], some [qi a2.Kind, qi a2.N, qs a2.S, .c (cL eS a2.Keys), .c (cL eR_Node a2.Kids)], some [qi a3.Kind, qi a3.N, qs a3.S, .c (cL eS a3.Keys), .c (cL eR_Node a3.Kids)], some [qi a4.Kind, qi a4.N, qs a4.S, .c (cL eS a4.Keys), .c (cL eR_Node a4.Kids)], some [qi 0, qi 0, qs [], .nil, .nil], some [qi x6.1.Kind, qi x6.1.N, qs x6.1.S, .row 0, .row 1], some [qi x7.1.Kind, qi x7.1.N, qs x7.1.S, .row 2, .row 3], some [qi x8.1.Kind, qi x8.1.N, qs x8.1.S, .row 4, .row 5]], [rr 1 eS x6.1.Keys true, rr 5 eR_Node x6.1.Kids true, rr 1 eS x7.1.Keys false, rr 5 eR_Node x7.1.Kids false, rr 1 eS x8.1.Keys true, rr 5 eR_Node x8.1.Kids true]⟩) rfl rfl (ev_callG (al := [.ag [qi a1.Kind, qi a1.N, qs a1.S, .c (cL eS a1.Keys), .c (cL eR_Node a1.Kids)], qs a5, .ag [qi x7.1.Kind, qi x7.1.N, qs x7.1.S, .row 2, .row 3], qb x7.2]) (ls := []) (spec_l11Put_ok hx27) rfl rfl rfl rfl rfl (by decide) rfl rfl rfl rfl rfl rfl) ?_; simp only [putT,st,ev,gt,hp,ofV,constT,intT,lm]
       refine WO_op rfl rfl rfl ?_; simp only [putT,st,ev,gt,hp,ofV,constT,intT,lm]
       refine WO_op (x := .row 6) (σ' := ⟨[], [some [qi a1.Kind, qi a1.N, qs a1.S, .c (cL eS a1.Keys), .c (cL eR_Node a1.Kids)], some [qi a2.Kind, qi a2.N, qs a2.S, .c (cL eS a2.Keys), .c (cL eR_Node a2.Kids)], some [qi a3.Kind, qi a3.N, qs a3.S, .c (cL eS a3.Keys), .c (cL eR_Node a3.Kids)], some [qi a4.Kind, qi a4.N, qs a4.S, .c (cL eS a4.Keys), .c (cL eR_Node a4.Kids)], some [qi 0, qi 0, qs [], .nil, .nil], some [qi x6.1.Kind, qi x6.1.N, qs x6.1.S, .row 0, .row 1], some [qi x7.1.Kind, qi x7.1.N, qs x7.1.S, .row 2, .row 3], some [qi x8.1.Kind, qi x8.1.N, qs x8.1.S, .row 4, .row 5]], [rr 1 eS x6.1.Keys true, rr 5 eR_Node x6.1.Kids true, rr 1 eS x7.1.Keys false, rr 5 eR_Node x7.1.Kids false, rr 1 eS x8.1.Keys true, rr 5 eR_Node x8.1.Kids true, rr 1 eS ([a5] : List Str) true]⟩) rfl rfl (ev_bs ([a5] : List Str) eS rfl rfl rfl rfl) ?_; simp only [putT,st,ev,gt,hp,ofV,constT,intT,lm]
       refine WO_op (x := .no) (σ' := ⟨[], [some [qi a1.Kind, qi a1.N, qs a1.S, .c (cL eS a1.Keys), .c (cL eR_Node a1.Kids)], some [qi a2.Kind, qi a2.N, qs a2.S, .c (cL eS a2.Keys), .c (cL eR_Node a2.Kids)], some [qi a3.Kind, qi a3.N, qs a3.S, .c (cL eS a3.Keys), .c (cL eR_Node a3.Kids)], some [qi a4.Kind, qi a4.N, qs a4.S, .c (cL eS a4.Keys), .c (cL eR_Node a4.Kids)], some [qi x27.Kind, qi x27.N, qs x27.S, .c (cL eS x27.Keys), .c (cL eR_Node x27.Kids)], some [qi x6.1.Kind, qi x6.1.N, qs x6.1.S, .row 0, .row 1], some [qi x7.1.Kind, qi x7.1.N, qs x7.1.S, .row 2, .row 3], some [qi x8.1.Kind, qi x8.1.N, qs x8.1.S, .row 4, .row 5]], [rr 1 eS x6.1.Keys true, rr 5 eR_Node x6.1.Kids true, rr 1 eS x7.1.Keys false, rr 5 eR_Node x7.1.Kids false, rr 1 eS x8.1.Keys true, rr 5 eR_Node x8.1.Kids true, rr 1 eS ([a5] : List Str) true]⟩) rfl rfl rfl ?_
       refine WO_op rfl rfl rfl ?_; simp only [putT,st,ev,gt,hp,ofV,constT,intT,lm]
       refine WO_nil ?_
       refine W_ret ?_
       obtain rfl := Option.some.inj H
       exact told5w rfl rfl rfl rfl (fitAs_nz rfl) rfl rfl
  ·
   replace H := fl hc H
   refine WO_skip rfl rfl ?_
   refine WO_op (x := qb false) rfl rfl rfl ?_; simp only [putT,st,ev,gt,hp,ofV,constT,intT,lm]
   refine WO_nil ?_
   refine W_cond (t := false) rfl (fun h => by cases h) (fun _ => ?_)
   refine W_skip ?_
   refine W_seq ?_
   refine W_block ?_
   refine W_seq (W_seq (W_region ?_))
   refine WO_op (x := .ag [qi x8.1.Kind, qi x8.1.N, qs x8.1.S, .row 4, .row 5]) rfl rfl rfl ?_
   refine WO_op rfl rfl rfl ?_
   refine WO_op (x := .ag [qi x6.1.Kind, qi x6.1.N, qs x6.1.S, .row 0, .row 1]) rfl rfl rfl ?_
   refine WO_op rfl rfl rfl ?_; simp only [putT,st,ev,gt,hp,ofV,constT,intT,lm]
   obtain ⟨x28, hx28, H⟩ := bnd H
   refine WO_op (x := qb x28) (σ' := ⟨[], [some [qi a1.Kind, qi a1.N, qs a1.S, .c (cL eS a1.Keys), .c (cL eR_Node a1.Kids)], some [qi a2.Kind, qi a2.N, qs a2.S, .c (cL eS a2.Keys), .c (cL eR_Node a2.Kids)], some [qi a3.Kind, qi a3.N, qs a3.S, .c (cL eS a3.Keys), .c (cL eR_Node a3.Kids)], some [qi a4.Kind, qi a4.N, qs a4.S, .c (cL eS a4.Keys), .c (cL eR_Node a4.Kids)], some [qi 0, qi 0, qs [], .nil, .nil], some [qi x6.1.Kind, qi x6.1.N, qs x6.1.S, .row 0, .row 1], some [qi x7.1.Kind, qi x7.1.N, qs x7.1.S, .row 2, .row 3], some [qi x8.1.Kind, qi x8.1.N, qs x8.1.S, .row 4, .row 5]], [rr 1 eS x6.1.Keys true, rr 5 eR_Node x6.1.Kids true, rr 1 eS x7.1.Keys true, rr 5 eR_Node x7.1.Kids true, rr 1 eS x8.1.Keys true, rr 5 eR_Node x8.1.Kids true]⟩) rfl rfl (ev_callG (al := [.ag [qi x8.1.Kind, qi x8.1.N, qs x8.1.S, .row 4, .row 5], qb x8.2, .ag [qi x6.1.Kind, qi x6.1.N, qs x6.1.S, .row 0, .row 1], qb x6.2]) (ls := []) (spec_l11Same_ok hx28) rfl rfl rfl rfl rfl (by decide) rfl rfl rfl rfl rfl rfl) ?_; simp only [putT,st,ev,gt,hp,ofV,constT,intT,lm]
   refine WO_op rfl rfl rfl ?_; simp only [putT,st,ev,gt,hp,ofV,constT,intT,lm]
   refine WO_nil ?_
   refine W_cond rfl (fun hc => ?_) (fun hc => ?_)
   ·
    replace H := tr hc H
    refine W_skip ?_
    refine W_cond rfl (fun hc => ?_) (fun hc => ?_)
    ·
     replace H := tr hc H
     refine W_seq (W_region ?_)
     refine WO_op (x := .ag [qi a1.Kind, qi a1.N, qs a1.S, .c (cL eS a1.Keys), .c (cL eR_Node a1.Kids)]) rfl rfl rfl ?_
     refine WO_op rfl rfl rfl ?_
     refine WO_op (x := .ag [qi x7.1.Kind, qi x7.1.N, qs x7.1.S, .row 2, .row 3]) rfl rfl rfl ?_
     refine WO_op rfl rfl rfl ?_; simp only [putT,st,ev,gt,hp,ofV,constT,intT,lm]
     obtain ⟨x29, hx29, H⟩ := bnd H
     refine WO_op (x := .ag [qi x29.Kind, qi x29.N, qs x29.S, .c (cL eS x29.Keys), .c (cL eR_Node x29.Kids)]) (σ' := ⟨[], [some [qi a1.Kind, qi a1.N, qs a1.S, .c (cL eS a1.Keys), .c (cL eR_Node a1.Kids)], some [qi a2.Kind, qi a2.N, qs a2.S, .c (cL eS a2.Keys), .c (cL eR_Node a2.Kids)], some [qi a3.Kind, qi a3.N, qs a3.S, .c (cL eS a3.Keys), .c (cL eR_Node a3.Kids)], some [qi a4.Kind, qi a4.N, qs a4.S, .c (cL eS a4.Keys), .c (cL eR_Node a4.Kids)], some [qi 0, qi 0, qs [], .nil, .nil], some [qi x6.1.Kind, qi x6.1.N, qs x6.1.S, .row 0, .row 1], some [qi x7.1.Kind, qi x7.1.N, qs x7.1.S, .row 2, .row 3], some [qi x8.1.Kind, qi x8.1.N, qs x8.1.S, .row 4, .row 5]], [rr 1 eS x6.1.Keys true, rr 5 eR_Node x6.1.Kids true, rr 1 eS x7.1.Keys false, rr 5 eR_Node x7.1.Kids false, rr 1 eS x8.1.Keys true, rr 5 eR_Node x8.1.Kids true]⟩) rfl rfl (ev_callG (al := [.ag [qi a1.Kind, qi a1.N, qs a1.S, .c (cL eS a1.Keys), .c (cL eR_Node a1.Kids)], qs a5, .ag [qi x7.1.Kind, qi x7.1.N, qs x7.1.S, .row 2, .row 3], qb x7.2]) (ls := []) (spec_l11Put_ok hx29) rfl rfl rfl rfl rfl (by decide) rfl rfl rfl rfl rfl rfl) ?_; simp only [putT,st,ev,gt,hp,ofV,constT,intT,lm]
     refine WO_op (x := .row 6) (σ' := ⟨[], [some [qi a1.Kind, qi a1.N, qs a1.S, .c (cL eS a1.Keys), .c (cL eR_Node a1.Kids)], some [qi a2.Kind, qi a2.N, qs a2.S, .c (cL eS a2.Keys), .c (cL eR_Node a2.Kids)], some [qi a3.Kind, qi a3.N, qs a3.S, .c (cL eS a3.Keys), .c (cL eR_Node a3.Kids)], some [qi a4.Kind, qi a4.N, qs a4.S, .c (cL eS a4.Keys), .c (cL eR_Node a4.Kids)], some [qi 0, qi 0, qs [], .nil, .nil], some [qi x6.1.Kind, qi x6.1.N, qs x6.1.S, .row 0, .row 1], some [qi x7.1.Kind, qi x7.1.N, qs x7.1.S, .row 2, .row 3], some [qi x8.1.Kind, qi x8.1.N, qs x8.1.S, .row 4, .row 5]], [rr 1 eS x6.1.Keys true, rr 5 eR_Node x6.1.Kids true, rr 1 eS x7.1.Keys false, rr 5 eR_Node x7.1.Kids false, rr 1 eS x8.1.Keys true, rr 5 eR_Node x8.1.Kids true, rr 1 eS ([] : List Str) true]⟩) rfl rfl (ev_bs ([] : List Str) eS rfl rfl rfl rfl) ?_; simp only [putT,st,ev,gt,hp,ofV,constT,intT,lm]
     refine WO_op (x := .no) (σ' := ⟨[], [some [qi a1.Kind, qi a1.N, qs a1.S, .c (cL eS a1.Keys), .c (cL eR_Node a1.Kids)], some [qi a2.Kind, qi a2.N, qs a2.S, .c (cL eS a2.Keys), .c (cL eR_Node a2.Kids)], some [qi a3.Kind, qi a3.N, qs a3.S, .c (cL eS a3.Keys), .c (cL eR_Node a3.Kids)], some [qi a4.Kind, qi a4.N, qs a4.S, .c (cL eS a4.Keys), .c (cL eR_Node a4.Kids)], some [qi x29.Kind, qi x29.N, qs x29.S, .c (cL eS x29.Keys), .c (cL eR_Node x29.Kids)], some [qi x6.1.Kind, qi x6.1.N, qs x6.1.S, .row 0, .row 1], some [qi x7.1.Kind, qi x7.1.N, qs x7.1.S, .row 2, .row 3], some [qi x8.1.Kind, qi x8.1.N, qs x8.1.S, .row 4, .row 5]], [rr 1 eS x6.1.Keys true, rr 5 eR_Node x6.1.Kids true, rr 1 eS x7.1.Keys false, rr 5 eR_Node x7.1.Kids false, rr 1 eS x8.1.Keys true, rr 5 eR_Node x8.1.Kids true, rr 1 eS ([] : List Str) true]⟩) rfl rfl rfl ?_
     refine WO_op rfl rfl rfl ?_; simp only [putT,st,ev,gt,hp,ofV,constT,intT,lm]
     refine WO_nil ?_
     refine W_ret ?_
     obtain rfl := Option.some.inj H
     exact told5w rfl rfl rfl rfl (fitAs_nz rfl) rfl rfl
    ·
     replace H := fl hc H
     refine W_seq (W_region ?_)
     refine WO_op (x := .ag [qi x7.1.Kind, qi x7.1.N, qs x7.1.S, .row 2, .row 3]) rfl rfl rfl ?_
     refine WO_op rfl rfl rfl ?_
     refine WO_op (x := .ag [qi x6.1.Kind, qi x6.1.N, qs x6.1.S, .row 0, .row 1]) rfl rfl rfl ?_
     refine WO_op rfl rfl rfl ?_; simp only [putT,st,ev,gt,hp,ofV,constT,intT,lm]
     obtain ⟨x30, hx30, H⟩ := bnd H
     refine WO_op (x := qb x30) (σ' := ⟨[], [some [qi a1.Kind, qi a1.N, qs a1.S, .c (cL eS a1.Keys), .c (cL eR_Node a1.Kids)], some [qi a2.Kind, qi a2.N, qs a2.S, .c (cL eS a2.Keys), .c (cL eR_Node a2.Kids)], some [qi a3.Kind, qi a3.N, qs a3.S, .c (cL eS a3.Keys), .c (cL eR_Node a3.Kids)], some [qi a4.Kind, qi a4.N, qs a4.S, .c (cL eS a4.Keys), .c (cL eR_Node a4.Kids)], some [qi 0, qi 0, qs [], .nil, .nil], some [qi x6.1.Kind, qi x6.1.N, qs x6.1.S, .row 0, .row 1], some [qi x7.1.Kind, qi x7.1.N, qs x7.1.S, .row 2, .row 3], some [qi x8.1.Kind, qi x8.1.N, qs x8.1.S, .row 4, .row 5]], [rr 1 eS x6.1.Keys true, rr 5 eR_Node x6.1.Kids true, rr 1 eS x7.1.Keys true, rr 5 eR_Node x7.1.Kids true, rr 1 eS x8.1.Keys true, rr 5 eR_Node x8.1.Kids true]⟩) rfl rfl (ev_callG (al := [.ag [qi x7.1.Kind, qi x7.1.N, qs x7.1.S, .row 2, .row 3], qb x7.2, .ag [qi x6.1.Kind, qi x6.1.N, qs x6.1.S, .row 0, .row 1], qb x6.2]) (ls := []) (spec_l11Same_ok hx30) rfl rfl rfl rfl rfl (by decide) rfl rfl rfl rfl rfl rfl) ?_; simp only [putT,st,ev,gt,hp,ofV,constT,intT,lm]
     refine WO_op rfl rfl rfl ?_; simp only [putT,st,ev,gt,hp,ofV,constT,intT,lm]
     refine WO_nil ?_
     refine W_cond rfl (fun hc => ?_) (fun hc => ?_)
     ·
      replace H := tr hc H
      refine W_seq (W_region ?_)
      refine WO_op (x := .ag [qi a1.Kind, qi a1.N, qs a1.S, .c (cL eS a1.Keys), .c (cL eR_Node a1.Kids)]) rfl rfl rfl ?_
      refine WO_op rfl rfl rfl ?_
      refine WO_op (x := .ag [qi x8.1.Kind, qi x8.1.N, qs x8.1.S, .row 4, .row 5]) rfl rfl rfl ?_
      refine WO_op rfl rfl rfl ?_; simp only [putT,st,ev,gt,hp,ofV,constT,intT,lm]
      obtain ⟨x31, hx31, H⟩ := bnd H
      refine WO_op (x := .ag [qi x31.Kind, qi x31.N, qs x31.S, .c (cL eS x31.Keys), .c (cL eR_Node x31.Kids)]) (σ' := ⟨[], [some [qi a1.Kind, qi a1.N, qs a1.S, .c (cL eS a1.Keys), .c (cL eR_Node a1.Kids)], some [qi a2.Kind, qi a2.N, qs a2.S, .c (cL eS a2.Keys), .c (cL eR_Node a2.Kids)], some [qi a3.Kind, qi a3.N, qs a3.S, .c (cL eS a3.Keys), .c (cL eR_Node a3.Kids)], some [qi a4.Kind, qi a4.N, qs a4.S, .c (cL eS a4.Keys), .c (cL eR_Node a4.Kids)], some [qi 0, qi 0, qs [], .nil, .nil], some [qi x6.1.Kind, qi x6.1.N, qs x6.1.S, .row 0, .row 1], some [qi x7.1.Kind, qi x7.1.N, qs x7.1.S, .row 2, .row 3], some [qi x8.1.Kind, qi x8.1.N, qs x8.1.S, .row 4, .row 5]], [rr 1 eS x6.1.Keys true, rr 5 eR_Node x6.1.Kids true, rr 1 eS x7.1.Keys true, rr 5 eR_Node x7.1.Kids true, rr 1 eS x8.1.Keys false, rr 5 eR_Node x8.1.Kids false]⟩) rfl rfl (ev_callG (al := [.ag [qi a1.Kind, qi a1.N, qs a1.S, .c (cL eS a1.Keys), .c (cL eR_Node a1.Kids)], qs a5, .ag [qi x8.1.Kind, qi x8.1.N, qs x8.1.S, .row 4, .row 5], qb x8.2]) (ls := []) (spec_l11Put_ok hx31) rfl rfl rfl rfl rfl (by decide) rfl rfl rfl rfl rfl rfl) ?_; simp only [putT,st,ev,gt,hp,ofV,constT,intT,lm]
      refine WO_op (x := .row 6) (σ' := ⟨[], [some [qi a1.Kind, qi a1.N, qs a1.S, .c (cL eS a1.Keys), .c (cL eR_Node a1.Kids)], some [qi a2.Kind, qi a2.N, qs a2.S, .c (cL eS a2.Keys), .c (cL eR_Node a2.Kids)], some [qi a3.Kind, qi a3.N, qs a3.S, .c (cL eS a3.Keys), .c (cL eR_Node a3.Kids)], some [qi a4.Kind, qi a4.N, qs a4.S, .c (cL eS a4.Keys), .c (cL eR_Node a4.Kids)], some [qi 0, qi 0, qs [], .nil, .nil], some [qi x6.1.Kind, qi x6.1.N, qs x6.1.S, .row 0, .row 1], some [qi x7.1.Kind, qi x7.1.N, qs x7.1.S, .row 2, .row 3], some [qi x8.1.Kind, qi x8.1.N, qs x8.1.S, .row 4, .row 5]], [rr 1 eS x6.1.Keys true, rr 5 eR_Node x6.1.Kids true, rr 1 eS x7.1.Keys true, rr 5 eR_Node x7.1.Kids true, rr 1 eS x8.1.Keys false, rr 5 eR_Node x8.1.Kids false, rr 1 eS ([] : List Str) true]⟩) rfl rfl (ev_bs ([] : List Str) eS rfl rfl rfl rfl) ?_; simp only [putT,st,ev,gt,hp,ofV,constT,intT,lm]
      refine WO_op (x := .no) (σ' := ⟨[], [some [qi a1.Kind, qi a1.N, qs a1.S, .c (cL eS a1.Keys), .c (cL eR_Node a1.Kids)], some [qi a2.Kind, qi a2.N, qs a2.S, .c (cL eS a2.Keys), .c (cL eR_Node a2.Kids)], some [qi a3.Kind, qi a3.N, qs a3.S, .c (cL eS a3.Keys), .c (cL eR_Node a3.Kids)], some [qi a4.Kind, qi a4.N, qs a4.S, .c (cL eS a4.Keys), .c (cL eR_Node a4.Kids)], some [qi x31.Kind, qi x31.N, qs x31.S, .c (cL eS x31.Keys), .c (cL eR_Node x31.Kids)], some [qi x6.1.Kind, qi x6.1.N, qs x6.1.S, .row 0, .row 1], some [qi x7.1.Kind, qi x7.1.N, qs x7.1.S, .row 2, .row 3], some [qi x8.1.Kind, qi x8.1.N, qs x8.1.S, .row 4, .row 5]], [rr 1 eS x6.1.Keys true, rr 5 eR_Node x6.1.Kids true, rr 1 eS x7.1.Keys true, rr 5 eR_Node x7.1.Kids true, rr 1 eS x8.1.Keys false, rr 5 eR_Node x8.1.Kids false, rr 1 eS ([] : List Str) true]⟩) rfl rfl rfl ?_
      refine WO_op rfl rfl rfl ?_; simp only [putT,st,ev,gt,hp,ofV,constT,intT,lm]
      refine WO_nil ?_
      refine W_ret ?_
      obtain rfl := Option.some.inj H
      exact told5w rfl rfl rfl rfl (fitAs_nz rfl) rfl rfl
     ·
      replace H := fl hc H
      refine W_skip ?_
      refine W_seq (W_region ?_)
      refine WO_op (x := .ag [qi a1.Kind, qi a1.N, qs a1.S, .c (cL eS a1.Keys), .c (cL eR_Node a1.Kids)]) rfl rfl rfl ?_
      refine WO_op rfl rfl rfl ?_
      refine WO_op (x := .ag [qi x7.1.Kind, qi x7.1.N, qs x7.1.S, .row 2, .row 3]) rfl rfl rfl ?_
      refine WO_op rfl rfl rfl ?_; simp only [putT,st,ev,gt,hp,ofV,constT,intT,lm]
      obtain ⟨x32, hx32, H⟩ := bnd H
      refine WO_op (x := .ag [qi x32.Kind, qi x32.N, qs x32.S, .c (cL eS x32.Keys), .c (cL eR_Node x32.Kids)]) (σ' := ⟨[], [some [qi a1.Kind, qi a1.N, qs a1.S, .c (cL eS a1.Keys), .c (cL eR_Node a1.Kids)], some [qi a2.Kind, qi a2.N, qs a2.S, .c (cL eS a2.Keys), .c (cL eR_Node a2.Kids)], some [qi a3.Kind, qi a3.N, qs a3.S, .c (cL eS a3.Keys), .c (cL eR_Node a3.Kids)], some [qi a4.Kind, qi a4.N, qs a4.S, .c (cL eS a4.Keys), .c (cL eR_Node a4.Kids)], some [qi 0, qi 0, qs [], .nil, .nil], some [qi x6.1.Kind, qi x6.1.N, qs x6.1.S, .row 0, .row 1], some [qi x7.1.Kind, qi x7.1.N, qs x7.1.S, .row 2, .row 3], some [qi x8.1.Kind, qi x8.1.N, qs x8.1.S, .row 4, .row 5]], [rr 1 eS x6.1.Keys true, rr 5 eR_Node x6.1.Kids true, rr 1 eS x7.1.Keys false, rr 5 eR_Node x7.1.Kids false, rr 1 eS x8.1.Keys true, rr 5 eR_Node x8.1.Kids true]⟩) rfl rfl (ev_callG (al := [.ag [qi a1.Kind, qi a1.N, qs a1.S, .c (cL eS a1.Keys), .c (cL eR_Node a1.Kids)], qs a5, .ag [qi x7.1.Kind, qi x7.1.N, qs x7.1.S, .row 2, .row 3], qb x7.2]) (ls := []) (spec_l11Put_ok hx32) rfl rfl rfl rfl rfl (by decide) rfl rfl rfl rfl rfl rfl) ?_; simp only [putT,st,ev,gt,hp,ofV,constT,intT,lm]
      refine WO_op rfl rfl rfl ?_; simp only [putT,st,ev,gt,hp,ofV,constT,intT,lm]
      refine WO_op (x := .row 6) (σ' := ⟨[], [some [qi a1.Kind, qi a1.N, qs a1.S, .c (cL eS a1.Keys), .c (cL eR_Node a1.Kids)], some [qi a2.Kind, qi a2.N, qs a2.S, .c (cL eS a2.Keys), .c (cL eR_Node a2.Kids)], some [qi a3.Kind, qi a3.N, qs a3.S, .c (cL eS a3.Keys), .c (cL eR_Node a3.Kids)], some [qi a4.Kind, qi a4.N, qs a4.S, .c (cL eS a4.Keys), .c (cL eR_Node a4.Kids)], some [qi 0, qi 0, qs [], .nil, .nil], some [qi x6.1.Kind, qi x6.1.N, qs x6.1.S, .row 0, .row 1], some [qi x7.1.Kind, qi x7.1.N, qs x7.1.S, .row 2, .row 3], some [qi x8.1.Kind, qi x8.1.N, qs x8.1.S, .row 4, .row 5]], [rr 1 eS x6.1.Keys true, rr 5 eR_Node x6.1.Kids true, rr 1 eS x7.1.Keys false, rr 5 eR_Node x7.1.Kids false, rr 1 eS x8.1.Keys true, rr 5 eR_Node x8.1.Kids true, rr 1 eS ([a5] : List Str) true]⟩) rfl rfl (ev_bs ([a5] : List Str) eS rfl rfl rfl rfl) ?_; simp only [putT,st,ev,gt,hp,ofV,constT,intT,lm]
      refine WO_op (x := .no) (σ' := ⟨[], [some [qi a1.Kind, qi a1.N, qs a1.S, .c (cL eS a1.Keys), .c (cL eR_Node a1.Kids)], some [qi a2.Kind, qi a2.N, qs a2.S, .c (cL eS a2.Keys), .c (cL eR_Node a2.Kids)], some [qi a3.Kind, qi a3.N, qs a3.S, .c (cL eS a3.Keys), .c (cL eR_Node a3.Kids)], some [qi a4.Kind, qi a4.N, qs a4.S, .c (cL eS a4.Keys), .c (cL eR_Node a4.Kids)], some [qi x32.Kind, qi x32.N, qs x32.S, .c (cL eS x32.Keys), .c (cL eR_Node x32.Kids)], some [qi x6.1.Kind, qi x6.1.N, qs x6.1.S, .row 0, .row 1], some [qi x7.1.Kind, qi x7.1.N, qs x7.1.S, .row 2, .row 3], some [qi x8.1.Kind, qi x8.1.N, qs x8.1.S, .row 4, .row 5]], [rr 1 eS x6.1.Keys true, rr 5 eR_Node x6.1.Kids true, rr 1 eS x7.1.Keys false, rr 5 eR_Node x7.1.Kids false, rr 1 eS x8.1.Keys true, rr 5 eR_Node x8.1.Kids true, rr 1 eS ([a5] : List Str) true]⟩) rfl rfl rfl ?_
      refine WO_op rfl rfl rfl ?_; simp only [putT,st,ev,gt,hp,ofV,constT,intT,lm]
      refine WO_nil ?_
      refine W_ret ?_
      obtain rfl := Option.some.inj H
      exact told5w rfl rfl rfl rfl (fitAs_nz rfl) rfl rfl
   ·
    replace H := fl hc H
    refine W_region ?_
    refine WO_op (x := .ag [qi x7.1.Kind, qi x7.1.N, qs x7.1.S, .row 2, .row 3]) rfl rfl rfl ?_
    refine WO_op rfl rfl rfl ?_
    refine WO_op (x := .ag [qi x8.1.Kind, qi x8.1.N, qs x8.1.S, .row 4, .row 5]) rfl rfl rfl ?_
    refine WO_op rfl rfl rfl ?_; simp only [putT,st,ev,gt,hp,ofV,constT,intT,lm]
    obtain ⟨x33, hx33, H⟩ := bnd H
    refine WO_op (x := qb x33) (σ' := ⟨[], [some [qi a1.Kind, qi a1.N, qs a1.S, .c (cL eS a1.Keys), .c (cL eR_Node a1.Kids)], some [qi a2.Kind, qi a2.N, qs a2.S, .c (cL eS a2.Keys), .c (cL eR_Node a2.Kids)], some [qi a3.Kind, qi a3.N, qs a3.S, .c (cL eS a3.Keys), .c (cL eR_Node a3.Kids)], some [qi a4.Kind, qi a4.N, qs a4.S, .c (cL eS a4.Keys), .c (cL eR_Node a4.Kids)], some [qi 0, qi 0, qs [], .nil, .nil], some [qi x6.1.Kind, qi x6.1.N, qs x6.1.S, .row 0, .row 1], some [qi x7.1.Kind, qi x7.1.N, qs x7.1.S, .row 2, .row 3], some [qi x8.1.Kind, qi x8.1.N, qs x8.1.S, .row 4, .row 5]], [rr 1 eS x6.1.Keys true, rr 5 eR_Node x6.1.Kids true, rr 1 eS x7.1.Keys true, rr 5 eR_Node x7.1.Kids true, rr 1 eS x8.1.Keys true, rr 5 eR_Node x8.1.Kids true]⟩) rfl rfl (ev_callG (al := [.ag [qi x7.1.Kind, qi x7.1.N, qs x7.1.S, .row 2, .row 3], qb x7.2, .ag [qi x8.1.Kind, qi x8.1.N, qs x8.1.S, .row 4, .row 5], qb x8.2]) (ls := []) (spec_l11Same_ok hx33) rfl rfl rfl rfl rfl (by decide) rfl rfl rfl rfl rfl rfl) ?_; simp only [putT,st,ev,gt,hp,ofV,constT,intT,lm]
    refine WO_op rfl rfl rfl ?_; simp only [putT,st,ev,gt,hp,ofV,constT,intT,lm]
    refine WO_nil ?_
    refine W_cond rfl (fun hc => ?_) (fun hc => ?_)
    ·
     replace H := tr hc H
     refine W_seq (W_region ?_)
     refine WO_op (x := .ag [qi a1.Kind, qi a1.N, qs a1.S, .c (cL eS a1.Keys), .c (cL eR_Node a1.Kids)]) rfl rfl rfl ?_
     refine WO_op rfl rfl rfl ?_
     refine WO_op (x := .ag [qi x7.1.Kind, qi x7.1.N, qs x7.1.S, .row 2, .row 3]) rfl rfl rfl ?_
     refine WO_op rfl rfl rfl ?_; simp only [putT,st,ev,gt,hp,ofV,constT,intT,lm]
     obtain ⟨x34, hx34, H⟩ := bnd H
     refine WO_op (x := .ag [qi x34.Kind, qi x34.N, qs x34.S, .c (cL eS x34.Keys), .c (cL eR_Node x34.Kids)]) (σ' := ⟨[], [some [qi a1.Kind, qi a1.N, qs a1.S, .c (cL eS a1.Keys), .c (cL eR_Node a1.Kids)], some [qi a2.Kind, qi a2.N, qs a2.S, .c (cL eS a2.Keys), .c (cL eR_Node a2.Kids)], some [qi a3.Kind, qi a3.N, qs a3.S, .c (cL eS a3.Keys), .c (cL eR_Node a3.Kids)], some [qi a4.Kind, qi a4.N, qs a4.S, .c (cL eS a4.Keys), .c (cL eR_Node a4.Kids)], some [qi 0, qi 0, qs [], .nil, .nil], some [qi x6.1.Kind, qi x6.1.N, qs x6.1.S, .row 0, .row 1], some [qi x7.1.Kind, qi x7.1.N, qs x7.1.S, .row 2, .row 3], some [qi x8.1.Kind, qi x8.1.N, qs x8.1.S, .row 4, .row 5]], [rr 1 eS x6.1.Keys true, rr 5 eR_Node x6.1.Kids true, rr 1 eS x7.1.Keys false, rr 5 eR_Node x7.1.Kids false, rr 1 eS x8.1.Keys true, rr 5 eR_Node x8.1.Kids true]⟩) rfl rfl (ev_callG (al := [.ag [qi a1.Kind, qi a1.N, qs a1.S, .c (cL eS a1.Keys), .c (cL eR_Node a1.Kids)], qs a5, .ag [qi x7.1.Kind, qi x7.1.N, qs x7.1.S, .row 2, .row 3], qb x7.2]) (ls := []) (spec_l11Put_ok hx34) rfl rfl rfl rfl rfl (by decide) rfl rfl rfl rfl rfl rfl) ?_; simp only [putT,st,ev,gt,hp,ofV,constT,intT,lm]
     refine WO_op (x := .row 6) (σ' := ⟨[], [some [qi a1.Kind, qi a1.N, qs a1.S, .c (cL eS a1.Keys), .c (cL eR_Node a1.Kids)], some [qi a2.Kind, qi a2.N, qs a2.S, .c (cL eS a2.Keys), .c (cL eR_Node a2.Kids)], some [qi a3.Kind, qi a3.N, qs a3.S, .c (cL eS a3.Keys), .c (cL eR_Node a3.Kids)], some [qi a4.Kind, qi a4.N, qs a4.S, .c (cL eS a4.Keys), .c (cL eR_Node a4.Kids)], some [qi 0, qi 0, qs [], .nil, .nil], some [qi x6.1.Kind, qi x6.1.N, qs x6.1.S, .row 0, .row 1], some [qi x7.1.Kind, qi x7.1.N, qs x7.1.S, .row 2, .row 3], some [qi x8.1.Kind, qi x8.1.N, qs x8.1.S, .row 4, .row 5]], [rr 1 eS x6.1.Keys true, rr 5 eR_Node x6.1.Kids true, rr 1 eS x7.1.Keys false, rr 5 eR_Node x7.1.Kids false, rr 1 eS x8.1.Keys true, rr 5 eR_Node x8.1.Kids true, rr 1 eS ([] : List Str) true]⟩) rfl rfl (ev_bs ([] : List Str) eS rfl rfl rfl rfl) ?_; simp only [putT,st,ev,gt,hp,ofV,constT,intT,lm]
     refine WO_op (x := .no) (σ' := ⟨[], [some [qi a1.Kind, qi a1.N, qs a1.S, .c (cL eS a1.Keys), .c (cL eR_Node a1.Kids)], some [qi a2.Kind, qi a2.N, qs a2.S, .c (cL eS a2.Keys), .c (cL eR_Node a2.Kids)], some [qi a3.Kind, qi a3.N, qs a3.S, .c (cL eS a3.Keys), .c (cL eR_Node a3.Kids)], some [qi a4.Kind, qi a4.N, qs a4.S, .c (cL eS a4.Keys), .c (cL eR_Node a4.Kids)], some [qi x34.Kind, qi x34.N, qs x34.S, .c (cL eS x34.Keys), .c (cL eR_Node x34.Kids)], some [qi x6.1.Kind, qi x6.1.N, qs x6.1.S, .row 0, .row 1], some [qi x7.1.Kind, qi x7.1.N, qs x7.1.S, .row 2, .row 3], some [qi x8.1.Kind, qi x8.1.N, qs x8.1.S, .row 4, .row 5]], [rr 1 eS x6.1.Keys true, rr 5 eR_Node x6.1.Kids true, rr 1 eS x7.1.Keys false, rr 5 eR_Node x7.1.Kids false, rr 1 eS x8.1.Keys true, rr 5 eR_Node x8.1.Kids true, rr 1 eS ([] : List Str) true]⟩) rfl rfl rfl ?_
     refine WO_op rfl rfl rfl ?_; simp only [putT,st,ev,gt,hp,ofV,constT,intT,lm]
     refine WO_nil ?_
     refine W_ret ?_
     obtain rfl := Option.some.inj H
     exact told5w rfl rfl rfl rfl (fitAs_nz rfl) rfl rfl
    ·
     replace H := fl hc H
     refine W_seq (W_region ?_)
     refine WO_op (x := .ag [qi x7.1.Kind, qi x7.1.N, qs x7.1.S, .row 2, .row 3]) rfl rfl rfl ?_
     refine WO_op rfl rfl rfl ?_
     refine WO_op (x := .ag [qi x6.1.Kind, qi x6.1.N, qs x6.1.S, .row 0, .row 1]) rfl rfl rfl ?_
     refine WO_op rfl rfl rfl ?_; simp only [putT,st,ev,gt,hp,ofV,constT,intT,lm]
     obtain ⟨x35, hx35, H⟩ := bnd H
     refine WO_op (x := qb x35) (σ' := ⟨[], [some [qi a1.Kind, qi a1.N, qs a1.S, .c (cL eS a1.Keys), .c (cL eR_Node a1.Kids)], some [qi a2.Kind, qi a2.N, qs a2.S, .c (cL eS a2.Keys), .c (cL eR_Node a2.Kids)], some [qi a3.Kind, qi a3.N, qs a3.S, .c (cL eS a3.Keys), .c (cL eR_Node a3.Kids)], some [qi a4.Kind, qi a4.N, qs a4.S, .c (cL eS a4.Keys), .c (cL eR_Node a4.Kids)], some [qi 0, qi 0, qs [], .nil, .nil], some [qi x6.1.Kind, qi x6.1.N, qs x6.1.S, .row 0, .row 1], some [qi x7.1.Kind, qi x7.1.N, qs x7.1.S, .row 2, .row 3], some [qi x8.1.Kind, qi x8.1.N, qs x8.1.S, .row 4, .row 5]], [rr 1 eS x6.1.Keys true, rr 5 eR_Node x6.1.Kids true, rr 1 eS x7.1.Keys true, rr 5 eR_Node x7.1.Kids true, rr 1 eS x8.1.Keys true, rr 5 eR_Node x8.1.Kids true]⟩) rfl rfl (ev_callG (al := [.ag [qi x7.1.Kind, qi x7.1.N, qs x7.1.S, .row 2, .row 3], qb x7.2, .ag [qi x6.1.Kind, qi x6.1.N, qs x6.1.S, .row 0, .row 1], qb x6.2]) (ls := []) (spec_l11Same_ok hx35) rfl rfl rfl rfl rfl (by decide) rfl rfl rfl rfl rfl rfl) ?_; simp only [putT,st,ev,gt,hp,ofV,constT,intT,lm]
     refine WO_op rfl rfl rfl ?_; simp only [putT,st,ev,gt,hp,ofV,constT,intT,lm]
     refine WO_nil ?_
     refine W_cond rfl (fun hc => ?_) (fun hc => ?_)
     ·
      replace H := tr hc H
      refine W_seq (W_region ?_)
      refine WO_op (x := .ag [qi a1.Kind, qi a1.N, qs a1.S, .c (cL eS a1.Keys), .c (cL eR_Node a1.Kids)]) rfl rfl rfl ?_
      refine WO_op rfl rfl rfl ?_
      refine WO_op (x := .ag [qi x8.1.Kind, qi x8.1.N, qs x8.1.S, .row 4, .row 5]) rfl rfl rfl ?_
      refine WO_op rfl rfl rfl ?_; simp only [putT,st,ev,gt,hp,ofV,constT,intT,lm]
      obtain ⟨x36, hx36, H⟩ := bnd H
      refine WO_op (x := .ag [qi x36.Kind, qi x36.N, qs x36.S, .c (cL eS x36.Keys), .c (cL eR_Node x36.Kids)]) (σ' := ⟨[], [some [qi a1.Kind, qi a1.N, qs a1.S, .c (cL eS a1.Keys), .c (cL eR_Node a1.Kids)], some [qi a2.Kind, qi a2.N, qs a2.S, .c (cL eS a2.Keys), .c (cL eR_Node a2.Kids)], some [qi a3.Kind, qi a3.N, qs a3.S, .c (cL eS a3.Keys), .c (cL eR_Node a3.Kids)], some [qi a4.Kind, qi a4.N, qs a4.S, .c (cL eS a4.Keys), .c (cL eR_Node a4.Kids)], some [qi 0, qi 0, qs [], .nil, .nil], some [qi x6.1.Kind, qi x6.1.N, qs x6.1.S, .row 0, .row 1], some [qi x7.1.Kind, qi x7.1.N, qs x7.1.S, .row 2, .row 3], some [qi x8.1.Kind, qi x8.1.N, qs x8.1.S, .row 4, .row 5]], [rr 1 eS x6.1.Keys true, rr 5 eR_Node x6.1.Kids true, rr 1 eS x7.1.Keys true, rr 5 eR_Node x7.1.Kids true, rr 1 eS x8.1.Keys false, rr 5 eR_Node x8.1.Kids false]⟩) rfl rfl (ev_callG (al := [.ag [qi a1.Kind, qi a1.N, qs a1.S, .c (cL eS a1.Keys), .c (cL eR_Node a1.Kids)], qs a5, .ag [qi x8.1.Kind, qi x8.1.N, qs x8.1.S, .row 4, .row 5], qb x8.2]) (ls := []) (spec_l11Put_ok hx36) rfl rfl rfl rfl rfl (by decide) rfl rfl rfl rfl rfl rfl) ?_; simp only [putT,st,ev,gt,hp,ofV,constT,intT,lm]
      refine WO_op (x := .row 6) (σ' := ⟨[], [some [qi a1.Kind, qi a1.N, qs a1.S, .c (cL eS a1.Keys), .c (cL eR_Node a1.Kids)], some [qi a2.Kind, qi a2.N, qs a2.S, .c (cL eS a2.Keys), .c (cL eR_Node a2.Kids)], some [qi a3.Kind, qi a3.N, qs a3.S, .c (cL eS a3.Keys), .c (cL eR_Node a3.Kids)], some [qi a4.Kind, qi a4.N, qs a4.S, .c (cL eS a4.Keys), .c (cL eR_Node a4.Kids)], some [qi 0, qi 0, qs [], .nil, .nil], some [qi x6.1.Kind, qi x6.1.N, qs x6.1.S, .row 0, .row 1], some [qi x7.1.Kind, qi x7.1.N, qs x7.1.S, .row 2, .row 3], some [qi x8.1.Kind, qi x8.1.N, qs x8.1.S, .row 4, .row 5]], [rr 1 eS x6.1.Keys true, rr 5 eR_Node x6.1.Kids true, rr 1 eS x7.1.Keys true, rr 5 eR_Node x7.1.Kids true, rr 1 eS x8.1.Keys false, rr 5 eR_Node x8.1.Kids false, rr 1 eS ([] : List Str) true]⟩) rfl rfl (ev_bs ([] : List Str) eS rfl rfl rfl rfl) ?_; simp only [putT,st,ev,gt,hp,ofV,constT,intT,lm]
      refine WO_op (x := .no) (σ' := ⟨[], [some [qi a1.Kind, qi a1.N, qs a1.S, .c (cL eS a1.Keys), .c (cL eR_Node a1.Kids)], some [qi a2.Kind, qi a2.N, qs a2.S, .c (cL eS a2.Keys), .c (cL eR_Node a2.Kids)], some [qi a3.Kind, qi a3.N, qs a3.S, .c (cL eS a3.Keys), .c (cL eR_Node a3.Kids)], some [qi a4.Kind, qi a4.N, qs a4.S, .c (cL eS a4.Keys), .c (cL eR_Node a4.Kids)], some [qi x36.Kind, qi x36.N, qs x36.S, .c (cL eS x36.Keys), .c (cL eR_Node x36.Kids)], some [qi x6.1.Kind, qi x6.1.N, qs x6.1.S, .row 0, .row 1], some [qi x7.1.Kind, qi x7.1.N, qs x7.1.S, .row 2, .row 3], some [qi x8.1.Kind, qi x8.1.N, qs x8.1.S, .row 4, .row 5]], [rr 1 eS x6.1.Keys true, rr 5 eR_Node x6.1.Kids true, rr 1 eS x7.1.Keys true, rr 5 eR_Node x7.1.Kids true, rr 1 eS x8.1.Keys false, rr 5 eR_Node x8.1.Kids false, rr 1 eS ([] : List Str) true]⟩) rfl rfl rfl ?_
      refine WO_op rfl rfl rfl ?_; simp only [putT,st,ev,gt,hp,ofV,constT,intT,lm]
      refine WO_nil ?_
      refine W_ret ?_
      obtain rfl := Option.some.inj H
      exact told5w rfl rfl rfl rfl (fitAs_nz rfl) rfl rfl
     ·
      replace H := fl hc H
      refine W_skip ?_
      refine W_seq (W_region ?_)
      refine WO_op (x := .ag [qi a1.Kind, qi a1.N, qs a1.S, .c (cL eS a1.Keys), .c (cL eR_Node a1.Kids)]) rfl rfl rfl ?_
      refine WO_op rfl rfl rfl ?_
      refine WO_op (x := .ag [qi x7.1.Kind, qi x7.1.N, qs x7.1.S, .row 2, .row 3]) rfl rfl rfl ?_
      refine WO_op rfl rfl rfl ?_; simp only [putT,st,ev,gt,hp,ofV,constT,intT,lm]
      obtain ⟨x37, hx37, H⟩ := bnd H
      refine WO_op (x := .ag [qi x37.Kind, qi x37.N, qs x37.S, .c (cL eS x37.Keys), .c (cL eR_Node x37.Kids)]) (σ' := ⟨[], [some [qi a1.Kind, qi a1.N, qs a1.S, .c (cL eS a1.Keys), .c (cL eR_Node a1.Kids)], some [qi a2.Kind, qi a2.N, qs a2.S, .c (cL eS a2.Keys), .c (cL eR_Node a2.Kids)], some [qi a3.Kind, qi a3.N, qs a3.S, .c (cL eS a3.Keys), .c (cL eR_Node a3.Kids)], some [qi a4.Kind, qi a4.N, qs a4.S, .c (cL eS a4.Keys), .c (cL eR_Node a4.Kids)], some [qi 0, qi 0, qs [], .nil, .nil], some [qi x6.1.Kind, qi x6.1.N, qs x6.1.S, .row 0, .row 1], some [qi x7.1.Kind, qi x7.1.N, qs x7.1.S, .row 2, .row 3], some [qi x8.1.Kind, qi x8.1.N, qs x8.1.S, .row 4, .row 5]], [rr 1 eS x6.1.Keys true, rr 5 eR_Node x6.1.Kids true, rr 1 eS x7.1.Keys false, rr 5 eR_Node x7.1.Kids false, rr 1 eS x8.1.Keys true, rr 5 eR_Node x8.1.Kids true]⟩) rfl rfl (ev_callG (al := [.ag [qi a1.Kind, qi a1.N, qs a1.S, .c (cL eS a1.Keys), .c (cL eR_Node a1.Kids)], qs a5, .ag [qi x7.1.Kind, qi x7.1.N, qs x7.1.S, .row 2, .row 3], qb x7.2]) (ls := []) (spec_l11Put_ok hx37) rfl rfl rfl rfl rfl (by decide) rfl rfl rfl rfl rfl rfl) ?_; simp only [putT,st,ev,gt,hp,ofV,constT,intT,lm]
      refine WO_op rfl rfl rfl ?_; simp only [putT,st,ev,gt,hp,ofV,constT,intT,lm]
      refine WO_op (x := .row 6) (σ' := ⟨[], [some [qi a1.Kind, qi a1.N, qs a1.S, .c (cL eS a1.Keys), .c (cL eR_Node a1.Kids)], some [qi a2.Kind, qi a2.N, qs a2.S, .c (cL eS a2.Keys), .c (cL eR_Node a2.Kids)], some [qi a3.Kind, qi a3.N, qs a3.S, .c (cL eS a3.Keys), .c (cL eR_Node a3.Kids)], some [qi a4.Kind, qi a4.N, qs a4.S, .c (cL eS a4.Keys), .c (cL eR_Node a4.Kids)], some [qi 0, qi 0, qs [], .nil, .nil], some [qi x6.1.Kind, qi x6.1.N, qs x6.1.S, .row 0, .row 1], some [qi x7.1.Kind, qi x7.1.N, qs x7.1.S, .row 2, .row 3], some [qi x8.1.Kind, qi x8.1.N, qs x8.1.S, .row 4, .row 5]], [rr 1 eS x6.1.Keys true, rr 5 eR_Node x6.1.Kids true, rr 1 eS x7.1.Keys false, rr 5 eR_Node x7.1.Kids false, rr 1 eS x8.1.Keys true, rr 5 eR_Node x8.1.Kids true, rr 1 eS ([a5] : List Str) true]⟩) rfl rfl (ev_bs ([a5] : List Str) eS rfl rfl rfl rfl) ?_; simp only [putT,st,ev,gt,hp,ofV,constT,intT,lm]
      refine WO_op (x := .no) (σ' := ⟨[], [some [qi a1.Kind, qi a1.N, qs a1.S, .c (cL eS a1.Keys), .c (cL eR_Node a1.Kids)], some [qi a2.Kind, qi a2.N, qs a2.S, .c (cL eS a2.Keys), .c (cL eR_Node a2.Kids)], some [qi a3.Kind, qi a3.N, qs a3.S, .c (cL eS a3.Keys), .c (cL eR_Node a3.Kids)], some [qi a4.Kind, qi a4.N, qs a4.S, .c (cL eS a4.Keys), .c (cL eR_Node a4.Kids)], some [qi x37.Kind, qi x37.N, qs x37.S, .c (cL eS x37.Keys), .c (cL eR_Node x37.Kids)], some [qi x6.1.Kind, qi x6.1.N, qs x6.1.S, .row 0, .row 1], some [qi x7.1.Kind, qi x7.1.N, qs x7.1.S, .row 2, .row 3], some [qi x8.1.Kind, qi x8.1.N, qs x8.1.S, .row 4, .row 5]], [rr 1 eS x6.1.Keys true, rr 5 eR_Node x6.1.Kids true, rr 1 eS x7.1.Keys false, rr 5 eR_Node x7.1.Kids false, rr 1 eS x8.1.Keys true, rr 5 eR_Node x8.1.Kids true, rr 1 eS ([a5] : List Str) true]⟩) rfl rfl rfl ?_
      refine WO_op rfl rfl rfl ?_; simp only [putT,st,ev,gt,hp,ofV,constT,intT,lm]
      refine WO_nil ?_
      refine W_ret ?_
      obtain rfl := Option.some.inj H
      exact told5w rfl rfl rfl rfl (fitAs_nz rfl) rfl rfl
 ·
  replace H := fl hc H
  refine WO_skip rfl rfl ?_
  refine WO_op (x := qb false) rfl rfl rfl ?_
  refine WO_op rfl rfl rfl ?_; simp only [putT,st,ev,gt,hp,ofV,constT,intT,lm]
  refine WO_skip rfl rfl ?_
  refine WO_op (x := qb false) rfl rfl rfl ?_; simp only [putT,st,ev,gt,hp,ofV,constT,intT,lm]
  refine WO_nil ?_
  refine W_cond (t := false) rfl (fun h => by cases h) (fun _ => ?_)
  refine W_skip ?_
  refine W_seq ?_
  refine W_block ?_
  refine W_seq (W_seq (W_region ?_))
  refine WO_op (x := .ag [qi x8.1.Kind, qi x8.1.N, qs x8.1.S, .row 4, .row 5]) rfl rfl rfl ?_
  refine WO_op rfl rfl rfl ?_
  refine WO_op (x := .ag [qi x6.1.Kind, qi x6.1.N, qs x6.1.S, .row 0, .row 1]) rfl rfl rfl ?_
  refine WO_op rfl rfl rfl ?_; simp only [putT,st,ev,gt,hp,ofV,constT,intT,lm]
  obtain ⟨x38, hx38, H⟩ := bnd H
  refine WO_op (x := qb x38) (σ' := ⟨[], [some [qi a1.Kind, qi a1.N, qs a1.S, .c (cL eS a1.Keys), .c (cL eR_Node a1.Kids)], some [qi a2.Kind, qi a2.N, qs a2.S, .c (cL eS a2.Keys), .c (cL eR_Node a2.Kids)], some [qi a3.Kind, qi a3.N, qs a3.S, .c (cL eS a3.Keys), .c (cL eR_Node a3.Kids)], some [qi a4.Kind, qi a4.N, qs a4.S, .c (cL eS a4.Keys), .c (cL eR_Node a4.Kids)], some [qi 0, qi 0, qs [], .nil, .nil], some [qi x6.1.Kind, qi x6.1.N, qs x6.1.S, .row 0, .row 1], some [qi x7.1.Kind, qi x7.1.N, qs x7.1.S, .row 2, .row 3], some [qi x8.1.Kind, qi x8.1.N, qs x8.1.S, .row 4, .row 5]], [rr 1 eS x6.1.Keys true, rr 5 eR_Node x6.1.Kids true, rr 1 eS x7.1.Keys true, rr 5 eR_Node x7.1.Kids true, rr 1 eS x8.1.Keys true, rr 5 eR_Node x8.1.Kids true]⟩) rfl rfl (ev_callG (al := [.ag [qi x8.1.Kind, qi x8.1.N, qs x8.1.S, .row 4, .row 5], qb x8.2, .ag [qi x6.1.Kind, qi x6.1.N, qs x6.1.S, .row 0, .row 1], qb x6.2]) (ls := []) (spec_l11Same_ok hx38) rfl rfl rfl rfl rfl (by decide) rfl rfl rfl rfl rfl rfl) ?_; simp only [putT,st,ev,gt,hp,ofV,constT,intT,lm]
  refine WO_op rfl rfl rfl ?_; simp only [putT,st,ev,gt,hp,ofV,constT,intT,lm]
  refine WO_nil ?_
  refine W_cond rfl (fun hc => ?_) (fun hc => ?_)
  ·
   replace H := tr hc H
   refine W_skip ?_
   refine W_cond rfl (fun hc => ?_) (fun hc => ?_)
   ·
    replace H := tr hc H
    refine W_seq (W_region ?_)
    refine WO_op (x := .ag [qi a1.Kind, qi a1.N, qs a1.S, .c (cL eS a1.Keys), .c (cL eR_Node a1.Kids)]) rfl rfl rfl ?_
    refine WO_op rfl rfl rfl ?_
    refine WO_op (x := .ag [qi x7.1.Kind, qi x7.1.N, qs x7.1.S, .row 2, .row 3]) rfl rfl rfl ?_
    refine WO_op rfl rfl rfl ?_; simp only [putT,st,ev,gt,hp,ofV,constT,intT,lm]
    obtain ⟨x39, hx39, H⟩ := bnd H
    refine WO_op (x := .ag [qi x39.Kind, qi x39.N, qs x39.S, .c (cL eS x39.Keys), .c (cL eR_Node x39.Kids)]) (σ' := ⟨[], [some [qi a1.Kind, qi a1.N, qs a1.S, .c (cL eS a1.Keys), .c (cL eR_Node a1.Kids)], some [qi a2.Kind, qi a2.N, qs a2.S, .c (cL eS a2.Keys), .c (cL eR_Node a2.Kids)], some [qi a3.Kind, qi a3.N, qs a3.S, .c (cL eS a3.Keys), .c (cL eR_Node a3.Kids)], some [qi a4.Kind, qi a4.N, qs a4.S, .c (cL eS a4.Keys), .c (cL eR_Node a4.Kids)], some [qi 0, qi 0, qs [], .nil, .nil], some [qi x6.1.Kind, qi x6.1.N, qs x6.1.S, .row 0, .row 1], some [qi x7.1.Kind, qi x7.1.N, qs x7.1.S, .row 2, .row 3], some [qi x8.1.Kind, qi x8.1.N, qs x8.1.S, .row 4, .row 5]], [rr 1 eS x6.1.Keys true, rr 5 eR_Node x6.1.Kids true, rr 1 eS x7.1.Keys false, rr 5 eR_Node x7.1.Kids false, rr 1 eS x8.1.Keys true, rr 5 eR_Node x8.1.Kids true]⟩) rfl rfl (ev_callG (al := [.ag [qi a1.Kind, qi a1.N, qs a1.S, .c (cL eS a1.Keys), .c (cL eR_Node a1.Kids)], qs a5, .ag [qi x7.1.Kind, qi x7.1.N, qs x7.1.S, .row 2, .row 3], qb x7.2]) (ls := []) (spec_l11Put_ok hx39) rfl rfl rfl rfl rfl (by decide) rfl rfl rfl rfl rfl rfl) ?_; simp only [putT,st,ev,gt,hp,ofV,constT,intT,lm]
    refine WO_op (x := .row 6) (σ' := ⟨[], [some [qi a1.Kind, qi a1.N, qs a1.S, .c (cL eS a1.Keys), .c (cL eR_Node a1.Kids)], some [qi a2.Kind, qi a2.N, qs a2.S, .c (cL eS a2.Keys), .c (cL eR_Node a2.Kids)], some [qi a3.Kind, qi a3.N, qs a3.S, .c (cL eS a3.Keys), .c (cL eR_Node a3.Kids)], some [qi a4.Kind, qi a4.N, qs a4.S, .c (cL eS a4.Keys), .c (cL eR_Node a4.Kids)], some [qi 0, qi 0, qs [], .nil, .nil], some [qi x6.1.Kind, qi x6.1.N, qs x6.1.S, .row 0, .row 1], some [qi x7.1.Kind, qi x7.1.N, qs x7.1.S, .row 2, .row 3], some [qi x8.1.Kind, qi x8.1.N, qs x8.1.S, .row 4, .row 5]], [rr 1 eS x6.1.Keys true, rr 5 eR_Node x6.1.Kids true, rr 1 eS x7.1.Keys false, rr 5 eR_Node x7.1.Kids false, rr 1 eS x8.1.Keys true, rr 5 eR_Node x8.1.Kids true, rr 1 eS ([] : List Str) true]⟩) rfl rfl (ev_bs ([] : List Str) eS rfl rfl rfl rfl) ?_; simp only [putT,st,ev,gt,hp,ofV,constT,intT,lm]
    refine WO_op (x := .no) (σ' := ⟨[], [some [qi a1.Kind, qi a1.N, qs a1.S, .c (cL eS a1.Keys), .c (cL eR_Node a1.Kids)], some [qi a2.Kind, qi a2.N, qs a2.S, .c (cL eS a2.Keys), .c (cL eR_Node a2.Kids)], some [qi a3.Kind, qi a3.N, qs a3.S, .c (cL eS a3.Keys), .c (cL eR_Node a3.Kids)], some [qi a4.Kind, qi a4.N, qs a4.S, .c (cL eS a4.Keys), .c (cL eR_Node a4.Kids)], some [qi x39.Kind, qi x39.N, qs x39.S, .c (cL eS x39.Keys), .c (cL eR_Node x39.Kids)], some [qi x6.1.Kind, qi x6.1.N, qs x6.1.S, .row 0, .row 1], some [qi x7.1.Kind, qi x7.1.N, qs x7.1.S, .row 2, .row 3], some [qi x8.1.Kind, qi x8.1.N, qs x8.1.S, .row 4, .row 5]], [rr 1 eS x6.1.Keys true, rr 5 eR_Node x6.1.Kids true, rr 1 eS x7.1.Keys false, rr 5 eR_Node x7.1.Kids false, rr 1 eS x8.1.Keys true, rr 5 eR_Node x8.1.Kids true, rr 1 eS ([] : List Str) true]⟩) rfl rfl rfl ?_
    refine WO_op rfl rfl rfl ?_; simp only [putT,st,ev,gt,hp,ofV,constT,intT,lm]
    refine WO_nil ?_
    refine W_ret ?_
    obtain rfl := Option.some.inj H
    exact told5w rfl rfl rfl rfl (fitAs_nz rfl) rfl rfl
   ·
    replace H := fl hc H
    refine W_seq (W_region ?_)
    refine WO_op (x := .ag [qi x7.1.Kind, qi x7.1.N, qs x7.1.S, .row 2, .row 3]) rfl rfl rfl ?_
    refine WO_op rfl rfl rfl ?_
    refine WO_op (x := .ag [qi x6.1.Kind, qi x6.1.N, qs x6.1.S, .row 0, .row 1]) rfl rfl rfl ?_
    refine WO_op rfl rfl rfl ?_; simp only [putT,st,ev,gt,hp,ofV,constT,intT,lm]
    obtain ⟨x40, hx40, H⟩ := bnd H
    refine WO_op (x := qb x40) (σ' := ⟨[], [some [qi a1.Kind, qi a1.N, qs a1.S, .c (cL eS a1.Keys), .c (cL eR_Node a1.Kids)], some [qi a2.Kind, qi a2.N, qs a2.S, .c (cL eS a2.Keys), .c (cL eR_Node a2.Kids)], some [qi a3.Kind, qi a3.N, qs a3.S, .c (cL eS a3.Keys), .c (cL eR_Node a3.Kids)], some [qi a4.Kind, qi a4.N, qs a4.S, .c (cL eS a4.Keys), .c (cL eR_Node a4.Kids)], some [qi 0, qi 0, qs [], .nil, .nil], some [qi x6.1.Kind, qi x6.1.N, qs x6.1.S, .row 0, .row 1], some [qi x7.1.Kind, qi x7.1.N, qs x7.1.S, .row 2, .row 3], some [qi x8.1.Kind, qi x8.1.N, qs x8.1.S, .row 4, .row 5]], [rr 1 eS x6.1.Keys true, rr 5 eR_Node x6.1.Kids true, rr 1 eS x7.1.Keys true, rr 5 eR_Node x7.1.Kids true, rr 1 eS x8.1.Keys true, rr 5 eR_Node x8.1.Kids true]⟩) rfl rfl (ev_callG (al := [.ag [qi x7.1.Kind, qi x7.1.N, qs x7.1.S, .row 2, .row 3], qb x7.2, .ag [qi x6.1.Kind, qi x6.1.N, qs x6.1.S, .row 0, .row 1], qb x6.2]) (ls := []) (spec_l11Same_ok hx40) rfl rfl rfl rfl rfl (by decide) rfl rfl rfl rfl rfl rfl) ?_; simp only [putT,st,ev,gt,hp,ofV,constT,intT,lm]
    refine WO_op rfl rfl rfl ?_; simp only [putT,st,ev,gt,hp,ofV,constT,intT,lm]
    refine WO_nil ?_
    refine W_cond rfl (fun hc => ?_) (fun hc => ?_)
    ·
     replace H := tr hc H
     refine W_seq (W_region ?_)
     refine WO_op (x := .ag [qi a1.Kind, qi a1.N, qs a1.S, .c (cL eS a1.Keys), .c (cL eR_Node a1.Kids)]) rfl rfl rfl ?_
     refine WO_op rfl rfl rfl ?_
     refine WO_op (x := .ag [qi x8.1.Kind, qi x8.1.N, qs x8.1.S, .row 4, .row 5]) rfl rfl rfl ?_
     refine WO_op rfl rfl rfl ?_; simp only [putT,st,ev,gt,hp,ofV,constT,intT,lm]
     obtain ⟨x41, hx41, H⟩ := bnd H
     refine WO_op (x := .ag [qi x41.Kind, qi x41.N, qs x41.S, .c (cL eS x41.Keys), .c (cL eR_Node x41.Kids)]) (σ' := ⟨[], [some [qi a1.Kind, qi a1.N, qs a1.S, .c (cL eS a1.Keys), .c (cL eR_Node a1.Kids)], some [qi a2.Kind, qi a2.N, qs a2.S, .c (cL eS a2.Keys), .c (cL eR_Node a2.Kids)], some [qi a3.Kind, qi a3.N, qs a3.S, .c (cL eS a3.Keys), .c (cL eR_Node a3.Kids)], some [qi a4.Kind, qi a4.N, qs a4.S, .c (cL eS a4.Keys), .c (cL eR_Node a4.Kids)], some [qi 0, qi 0, qs [], .nil, .nil], some [qi x6.1.Kind, qi x6.1.N, qs x6.1.S, .row 0, .row 1], some [qi x7.1.Kind, qi x7.1.N, qs x7.1.S, .row 2, .row 3], some [qi x8.1.Kind, qi x8.1.N, qs x8.1.S, .row 4, .row 5]], [rr 1 eS x6.1.Keys true, rr 5 eR_Node x6.1.Kids true, rr 1 eS x7.1.Keys true, rr 5 eR_Node x7.1.Kids true, rr 1 eS x8.1.Keys false, rr 5 eR_Node x8.1.Kids false]⟩) rfl rfl (ev_callG (al := [.ag [qi a1.Kind, qi a1.N, qs a1.S, .c (cL eS a1.Keys), .c (cL eR_Node a1.Kids)], qs a5, .ag [qi x8.1.Kind, qi x8.1.N, qs x8.1.S, .row 4, .row 5], qb x8.2]) (ls := []) (spec_l11Put_ok hx41) rfl rfl rfl rfl rfl (by decide) rfl rfl rfl rfl rfl rfl) ?_; simp only [putT,st,ev,gt,hp,ofV,constT,intT,lm]
     refine WO_op (x := .row 6) (σ' := ⟨[], [some [qi a1.Kind, qi a1.N, qs a1.S, .c (cL eS a1.Keys), .c (cL eR_Node a1.Kids)], some [qi a2.Kind, qi a2.N, qs a2.S, .c (cL eS a2.Keys), .c (cL eR_Node a2.Kids)], some [qi a3.Kind, qi a3.N, qs a3.S, .c (cL eS a3.Keys), .c (cL eR_Node a3.Kids)], some [qi a4.Kind, qi a4.N, qs a4.S, .c (cL eS a4.Keys), .c (cL eR_Node a4.Kids)], some [qi 0, qi 0, qs [], .nil, .nil], some [qi x6.1.Kind, qi x6.1.N, qs x6.1.S, .row 0, .row 1], some [qi x7.1.Kind, qi x7.1.N, qs x7.1.S, .row 2, .row 3], some [qi x8.1.Kind, qi x8.1.N, qs x8.1.S, .row 4, .row 5]], [rr 1 eS x6.1.Keys true, rr 5 eR_Node x6.1.Kids true, rr 1 eS x7.1.Keys true, rr 5 eR_Node x7.1.Kids true, rr 1 eS x8.1.Keys false, rr 5 eR_Node x8.1.Kids false, rr 1 eS ([] : List Str) true]⟩) rfl rfl (ev_bs ([] : List Str) eS rfl rfl rfl rfl) ?_; simp only [putT,st,ev,gt,hp,ofV,constT,intT,lm]
     refine WO_op (x := .no) (σ' := ⟨[], [some [qi a1.Kind, qi a1.N, qs a1.S, .c (cL eS a1.Keys), .c (cL eR_Node a1.Kids)], some [qi a2.Kind, qi a2.N, qs a2.S, .c (cL eS a2.Keys), .c (cL eR_Node a2.Kids)], some [qi a3.Kind, qi a3.N, qs a3.S, .c (cL eS a3.Keys), .c (cL eR_Node a3.Kids)], some [qi a4.Kind, qi a4.N, qs a4.S, .c (cL eS a4.Keys), .c (cL eR_Node a4.Kids)], some [qi x41.Kind, qi x41.N, qs x41.S, .c (cL eS x41.Keys), .c (cL eR_Node x41.Kids)], some [qi x6.1.Kind, qi x6.1.N, qs x6.1.S, .row 0, .row 1], some [qi x7.1.Kind, qi x7.1.N, qs x7.1.S, .row 2, .row 3], some [qi x8.1.Kind, qi x8.1.N, qs x8.1.S, .row 4, .row 5]], [rr 1 eS x6.1.Keys true, rr 5 eR_Node x6.1.Kids true, rr 1 eS x7.1.Keys true, rr 5 eR_Node x7.1.Kids true, rr 1 eS x8.1.Keys false, rr 5 eR_Node x8.1.Kids false, rr 1 eS ([] : List Str) true]⟩) rfl rfl rfl ?_
     refine WO_op rfl rfl rfl ?_; simp only [putT,st,ev,gt,hp,ofV,constT,intT,lm]
     refine WO_nil ?_
     refine W_ret ?_
     obtain rfl := Option.some.inj H
     exact told5w rfl rfl rfl rfl (fitAs_nz rfl) rfl rfl
    ·
     replace H := fl hc H
     refine W_skip ?_
     refine W_seq (W_region ?_)
     refine WO_op (x := .ag [qi a1.Kind, qi a1.N, qs a1.S, .c (cL eS a1.Keys), .c (cL eR_Node a1.Kids)]) rfl rfl rfl ?_
     refine WO_op rfl rfl rfl ?_
     refine WO_op (x := .ag [qi x7.1.Kind, qi x7.1.N, qs x7.1.S, .row 2, .row 3]) rfl rfl rfl ?_
     refine WO_op rfl rfl rfl ?_; simp only [putT,st,ev,gt,hp,ofV,constT,intT,lm]
     obtain ⟨x42, hx42, H⟩ := bnd H
     refine WO_op (x := .ag [qi x42.Kind, qi x42.N, qs x42.S, .c (cL eS x42.Keys), .c (cL eR_Node x42.Kids)]) (σ' := ⟨[], [some [qi a1.Kind, qi a1.N, qs a1.S, .c (cL eS a1.Keys), .c (cL eR_Node a1.Kids)], some [qi a2.Kind, qi a2.N, qs a2.S, .c (cL eS a2.Keys), .c (cL eR_Node a2.Kids)], some [qi a3.Kind, qi a3.N, qs a3.S, .c (cL eS a3.Keys), .c (cL eR_Node a3.Kids)], some [qi a4.Kind, qi a4.N, qs a4.S, .c (cL eS a4.Keys), .c (cL eR_Node a4.Kids)], some [qi 0, qi 0, qs [], .nil, .nil], some [qi x6.1.Kind, qi x6.1.N, qs x6.1.S, .row 0, .row 1], some [qi x7.1.Kind, qi x7.1.N, qs x7.1.S, .row 2, .row 3], some [qi x8.1.Kind, qi x8.1.N, qs x8.1.S, .row 4, .row 5]], [rr 1 eS x6.1.Keys true, rr 5 eR_Node x6.1.Kids true, rr 1 eS x7.1.Keys false, rr 5 eR_Node x7.1.Kids false, rr 1 eS x8.1.Keys true, rr 5 eR_Node x8.1.Kids true]⟩) rfl rfl (ev_callG (al := [.ag [qi a1.Kind, qi a1.N, qs a1.S, .c (cL eS a1.Keys), .c (cL eR_Node a1.Kids)], qs a5, .ag [qi x7.1.Kind, qi x7.1.N, qs x7.1.S, .row 2, .row 3], qb x7.2]) (ls := []) (spec_l11Put_ok hx42) rfl rfl rfl rfl rfl (by decide) rfl rfl rfl rfl rfl rfl) ?_; simp only [putT,st,ev,gt,hp,ofV,constT,intT,lm]
     refine WO_op rfl rfl rfl ?_; simp only [putT,st,ev,gt,hp,ofV,constT,intT,lm]
     refine WO_op (x := .row 6) (σ' := ⟨[], [some [qi a1.Kind, qi a1.N, qs a1.S, .c (cL eS a1.Keys), .c (cL eR_Node a1.Kids)], some [qi a2.Kind, qi a2.N, qs a2.S, .c (cL eS a2.Keys), .c (cL eR_Node a2.Kids)], some [qi a3.Kind, qi a3.N, qs a3.S, .c (cL eS a3.Keys), .c (cL eR_Node a3.Kids)], some [qi a4.Kind, qi a4.N, qs a4.S, .c (cL eS a4.Keys), .c (cL eR_Node a4.Kids)], some [qi 0, qi 0, qs [], .nil, .nil], some [qi x6.1.Kind, qi x6.1.N, qs x6.1.S, .row 0, .row 1], some [qi x7.1.Kind, qi x7.1.N, qs x7.1.S, .row 2, .row 3], some [qi x8.1.Kind, qi x8.1.N, qs x8.1.S, .row 4, .row 5]], [rr 1 eS x6.1.Keys true, rr 5 eR_Node x6.1.Kids true, rr 1 eS x7.1.Keys false, rr 5 eR_Node x7.1.Kids false, rr 1 eS x8.1.Keys true, rr 5 eR_Node x8.1.Kids true, rr 1 eS ([a5] : List Str) true]⟩) rfl rfl (ev_bs ([a5] : List Str) eS rfl rfl rfl rfl) ?_; simp only [putT,st,ev,gt,hp,ofV,constT,intT,lm]
     refine WO_op (x := .no) (σ' := ⟨[], [some [qi a1.Kind, qi a1.N, qs a1.S, .c (cL eS a1.Keys), .c (cL eR_Node a1.Kids)], some [qi a2.Kind, qi a2.N, qs a2.S, .c (cL eS a2.Keys), .c (cL eR_Node a2.Kids)], some [qi a3.Kind, qi a3.N, qs a3.S, .c (cL eS a3.Keys), .c (cL eR_Node a3.Kids)], some [qi a4.Kind, qi a4.N, qs a4.S, .c (cL eS a4.Keys), .c (cL eR_Node a4.Kids)], some [qi x42.Kind, qi x42.N, qs x42.S, .c (cL eS x42.Keys), .c (cL eR_Node x42.Kids)], some [qi x6.1.Kind, qi x6.1.N, qs x6.1.S, .row 0, .row 1], some [qi x7.1.Kind, qi x7.1.N, qs x7.1.S, .row 2, .row 3], some [qi x8.1.Kind, qi x8.1.N, qs x8.1.S, .row 4, .row 5]], [rr 1 eS x6.1.Keys true, rr 5 eR_Node x6.1.Kids true, rr 1 eS x7.1.Keys false, rr 5 eR_Node x7.1.Kids false, rr 1 eS x8.1.Keys true, rr 5 eR_Node x8.1.Kids true, rr 1 eS ([a5] : List Str) true]⟩) rfl rfl rfl ?_
     refine WO_op rfl rfl rfl ?_; simp only [putT,st,ev,gt,hp,ofV,constT,intT,lm]
     refine WO_nil ?_
     refine W_ret ?_
     obtain rfl := Option.some.inj H
     exact told5w rfl rfl rfl rfl (fitAs_nz rfl) rfl rfl
  ·
   replace H := fl hc H
   refine W_region ?_
   refine WO_op (x := .ag [qi x7.1.Kind, qi x7.1.N, qs x7.1.S, .row 2, .row 3]) rfl rfl rfl ?_
   refine WO_op rfl rfl rfl ?_
   refine WO_op (x := .ag [qi x8.1.Kind, qi x8.1.N, qs x8.1.S, .row 4, .row 5]) rfl rfl rfl ?_
   refine WO_op rfl rfl rfl ?_; simp only [putT,st,ev,gt,hp,ofV,constT,intT,lm]
   obtain ⟨x43, hx43, H⟩ := bnd H
   refine WO_op (x := qb x43) (σ' := ⟨[], [some [qi a1.Kind, qi a1.N, qs a1.S, .c (cL eS a1.Keys), .c (cL eR_Node a1.Kids)], some [qi a2.Kind, qi a2.N, qs a2.S, .c (cL eS a2.Keys), .c (cL eR_Node a2.Kids)], some [qi a3.Kind, qi a3.N, qs a3.S, .c (cL eS a3.Keys), .c (cL eR_Node a3.Kids)], some [qi a4.Kind, qi a4.N, qs a4.S, .c (cL eS a4.Keys), .c (cL eR_Node a4.Kids)], some [qi 0, qi 0, qs [], .nil, .nil], some [qi x6.1.Kind, qi x6.1.N, qs x6.1.S, .row 0, .row 1], some [qi x7.1.Kind, qi x7.1.N, qs x7.1.S, .row 2, .row 3], some [qi x8.1.Kind, qi x8.1.N, qs x8.1.S, .row 4, .row 5]], [rr 1 eS x6.1.Keys true, rr 5 eR_Node x6.1.Kids true, rr 1 eS x7.1.Keys true, rr 5 eR_Node x7.1.Kids true, rr 1 eS x8.1.Keys true, rr 5 eR_Node x8.1.Kids true]⟩) rfl rfl (ev_callG (al := [.ag [qi x7.1.Kind, qi x7.1.N, qs x7.1.S, .row 2, .row 3], qb x7.2, .ag [qi x8.1.Kind, qi x8.1.N, qs x8.1.S, .row 4, .row 5], qb x8.2]) (ls := []) (spec_l11Same_ok hx43) rfl rfl rfl rfl rfl (by decide) rfl rfl rfl rfl rfl rfl) ?_; simp only [putT,st,ev,gt,hp,ofV,constT,intT,lm]
   refine WO_op rfl rfl rfl ?_; simp only [putT,st,ev,gt,hp,ofV,constT,intT,lm]
   refine WO_nil ?_
   refine W_cond rfl (fun hc => ?_) (fun hc => ?_)
   ·
    replace H := tr hc H
    refine W_seq (W_region ?_)
    refine WO_op (x := .ag [qi a1.Kind, qi a1.N, qs a1.S, .c (cL eS a1.Keys), .c (cL eR_Node a1.Kids)]) rfl rfl rfl ?_
    refine WO_op rfl rfl rfl ?_
    refine WO_op (x := .ag [qi x7.1.Kind, qi x7.1.N, qs x7.1.S, .row 2, .row 3]) rfl rfl rfl ?_
    refine WO_op rfl rfl rfl ?_; simp only [putT,st,ev,gt,hp,ofV,constT,intT,lm]
    obtain ⟨x44, hx44, H⟩ := bnd H
    refine WO_op (x := .ag [qi x44.Kind, qi x44.N, qs x44.S, .c (cL eS x44.Keys), .c (cL eR_Node x44.Kids)]) (σ' := ⟨[], [some [qi a1.Kind, qi a1.N, qs a1.S, .c (cL eS a1.Keys), .c (cL eR_Node a1.Kids)], some [qi a2.Kind, qi a2.N, qs a2.S, .c (cL eS a2.Keys), .c (cL eR_Node a2.Kids)], some [qi a3.Kind, qi a3.N, qs a3.S, .c (cL eS a3.Keys), .c (cL eR_Node a3.Kids)], some [qi a4.Kind, qi a4.N, qs a4.S, .c (cL eS a4.Keys), .c (cL eR_Node a4.Kids)], some [qi 0, qi 0, qs [], .nil, .nil], some [qi x6.1.Kind, qi x6.1.N, qs x6.1.S, .row 0, .row 1], some [qi x7.1.Kind, qi x7.1.N, qs x7.1.S, .row 2, .row 3], some [qi x8.1.Kind, qi x8.1.N, qs x8.1.S, .row 4, .row 5]], [rr 1 eS x6.1.Keys true, rr 5 eR_Node x6.1.Kids true, rr 1 eS x7.1.Keys false, rr 5 eR_Node x7.1.Kids false, rr 1 eS x8.1.Keys true, rr 5 eR_Node x8.1.Kids true]⟩) rfl rfl (ev_callG (al := [.ag [qi a1.Kind, qi a1.N, qs a1.S, .c (cL eS a1.Keys), .c (cL eR_Node a1.Kids)], qs a5, .ag [qi x7.1.Kind, qi x7.1.N, qs x7.1.S, .row 2, .row 3], qb x7.2]) (ls := []) (spec_l11Put_ok hx44) rfl rfl rfl rfl rfl (by decide) rfl rfl rfl rfl rfl rfl) ?_; simp only [putT,st,ev,gt,hp,ofV,constT,intT,lm]
    refine WO_op (x := .row 6) (σ' := ⟨[], [some [qi a1.Kind, qi a1.N, qs a1.S, .c (cL eS a1.Keys), .c (cL eR_Node a1.Kids)], some [qi a2.Kind, qi a2.N, qs a2.S, .c (cL eS a2.Keys), .c (cL eR_Node a2.Kids)], some [qi a3.Kind, qi a3.N, qs a3.S, .c (cL eS a3.Keys), .c (cL eR_Node a3.Kids)], some [qi a4.Kind, qi a4.N, qs a4.S, .c (cL eS a4.Keys), .c (cL eR_Node a4.Kids)], some [qi 0, qi 0, qs [], .nil, .nil], some [qi x6.1.Kind, qi x6.1.N, qs x6.1.S, .row 0, .row 1], some [qi x7.1.Kind, qi x7.1.N, qs x7.1.S, .row 2, .row 3], some [qi x8.1.Kind, qi x8.1.N, qs x8.1.S, .row 4, .row 5]], [rr 1 eS x6.1.Keys true, rr 5 eR_Node x6.1.Kids true, rr 1 eS x7.1.Keys false, rr 5 eR_Node x7.1.Kids false, rr 1 eS x8.1.Keys true, rr 5 eR_Node x8.1.Kids true, rr 1 eS ([] : List Str) true]⟩) rfl rfl (ev_bs ([] : List Str) eS rfl rfl rfl rfl) ?_; simp only [putT,st,ev,gt,hp,ofV,constT,intT,lm]
    refine WO_op (x := .no) (σ' := ⟨[], [some [qi a1.Kind, qi a1.N, qs a1.S, .c (cL eS a1.Keys), .c (cL eR_Node a1.Kids)], some [qi a2.Kind, qi a2.N, qs a2.S, .c (cL eS a2.Keys), .c (cL eR_Node a2.Kids)], some [qi a3.Kind, qi a3.N, qs a3.S, .c (cL eS a3.Keys), .c (cL eR_Node a3.Kids)], some [qi a4.Kind, qi a4.N, qs a4.S, .c (cL eS a4.Keys), .c (cL eR_Node a4.Kids)], some [qi x44.Kind, qi x44.N, qs x44.S, .c (cL eS x44.Keys), .c (cL eR_Node x44.Kids)], some [qi x6.1.Kind, qi x6.1.N, qs x6.1.S, .row 0, .row 1], some [qi x7.1.Kind, qi x7.1.N, qs x7.1.S, .row 2, .row 3], some [qi x8.1.Kind, qi x8.1.N, qs x8.1.S, .row 4, .row 5]], [rr 1 eS x6.1.Keys true, rr 5 eR_Node x6.1.Kids true, rr 1 eS x7.1.Keys false, rr 5 eR_Node x7.1.Kids false, rr 1 eS x8.1.Keys true, rr 5 eR_Node x8.1.Kids true, rr 1 eS ([] : List Str) true]⟩) rfl rfl rfl ?_
    refine WO_op rfl rfl rfl ?_; simp only [putT,st,ev,gt,hp,ofV,constT,intT,lm]
    refine WO_nil ?_
    refine W_ret ?_
    obtain rfl := Option.some.inj H
    exact told5w rfl rfl rfl rfl (fitAs_nz rfl) rfl rfl
   ·
    replace H := fl hc H
    refine W_seq (W_region ?_)
    refine WO_op (x := .ag [qi x7.1.Kind, qi x7.1.N, qs x7.1.S, .row 2, .row 3]) rfl rfl rfl ?_
    refine WO_op rfl rfl rfl ?_
    refine WO_op (x := .ag [qi x6.1.Kind, qi x6.1.N, qs x6.1.S, .row 0, .row 1]) rfl rfl rfl ?_
    refine WO_op rfl rfl rfl ?_; simp only [putT,st,ev,gt,hp,ofV,constT,intT,lm]
    obtain ⟨x45, hx45, H⟩ := bnd H
    refine WO_op (x := qb x45) (σ' := ⟨[], [some [qi a1.Kind, qi a1.N, qs a1.S, .c (cL eS a1.Keys), .c (cL eR_Node a1.Kids)], some [qi a2.Kind, qi a2.N, qs a2.S, .c (cL eS a2.Keys), .c (cL eR_Node a2.Kids)], some [qi a3.Kind, qi a3.N, qs a3.S, .c (cL eS a3.Keys), .c (cL eR_Node a3.Kids)], some [qi a4.Kind, qi a4.N, qs a4.S, .c (cL eS a4.Keys), .c (cL eR_Node a4.Kids)], some [qi 0, qi 0, qs [], .nil, .nil], some [qi x6.1.Kind, qi x6.1.N, qs x6.1.S, .row 0, .row 1], some [qi x7.1.Kind, qi x7.1.N, qs x7.1.S, .row 2, .row 3], some [qi x8.1.Kind, qi x8.1.N, qs x8.1.S, .row 4, .row 5]], [rr 1 eS x6.1.Keys true, rr 5 eR_Node x6.1.Kids true, rr 1 eS x7.1.Keys true, rr 5 eR_Node x7.1.Kids true, rr 1 eS x8.1.Keys true, rr 5 eR_Node x8.1.Kids true]⟩) rfl rfl (ev_callG (al := [.ag [qi x7.1.Kind, qi x7.1.N, qs x7.1.S, .row 2, .row 3], qb x7.2, .ag [qi x6.1.Kind, qi x6.1.N, qs x6.1.S, .row 0, .row 1], qb x6.2]) (ls := []) (spec_l11Same_ok hx45) rfl rfl rfl rfl rfl (by decide) rfl rfl rfl rfl rfl rfl) ?_; simp only [putT,st,ev,gt,hp,ofV,constT,intT,lm]
    refine WO_op rfl rfl rfl ?_; simp only [putT,st,ev,gt,hp,ofV,constT,intT,lm]
    refine WO_nil ?_
    refine W_cond rfl (fun hc => ?_) (fun hc => ?_)
    ·
     replace H := tr hc H
     refine W_seq (W_region ?_)
     refine WO_op (x := .ag [qi a1.Kind, qi a1.N, qs a1.S, .c (cL eS a1.Keys), .c (cL eR_Node a1.Kids)]) rfl rfl rfl ?_
     refine WO_op rfl rfl rfl ?_
     refine WO_op (x := .ag [qi x8.1.Kind, qi x8.1.N, qs x8.1.S, .row 4, .row 5]) rfl rfl rfl ?_
     refine WO_op rfl rfl rfl ?_; simp only [putT,st,ev,gt,hp,ofV,constT,intT,lm]
     obtain ⟨x46, hx46, H⟩ := bnd H
     refine WO_op (x := .ag [qi x46.Kind, qi x46.N, qs x46.S, .c (cL eS x46.Keys), .c (cL eR_Node x46.Kids)]) (σ' := ⟨[], [some [qi a1.Kind, qi a1.N, qs a1.S, .c (cL eS a1.Keys), .c (cL eR_Node a1.Kids)], some [qi a2.Kind, qi a2.N, qs a2.S, .c (cL eS a2.Keys), .c (cL eR_Node a2.Kids)], some [qi a3.Kind, qi a3.N, qs a3.S, .c (cL eS a3.Keys), .c (cL eR_Node a3.Kids)], some [qi a4.Kind, qi a4.N, qs a4.S, .c (cL eS a4.Keys), .c (cL eR_Node a4.Kids)], some [qi 0, qi 0, qs [], .nil, .nil], some [qi x6.1.Kind, qi x6.1.N, qs x6.1.S, .row 0, .row 1], some [qi x7.1.Kind, qi x7.1.N, qs x7.1.S, .row 2, .row 3], some [qi x8.1.Kind, qi x8.1.N, qs x8.1.S, .row 4, .row 5]], [rr 1 eS x6.1.Keys true, rr 5 eR_Node x6.1.Kids true, rr 1 eS x7.1.Keys true, rr 5 eR_Node x7.1.Kids true, rr 1 eS x8.1.Keys false, rr 5 eR_Node x8.1.Kids false]⟩) rfl rfl (ev_callG (al := [.ag [qi a1.Kind, qi a1.N, qs a1.S, .c (cL eS a1.Keys), .c (cL eR_Node a1.Kids)], qs a5, .ag [qi x8.1.Kind, qi x8.1.N, qs x8.1.S, .row 4, .row 5], qb x8.2]) (ls := []) (spec_l11Put_ok hx46) rfl rfl rfl rfl rfl (by decide) rfl rfl rfl rfl rfl rfl) ?_; simp only [putT,st,ev,gt,hp,ofV,constT,intT,lm]
     refine WO_op (x := .row 6) (σ' := ⟨[], [some [qi a1.Kind, qi a1.N, qs a1.S, .c (cL eS a1.Keys), .c (cL eR_Node a1.Kids)], some [qi a2.Kind, qi a2.N, qs a2.S, .c (cL eS a2.Keys), .c (cL eR_Node a2.Kids)], some [qi a3.Kind, qi a3.N, qs a3.S, .c (cL eS a3.Keys), .c (cL eR_Node a3.Kids)], some [qi a4.Kind, qi a4.N, qs a4.S, .c (cL eS a4.Keys), .c (cL eR_Node a4.Kids)], some [qi 0, qi 0, qs [], .nil, .nil], some [qi x6.1.Kind, qi x6.1.N, qs x6.1.S, .row 0, .row 1], some [qi x7.1.Kind, qi x7.1.N, qs x7.1.S, .row 2, .row 3], some [qi x8.1.Kind, qi x8.1.N, qs x8.1.S, .row 4, .row 5]], [rr 1 eS x6.1.Keys true, rr 5 eR_Node x6.1.Kids true, rr 1 eS x7.1.Keys true, rr 5 eR_Node x7.1.Kids true, rr 1 eS x8.1.Keys false, rr 5 eR_Node x8.1.Kids false, rr 1 eS ([] : List Str) true]⟩) rfl rfl (ev_bs ([] : List Str) eS rfl rfl rfl rfl) ?_; simp only [putT,st,ev,gt,hp,ofV,constT,intT,lm]
     refine WO_op (x := .no) (σ' := ⟨[], [some [qi a1.Kind, qi a1.N, qs a1.S, .c (cL eS a1.Keys), .c (cL eR_Node a1.Kids)], some [qi a2.Kind, qi a2.N, qs a2.S, .c (cL eS a2.Keys), .c (cL eR_Node a2.Kids)], some [qi a3.Kind, qi a3.N, qs a3.S, .c (cL eS a3.Keys), .c (cL eR_Node a3.Kids)], some [qi a4.Kind, qi a4.N, qs a4.S, .c (cL eS a4.Keys), .c (cL eR_Node a4.Kids)], some [qi x46.Kind, qi x46.N, qs x46.S, .c (cL eS x46.Keys), .c (cL eR_Node x46.Kids)], some [qi x6.1.Kind, qi x6.1.N, qs x6.1.S, .row 0, .row 1], some [qi x7.1.Kind, qi x7.1.N, qs x7.1.S, .row 2, .row 3], some [qi x8.1.Kind, qi x8.1.N, qs x8.1.S, .row 4, .row 5]], [rr 1 eS x6.1.Keys true, rr 5 eR_Node x6.1.Kids true, rr 1 eS x7.1.Keys true, rr 5 eR_Node x7.1.Kids true, rr 1 eS x8.1.Keys false, rr 5 eR_Node x8.1.Kids false, rr 1 eS ([] : List Str) true]⟩) rfl rfl rfl ?_
     refine WO_op rfl rfl rfl ?_; simp only [putT,st,ev,gt,hp,ofV,constT,intT,lm]
     refine WO_nil ?_
     refine W_ret ?_
     obtain rfl := Option.some.inj H
     exact told5w rfl rfl rfl rfl (fitAs_nz rfl) rfl rfl
    ·
     replace H := fl hc H
     refine W_skip ?_
     refine W_seq (W_region ?_)
     refine WO_op (x := .ag [qi a1.Kind, qi a1.N, qs a1.S, .c (cL eS a1.Keys), .c (cL eR_Node a1.Kids)]) rfl rfl rfl ?_
     refine WO_op rfl rfl rfl ?_
     refine WO_op (x := .ag [qi x7.1.Kind, qi x7.1.N, qs x7.1.S, .row 2, .row 3]) rfl rfl rfl ?_
     refine WO_op rfl rfl rfl ?_; simp only [putT,st,ev,gt,hp,ofV,constT,intT,lm]
     obtain ⟨x47, hx47, H⟩ := bnd H
     refine WO_op (x := .ag [qi x47.Kind, qi x47.N, qs x47.S, .c (cL eS x47.Keys), .c (cL eR_Node x47.Kids)]) (σ' := ⟨[], [some [qi a1.Kind, qi a1.N, qs a1.S, .c (cL eS a1.Keys), .c (cL eR_Node a1.Kids)], some [qi a2.Kind, qi a2.N, qs a2.S, .c (cL eS a2.Keys), .c (cL eR_Node a2.Kids)], some [qi a3.Kind, qi a3.N, qs a3.S, .c (cL eS a3.Keys), .c (cL eR_Node a3.Kids)], some [qi a4.Kind, qi a4.N, qs a4.S, .c (cL eS a4.Keys), .c (cL eR_Node a4.Kids)], some [qi 0, qi 0, qs [], .nil, .nil], some [qi x6.1.Kind, qi x6.1.N, qs x6.1.S, .row 0, .row 1], some [qi x7.1.Kind, qi x7.1.N, qs x7.1.S, .row 2, .row 3], some [qi x8.1.Kind, qi x8.1.N, qs x8.1.S, .row 4, .row 5]], [rr 1 eS x6.1.Keys true, rr 5 eR_Node x6.1.Kids true, rr 1 eS x7.1.Keys false, rr 5 eR_Node x7.1.Kids false, rr 1 eS x8.1.Keys true, rr 5 eR_Node x8.1.Kids true]⟩) rfl rfl (ev_callG (al := [.ag [qi a1.Kind, qi a1.N, qs a1.S, .c (cL eS a1.Keys), .c (cL eR_Node a1.Kids)], qs a5, .ag [qi x7.1.Kind, qi x7.1.N, qs x7.1.S, .row 2, .row 3], qb x7.2]) (ls := []) (spec_l11Put_ok hx47) rfl rfl rfl rfl rfl (by decide) rfl rfl rfl rfl rfl rfl) ?_; simp only [putT,st,ev,gt,hp,ofV,constT,intT,lm]
     refine WO_op rfl rfl rfl ?_; simp only [putT,st,ev,gt,hp,ofV,constT,intT,lm]
     refine WO_op (x := .row 6) (σ' := ⟨[], [some [qi a1.Kind, qi a1.N, qs a1.S, .c (cL eS a1.Keys), .c (cL eR_Node a1.Kids)], some [qi a2.Kind, qi a2.N, qs a2.S, .c (cL eS a2.Keys), .c (cL eR_Node a2.Kids)], some [qi a3.Kind, qi a3.N, qs a3.S, .c (cL eS a3.Keys), .c (cL eR_Node a3.Kids)], some [qi a4.Kind, qi a4.N, qs a4.S, .c (cL eS a4.Keys), .c (cL eR_Node a4.Kids)], some [qi 0, qi 0, qs [], .nil, .nil], some [qi x6.1.Kind, qi x6.1.N, qs x6.1.S, .row 0, .row 1], some [qi x7.1.Kind, qi x7.1.N, qs x7.1.S, .row 2, .row 3], some [qi x8.1.Kind, qi x8.1.N, qs x8.1.S, .row 4, .row 5]], [rr 1 eS x6.1.Keys true, rr 5 eR_Node x6.1.Kids true, rr 1 eS x7.1.Keys false, rr 5 eR_Node x7.1.Kids false, rr 1 eS x8.1.Keys true, rr 5 eR_Node x8.1.Kids true, rr 1 eS ([a5] : List Str) true]⟩) rfl rfl (ev_bs ([a5] : List Str) eS rfl rfl rfl rfl) ?_; simp only [putT,st,ev,gt,hp,ofV,constT,intT,lm]
     refine WO_op (x := .no) (σ' := ⟨[], [some [qi a1.Kind, qi a1.N, qs a1.S, .c (cL eS a1.Keys), .c (cL eR_Node a1.Kids)], some [qi a2.Kind, qi a2.N, qs a2.S, .c (cL eS a2.Keys), .c (cL eR_Node a2.Kids)], some [qi a3.Kind, qi a3.N, qs a3.S, .c (cL eS a3.Keys), .c (cL eR_Node a3.Kids)], some [qi a4.Kind, qi a4.N, qs a4.S, .c (cL eS a4.Keys), .c (cL eR_Node a4.Kids)], some [qi x47.Kind, qi x47.N, qs x47.S, .c (cL eS x47.Keys), .c (cL eR_Node x47.Kids)], some [qi x6.1.Kind, qi x6.1.N, qs x6.1.S, .row 0, .row 1], some [qi x7.1.Kind, qi x7.1.N, qs x7.1.S, .row 2, .row 3], some [qi x8.1.Kind, qi x8.1.N, qs x8.1.S, .row 4, .row 5]], [rr 1 eS x6.1.Keys true, rr 5 eR_Node x6.1.Kids true, rr 1 eS x7.1.Keys false, rr 5 eR_Node x7.1.Kids false, rr 1 eS x8.1.Keys true, rr 5 eR_Node x8.1.Kids true, rr 1 eS ([a5] : List Str) true]⟩) rfl rfl rfl ?_
     refine WO_op rfl rfl rfl ?_; simp only [putT,st,ev,gt,hp,ofV,constT,intT,lm]
     refine WO_nil ?_
     refine W_ret ?_
     obtain rfl := Option.some.inj H
     exact told5w rfl rfl rfl rfl (fitAs_nz rfl) rfl rfl
theorem spec_Merge_F_ok {rc20 : Node → Node → Node → Option (Node × List Str)} (hrc20 : ∀ {a1 : Node} {a2 : Node} {a3 : Node} {r : Node × List Str}, rc20 a1 a2 a3 = some r → R 11 [.ag [(cI .i64 a1.Kind, none), (cI .i64 a1.N, none), (cS a1.S, none), (cL eS a1.Keys, none), (cL eR_Node a1.Kids, none)], .ag [(cI .i64 a2.Kind, none), (cI .i64 a2.N, none), (cS a2.S, none), (cL eS a2.Keys, none), (cL eR_Node a2.Kids, none)], .ag [(cI .i64 a3.Kind, none), (cI .i64 a3.N, none), (cS a3.S, none), (cL eS a3.Keys, none), (cL eR_Node a3.Kids, none)]] = some (.tu [.ag [(cI .i64 r.1.Kind, none), (cI .i64 r.1.N, none), (cS r.1.S, none), (cL eS r.1.Keys, none), (cL eR_Node r.1.Kids, none)], .c (cL eS r.2) none], [])) {a1 : Node} {a2 : Node} {a3 : Node} {r : Node × List Str} (H : spec_Merge_F rc20 a1 a2 a3 = some r) : R 11 [.ag [(cI .i64 a1.Kind, none), (cI .i64 a1.N, none), (cS a1.S, none), (cL eS a1.Keys, none), (cL eR_Node a1.Kids, none)], .ag [(cI .i64 a2.Kind, none), (cI .i64 a2.N, none), (cS a2.S, none), (cL eS a2.Keys, none), (cL eR_Node a2.Kids, none)], .ag [(cI .i64 a3.Kind, none), (cI .i64 a3.N, none), (cS a3.S, none), (cL eS a3.Keys, none), (cL eR_Node a3.Kids, none)]] = some (.tu [.ag [(cI .i64 r.1.Kind, none), (cI .i64 r.1.N, none), (cS r.1.S, none), (cL eS r.1.Keys, none), (cL eR_Node r.1.Kids, none)], .c (cL eS r.2) none], []) := by
 unfold spec_Merge_F at H
 refine Fz_walk true 80 rfl rfl rfl Try.func11 rfl (by kernel_rfl) rfl rfl rfl rfl ?_
 simp only [tellVs, tellV, tells, tell, st0, padT, SX.newRow, SX.newBox, List.length_cons, List.length_nil, Nat.reduceAdd, Nat.reduceSub, List.replicate, List.cons_append, List.nil_append, List.foldl_cons, List.foldl_nil]
 refine W_seq (W_region ?_)
 refine WO_op (x := .bp 0 0) (σ' := ⟨[], [some [qi a1.Kind, qi a1.N, qs a1.S, .c (cL eS a1.Keys), .c (cL eR_Node a1.Kids)]], []⟩) rfl rfl rfl ?_
 refine WO_op (x := .bp 1 0) (σ' := ⟨[], [some [qi a1.Kind, qi a1.N, qs a1.S, .c (cL eS a1.Keys), .c (cL eR_Node a1.Kids)], some [qi a2.Kind, qi a2.N, qs a2.S, .c (cL eS a2.Keys), .c (cL eR_Node a2.Kids)]], []⟩) rfl rfl rfl ?_
 refine WO_op (x := .bp 2 0) (σ' := ⟨[], [some [qi a1.Kind, qi a1.N, qs a1.S, .c (cL eS a1.Keys), .c (cL eR_Node a1.Kids)], some [qi a2.Kind, qi a2.N, qs a2.S, .c (cL eS a2.Keys), .c (cL eR_Node a2.Kids)], some [qi a3.Kind, qi a3.N, qs a3.S, .c (cL eS a3.Keys), .c (cL eR_Node a3.Kids)]], []⟩) rfl rfl rfl ?_
 refine WO_op (x := .bp 3 0) (σ' := ⟨[], [some [qi a1.Kind, qi a1.N, qs a1.S, .c (cL eS a1.Keys), .c (cL eR_Node a1.Kids)], some [qi a2.Kind, qi a2.N, qs a2.S, .c (cL eS a2.Keys), .c (cL eR_Node a2.Kids)], some [qi a3.Kind, qi a3.N, qs a3.S, .c (cL eS a3.Keys), .c (cL eR_Node a3.Kids)], some [qi 0, qi 0, qs [], .nil, .nil]], []⟩) rfl rfl rfl ?_; simp only [putT,st,ev,gt,hp,ofV,constT,intT,lm]
 refine WO_op rfl rfl rfl ?_; simp only [putT,st,ev,gt,hp,ofV,constT,intT,lm]
 refine WO_nil (W_seq (W_region ?_))
 refine WO_op (x := .row 0) (σ' := ⟨[], [some [qi a1.Kind, qi a1.N, qs a1.S, .c (cL eS a1.Keys), .c (cL eR_Node a1.Kids)], some [qi a2.Kind, qi a2.N, qs a2.S, .c (cL eS a2.Keys), .c (cL eR_Node a2.Kids)], some [qi a3.Kind, qi a3.N, qs a3.S, .c (cL eS a3.Keys), .c (cL eR_Node a3.Kids)], some [qi 0, qi 0, qs [], .nil, .nil]], [rr 1 eS ([] : List Str) true]⟩) rfl rfl (ev_bs ([] : List Str) eS rfl rfl rfl rfl) ?_; simp only [putT,st,ev,gt,hp,ofV,constT,intT,lm]
 refine WO_op rfl rfl rfl ?_; simp only [putT,st,ev,gt,hp,ofV,constT,intT,lm]
 refine WO_nil (W_seq ?_)
 refine W_block ?_
 refine W_seq (W_region ?_)
 refine WO_op (x := .ag [qi a3.Kind, qi a3.N, qs a3.S, .c (cL eS a3.Keys), .c (cL eR_Node a3.Kids)]) rfl rfl rfl ?_
 refine WO_op (x := .ag [qi a1.Kind, qi a1.N, qs a1.S, .c (cL eS a1.Keys), .c (cL eR_Node a1.Kids)]) rfl rfl rfl ?_; simp only [putT,st,ev,gt,hp,ofV,constT,intT,lm]
 obtain ⟨x4, hx4, H⟩ := bnd H
 refine WO_op (x := qb x4) (σ' := ⟨[], [some [qi a1.Kind, qi a1.N, qs a1.S, .c (cL eS a1.Keys), .c (cL eR_Node a1.Kids)], some [qi a2.Kind, qi a2.N, qs a2.S, .c (cL eS a2.Keys), .c (cL eR_Node a2.Kids)], some [qi a3.Kind, qi a3.N, qs a3.S, .c (cL eS a3.Keys), .c (cL eR_Node a3.Kids)], some [qi 0, qi 0, qs [], .nil, .nil]], [rr 1 eS ([] : List Str) true]⟩) rfl rfl (ev_callG (al := [.ag [qi a3.Kind, qi a3.N, qs a3.S, .c (cL eS a3.Keys), .c (cL eR_Node a3.Kids)], .ag [qi a1.Kind, qi a1.N, qs a1.S, .c (cL eS a1.Keys), .c (cL eR_Node a1.Kids)]]) (ls := []) (spec_TreeSame_ok hx4) rfl rfl rfl rfl rfl (by decide) rfl rfl rfl rfl rfl rfl) ?_; simp only [putT,st,ev,gt,hp,ofV,constT,intT,lm]
 refine WO_op rfl rfl rfl ?_; simp only [putT,st,ev,gt,hp,ofV,constT,intT,lm]
 refine WO_if rfl rfl rfl (fun hc => ?_) (fun hc => ?_)
 ·
  replace H := tr hc H
  simp only [putT,st,ev,gt,hp,ofV,constT,intT,lm]
  iterate 3 refine WO_skip rfl rfl ?_
  refine WO_op (x := qb true) rfl rfl rfl ?_
  refine WO_op rfl rfl rfl ?_; simp only [putT,st,ev,gt,hp,ofV,constT,intT,lm]
  refine WO_nil ?_
  refine W_cond (t := true) rfl (fun _ => ?_) (fun h => by cases h)
  refine W_seq (W_region ?_)
  refine WO_op (x := .ag [qi a2.Kind, qi a2.N, qs a2.S, .c (cL eS a2.Keys), .c (cL eR_Node a2.Kids)]) rfl rfl rfl ?_; simp only [putT,st,ev,gt,hp,ofV,constT,intT,lm]
  obtain ⟨x5, hx5, H⟩ := bnd H
  refine WO_op (x := .ag [qi x5.Kind, qi x5.N, qs x5.S, .row 1, .row 2]) (σ' := ⟨[], [some [qi a1.Kind, qi a1.N, qs a1.S, .c (cL eS a1.Keys), .c (cL eR_Node a1.Kids)], some [qi a2.Kind, qi a2.N, qs a2.S, .c (cL eS a2.Keys), .c (cL eR_Node a2.Kids)], some [qi a3.Kind, qi a3.N, qs a3.S, .c (cL eS a3.Keys), .c (cL eR_Node a3.Kids)], some [qi 0, qi 0, qs [], .nil, .nil]], [rr 1 eS ([] : List Str) true, rr 1 eS x5.Keys true, rr 5 eR_Node x5.Kids true]⟩) rfl rfl (ev_callG (al := [.ag [qi a2.Kind, qi a2.N, qs a2.S, .c (cL eS a2.Keys), .c (cL eR_Node a2.Kids)]]) (ls := []) (spec_l3Copy_ok hx5) rfl rfl rfl rfl rfl (by decide) rfl rfl rfl rfl rfl rfl) ?_; simp only [putT,st,ev,gt,hp,ofV,constT,intT,lm]
  refine WO_op rfl rfl rfl ?_
  refine WO_op (x := .no) (σ' := ⟨[], [some [qi a1.Kind, qi a1.N, qs a1.S, .c (cL eS a1.Keys), .c (cL eR_Node a1.Kids)], some [qi a2.Kind, qi a2.N, qs a2.S, .c (cL eS a2.Keys), .c (cL eR_Node a2.Kids)], some [qi a3.Kind, qi a3.N, qs a3.S, .c (cL eS a3.Keys), .c (cL eR_Node a3.Kids)], some [qi x5.Kind, qi x5.N, qs x5.S, .row 1, .row 2]], [rr 1 eS ([] : List Str) true, rr 1 eS x5.Keys true, rr 5 eR_Node x5.Kids true]⟩) rfl rfl rfl ?_
  refine WO_op rfl rfl rfl ?_; simp only [putT,st,ev,gt,hp,ofV,constT,intT,lm]
  refine WO_nil ?_
  refine W_ret ?_
  obtain rfl := Option.some.inj H
  exact told5w rfl rfl rfl rfl (fitAs_nz rfl) rfl rfl
 ·
  replace H := fl hc H
  refine WO_want (x := .ag [qi a2.Kind, qi a2.N, qs a2.S, .c (cL eS a2.Keys), .c (cL eR_Node a2.Kids)]) rfl rfl rfl ?_
  refine WO_want (x := .ag [qi a3.Kind, qi a3.N, qs a3.S, .c (cL eS a3.Keys), .c (cL eR_Node a3.Kids)]) rfl rfl rfl ?_; simp only [putT,st,ev,gt,hp,ofV,constT,intT,lm]
  obtain ⟨x6, hx6, H⟩ := bnd H
  refine WO_want (x := qb x6) (σ' := ⟨[], [some [qi a1.Kind, qi a1.N, qs a1.S, .c (cL eS a1.Keys), .c (cL eR_Node a1.Kids)], some [qi a2.Kind, qi a2.N, qs a2.S, .c (cL eS a2.Keys), .c (cL eR_Node a2.Kids)], some [qi a3.Kind, qi a3.N, qs a3.S, .c (cL eS a3.Keys), .c (cL eR_Node a3.Kids)], some [qi 0, qi 0, qs [], .nil, .nil]], [rr 1 eS ([] : List Str) true]⟩) rfl rfl (ev_callG (al := [.ag [qi a2.Kind, qi a2.N, qs a2.S, .c (cL eS a2.Keys), .c (cL eR_Node a2.Kids)], .ag [qi a3.Kind, qi a3.N, qs a3.S, .c (cL eS a3.Keys), .c (cL eR_Node a3.Kids)]]) (ls := []) (spec_TreeSame_ok hx6) rfl rfl rfl rfl rfl (by decide) rfl rfl rfl rfl rfl rfl) ?_; simp only [putT,st,ev,gt,hp,ofV,constT,intT,lm]
  refine WO_op (x := qb x6) rfl rfl rfl ?_
  refine WO_op rfl rfl rfl ?_; simp only [putT,st,ev,gt,hp,ofV,constT,intT,lm]
  refine WO_nil ?_
  refine W_cond rfl (fun hc => ?_) (fun hc => ?_)
  ·
   replace H := tr hc H
   refine W_seq (W_region ?_)
   refine WO_op (x := .ag [qi a2.Kind, qi a2.N, qs a2.S, .c (cL eS a2.Keys), .c (cL eR_Node a2.Kids)]) rfl rfl rfl ?_; simp only [putT,st,ev,gt,hp,ofV,constT,intT,lm]
   obtain ⟨x7, hx7, H⟩ := bnd H
   refine WO_op (x := .ag [qi x7.Kind, qi x7.N, qs x7.S, .row 1, .row 2]) (σ' := ⟨[], [some [qi a1.Kind, qi a1.N, qs a1.S, .c (cL eS a1.Keys), .c (cL eR_Node a1.Kids)], some [qi a2.Kind, qi a2.N, qs a2.S, .c (cL eS a2.Keys), .c (cL eR_Node a2.Kids)], some [qi a3.Kind, qi a3.N, qs a3.S, .c (cL eS a3.Keys), .c (cL eR_Node a3.Kids)], some [qi 0, qi 0, qs [], .nil, .nil]], [rr 1 eS ([] : List Str) true, rr 1 eS x7.Keys true, rr 5 eR_Node x7.Kids true]⟩) rfl rfl (ev_callG (al := [.ag [qi a2.Kind, qi a2.N, qs a2.S, .c (cL eS a2.Keys), .c (cL eR_Node a2.Kids)]]) (ls := []) (spec_l3Copy_ok hx7) rfl rfl rfl rfl rfl (by decide) rfl rfl rfl rfl rfl rfl) ?_; simp only [putT,st,ev,gt,hp,ofV,constT,intT,lm]
   refine WO_op rfl rfl rfl ?_
   refine WO_op (x := .no) (σ' := ⟨[], [some [qi a1.Kind, qi a1.N, qs a1.S, .c (cL eS a1.Keys), .c (cL eR_Node a1.Kids)], some [qi a2.Kind, qi a2.N, qs a2.S, .c (cL eS a2.Keys), .c (cL eR_Node a2.Kids)], some [qi a3.Kind, qi a3.N, qs a3.S, .c (cL eS a3.Keys), .c (cL eR_Node a3.Kids)], some [qi x7.Kind, qi x7.N, qs x7.S, .row 1, .row 2]], [rr 1 eS ([] : List Str) true, rr 1 eS x7.Keys true, rr 5 eR_Node x7.Kids true]⟩) rfl rfl rfl ?_
   refine WO_op rfl rfl rfl ?_; simp only [putT,st,ev,gt,hp,ofV,constT,intT,lm]
   refine WO_nil ?_
   refine W_ret ?_
   obtain rfl := Option.some.inj H
   exact told5w rfl rfl rfl rfl (fitAs_nz rfl) rfl rfl
  ·
   replace H := fl hc H
   refine W_seq (W_region ?_)
   refine WO_op (x := .ag [qi a2.Kind, qi a2.N, qs a2.S, .c (cL eS a2.Keys), .c (cL eR_Node a2.Kids)]) rfl rfl rfl ?_
   refine WO_op (x := .ag [qi a1.Kind, qi a1.N, qs a1.S, .c (cL eS a1.Keys), .c (cL eR_Node a1.Kids)]) rfl rfl rfl ?_; simp only [putT,st,ev,gt,hp,ofV,constT,intT,lm]
   obtain ⟨x8, hx8, H⟩ := bnd H
   refine WO_op (x := qb x8) (σ' := ⟨[], [some [qi a1.Kind, qi a1.N, qs a1.S, .c (cL eS a1.Keys), .c (cL eR_Node a1.Kids)], some [qi a2.Kind, qi a2.N, qs a2.S, .c (cL eS a2.Keys), .c (cL eR_Node a2.Kids)], some [qi a3.Kind, qi a3.N, qs a3.S, .c (cL eS a3.Keys), .c (cL eR_Node a3.Kids)], some [qi 0, qi 0, qs [], .nil, .nil]], [rr 1 eS ([] : List Str) true]⟩) rfl rfl (ev_callG (al := [.ag [qi a2.Kind, qi a2.N, qs a2.S, .c (cL eS a2.Keys), .c (cL eR_Node a2.Kids)], .ag [qi a1.Kind, qi a1.N, qs a1.S, .c (cL eS a1.Keys), .c (cL eR_Node a1.Kids)]]) (ls := []) (spec_TreeSame_ok hx8) rfl rfl rfl rfl rfl (by decide) rfl rfl rfl rfl rfl rfl) ?_; simp only [putT,st,ev,gt,hp,ofV,constT,intT,lm]
   refine WO_op rfl rfl rfl ?_; simp only [putT,st,ev,gt,hp,ofV,constT,intT,lm]
   refine WO_nil ?_
   refine W_cond rfl (fun hc => ?_) (fun hc => ?_)
   ·
    replace H := tr hc H
    refine W_seq (W_region ?_)
    refine WO_op (x := .ag [qi a3.Kind, qi a3.N, qs a3.S, .c (cL eS a3.Keys), .c (cL eR_Node a3.Kids)]) rfl rfl rfl ?_; simp only [putT,st,ev,gt,hp,ofV,constT,intT,lm]
    obtain ⟨x9, hx9, H⟩ := bnd H
    refine WO_op (x := .ag [qi x9.Kind, qi x9.N, qs x9.S, .row 1, .row 2]) (σ' := ⟨[], [some [qi a1.Kind, qi a1.N, qs a1.S, .c (cL eS a1.Keys), .c (cL eR_Node a1.Kids)], some [qi a2.Kind, qi a2.N, qs a2.S, .c (cL eS a2.Keys), .c (cL eR_Node a2.Kids)], some [qi a3.Kind, qi a3.N, qs a3.S, .c (cL eS a3.Keys), .c (cL eR_Node a3.Kids)], some [qi 0, qi 0, qs [], .nil, .nil]], [rr 1 eS ([] : List Str) true, rr 1 eS x9.Keys true, rr 5 eR_Node x9.Kids true]⟩) rfl rfl (ev_callG (al := [.ag [qi a3.Kind, qi a3.N, qs a3.S, .c (cL eS a3.Keys), .c (cL eR_Node a3.Kids)]]) (ls := []) (spec_l3Copy_ok hx9) rfl rfl rfl rfl rfl (by decide) rfl rfl rfl rfl rfl rfl) ?_; simp only [putT,st,ev,gt,hp,ofV,constT,intT,lm]
    refine WO_op rfl rfl rfl ?_
    refine WO_op (x := .no) (σ' := ⟨[], [some [qi a1.Kind, qi a1.N, qs a1.S, .c (cL eS a1.Keys), .c (cL eR_Node a1.Kids)], some [qi a2.Kind, qi a2.N, qs a2.S, .c (cL eS a2.Keys), .c (cL eR_Node a2.Kids)], some [qi a3.Kind, qi a3.N, qs a3.S, .c (cL eS a3.Keys), .c (cL eR_Node a3.Kids)], some [qi x9.Kind, qi x9.N, qs x9.S, .row 1, .row 2]], [rr 1 eS ([] : List Str) true, rr 1 eS x9.Keys true, rr 5 eR_Node x9.Kids true]⟩) rfl rfl rfl ?_
    refine WO_op rfl rfl rfl ?_; simp only [putT,st,ev,gt,hp,ofV,constT,intT,lm]
    refine WO_nil ?_
    refine W_ret ?_
    obtain rfl := Option.some.inj H
    exact told5w rfl rfl rfl rfl (fitAs_nz rfl) rfl rfl
   ·
    replace H := fl hc H
    refine W_seq (W_region ?_)
    refine WO_op (x := .bp 0 0) rfl rfl rfl ?_
    refine WO_op (x := qi a1.Kind) rfl rfl rfl ?_; simp only [putT,st,ev,gt,hp,ofV,constT,intT,lm]
    iterate 2 (refine WO_op rfl rfl rfl ?_; simp only [putT,st,ev,gt,hp,ofV,constT,intT,lm])
    refine WO_if rfl rfl rfl (fun hc => ?_) (fun hc => ?_)
    ·
     replace H := tr hc H
     simp only [putT,st,ev,gt,hp,ofV,constT,intT,lm]
     iterate 3 refine WO_skip rfl rfl ?_
     refine WO_op (x := qb true) rfl rfl rfl ?_
     refine WO_op rfl rfl rfl ?_; simp only [putT,st,ev,gt,hp,ofV,constT,intT,lm]
     iterate 3 refine WO_skip rfl rfl ?_
     refine WO_op (x := qb true) rfl rfl rfl ?_
     refine WO_op rfl rfl rfl ?_; simp only [putT,st,ev,gt,hp,ofV,constT,intT,lm]
     refine WO_nil ?_
     refine W_cond (t := true) rfl (fun _ => ?_) (fun h => by cases h)
     refine W_seq (W_region ?_)
     refine WO_op (x := .ag [qi a2.Kind, qi a2.N, qs a2.S, .c (cL eS a2.Keys), .c (cL eR_Node a2.Kids)]) rfl rfl rfl ?_; simp only [putT,st,ev,gt,hp,ofV,constT,intT,lm]
     obtain ⟨x10, hx10, H⟩ := bnd H
     refine WO_op (x := .ag [qi x10.Kind, qi x10.N, qs x10.S, .row 1, .row 2]) (σ' := ⟨[], [some [qi a1.Kind, qi a1.N, qs a1.S, .c (cL eS a1.Keys), .c (cL eR_Node a1.Kids)], some [qi a2.Kind, qi a2.N, qs a2.S, .c (cL eS a2.Keys), .c (cL eR_Node a2.Kids)], some [qi a3.Kind, qi a3.N, qs a3.S, .c (cL eS a3.Keys), .c (cL eR_Node a3.Kids)], some [qi 0, qi 0, qs [], .nil, .nil]], [rr 1 eS ([] : List Str) true, rr 1 eS x10.Keys true, rr 5 eR_Node x10.Kids true]⟩) rfl rfl (ev_callG (al := [.ag [qi a2.Kind, qi a2.N, qs a2.S, .c (cL eS a2.Keys), .c (cL eR_Node a2.Kids)]]) (ls := []) (spec_l3Copy_ok hx10) rfl rfl rfl rfl rfl (by decide) rfl rfl rfl rfl rfl rfl) ?_; simp only [putT,st,ev,gt,hp,ofV,constT,intT,lm]
     refine WO_op (x := .row 3) (σ' := ⟨[], [some [qi a1.Kind, qi a1.N, qs a1.S, .c (cL eS a1.Keys), .c (cL eR_Node a1.Kids)], some [qi a2.Kind, qi a2.N, qs a2.S, .c (cL eS a2.Keys), .c (cL eR_Node a2.Kids)], some [qi a3.Kind, qi a3.N, qs a3.S, .c (cL eS a3.Keys), .c (cL eR_Node a3.Kids)], some [qi 0, qi 0, qs [], .nil, .nil]], [rr 1 eS ([] : List Str) true, rr 1 eS x10.Keys true, rr 5 eR_Node x10.Kids true, rr 1 eS ([[46]] : List Str) true]⟩) rfl rfl (ev_bs ([[46]] : List Str) eS rfl rfl rfl rfl) ?_; simp only [putT,st,ev,gt,hp,ofV,constT,intT,lm]
     refine WO_op (x := .no) (σ' := ⟨[], [some [qi a1.Kind, qi a1.N, qs a1.S, .c (cL eS a1.Keys), .c (cL eR_Node a1.Kids)], some [qi a2.Kind, qi a2.N, qs a2.S, .c (cL eS a2.Keys), .c (cL eR_Node a2.Kids)], some [qi a3.Kind, qi a3.N, qs a3.S, .c (cL eS a3.Keys), .c (cL eR_Node a3.Kids)], some [qi x10.Kind, qi x10.N, qs x10.S, .row 1, .row 2]], [rr 1 eS ([] : List Str) true, rr 1 eS x10.Keys true, rr 5 eR_Node x10.Kids true, rr 1 eS ([[46]] : List Str) true]⟩) rfl rfl rfl ?_
     refine WO_op rfl rfl rfl ?_; simp only [putT,st,ev,gt,hp,ofV,constT,intT,lm]
     refine WO_nil ?_
     refine W_ret ?_
     obtain rfl := Option.some.inj H
     exact told5w rfl rfl rfl rfl (fitAs_nz rfl) rfl rfl
    ·
     replace H := fl hc H
     refine WO_want (x := .bp 1 0) rfl rfl rfl ?_
     refine WO_want (x := qi a2.Kind) rfl rfl rfl ?_
     refine WO_want rfl rfl rfl ?_; simp only [putT,st,ev,gt,hp,ofV,constT,intT,lm]
     refine WO_op (x := qb (a2.Kind != 5)) rfl rfl rfl ?_
     refine WO_op rfl rfl rfl ?_; simp only [putT,st,ev,gt,hp,ofV,constT,intT,lm]
     refine WO_if rfl rfl rfl (fun hc => ?_) (fun hc => ?_)
     ·
      replace H := tr hc H
      simp only [putT,st,ev,gt,hp,ofV,constT,intT,lm]
      iterate 3 refine WO_skip rfl rfl ?_
      refine WO_op (x := qb true) rfl rfl rfl ?_
      refine WO_op rfl rfl rfl ?_; simp only [putT,st,ev,gt,hp,ofV,constT,intT,lm]
      refine WO_nil ?_
      refine W_cond (t := true) rfl (fun _ => ?_) (fun h => by cases h)
      refine W_seq (W_region ?_)
      refine WO_op (x := .ag [qi a2.Kind, qi a2.N, qs a2.S, .c (cL eS a2.Keys), .c (cL eR_Node a2.Kids)]) rfl rfl rfl ?_; simp only [putT,st,ev,gt,hp,ofV,constT,intT,lm]
      obtain ⟨x11, hx11, H⟩ := bnd H
      refine WO_op (x := .ag [qi x11.Kind, qi x11.N, qs x11.S, .row 1, .row 2]) (σ' := ⟨[], [some [qi a1.Kind, qi a1.N, qs a1.S, .c (cL eS a1.Keys), .c (cL eR_Node a1.Kids)], some [qi a2.Kind, qi a2.N, qs a2.S, .c (cL eS a2.Keys), .c (cL eR_Node a2.Kids)], some [qi a3.Kind, qi a3.N, qs a3.S, .c (cL eS a3.Keys), .c (cL eR_Node a3.Kids)], some [qi 0, qi 0, qs [], .nil, .nil]], [rr 1 eS ([] : List Str) true, rr 1 eS x11.Keys true, rr 5 eR_Node x11.Kids true]⟩) rfl rfl (ev_callG (al := [.ag [qi a2.Kind, qi a2.N, qs a2.S, .c (cL eS a2.Keys), .c (cL eR_Node a2.Kids)]]) (ls := []) (spec_l3Copy_ok hx11) rfl rfl rfl rfl rfl (by decide) rfl rfl rfl rfl rfl rfl) ?_; simp only [putT,st,ev,gt,hp,ofV,constT,intT,lm]
      refine WO_op (x := .row 3) (σ' := ⟨[], [some [qi a1.Kind, qi a1.N, qs a1.S, .c (cL eS a1.Keys), .c (cL eR_Node a1.Kids)], some [qi a2.Kind, qi a2.N, qs a2.S, .c (cL eS a2.Keys), .c (cL eR_Node a2.Kids)], some [qi a3.Kind, qi a3.N, qs a3.S, .c (cL eS a3.Keys), .c (cL eR_Node a3.Kids)], some [qi 0, qi 0, qs [], .nil, .nil]], [rr 1 eS ([] : List Str) true, rr 1 eS x11.Keys true, rr 5 eR_Node x11.Kids true, rr 1 eS ([[46]] : List Str) true]⟩) rfl rfl (ev_bs ([[46]] : List Str) eS rfl rfl rfl rfl) ?_; simp only [putT,st,ev,gt,hp,ofV,constT,intT,lm]
      refine WO_op (x := .no) (σ' := ⟨[], [some [qi a1.Kind, qi a1.N, qs a1.S, .c (cL eS a1.Keys), .c (cL eR_Node a1.Kids)], some [qi a2.Kind, qi a2.N, qs a2.S, .c (cL eS a2.Keys), .c (cL eR_Node a2.Kids)], some [qi a3.Kind, qi a3.N, qs a3.S, .c (cL eS a3.Keys), .c (cL eR_Node a3.Kids)], some [qi x11.Kind, qi x11.N, qs x11.S, .row 1, .row 2]], [rr 1 eS ([] : List Str) true, rr 1 eS x11.Keys true, rr 5 eR_Node x11.Kids true, rr 1 eS ([[46]] : List Str) true]⟩) rfl rfl rfl ?_
      refine WO_op rfl rfl rfl ?_; simp only [putT,st,ev,gt,hp,ofV,constT,intT,lm]
      refine WO_nil ?_
      refine W_ret ?_
      obtain rfl := Option.some.inj H
      exact told5w rfl rfl rfl rfl (fitAs_nz rfl) rfl rfl
     ·
      replace H := fl hc H
      refine WO_want (x := .bp 2 0) rfl rfl rfl ?_
      refine WO_want (x := qi a3.Kind) rfl rfl rfl ?_
      refine WO_want rfl rfl rfl ?_; simp only [putT,st,ev,gt,hp,ofV,constT,intT,lm]
      refine WO_op (x := qb (a3.Kind != 5)) rfl rfl rfl ?_
      refine WO_op rfl rfl rfl ?_; simp only [putT,st,ev,gt,hp,ofV,constT,intT,lm]
      refine WO_nil ?_
      refine W_cond rfl (fun hc => ?_) (fun hc => ?_)
      ·
       replace H := tr hc H
       refine W_seq (W_region ?_)
       refine WO_op (x := .ag [qi a2.Kind, qi a2.N, qs a2.S, .c (cL eS a2.Keys), .c (cL eR_Node a2.Kids)]) rfl rfl rfl ?_; simp only [putT,st,ev,gt,hp,ofV,constT,intT,lm]
       obtain ⟨x12, hx12, H⟩ := bnd H
       refine WO_op (x := .ag [qi x12.Kind, qi x12.N, qs x12.S, .row 1, .row 2]) (σ' := ⟨[], [some [qi a1.Kind, qi a1.N, qs a1.S, .c (cL eS a1.Keys), .c (cL eR_Node a1.Kids)], some [qi a2.Kind, qi a2.N, qs a2.S, .c (cL eS a2.Keys), .c (cL eR_Node a2.Kids)], some [qi a3.Kind, qi a3.N, qs a3.S, .c (cL eS a3.Keys), .c (cL eR_Node a3.Kids)], some [qi 0, qi 0, qs [], .nil, .nil]], [rr 1 eS ([] : List Str) true, rr 1 eS x12.Keys true, rr 5 eR_Node x12.Kids true]⟩) rfl rfl (ev_callG (al := [.ag [qi a2.Kind, qi a2.N, qs a2.S, .c (cL eS a2.Keys), .c (cL eR_Node a2.Kids)]]) (ls := []) (spec_l3Copy_ok hx12) rfl rfl rfl rfl rfl (by decide) rfl rfl rfl rfl rfl rfl) ?_; simp only [putT,st,ev,gt,hp,ofV,constT,intT,lm]
       refine WO_op (x := .row 3) (σ' := ⟨[], [some [qi a1.Kind, qi a1.N, qs a1.S, .c (cL eS a1.Keys), .c (cL eR_Node a1.Kids)], some [qi a2.Kind, qi a2.N, qs a2.S, .c (cL eS a2.Keys), .c (cL eR_Node a2.Kids)], some [qi a3.Kind, qi a3.N, qs a3.S, .c (cL eS a3.Keys), .c (cL eR_Node a3.Kids)], some [qi 0, qi 0, qs [], .nil, .nil]], [rr 1 eS ([] : List Str) true, rr 1 eS x12.Keys true, rr 5 eR_Node x12.Kids true, rr 1 eS ([[46]] : List Str) true]⟩) rfl rfl (ev_bs ([[46]] : List Str) eS rfl rfl rfl rfl) ?_; simp only [putT,st,ev,gt,hp,ofV,constT,intT,lm]
       refine WO_op (x := .no) (σ' := ⟨[], [some [qi a1.Kind, qi a1.N, qs a1.S, .c (cL eS a1.Keys), .c (cL eR_Node a1.Kids)], some [qi a2.Kind, qi a2.N, qs a2.S, .c (cL eS a2.Keys), .c (cL eR_Node a2.Kids)], some [qi a3.Kind, qi a3.N, qs a3.S, .c (cL eS a3.Keys), .c (cL eR_Node a3.Kids)], some [qi x12.Kind, qi x12.N, qs x12.S, .row 1, .row 2]], [rr 1 eS ([] : List Str) true, rr 1 eS x12.Keys true, rr 5 eR_Node x12.Kids true, rr 1 eS ([[46]] : List Str) true]⟩) rfl rfl rfl ?_
       refine WO_op rfl rfl rfl ?_; simp only [putT,st,ev,gt,hp,ofV,constT,intT,lm]
       refine WO_nil ?_
       refine W_ret ?_
       obtain rfl := Option.some.inj H
       exact told5w rfl rfl rfl rfl (fitAs_nz rfl) rfl rfl
      ·
       replace H := fl hc H
       refine W_skip ?_
       refine W_seq (W_region ?_)
       refine WO_op (x := .ag [qi 5, qi 0, qs [], .nil, .nil]) rfl rfl rfl ?_
       refine WO_op (x := .bp 4 0) (σ' := ⟨[], [some [qi a1.Kind, qi a1.N, qs a1.S, .c (cL eS a1.Keys), .c (cL eR_Node a1.Kids)], some [qi a2.Kind, qi a2.N, qs a2.S, .c (cL eS a2.Keys), .c (cL eR_Node a2.Kids)], some [qi a3.Kind, qi a3.N, qs a3.S, .c (cL eS a3.Keys), .c (cL eR_Node a3.Kids)], some [qi 0, qi 0, qs [], .nil, .nil], some [qi 0, qi 0, qs [], .nil, .nil]], [rr 1 eS ([] : List Str) true]⟩) rfl rfl rfl ?_
       refine WO_op (x := .no) (σ' := ⟨[], [some [qi a1.Kind, qi a1.N, qs a1.S, .c (cL eS a1.Keys), .c (cL eR_Node a1.Kids)], some [qi a2.Kind, qi a2.N, qs a2.S, .c (cL eS a2.Keys), .c (cL eR_Node a2.Kids)], some [qi a3.Kind, qi a3.N, qs a3.S, .c (cL eS a3.Keys), .c (cL eR_Node a3.Kids)], some [qi 0, qi 0, qs [], .nil, .nil], some [qi 5, qi 0, qs [], .nil, .nil]], [rr 1 eS ([] : List Str) true]⟩) rfl rfl rfl ?_; simp only [putT,st,ev,gt,hp,ofV,constT,intT,lm]
       refine WO_nil (W_seq (W_region ?_))
       refine WO_op (x := .ag [qi a1.Kind, qi a1.N, qs a1.S, .c (cL eS a1.Keys), .c (cL eR_Node a1.Kids)]) rfl rfl rfl ?_
       refine WO_op (x := .ag [qi a2.Kind, qi a2.N, qs a2.S, .c (cL eS a2.Keys), .c (cL eR_Node a2.Kids)]) rfl rfl rfl ?_
       refine WO_op (x := .ag [qi a3.Kind, qi a3.N, qs a3.S, .c (cL eS a3.Keys), .c (cL eR_Node a3.Kids)]) rfl rfl rfl ?_; simp only [putT,st,ev,gt,hp,ofV,constT,intT,lm]
       obtain ⟨x13, hx13, H⟩ := bnd H
       refine WO_op (x := .row 1) (σ' := ⟨[], [some [qi a1.Kind, qi a1.N, qs a1.S, .c (cL eS a1.Keys), .c (cL eR_Node a1.Kids)], some [qi a2.Kind, qi a2.N, qs a2.S, .c (cL eS a2.Keys), .c (cL eR_Node a2.Kids)], some [qi a3.Kind, qi a3.N, qs a3.S, .c (cL eS a3.Keys), .c (cL eR_Node a3.Kids)], some [qi 0, qi 0, qs [], .nil, .nil], some [qi 5, qi 0, qs [], .nil, .nil]], [rr 1 eS ([] : List Str) true, rr 1 eS x13 true]⟩) rfl rfl (ev_callG (al := [.ag [qi a1.Kind, qi a1.N, qs a1.S, .c (cL eS a1.Keys), .c (cL eR_Node a1.Kids)], .ag [qi a2.Kind, qi a2.N, qs a2.S, .c (cL eS a2.Keys), .c (cL eR_Node a2.Kids)], .ag [qi a3.Kind, qi a3.N, qs a3.S, .c (cL eS a3.Keys), .c (cL eR_Node a3.Kids)]]) (ls := []) (spec_l11Keys_ok hx13) rfl rfl rfl rfl rfl (by decide) rfl rfl (by simp only [flatA, flatV, flatC, List.all_cons, List.all_nil, Option.all_some, Option.all_none, Bool.and_self, Bool.or_true, fl_eS]) rfl rfl rfl) ?_; simp only [putT,st,ev,gt,hp,ofV,constT,intT,lm]
       refine WO_op rfl rfl rfl ?_; simp only [putT,st,ev,gt,hp,ofV,constT,intT,lm]
       refine WO_nil (W_seq (W_seq (W_region ?_)))
       refine WO_op rfl rfl rfl ?_; simp only [putT,st,ev,gt,hp,ofV,constT,intT,lm]
       refine WO_nil ?_
       refine W_block ?_
       obtain ⟨t24, ht24, H⟩ := bnd H
       refine loop_ruleM (ls := []) 1 (fun (i : Nat) (t24 : Int × Int × Str × List Str × List RNode × List Str) => match i with | 0 => ⟨[.no, .no, .no, .no, .no, .no, .bp 0 0, .no, .row 0, .bp 1 0], [some [qi 0, qi 0, qs [], .nil, .nil], some [qi t24.1, qi t24.2.1, qs t24.2.2.1, .nil, .nil]], [rr 1 eS t24.2.2.2.2.2 true]⟩ | _ => ⟨[.no, .no, .no, .no, .no, .no, .bp 0 0, .no, .row 0, .bp 1 0], [some [qi 0, qi 0, qs [], .nil, .nil], some [qi t24.1, qi t24.2.1, qs t24.2.2.1, .c (cL eS t24.2.2.2.1), .c (cL eR_Node t24.2.2.2.2.1)]], [rr 1 eS t24.2.2.2.2.2 true]⟩) (fun (i : Nat) t => match i with | 0 => t24 = t ∧ t.2.2.2.1 = [] ∧ t.2.2.2.2.1 = [] | 1 => t24 = t | _ => False) ⟨[.no, .no, .no, .bp 0 0, .bp 1 0, .bp 2 0, .bp 3 0, .no, .row 0, .bp 4 0, .row 1, qi 0], [some [qi a1.Kind, qi a1.N, qs a1.S, .c (cL eS a1.Keys), .c (cL eR_Node a1.Kids)], some [qi a2.Kind, qi a2.N, qs a2.S, .c (cL eS a2.Keys), .c (cL eR_Node a2.Kids)], some [qi a3.Kind, qi a3.N, qs a3.S, .c (cL eS a3.Keys), .c (cL eR_Node a3.Kids)], some [qi 0, qi 0, qs [], .nil, .nil], some [qi 5, qi 0, qs [], .nil, .nil]], [rr 1 eS ([] : List Str) true, rr 1 eS x13 true]⟩ (by repeat (first | exact mono_told | refine mono_seq ?_ | refine mono_blk ?_ | refine mono_lp ?_)) (le_intro [0, 1, 2, 3, 4] [0, 1] (by decide) (by decide) rfl (by simp [leS, leT, leA, gt]) (by simp [leB, leT, leA]) (by simp [leR])) ?_ ?_
       ·
        intro i t1 hp
        rcases i with _ | _ | i
        ·
         obtain ⟨rfl, hz_t24_3, hz_t24_4⟩ := hp
         refine W_seq (W_region ?_)
         refine WO_op (x := .ag [qi t24.1, qi t24.2.1, qs t24.2.2.1, .nil, .nil]) rfl rfl rfl ?_
         refine WO_op rfl rfl rfl ?_
         refine WO_op (x := .no) (σ' := ⟨[], [some [qi t24.1, qi t24.2.1, qs t24.2.2.1, .nil, .nil], some [qi t24.1, qi t24.2.1, qs t24.2.2.1, .nil, .nil]], [rr 1 eS t24.2.2.2.2.2 true]⟩) rfl rfl rfl ?_
         refine WO_op rfl rfl rfl ?_; simp only [putT,st,ev,gt,hp,ofV,constT,intT,lm]
         refine WO_nil ?_
         refine W_ret ?_
         obtain rfl := Option.some.inj H
         exact told5w rfl rfl rfl rfl (by have er : Try.f11.resultTypes.toList = [30, 22] := rfl; have e22 : sizes Try.prog 8 22 = [1] := (by kernel_rfl); have e30 : sizes Try.prog 8 30 = [0, 0, 0, 1, 5] := (by kernel_rfl); simp only [er, fitAs, e22, e30, fitA, fit_s, fit_n, fit_o, fit_z, fit_e, if_true]; try rfl) rfl (by simp only [hz_t24_3, hz_t24_4]; try rfl)
        ·
         obtain rfl := hp
         refine W_seq (W_region ?_)
         refine WO_op (x := .ag [qi t24.1, qi t24.2.1, qs t24.2.2.1, .c (cL eS t24.2.2.2.1), .c (cL eR_Node t24.2.2.2.2.1)]) rfl rfl rfl ?_
         refine WO_op rfl rfl rfl ?_
         refine WO_op (x := .no) (σ' := ⟨[], [some [qi t24.1, qi t24.2.1, qs t24.2.2.1, .c (cL eS t24.2.2.2.1), .c (cL eR_Node t24.2.2.2.2.1)], some [qi t24.1, qi t24.2.1, qs t24.2.2.1, .c (cL eS t24.2.2.2.1), .c (cL eR_Node t24.2.2.2.2.1)]], [rr 1 eS t24.2.2.2.2.2 true]⟩) rfl rfl rfl ?_
         refine WO_op rfl rfl rfl ?_; simp only [putT,st,ev,gt,hp,ofV,constT,intT,lm]
         refine WO_nil ?_
         refine W_ret ?_
         obtain rfl := Option.some.inj H
         exact told5w rfl rfl rfl rfl (fitAs_nz rfl) rfl rfl
        · exact hp.elim
       ·
        intro V1 hV1 hW1 hX1
        refine (spec_Merge.l0.partial_correctness rc20 a1 a2 a3 x13 (fun v14 v15 v16 v17 v18 v19 v20 s' => s' = t24 → (v18 = [] → v19 = [] → V1 ⟨[.no, .no, .no, .bp 0 0, .bp 1 0, .bp 2 0, .bp 3 0, .no, .row 0, .bp 4 0, .row 1, qi v14], [some [qi a1.Kind, qi a1.N, qs a1.S, .c (cL eS a1.Keys), .c (cL eR_Node a1.Kids)], some [qi a2.Kind, qi a2.N, qs a2.S, .c (cL eS a2.Keys), .c (cL eR_Node a2.Kids)], some [qi a3.Kind, qi a3.N, qs a3.S, .c (cL eS a3.Keys), .c (cL eR_Node a3.Kids)], some [qi 0, qi 0, qs [], .nil, .nil], some [qi v15, qi v16, qs v17, .nil, .nil]], [rr 1 eS v20 true, rr 1 eS x13 true]⟩) ∧ (V1 ⟨[.no, .no, .no, .bp 0 0, .bp 1 0, .bp 2 0, .bp 3 0, .no, .row 0, .bp 4 0, .row 1, qi v14], [some [qi a1.Kind, qi a1.N, qs a1.S, .c (cL eS a1.Keys), .c (cL eR_Node a1.Kids)], some [qi a2.Kind, qi a2.N, qs a2.S, .c (cL eS a2.Keys), .c (cL eR_Node a2.Kids)], some [qi a3.Kind, qi a3.N, qs a3.S, .c (cL eS a3.Keys), .c (cL eR_Node a3.Kids)], some [qi 0, qi 0, qs [], .nil, .nil], some [qi v15, qi v16, qs v17, .c (cL eS v18), .c (cL eR_Node v19)]], [rr 1 eS v20 true, rr 1 eS x13 true]⟩)) ?_ _ _ _ _ _ _ _ _ ht24 rfl).1 rfl rfl
        intro l0 IH1 v14 v15 v16 v17 v18 v19 v20 s' H1 e
        subst e
        refine ⟨?_, ?_⟩
        ·
         intro hn_v18 hn_v19
         refine hV1 _ ?_
         refine W_seq (W_seq (W_region ?_))
         iterate 4 (refine WO_op rfl rfl rfl ?_; simp only [putT,st,ev,gt,hp,ofV,constT,intT,lm])
         refine WO_nil ?_
         refine W_cond rfl (fun hc => ?_) (fun hc => ?_)
         ·
          replace H1 := tr hc H1
          refine W_skip ?_
          refine W_seq ?_
          refine W_block ?_
          refine W_seq ?_
          refine W_late [12] (by kernel_rfl) (by kernel_rfl) rfl ?_; simp only [clr,List.foldl,putT,st,ev,gt,hp,ofV,constT,intT,lm]
          refine WO_op (x := .ag [qi v15, qi v16, qs v17, .nil, .nil]) rfl rfl rfl ?_
          refine WO_op (x := .ag [qi a1.Kind, qi a1.N, qs a1.S, .c (cL eS a1.Keys), .c (cL eR_Node a1.Kids)]) rfl rfl rfl ?_
          refine WO_op (x := .ag [qi a2.Kind, qi a2.N, qs a2.S, .c (cL eS a2.Keys), .c (cL eR_Node a2.Kids)]) rfl rfl rfl ?_
          refine WO_op (x := .ag [qi a3.Kind, qi a3.N, qs a3.S, .c (cL eS a3.Keys), .c (cL eR_Node a3.Kids)]) rfl rfl rfl ?_; simp only [putT,st,ev,gt,hp,ofV,constT,intT,lm]
          iterate 2 (refine WO_op rfl rfl rfl ?_; simp only [putT,st,ev,gt,hp,ofV,constT,intT,lm])
          obtain ⟨x21, hx21, H1⟩ := bnd H1
          refine WO_op rfl rfl (ev_ixR (en := eS) hx21 rfl rfl rfl rfl rfl rfl rfl) ?_; simp only [putT,st,ev,gt,hp,ofV,constT,intT,lm]
          refine WO_op (x := qs x21) rfl rfl (ev_ldR (en := eS) hx21 rfl rfl rfl rfl) ?_; simp only [putT,st,ev,gt,hp,ofV,constT,intT,lm]
          obtain ⟨x22, hx22, H1⟩ := bnd H1
          refine WO_op (x := .tu [.ag [qi x22.1.Kind, qi x22.1.N, qs x22.1.S, .c (cL eS x22.1.Keys), .c (cL eR_Node x22.1.Kids)], .c (cL eS x22.2)]) (σ' := ⟨[], [some [qi a1.Kind, qi a1.N, qs a1.S, .c (cL eS a1.Keys), .c (cL eR_Node a1.Kids)], some [qi a2.Kind, qi a2.N, qs a2.S, .c (cL eS a2.Keys), .c (cL eR_Node a2.Kids)], some [qi a3.Kind, qi a3.N, qs a3.S, .c (cL eS a3.Keys), .c (cL eR_Node a3.Kids)], some [qi 0, qi 0, qs [], .nil, .nil], some [qi v15, qi v16, qs v17, .nil, .nil]], [rr 1 eS v20 true, rr 1 eS x13 true]⟩) rfl rfl (ev_callG (al := [.ag [qi v15, qi v16, qs v17, .nil, .nil], .ag [qi a1.Kind, qi a1.N, qs a1.S, .c (cL eS a1.Keys), .c (cL eR_Node a1.Kids)], .ag [qi a2.Kind, qi a2.N, qs a2.S, .c (cL eS a2.Keys), .c (cL eR_Node a2.Kids)], .ag [qi a3.Kind, qi a3.N, qs a3.S, .c (cL eS a3.Keys), .c (cL eR_Node a3.Kids)], qs x21]) (ls := []) (spec_l11Key_ok hrc20 hx22) rfl rfl rfl rfl rfl (by decide) rfl (by rw [hn_v18, hn_v19]; rfl) rfl rfl rfl rfl) ?_; simp only [putT,st,ev,gt,hp,ofV,constT,intT,lm]
          refine WO_op rfl rfl rfl ?_
          refine WO_op (x := .ag [qi x22.1.Kind, qi x22.1.N, qs x22.1.S, .c (cL eS x22.1.Keys), .c (cL eR_Node x22.1.Kids)]) rfl rfl rfl ?_
          refine WO_op (x := .c (cL eS x22.2)) rfl rfl rfl ?_
          refine WO_op (x := .bp 5 0) (σ' := ⟨[], [some [qi a1.Kind, qi a1.N, qs a1.S, .c (cL eS a1.Keys), .c (cL eR_Node a1.Kids)], some [qi a2.Kind, qi a2.N, qs a2.S, .c (cL eS a2.Keys), .c (cL eR_Node a2.Kids)], some [qi a3.Kind, qi a3.N, qs a3.S, .c (cL eS a3.Keys), .c (cL eR_Node a3.Kids)], some [qi 0, qi 0, qs [], .nil, .nil], some [qi v15, qi v16, qs v17, .nil, .nil], some [qi 0, qi 0, qs [], .nil, .nil]], [rr 1 eS v20 true, rr 1 eS x13 true]⟩) rfl rfl rfl ?_; simp only [putT,st,ev,gt,hp,ofV,constT,intT,lm]
          refine WO_op (x := .no) (σ' := ⟨[], [some [qi a1.Kind, qi a1.N, qs a1.S, .c (cL eS a1.Keys), .c (cL eR_Node a1.Kids)], some [qi a2.Kind, qi a2.N, qs a2.S, .c (cL eS a2.Keys), .c (cL eR_Node a2.Kids)], some [qi a3.Kind, qi a3.N, qs a3.S, .c (cL eS a3.Keys), .c (cL eR_Node a3.Kids)], some [qi 0, qi 0, qs [], .nil, .nil], some [qi v15, qi v16, qs v17, .nil, .nil], some [qi x22.1.Kind, qi x22.1.N, qs x22.1.S, .c (cL eS x22.1.Keys), .c (cL eR_Node x22.1.Kids)]], [rr 1 eS v20 true, rr 1 eS x13 true]⟩) rfl rfl rfl ?_
          refine WO_op rfl rfl rfl ?_; simp only [putT,st,ev,gt,hp,ofV,constT,intT,lm]
          refine WO_nil (W_seq (W_region ?_))
          refine WO_op (x := .ag [qi x22.1.Kind, qi x22.1.N, qs x22.1.S, .c (cL eS x22.1.Keys), .c (cL eR_Node x22.1.Kids)]) rfl rfl rfl ?_
          refine WO_op (x := .no) (σ' := ⟨[], [some [qi a1.Kind, qi a1.N, qs a1.S, .c (cL eS a1.Keys), .c (cL eR_Node a1.Kids)], some [qi a2.Kind, qi a2.N, qs a2.S, .c (cL eS a2.Keys), .c (cL eR_Node a2.Kids)], some [qi a3.Kind, qi a3.N, qs a3.S, .c (cL eS a3.Keys), .c (cL eR_Node a3.Kids)], some [qi 0, qi 0, qs [], .nil, .nil], some [qi x22.1.Kind, qi x22.1.N, qs x22.1.S, .c (cL eS x22.1.Keys), .c (cL eR_Node x22.1.Kids)], some [qi x22.1.Kind, qi x22.1.N, qs x22.1.S, .c (cL eS x22.1.Keys), .c (cL eR_Node x22.1.Kids)]], [rr 1 eS v20 true, rr 1 eS x13 true]⟩) rfl rfl rfl ?_; simp only [putT,st,ev,gt,hp,ofV,constT,intT,lm]
          refine WO_nil (W_region ?_)
          iterate 2 (refine WO_op rfl rfl rfl ?_; simp only [putT,st,ev,gt,hp,ofV,constT,intT,lm])
          obtain ⟨m23, hm23, H1⟩ := bnd H1
          refine WO_op (x := .row 2) (σ' := ⟨[], [some [qi a1.Kind, qi a1.N, qs a1.S, .c (cL eS a1.Keys), .c (cL eR_Node a1.Kids)], some [qi a2.Kind, qi a2.N, qs a2.S, .c (cL eS a2.Keys), .c (cL eR_Node a2.Kids)], some [qi a3.Kind, qi a3.N, qs a3.S, .c (cL eS a3.Keys), .c (cL eR_Node a3.Kids)], some [qi 0, qi 0, qs [], .nil, .nil], some [qi x22.1.Kind, qi x22.1.N, qs x22.1.S, .c (cL eS x22.1.Keys), .c (cL eR_Node x22.1.Kids)], some [qi x22.1.Kind, qi x22.1.N, qs x22.1.S, .c (cL eS x22.1.Keys), .c (cL eR_Node x22.1.Kids)]], [none, rr 1 eS x13 true, rr 1 eS m23 true]⟩) rfl rfl (ev_app (en := eS) hm23 rfl rfl rfl rfl (Or.inl rfl) rfl rfl rfl rfl rfl rfl rfl rfl rfl rfl rfl (fun _ => rfl) rfl (Or.inr rfl) rfl) ?_; simp only [putT,st,ev,gt,hp,ofV,constT,intT,lm]
          refine WO_op rfl rfl rfl ?_; simp only [putT,st,ev,gt,hp,ofV,constT,intT,lm]
          refine WO_nil (W_region ?_)
          iterate 3 (refine WO_op rfl rfl rfl ?_; simp only [putT,st,ev,gt,hp,ofV,constT,intT,lm])
          refine WO_nil ?_
          exact hW1 _ _ ((IH1 _ _ _ _ _ _ _ _ H1 rfl).2) (le_intro [0, 1, 2, 3, 4] [2, 1] (by decide) (by decide) rfl (by simp [leS, leT, leA, gt]) (by simp [leB, leT, leA]) (by simp [leR]))
         ·
          replace H1 := fl hc H1
          refine W_exit ?_
          obtain rfl := Option.some.inj H1
          exact hX1 0 (v15, v16, v17, v18, v19, v20) _ ⟨rfl, hn_v18, hn_v19⟩ (le_intro [3, 4] [0] (by decide) (by decide) rfl (by simp [leS, leT, leA, gt]) (by simp [leB, leT, leA]) (by simp [leR]))
        ·
         skip
         refine hV1 _ ?_
         refine W_seq (W_seq (W_region ?_))
         iterate 4 (refine WO_op rfl rfl rfl ?_; simp only [putT,st,ev,gt,hp,ofV,constT,intT,lm])
         refine WO_nil ?_
         refine W_cond rfl (fun hc => ?_) (fun hc => ?_)
         ·
          replace H1 := tr hc H1
          refine W_skip ?_
          refine W_seq ?_
          refine W_block ?_
          refine W_seq ?_
          refine W_late [12] (by kernel_rfl) (by kernel_rfl) rfl ?_; simp only [clr,List.foldl,putT,st,ev,gt,hp,ofV,constT,intT,lm]
          refine WO_op (x := .ag [qi v15, qi v16, qs v17, .c (cL eS v18), .c (cL eR_Node v19)]) rfl rfl rfl ?_
          refine WO_op (x := .ag [qi a1.Kind, qi a1.N, qs a1.S, .c (cL eS a1.Keys), .c (cL eR_Node a1.Kids)]) rfl rfl rfl ?_
          refine WO_op (x := .ag [qi a2.Kind, qi a2.N, qs a2.S, .c (cL eS a2.Keys), .c (cL eR_Node a2.Kids)]) rfl rfl rfl ?_
          refine WO_op (x := .ag [qi a3.Kind, qi a3.N, qs a3.S, .c (cL eS a3.Keys), .c (cL eR_Node a3.Kids)]) rfl rfl rfl ?_; simp only [putT,st,ev,gt,hp,ofV,constT,intT,lm]
          iterate 2 (refine WO_op rfl rfl rfl ?_; simp only [putT,st,ev,gt,hp,ofV,constT,intT,lm])
          obtain ⟨x21, hx21, H1⟩ := bnd H1
          refine WO_op rfl rfl (ev_ixR (en := eS) hx21 rfl rfl rfl rfl rfl rfl rfl) ?_; simp only [putT,st,ev,gt,hp,ofV,constT,intT,lm]
          refine WO_op (x := qs x21) rfl rfl (ev_ldR (en := eS) hx21 rfl rfl rfl rfl) ?_; simp only [putT,st,ev,gt,hp,ofV,constT,intT,lm]
          obtain ⟨x22, hx22, H1⟩ := bnd H1
          refine WO_op (x := .tu [.ag [qi x22.1.Kind, qi x22.1.N, qs x22.1.S, .c (cL eS x22.1.Keys), .c (cL eR_Node x22.1.Kids)], .c (cL eS x22.2)]) (σ' := ⟨[], [some [qi a1.Kind, qi a1.N, qs a1.S, .c (cL eS a1.Keys), .c (cL eR_Node a1.Kids)], some [qi a2.Kind, qi a2.N, qs a2.S, .c (cL eS a2.Keys), .c (cL eR_Node a2.Kids)], some [qi a3.Kind, qi a3.N, qs a3.S, .c (cL eS a3.Keys), .c (cL eR_Node a3.Kids)], some [qi 0, qi 0, qs [], .nil, .nil], some [qi v15, qi v16, qs v17, .c (cL eS v18), .c (cL eR_Node v19)]], [rr 1 eS v20 true, rr 1 eS x13 true]⟩) rfl rfl (ev_callG (al := [.ag [qi v15, qi v16, qs v17, .c (cL eS v18), .c (cL eR_Node v19)], .ag [qi a1.Kind, qi a1.N, qs a1.S, .c (cL eS a1.Keys), .c (cL eR_Node a1.Kids)], .ag [qi a2.Kind, qi a2.N, qs a2.S, .c (cL eS a2.Keys), .c (cL eR_Node a2.Kids)], .ag [qi a3.Kind, qi a3.N, qs a3.S, .c (cL eS a3.Keys), .c (cL eR_Node a3.Kids)], qs x21]) (ls := []) (spec_l11Key_ok hrc20 hx22) rfl rfl rfl rfl rfl (by decide) rfl rfl rfl rfl rfl rfl) ?_; simp only [putT,st,ev,gt,hp,ofV,constT,intT,lm]
          refine WO_op rfl rfl rfl ?_
          refine WO_op (x := .ag [qi x22.1.Kind, qi x22.1.N, qs x22.1.S, .c (cL eS x22.1.Keys), .c (cL eR_Node x22.1.Kids)]) rfl rfl rfl ?_
          refine WO_op (x := .c (cL eS x22.2)) rfl rfl rfl ?_
          refine WO_op (x := .bp 5 0) (σ' := ⟨[], [some [qi a1.Kind, qi a1.N, qs a1.S, .c (cL eS a1.Keys), .c (cL eR_Node a1.Kids)], some [qi a2.Kind, qi a2.N, qs a2.S, .c (cL eS a2.Keys), .c (cL eR_Node a2.Kids)], some [qi a3.Kind, qi a3.N, qs a3.S, .c (cL eS a3.Keys), .c (cL eR_Node a3.Kids)], some [qi 0, qi 0, qs [], .nil, .nil], some [qi v15, qi v16, qs v17, .c (cL eS v18), .c (cL eR_Node v19)], some [qi 0, qi 0, qs [], .nil, .nil]], [rr 1 eS v20 true, rr 1 eS x13 true]⟩) rfl rfl rfl ?_; simp only [putT,st,ev,gt,hp,ofV,constT,intT,lm]
          refine WO_op (x := .no) (σ' := ⟨[], [some [qi a1.Kind, qi a1.N, qs a1.S, .c (cL eS a1.Keys), .c (cL eR_Node a1.Kids)], some [qi a2.Kind, qi a2.N, qs a2.S, .c (cL eS a2.Keys), .c (cL eR_Node a2.Kids)], some [qi a3.Kind, qi a3.N, qs a3.S, .c (cL eS a3.Keys), .c (cL eR_Node a3.Kids)], some [qi 0, qi 0, qs [], .nil, .nil], some [qi v15, qi v16, qs v17, .c (cL eS v18), .c (cL eR_Node v19)], some [qi x22.1.Kind, qi x22.1.N, qs x22.1.S, .c (cL eS x22.1.Keys), .c (cL eR_Node x22.1.Kids)]], [rr 1 eS v20 true, rr 1 eS x13 true]⟩) rfl rfl rfl ?_
          refine WO_op rfl rfl rfl ?_; simp only [putT,st,ev,gt,hp,ofV,constT,intT,lm]
          refine WO_nil (W_seq (W_region ?_))
          refine WO_op (x := .ag [qi x22.1.Kind, qi x22.1.N, qs x22.1.S, .c (cL eS x22.1.Keys), .c (cL eR_Node x22.1.Kids)]) rfl rfl rfl ?_
          refine WO_op (x := .no) (σ' := ⟨[], [some [qi a1.Kind, qi a1.N, qs a1.S, .c (cL eS a1.Keys), .c (cL eR_Node a1.Kids)], some [qi a2.Kind, qi a2.N, qs a2.S, .c (cL eS a2.Keys), .c (cL eR_Node a2.Kids)], some [qi a3.Kind, qi a3.N, qs a3.S, .c (cL eS a3.Keys), .c (cL eR_Node a3.Kids)], some [qi 0, qi 0, qs [], .nil, .nil], some [qi x22.1.Kind, qi x22.1.N, qs x22.1.S, .c (cL eS x22.1.Keys), .c (cL eR_Node x22.1.Kids)], some [qi x22.1.Kind, qi x22.1.N, qs x22.1.S, .c (cL eS x22.1.Keys), .c (cL eR_Node x22.1.Kids)]], [rr 1 eS v20 true, rr 1 eS x13 true]⟩) rfl rfl rfl ?_; simp only [putT,st,ev,gt,hp,ofV,constT,intT,lm]
          refine WO_nil (W_region ?_)
          iterate 2 (refine WO_op rfl rfl rfl ?_; simp only [putT,st,ev,gt,hp,ofV,constT,intT,lm])
          obtain ⟨m23, hm23, H1⟩ := bnd H1
          refine WO_op (x := .row 2) (σ' := ⟨[], [some [qi a1.Kind, qi a1.N, qs a1.S, .c (cL eS a1.Keys), .c (cL eR_Node a1.Kids)], some [qi a2.Kind, qi a2.N, qs a2.S, .c (cL eS a2.Keys), .c (cL eR_Node a2.Kids)], some [qi a3.Kind, qi a3.N, qs a3.S, .c (cL eS a3.Keys), .c (cL eR_Node a3.Kids)], some [qi 0, qi 0, qs [], .nil, .nil], some [qi x22.1.Kind, qi x22.1.N, qs x22.1.S, .c (cL eS x22.1.Keys), .c (cL eR_Node x22.1.Kids)], some [qi x22.1.Kind, qi x22.1.N, qs x22.1.S, .c (cL eS x22.1.Keys), .c (cL eR_Node x22.1.Kids)]], [none, rr 1 eS x13 true, rr 1 eS m23 true]⟩) rfl rfl (ev_app (en := eS) hm23 rfl rfl rfl rfl (Or.inl rfl) rfl rfl rfl rfl rfl rfl rfl rfl rfl rfl rfl (fun _ => rfl) rfl (Or.inr rfl) rfl) ?_; simp only [putT,st,ev,gt,hp,ofV,constT,intT,lm]
          refine WO_op rfl rfl rfl ?_; simp only [putT,st,ev,gt,hp,ofV,constT,intT,lm]
          refine WO_nil (W_region ?_)
          iterate 3 (refine WO_op rfl rfl rfl ?_; simp only [putT,st,ev,gt,hp,ofV,constT,intT,lm])
          refine WO_nil ?_
          exact hW1 _ _ ((IH1 _ _ _ _ _ _ _ _ H1 rfl).2) (le_intro [0, 1, 2, 3, 4] [2, 1] (by decide) (by decide) rfl (by simp [leS, leT, leA, gt]) (by simp [leB, leT, leA]) (by simp [leR]))
         ·
          replace H1 := fl hc H1
          refine W_exit ?_
          obtain rfl := Option.some.inj H1
          exact hX1 1 (v15, v16, v17, v18, v19, v20) _ rfl (le_intro [3, 4] [0] (by decide) (by decide) rfl (by simp [leS, leT, leA, gt]) (by simp [leB, leT, leA]) (by simp [leR]))
theorem spec_Merge_n_ok : ∀ (k : Nat) {a1 : Node} {a2 : Node} {a3 : Node} {r : Node × List Str}, spec_Merge_n k a1 a2 a3 = some r → R 11 [.ag [(cI .i64 a1.Kind, none), (cI .i64 a1.N, none), (cS a1.S, none), (cL eS a1.Keys, none), (cL eR_Node a1.Kids, none)], .ag [(cI .i64 a2.Kind, none), (cI .i64 a2.N, none), (cS a2.S, none), (cL eS a2.Keys, none), (cL eR_Node a2.Kids, none)], .ag [(cI .i64 a3.Kind, none), (cI .i64 a3.N, none), (cS a3.S, none), (cL eS a3.Keys, none), (cL eR_Node a3.Kids, none)]] = some (.tu [.ag [(cI .i64 r.1.Kind, none), (cI .i64 r.1.N, none), (cS r.1.S, none), (cL eS r.1.Keys, none), (cL eR_Node r.1.Kids, none)], .c (cL eS r.2) none], [])
  | 0, _, _, _, _, h => by simp [spec_Merge_n] at h
  | k + 1, _, _, _, _, h => spec_Merge_F_ok (fun h => spec_Merge_n_ok k h) h
theorem spec_Merge_ok {a1 : Node} {a2 : Node} {a3 : Node} {r : Node × List Str} (H : spec_Merge a1 a2 a3 = some r) : R 11 [.ag [(cI .i64 a1.Kind, none), (cI .i64 a1.N, none), (cS a1.S, none), (cL eS a1.Keys, none), (cL eR_Node a1.Kids, none)], .ag [(cI .i64 a2.Kind, none), (cI .i64 a2.N, none), (cS a2.S, none), (cL eS a2.Keys, none), (cL eR_Node a2.Kids, none)], .ag [(cI .i64 a3.Kind, none), (cI .i64 a3.N, none), (cS a3.S, none), (cL eS a3.Keys, none), (cL eR_Node a3.Kids, none)]] = some (.tu [.ag [(cI .i64 r.1.Kind, none), (cI .i64 r.1.N, none), (cS r.1.S, none), (cL eS r.1.Keys, none), (cL eR_Node r.1.Kids, none)], .c (cL eS r.2) none], []) := by
  obtain ⟨k, hk⟩ := Nt.lim_ex H
  exact spec_Merge_n_ok k (hk k (Nat.le_refl k))
theorem spec_Agreed_ok  {a1 : Node} {a2 : Node} {a3 : Node} {r : Bool} (H : spec_Agreed a1 a2 a3 = some r) : R 5 [.ag [(cI .i64 a1.Kind, none), (cI .i64 a1.N, none), (cS a1.S, none), (cL eS a1.Keys, none), (cL eR_Node a1.Kids, none)], .ag [(cI .i64 a2.Kind, none), (cI .i64 a2.N, none), (cS a2.S, none), (cL eS a2.Keys, none), (cL eR_Node a2.Kids, none)], .ag [(cI .i64 a3.Kind, none), (cI .i64 a3.N, none), (cS a3.S, none), (cL eS a3.Keys, none), (cL eR_Node a3.Kids, none)]] = some (.c (cB r) none, []) := by
 unfold spec_Agreed at H
 refine Fz_walk false 19 rfl rfl rfl Try.func5 rfl (by kernel_rfl) rfl rfl rfl rfl ?_
 simp only [tellVs, tellV, tells, tell, st0, padT, SX.newRow, SX.newBox, List.length_cons, List.length_nil, Nat.reduceAdd, Nat.reduceSub, List.replicate, List.cons_append, List.nil_append, List.foldl_cons, List.foldl_nil]
 refine W_seq (W_region ?_)
 refine WO_op (x := .bp 0 0) (σ' := ⟨[], [some [qi a1.Kind, qi a1.N, qs a1.S, .c (cL eS a1.Keys), .c (cL eR_Node a1.Kids)]], []⟩) rfl rfl rfl ?_
 refine WO_op (x := .bp 1 0) (σ' := ⟨[], [some [qi a1.Kind, qi a1.N, qs a1.S, .c (cL eS a1.Keys), .c (cL eR_Node a1.Kids)], some [qi a2.Kind, qi a2.N, qs a2.S, .c (cL eS a2.Keys), .c (cL eR_Node a2.Kids)]], []⟩) rfl rfl rfl ?_
 refine WO_op (x := .bp 2 0) (σ' := ⟨[], [some [qi a1.Kind, qi a1.N, qs a1.S, .c (cL eS a1.Keys), .c (cL eR_Node a1.Kids)], some [qi a2.Kind, qi a2.N, qs a2.S, .c (cL eS a2.Keys), .c (cL eR_Node a2.Kids)], some [qi a3.Kind, qi a3.N, qs a3.S, .c (cL eS a3.Keys), .c (cL eR_Node a3.Kids)]], []⟩) rfl rfl rfl ?_
 refine WO_op rfl rfl rfl ?_; simp only [putT,st,ev,gt,hp,ofV,constT,intT,lm]
 refine WO_nil (W_seq (W_region ?_))
 refine WO_op (x := .ag [qi a1.Kind, qi a1.N, qs a1.S, .c (cL eS a1.Keys), .c (cL eR_Node a1.Kids)]) rfl rfl rfl ?_
 refine WO_op (x := .ag [qi a2.Kind, qi a2.N, qs a2.S, .c (cL eS a2.Keys), .c (cL eR_Node a2.Kids)]) rfl rfl rfl ?_
 refine WO_op (x := .ag [qi a3.Kind, qi a3.N, qs a3.S, .c (cL eS a3.Keys), .c (cL eR_Node a3.Kids)]) rfl rfl rfl ?_; simp only [putT,st,ev,gt,hp,ofV,constT,intT,lm]
 obtain ⟨x4, hx4, H⟩ := bnd H
 refine WO_op (x := .tu [.ag [qi x4.1.Kind, qi x4.1.N, qs x4.1.S, .c (cL eS x4.1.Keys), .c (cL eR_Node x4.1.Kids)], .c (cL eS x4.2)]) (σ' := ⟨[], [some [qi a1.Kind, qi a1.N, qs a1.S, .c (cL eS a1.Keys), .c (cL eR_Node a1.Kids)], some [qi a2.Kind, qi a2.N, qs a2.S, .c (cL eS a2.Keys), .c (cL eR_Node a2.Kids)], some [qi a3.Kind, qi a3.N, qs a3.S, .c (cL eS a3.Keys), .c (cL eR_Node a3.Kids)]], []⟩) rfl rfl (ev_callG (al := [.ag [qi a1.Kind, qi a1.N, qs a1.S, .c (cL eS a1.Keys), .c (cL eR_Node a1.Kids)], .ag [qi a2.Kind, qi a2.N, qs a2.S, .c (cL eS a2.Keys), .c (cL eR_Node a2.Kids)], .ag [qi a3.Kind, qi a3.N, qs a3.S, .c (cL eS a3.Keys), .c (cL eR_Node a3.Kids)]]) (ls := []) (spec_Merge_ok hx4) rfl rfl rfl rfl rfl (by decide) rfl rfl rfl rfl rfl rfl) ?_; simp only [putT,st,ev,gt,hp,ofV,constT,intT,lm]
 refine WO_op rfl rfl rfl ?_
 refine WO_op (x := .ag [qi x4.1.Kind, qi x4.1.N, qs x4.1.S, .c (cL eS x4.1.Keys), .c (cL eR_Node x4.1.Kids)]) rfl rfl rfl ?_
 refine WO_op (x := .c (cL eS x4.2)) rfl rfl rfl ?_
 refine WO_op (x := .bp 3 0) (σ' := ⟨[], [some [qi a1.Kind, qi a1.N, qs a1.S, .c (cL eS a1.Keys), .c (cL eR_Node a1.Kids)], some [qi a2.Kind, qi a2.N, qs a2.S, .c (cL eS a2.Keys), .c (cL eR_Node a2.Kids)], some [qi a3.Kind, qi a3.N, qs a3.S, .c (cL eS a3.Keys), .c (cL eR_Node a3.Kids)], some [qi 0, qi 0, qs [], .nil, .nil]], []⟩) rfl rfl rfl ?_; simp only [putT,st,ev,gt,hp,ofV,constT,intT,lm]
 refine WO_op (x := .no) (σ' := ⟨[], [some [qi a1.Kind, qi a1.N, qs a1.S, .c (cL eS a1.Keys), .c (cL eR_Node a1.Kids)], some [qi a2.Kind, qi a2.N, qs a2.S, .c (cL eS a2.Keys), .c (cL eR_Node a2.Kids)], some [qi a3.Kind, qi a3.N, qs a3.S, .c (cL eS a3.Keys), .c (cL eR_Node a3.Kids)], some [qi x4.1.Kind, qi x4.1.N, qs x4.1.S, .c (cL eS x4.1.Keys), .c (cL eR_Node x4.1.Kids)]], []⟩) rfl rfl rfl ?_
 refine WO_op rfl rfl rfl ?_; simp only [putT,st,ev,gt,hp,ofV,constT,intT,lm]
 refine WO_nil (W_seq (W_region ?_))
 iterate 4 (refine WO_op rfl rfl rfl ?_; simp only [putT,st,ev,gt,hp,ofV,constT,intT,lm])
 refine WO_nil ?_
 refine W_ret ?_
 obtain rfl := Option.some.inj H
 exact told3 rfl
theorem slices_Equal_Sstring_string_ok  {a1 : List Str} {a2 : List Str} {r : Bool} (H : slices_Equal_Sstring_string a1 a2 = some r) : R 33 [.c (cL eS a1) none, .c (cL eS a2) none] = some (.c (cB r) none, []) := by
 unfold slices_Equal_Sstring_string at H
 refine Fz_walk false 26 rfl rfl rfl Try.func33 rfl (by kernel_rfl) rfl rfl rfl rfl ?_
 simp only [tellVs, tellV, tells, tell, st0, padT, SX.newRow, SX.newBox, List.length_cons, List.length_nil, Nat.reduceAdd, Nat.reduceSub, List.replicate, List.cons_append, List.nil_append, List.foldl_cons, List.foldl_nil]
 refine W_seq (W_region ?_)
 refine WO_op rfl rfl rfl ?_; simp only [putT,st,ev,gt,hp,ofV,constT,intT,lm]
 refine WO_nil (W_seq (W_seq (W_region ?_)))
 iterate 5 (refine WO_op rfl rfl rfl ?_; simp only [putT,st,ev,gt,hp,ofV,constT,intT,lm])
 refine WO_nil ?_
 refine W_cond rfl (fun hc => ?_) (fun hc => ?_)
 ·
  replace H := tr hc H
  refine W_seq (W_region ?_)
  refine WO_op rfl rfl rfl ?_; simp only [putT,st,ev,gt,hp,ofV,constT,intT,lm]
  refine WO_nil ?_
  refine W_ret ?_
  obtain rfl := Option.some.inj H
  exact told3 rfl
 ·
  replace H := fl hc H
  refine W_skip ?_
  refine W_seq (W_seq (W_region ?_))
  iterate 3 (refine WO_op rfl rfl rfl ?_; simp only [putT,st,ev,gt,hp,ofV,constT,intT,lm])
  refine WO_nil ?_
  refine W_block ?_
  obtain ⟨s7, hs7, H⟩ := bnd H
  refine loop_rule (ls := []) 0 (fun t6 : Unit => ⟨[], [], []⟩) (fun t => s7 = .inr t) ⟨[.c (cL eS a1), .c (cL eS a2), .no, .no, .no, .no, .no, .no, .no, .no, .no, .no, qi (a1.length : Int), qi 0], [], []⟩ (by repeat (first | exact mono_told | refine mono_seq ?_ | refine mono_blk ?_ | refine mono_lp ?_)) (le_intro [] [] (by decide) (by decide) rfl (by simp [leS, leT, leA, gt]) (by simp [leB, leT, leA]) (by simp [leR])) ?_ ?_
  ·
   rintro t6 rfl
   refine W_seq (W_region ?_)
   refine WO_op rfl rfl rfl ?_; simp only [putT,st,ev,gt,hp,ofV,constT,intT,lm]
   refine WO_nil ?_
   refine W_ret ?_
   obtain rfl := Option.some.inj H
   exact told3 rfl
  ·
   intro V1 hV1 hW1 hX1
   refine (slices_Equal_Sstring_string.l0.partial_correctness a1 a2 (fun v3 s' => s' = s7 → (V1 ⟨[.c (cL eS a1), .c (cL eS a2), .no, .no, .no, .no, .no, .no, .no, .no, .no, .no, qi (a1.length : Int), qi v3], [], []⟩)) ?_ _ _ hs7 rfl)
   intro l0 IH1 v3 s' H1 e
   subst e
   refine hV1 _ ?_
   refine W_seq (W_region ?_)
   refine WO_op rfl rfl rfl ?_; simp only [putT,st,ev,gt,hp,ofV,constT,intT,lm]
   refine WO_nil (W_seq ?_)
   refine W_cond rfl (fun hc => ?_) (fun hc => ?_)
   ·
    replace H1 := tr hc H1
    refine W_skip ?_
    refine W_seq ?_
    refine W_block ?_
    refine W_seq (W_region ?_)
    iterate 2 (refine WO_op rfl rfl rfl ?_; simp only [putT,st,ev,gt,hp,ofV,constT,intT,lm])
    refine WO_nil (W_seq ?_)
    refine W_draw (by kernel_rfl) (by kernel_rfl) ?_
    iterate 2 (refine WO_op rfl rfl rfl ?_; simp only [putT,st,ev,gt,hp,ofV,constT,intT,lm])
    obtain ⟨x4, hx4, H1⟩ := bnd H1
    refine WO_op rfl rfl (ev_ix (en := eS) hx4 rfl rfl rfl rfl rfl rfl rfl) ?_; simp only [putT,st,ev,gt,hp,ofV,constT,intT,lm]
    refine WO_op (x := qs x4) rfl rfl rfl ?_; simp only [putT,st,ev,gt,hp,ofV,constT,intT,lm]
    iterate 2 (refine WO_op rfl rfl rfl ?_; simp only [putT,st,ev,gt,hp,ofV,constT,intT,lm])
    obtain ⟨x5, hx5, H1⟩ := bnd H1
    refine WO_op rfl rfl (ev_ix (en := eS) hx5 rfl rfl rfl rfl rfl rfl rfl) ?_; simp only [putT,st,ev,gt,hp,ofV,constT,intT,lm]
    refine WO_op (x := qs x5) rfl rfl rfl ?_; simp only [putT,st,ev,gt,hp,ofV,constT,intT,lm]
    refine WO_op rfl rfl (ev_neq_s rfl rfl rfl) ?_; simp only [putT,st,ev,gt,hp,ofV,constT,intT,lm]
    refine WO_nil ?_
    refine W_cond rfl (fun hc => ?_) (fun hc => ?_)
    ·
     replace H1 := tr hc H1
     refine W_seq (W_region ?_)
     refine WO_op rfl rfl rfl ?_; simp only [putT,st,ev,gt,hp,ofV,constT,intT,lm]
     refine WO_nil ?_
     refine W_ret ?_
     obtain rfl := Option.some.inj H1
     obtain rfl := Option.some.inj H
     exact told3 rfl
    ·
     replace H1 := fl hc H1
     refine W_skip ?_
     refine W_region ?_
     iterate 2 (refine WO_op rfl rfl rfl ?_; simp only [putT,st,ev,gt,hp,ofV,constT,intT,lm])
     refine WO_nil ?_
     exact hW1 _ _ ((IH1 _ _ H1 rfl)) (le_intro [] [] (by decide) (by decide) rfl (by simp [leS, leT, leA, gt]) (by simp [leB, leT, leA]) (by simp [leR]))
   ·
    replace H1 := fl hc H1
    refine W_exit ?_
    obtain rfl := Option.some.inj H1
    exact hX1 () _ rfl (le_intro [] [] (by decide) (by decide) rfl (by simp [leS, leT, leA, gt]) (by simp [leB, leT, leA]) (by simp [leR]))
theorem slices_EqualFunc_Simpl_Node_Simpl_Node_impl_Node_impl_Node_impl_TreeSame_ok {rc33 : Node → Node → Option (Bool)} (hrc33 : ∀ {a1 : Node} {a2 : Node} {r : Bool}, rc33 a1 a2 = some r → R 21 [.ag [(cI .i64 a1.Kind, none), (cI .i64 a1.N, none), (cS a1.S, none), (cL eS a1.Keys, none), (cL eR_Node a1.Kids, none)], .ag [(cI .i64 a2.Kind, none), (cI .i64 a2.N, none), (cS a2.S, none), (cL eS a2.Keys, none), (cL eR_Node a2.Kids, none)]] = some (.c (cB r) none, [])) {a1 : List RNode} {a2 : List RNode} {r : Bool} (H : slices_EqualFunc_Simpl_Node_Simpl_Node_impl_Node_impl_Node_impl_TreeSame rc33 a1 a2 = some r) : R 34 [.c (cL eR_Node a1) none, .c (cL eR_Node a2) none, .f 21 []] = some (.c (cB r) none, []) := by
 unfold slices_EqualFunc_Simpl_Node_Simpl_Node_impl_Node_impl_Node_impl_TreeSame at H
 refine Fz_walk false 32 rfl rfl rfl Try.func34 rfl (by kernel_rfl) rfl rfl rfl rfl ?_
 simp only [tellVs, tellV, tells, tell, st0, padT, SX.newRow, SX.newBox, List.length_cons, List.length_nil, Nat.reduceAdd, Nat.reduceSub, List.replicate, List.cons_append, List.nil_append, List.foldl_cons, List.foldl_nil]
 refine W_seq (W_region ?_)
 refine WO_op rfl rfl rfl ?_; simp only [putT,st,ev,gt,hp,ofV,constT,intT,lm]
 refine WO_nil (W_seq (W_seq (W_region ?_)))
 iterate 5 (refine WO_op rfl rfl rfl ?_; simp only [putT,st,ev,gt,hp,ofV,constT,intT,lm])
 refine WO_nil ?_
 refine W_cond rfl (fun hc => ?_) (fun hc => ?_)
 ·
  replace H := tr hc H
  refine W_seq (W_region ?_)
  refine WO_op rfl rfl rfl ?_; simp only [putT,st,ev,gt,hp,ofV,constT,intT,lm]
  refine WO_nil ?_
  refine W_ret ?_
  obtain rfl := Option.some.inj H
  exact told3 rfl
 ·
  replace H := fl hc H
  refine W_skip ?_
  refine W_seq (W_seq (W_region ?_))
  iterate 3 (refine WO_op rfl rfl rfl ?_; simp only [putT,st,ev,gt,hp,ofV,constT,intT,lm])
  refine WO_nil ?_
  refine W_block ?_
  obtain ⟨s10, hs10, H⟩ := bnd H
  refine loop_rule (ls := []) 0 (fun t9 : Unit => ⟨[], [], []⟩) (fun t => s10 = .inr t) ⟨[.no, .c (cL eR_Node a2), .fn 21 [], .no, .no, .no, .no, .no, .no, .no, .no, .no, .no, .no, .no, .c (cL eR_Node a1), qi (a1.length : Int), qi 0], [], []⟩ (by repeat (first | exact mono_told | refine mono_seq ?_ | refine mono_blk ?_ | refine mono_lp ?_)) (le_intro [] [] (by decide) (by decide) rfl (by simp [leS, leT, leA, gt]) (by simp [leB, leT, leA]) (by simp [leR])) ?_ ?_
  ·
   rintro t9 rfl
   refine W_seq (W_region ?_)
   refine WO_op rfl rfl rfl ?_; simp only [putT,st,ev,gt,hp,ofV,constT,intT,lm]
   refine WO_nil ?_
   refine W_ret ?_
   obtain rfl := Option.some.inj H
   exact told3 rfl
  ·
   intro V1 hV1 hW1 hX1
   refine (slices_EqualFunc_Simpl_Node_Simpl_Node_impl_Node_impl_Node_impl_TreeSame.l0.partial_correctness rc33 a1 a2 (fun v3 s' => s' = s10 → (V1 ⟨[.no, .c (cL eR_Node a2), .fn 21 [], .no, .no, .no, .no, .no, .no, .no, .no, .no, .no, .no, .no, .c (cL eR_Node a1), qi (a1.length : Int), qi v3], [], []⟩)) ?_ _ _ hs10 rfl)
   intro l0 IH1 v3 s' H1 e
   subst e
   refine hV1 _ ?_
   refine W_seq (W_region ?_)
   refine WO_op rfl rfl rfl ?_; simp only [putT,st,ev,gt,hp,ofV,constT,intT,lm]
   refine WO_nil (W_seq ?_)
   refine W_cond rfl (fun hc => ?_) (fun hc => ?_)
   ·
    replace H1 := tr hc H1
    refine W_skip ?_
    refine W_seq ?_
    refine W_block ?_
    refine W_seq (W_region ?_)
    refine WO_op rfl rfl rfl ?_; simp only [putT,st,ev,gt,hp,ofV,constT,intT,lm]
    obtain ⟨x4, hx4, H1⟩ := bnd H1
    obtain ⟨y5, hy5, H1⟩ := bnd H1
    rw [dN_Node_some hy5] at hx4
    refine WO_op rfl rfl (ev_ix (en := eR_Node) hx4 rfl rfl rfl rfl rfl rfl rfl) ?_; simp only [putT,st,ev,gt,hp,ofV,constT,intT,lm]
    refine WO_op (x := .ag [qi y5.Kind, qi y5.N, qs y5.S, .c (cL eS y5.Keys), .c (cL eR_Node y5.Kids)]) rfl rfl rfl ?_
    refine WO_op (x := .bp 0 0) (σ' := ⟨[], [some [qi 0, qi 0, qs [], .nil, .nil]], []⟩) rfl rfl rfl ?_
    refine WO_op rfl rfl rfl ?_
    refine WO_op (x := .no) (σ' := ⟨[], [some [qi y5.Kind, qi y5.N, qs y5.S, .c (cL eS y5.Keys), .c (cL eR_Node y5.Kids)]], []⟩) rfl rfl rfl ?_; simp only [putT,st,ev,gt,hp,ofV,constT,intT,lm]
    refine WO_nil (W_seq (W_region ?_))
    iterate 2 (refine WO_op rfl rfl rfl ?_; simp only [putT,st,ev,gt,hp,ofV,constT,intT,lm])
    obtain ⟨x6, hx6, H1⟩ := bnd H1
    obtain ⟨y7, hy7, H1⟩ := bnd H1
    rw [dN_Node_some hy7] at hx6
    refine WO_op rfl rfl (ev_ix (en := eR_Node) hx6 rfl rfl rfl rfl rfl rfl rfl) ?_; simp only [putT,st,ev,gt,hp,ofV,constT,intT,lm]
    refine WO_op (x := .ag [qi y7.Kind, qi y7.N, qs y7.S, .c (cL eS y7.Keys), .c (cL eR_Node y7.Kids)]) rfl rfl rfl ?_
    refine WO_op (x := .bp 1 0) (σ' := ⟨[], [some [qi y5.Kind, qi y5.N, qs y5.S, .c (cL eS y5.Keys), .c (cL eR_Node y5.Kids)], some [qi 0, qi 0, qs [], .nil, .nil]], []⟩) rfl rfl rfl ?_
    refine WO_op (x := .no) (σ' := ⟨[], [some [qi y5.Kind, qi y5.N, qs y5.S, .c (cL eS y5.Keys), .c (cL eR_Node y5.Kids)], some [qi y7.Kind, qi y7.N, qs y7.S, .c (cL eS y7.Keys), .c (cL eR_Node y7.Kids)]], []⟩) rfl rfl rfl ?_; simp only [putT,st,ev,gt,hp,ofV,constT,intT,lm]
    refine WO_nil (W_seq (W_region ?_))
    refine WO_op rfl rfl rfl ?_
    refine WO_op (x := .ag [qi y5.Kind, qi y5.N, qs y5.S, .c (cL eS y5.Keys), .c (cL eR_Node y5.Kids)]) rfl rfl rfl ?_
    refine WO_op (x := .ag [qi y7.Kind, qi y7.N, qs y7.S, .c (cL eS y7.Keys), .c (cL eR_Node y7.Kids)]) rfl rfl rfl ?_; simp only [putT,st,ev,gt,hp,ofV,constT,intT,lm]
    obtain ⟨x8, hx8, H1⟩ := bnd H1
    refine WO_op (x := qb x8) (σ' := ⟨[], [some [qi y5.Kind, qi y5.N, qs y5.S, .c (cL eS y5.Keys), .c (cL eR_Node y5.Kids)], some [qi y7.Kind, qi y7.N, qs y7.S, .c (cL eS y7.Keys), .c (cL eR_Node y7.Kids)]], []⟩) rfl rfl (ev_callG (al := [.ag [qi y5.Kind, qi y5.N, qs y5.S, .c (cL eS y5.Keys), .c (cL eR_Node y5.Kids)], .ag [qi y7.Kind, qi y7.N, qs y7.S, .c (cL eS y7.Keys), .c (cL eR_Node y7.Kids)]]) (ls := []) (hrc33 hx8) rfl rfl rfl rfl rfl (by decide) rfl rfl rfl rfl rfl rfl) ?_; simp only [putT,st,ev,gt,hp,ofV,constT,intT,lm]
    refine WO_op rfl rfl rfl ?_; simp only [putT,st,ev,gt,hp,ofV,constT,intT,lm]
    refine WO_nil ?_
    refine W_cond rfl (fun hc => ?_) (fun hc => ?_)
    ·
     replace H1 := tr hc H1
     refine W_seq (W_region ?_)
     refine WO_op rfl rfl rfl ?_; simp only [putT,st,ev,gt,hp,ofV,constT,intT,lm]
     refine WO_nil ?_
     refine W_ret ?_
     obtain rfl := Option.some.inj H1
     obtain rfl := Option.some.inj H
     exact told3 rfl
    ·
     replace H1 := fl hc H1
     refine W_skip ?_
     refine W_region ?_
     iterate 2 (refine WO_op rfl rfl rfl ?_; simp only [putT,st,ev,gt,hp,ofV,constT,intT,lm])
     refine WO_nil ?_
     exact hW1 _ _ ((IH1 _ _ H1 rfl)) (le_intro [] [] (by decide) (by decide) rfl (by simp [leS, leT, leA, gt]) (by simp [leB, leT, leA]) (by simp [leR]))
   ·
    replace H1 := fl hc H1
    refine W_exit ?_
    obtain rfl := Option.some.inj H1
    exact hX1 () _ rfl (le_intro [] [] (by decide) (by decide) rfl (by simp [leS, leT, leA, gt]) (by simp [leB, leT, leA]) (by simp [leR]))
theorem impl_TreeSame_F_ok {rc33 : Node → Node → Option (Bool)} (hrc33 : ∀ {a1 : Node} {a2 : Node} {r : Bool}, rc33 a1 a2 = some r → R 21 [.ag [(cI .i64 a1.Kind, none), (cI .i64 a1.N, none), (cS a1.S, none), (cL eS a1.Keys, none), (cL eR_Node a1.Kids, none)], .ag [(cI .i64 a2.Kind, none), (cI .i64 a2.N, none), (cS a2.S, none), (cL eS a2.Keys, none), (cL eR_Node a2.Kids, none)]] = some (.c (cB r) none, [])) {a1 : Node} {a2 : Node} {r : Bool} (H : impl_TreeSame_F rc33 a1 a2 = some r) : R 21 [.ag [(cI .i64 a1.Kind, none), (cI .i64 a1.N, none), (cS a1.S, none), (cL eS a1.Keys, none), (cL eR_Node a1.Kids, none)], .ag [(cI .i64 a2.Kind, none), (cI .i64 a2.N, none), (cS a2.S, none), (cL eS a2.Keys, none), (cL eR_Node a2.Kids, none)]] = some (.c (cB r) none, []) := by
 unfold impl_TreeSame_F at H
 refine Fz_walk false 38 rfl rfl rfl Try.func21 rfl (by kernel_rfl) rfl rfl rfl rfl ?_
 simp only [tellVs, tellV, tells, tell, st0, padT, SX.newRow, SX.newBox, List.length_cons, List.length_nil, Nat.reduceAdd, Nat.reduceSub, List.replicate, List.cons_append, List.nil_append, List.foldl_cons, List.foldl_nil]
 refine W_seq (W_region ?_)
 refine WO_op (x := .bp 0 0) (σ' := ⟨[], [some [qi a1.Kind, qi a1.N, qs a1.S, .c (cL eS a1.Keys), .c (cL eR_Node a1.Kids)]], []⟩) rfl rfl rfl ?_
 refine WO_op (x := .bp 1 0) (σ' := ⟨[], [some [qi a1.Kind, qi a1.N, qs a1.S, .c (cL eS a1.Keys), .c (cL eR_Node a1.Kids)], some [qi a2.Kind, qi a2.N, qs a2.S, .c (cL eS a2.Keys), .c (cL eR_Node a2.Kids)]], []⟩) rfl rfl rfl ?_
 refine WO_op rfl rfl rfl ?_; simp only [putT,st,ev,gt,hp,ofV,constT,intT,lm]
 refine WO_nil (W_seq (W_region ?_))
 refine WO_op (x := .bp 0 0) rfl rfl rfl ?_
 refine WO_op (x := qi a1.Kind) rfl rfl rfl ?_
 refine WO_op (x := .bp 1 0) rfl rfl rfl ?_
 refine WO_op (x := qi a2.Kind) rfl rfl rfl ?_; simp only [putT,st,ev,gt,hp,ofV,constT,intT,lm]
 iterate 2 (refine WO_op rfl rfl rfl ?_; simp only [putT,st,ev,gt,hp,ofV,constT,intT,lm])
 refine WO_if rfl rfl rfl (fun hc => ?_) (fun hc => ?_)
 ·
  replace H := tr hc H
  refine WO_want (x := .bp 0 1) rfl rfl rfl ?_
  refine WO_want (x := qi a1.N) rfl rfl rfl ?_
  refine WO_want (x := .bp 1 1) rfl rfl rfl ?_; simp only [putT,st,ev,gt,hp,ofV,constT,intT,lm]
  refine WO_want (x := qi a2.N) rfl rfl rfl ?_
  refine WO_want rfl rfl rfl ?_
  refine WO_op (x := qb (a1.N == a2.N)) rfl rfl rfl ?_
  refine WO_op rfl rfl rfl ?_; simp only [putT,st,ev,gt,hp,ofV,constT,intT,lm]
  refine WO_if rfl rfl rfl (fun hc => ?_) (fun hc => ?_)
  ·
   replace H := tr hc H
   refine WO_want (x := .bp 0 2) rfl rfl rfl ?_
   refine WO_want (x := qs a1.S) rfl rfl rfl ?_
   refine WO_want (x := .bp 1 2) rfl rfl rfl ?_; simp only [putT,st,ev,gt,hp,ofV,constT,intT,lm]
   refine WO_want (x := qs a2.S) rfl rfl rfl ?_; simp only [putT,st,ev,gt,hp,ofV,constT,intT,lm]
   refine WO_want rfl rfl (ev_eql_s rfl rfl rfl) ?_; simp only [putT,st,ev,gt,hp,ofV,constT,intT,lm]
   refine WO_op (x := qb (a1.S == a2.S)) rfl rfl rfl ?_
   refine WO_op rfl rfl rfl ?_; simp only [putT,st,ev,gt,hp,ofV,constT,intT,lm]
   refine WO_if rfl rfl rfl (fun hc => ?_) (fun hc => ?_)
   ·
    replace H := tr hc H
    refine WO_want (x := .bp 0 3) rfl rfl rfl ?_
    refine WO_want (x := .c (cL eS a1.Keys)) rfl rfl rfl ?_
    refine WO_want (x := .bp 1 3) rfl rfl rfl ?_; simp only [putT,st,ev,gt,hp,ofV,constT,intT,lm]
    refine WO_want (x := .c (cL eS a2.Keys)) rfl rfl rfl ?_; simp only [putT,st,ev,gt,hp,ofV,constT,intT,lm]
    obtain ⟨x3, hx3, H⟩ := bnd H
    refine WO_want (x := qb x3) (σ' := ⟨[], [some [qi a1.Kind, qi a1.N, qs a1.S, .c (cL eS a1.Keys), .c (cL eR_Node a1.Kids)], some [qi a2.Kind, qi a2.N, qs a2.S, .c (cL eS a2.Keys), .c (cL eR_Node a2.Kids)]], []⟩) rfl rfl (ev_callG (al := [.c (cL eS a1.Keys), .c (cL eS a2.Keys)]) (ls := []) (slices_Equal_Sstring_string_ok hx3) rfl rfl rfl rfl rfl (by decide) rfl rfl rfl rfl rfl rfl) ?_; simp only [putT,st,ev,gt,hp,ofV,constT,intT,lm]
    refine WO_op (x := qb x3) rfl rfl rfl ?_
    refine WO_op rfl rfl rfl ?_; simp only [putT,st,ev,gt,hp,ofV,constT,intT,lm]
    refine WO_if rfl rfl rfl (fun hc => ?_) (fun hc => ?_)
    ·
     replace H := tr hc H
     refine WO_want (x := .bp 0 4) rfl rfl rfl ?_
     refine WO_want (x := .c (cL eR_Node a1.Kids)) rfl rfl rfl ?_
     refine WO_want (x := .bp 1 4) rfl rfl rfl ?_; simp only [putT,st,ev,gt,hp,ofV,constT,intT,lm]
     refine WO_want (x := .c (cL eR_Node a2.Kids)) rfl rfl rfl ?_; simp only [putT,st,ev,gt,hp,ofV,constT,intT,lm]
     obtain ⟨x4, hx4, H⟩ := bnd H
     refine WO_want (x := qb x4) (σ' := ⟨[], [some [qi a1.Kind, qi a1.N, qs a1.S, .c (cL eS a1.Keys), .c (cL eR_Node a1.Kids)], some [qi a2.Kind, qi a2.N, qs a2.S, .c (cL eS a2.Keys), .c (cL eR_Node a2.Kids)]], []⟩) rfl rfl (ev_callG (al := [.c (cL eR_Node a1.Kids), .c (cL eR_Node a2.Kids), .fn 21 []]) (ls := []) (slices_EqualFunc_Simpl_Node_Simpl_Node_impl_Node_impl_Node_impl_TreeSame_ok hrc33 hx4) rfl rfl rfl rfl rfl (by decide) rfl rfl rfl rfl rfl rfl) ?_; simp only [putT,st,ev,gt,hp,ofV,constT,intT,lm]
     refine WO_op (x := qb x4) rfl rfl rfl ?_
     refine WO_op rfl rfl rfl ?_; simp only [putT,st,ev,gt,hp,ofV,constT,intT,lm]
     refine WO_nil ?_
     refine W_ret ?_
     obtain rfl := Option.some.inj H
     exact told3 rfl
    ·
     replace H := fl hc H
     simp only [putT,st,ev,gt,hp,ofV,constT,intT,lm]
     iterate 5 refine WO_skip rfl rfl ?_
     refine WO_op (x := qb false) rfl rfl rfl ?_
     refine WO_op rfl rfl rfl ?_; simp only [putT,st,ev,gt,hp,ofV,constT,intT,lm]
     refine WO_nil ?_
     refine W_ret ?_
     obtain rfl := Option.some.inj H
     exact told3 rfl
   ·
    replace H := fl hc H
    simp only [putT,st,ev,gt,hp,ofV,constT,intT,lm]
    iterate 5 refine WO_skip rfl rfl ?_
    refine WO_op (x := qb false) rfl rfl rfl ?_
    refine WO_op rfl rfl rfl ?_; simp only [putT,st,ev,gt,hp,ofV,constT,intT,lm]
    iterate 5 refine WO_skip rfl rfl ?_
    refine WO_op (x := qb false) rfl rfl rfl ?_
    refine WO_op rfl rfl rfl ?_; simp only [putT,st,ev,gt,hp,ofV,constT,intT,lm]
    refine WO_nil ?_
    refine W_ret ?_
    obtain rfl := Option.some.inj H
    exact told3 rfl
  ·
   replace H := fl hc H
   simp only [putT,st,ev,gt,hp,ofV,constT,intT,lm]
   iterate 5 refine WO_skip rfl rfl ?_
   refine WO_op (x := qb false) rfl rfl rfl ?_
   refine WO_op rfl rfl rfl ?_; simp only [putT,st,ev,gt,hp,ofV,constT,intT,lm]
   iterate 5 refine WO_skip rfl rfl ?_
   refine WO_op (x := qb false) rfl rfl rfl ?_
   refine WO_op rfl rfl rfl ?_; simp only [putT,st,ev,gt,hp,ofV,constT,intT,lm]
   iterate 5 refine WO_skip rfl rfl ?_
   refine WO_op (x := qb false) rfl rfl rfl ?_
   refine WO_op rfl rfl rfl ?_; simp only [putT,st,ev,gt,hp,ofV,constT,intT,lm]
   refine WO_nil ?_
   refine W_ret ?_
   obtain rfl := Option.some.inj H
   exact told3 rfl
 ·
  replace H := fl hc H
  simp only [putT,st,ev,gt,hp,ofV,constT,intT,lm]
  iterate 5 refine WO_skip rfl rfl ?_
  refine WO_op (x := qb false) rfl rfl rfl ?_
  refine WO_op rfl rfl rfl ?_; simp only [putT,st,ev,gt,hp,ofV,constT,intT,lm]
  iterate 5 refine WO_skip rfl rfl ?_
  refine WO_op (x := qb false) rfl rfl rfl ?_
  refine WO_op rfl rfl rfl ?_; simp only [putT,st,ev,gt,hp,ofV,constT,intT,lm]
  iterate 5 refine WO_skip rfl rfl ?_
  refine WO_op (x := qb false) rfl rfl rfl ?_
  refine WO_op rfl rfl rfl ?_; simp only [putT,st,ev,gt,hp,ofV,constT,intT,lm]
  iterate 5 refine WO_skip rfl rfl ?_
  refine WO_op (x := qb false) rfl rfl rfl ?_
  refine WO_op rfl rfl rfl ?_; simp only [putT,st,ev,gt,hp,ofV,constT,intT,lm]
  refine WO_nil ?_
  refine W_ret ?_
  obtain rfl := Option.some.inj H
  exact told3 rfl
theorem impl_TreeSame_n_ok : ∀ (k : Nat) {a1 : Node} {a2 : Node} {r : Bool}, impl_TreeSame_n k a1 a2 = some r → R 21 [.ag [(cI .i64 a1.Kind, none), (cI .i64 a1.N, none), (cS a1.S, none), (cL eS a1.Keys, none), (cL eR_Node a1.Kids, none)], .ag [(cI .i64 a2.Kind, none), (cI .i64 a2.N, none), (cS a2.S, none), (cL eS a2.Keys, none), (cL eR_Node a2.Kids, none)]] = some (.c (cB r) none, [])
  | 0, _, _, _, h => by simp [impl_TreeSame_n] at h
  | k + 1, _, _, _, h => impl_TreeSame_F_ok (fun h => impl_TreeSame_n_ok k h) h
theorem impl_TreeSame_ok {a1 : Node} {a2 : Node} {r : Bool} (H : impl_TreeSame a1 a2 = some r) : R 21 [.ag [(cI .i64 a1.Kind, none), (cI .i64 a1.N, none), (cS a1.S, none), (cL eS a1.Keys, none), (cL eR_Node a1.Kids, none)], .ag [(cI .i64 a2.Kind, none), (cI .i64 a2.N, none), (cS a2.S, none), (cL eS a2.Keys, none), (cL eR_Node a2.Kids, none)]] = some (.c (cB r) none, []) := by
  obtain ⟨k, hk⟩ := Nt.lim_ex H
  exact impl_TreeSame_n_ok k (hk k (Nat.le_refl k))
theorem slices_Clone_Sstring_string_ok {a1 r : List Str} (H : slices_Clone_Sstring_string a1 = some r) : R 35 [.c (cL eS a1) none] = some (.c (cL eS r) (some 1), []) := by
  unfold slices_Clone_Sstring_string Nt.clone at H
  split at H
  · rename_i h
    obtain rfl := Option.some.inj H
    exact Fz_pr rfl (by simp only [cloneF]; rw [if_pos ⟨wide_map (en := eS) (fun _ => rfl) a1, by simpa using h⟩])
  · simp at H
end Go.Pu
