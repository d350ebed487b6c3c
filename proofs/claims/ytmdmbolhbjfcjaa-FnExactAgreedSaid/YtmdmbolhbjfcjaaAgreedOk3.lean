import Derived.Test.YtmdmbolhbjfcjaaAgreedOk1
import Derived.Test.YtmdmbolhbjfcjaaAgreedOk2
set_option linter.unusedVariables false
set_option linter.unusedSimpArgs false
set_option synthInstance.maxSize 1000000000
set_option maxRecDepth 20000
set_option maxHeartbeats 20000000
namespace Go.Pu
open Go Go.SX Go.Nt Go.Proofs
theorem impl_Merge_F_ok {rc32 : Node → Node → Node → Option (Node × List Str)} (hrc32 : ∀ {a1 : Node} {a2 : Node} {a3 : Node} {r : Node × List Str}, rc32 a1 a2 a3 = some r → R 14 [.ag [(cI .i64 a1.Kind, none), (cI .i64 a1.N, none), (cS a1.S, none), (cL eS a1.Keys, none), (cL eR_Node a1.Kids, none)], .ag [(cI .i64 a2.Kind, none), (cI .i64 a2.N, none), (cS a2.S, none), (cL eS a2.Keys, none), (cL eR_Node a2.Kids, none)], .ag [(cI .i64 a3.Kind, none), (cI .i64 a3.N, none), (cS a3.S, none), (cL eS a3.Keys, none), (cL eR_Node a3.Kids, none)]] = some (.tu [.ag [(cI .i64 r.1.Kind, none), (cI .i64 r.1.N, none), (cS r.1.S, none), (cL eS r.1.Keys, some 1), (cL eR_Node r.1.Kids, some 5)], .c (cL eS r.2) (some 1)], [])) {a1 : Node} {a2 : Node} {a3 : Node} {r : Node × List Str} (H : impl_Merge_F rc32 a1 a2 a3 = some r) : R 14 [.ag [(cI .i64 a1.Kind, none), (cI .i64 a1.N, none), (cS a1.S, none), (cL eS a1.Keys, none), (cL eR_Node a1.Kids, none)], .ag [(cI .i64 a2.Kind, none), (cI .i64 a2.N, none), (cS a2.S, none), (cL eS a2.Keys, none), (cL eR_Node a2.Kids, none)], .ag [(cI .i64 a3.Kind, none), (cI .i64 a3.N, none), (cS a3.S, none), (cL eS a3.Keys, none), (cL eR_Node a3.Kids, none)]] = some (.tu [.ag [(cI .i64 r.1.Kind, none), (cI .i64 r.1.N, none), (cS r.1.S, none), (cL eS r.1.Keys, some 1), (cL eR_Node r.1.Kids, some 5)], .c (cL eS r.2) (some 1)], []) := by
 unfold impl_Merge_F at H
 refine Fz_walk false 148 rfl rfl rfl Try.func14 rfl (by kernel_rfl) rfl rfl rfl rfl ?_
 simp only [tellVs, tellV, tells, tell, st0, padT, SX.newRow, SX.newBox, List.length_cons, List.length_nil, Nat.reduceAdd, Nat.reduceSub, List.replicate, List.cons_append, List.nil_append, List.foldl_cons, List.foldl_nil]
 refine W_seq (W_region ?_)
 refine WO_op (x := .bp 0 0) (σ' := ⟨[], [some [qi a1.Kind, qi a1.N, qs a1.S, .c (cL eS a1.Keys), .c (cL eR_Node a1.Kids)]], []⟩) rfl rfl rfl ?_
 refine WO_op (x := .bp 1 0) (σ' := ⟨[], [some [qi a1.Kind, qi a1.N, qs a1.S, .c (cL eS a1.Keys), .c (cL eR_Node a1.Kids)], some [qi a2.Kind, qi a2.N, qs a2.S, .c (cL eS a2.Keys), .c (cL eR_Node a2.Kids)]], []⟩) rfl rfl rfl ?_
 refine WO_op (x := .bp 2 0) (σ' := ⟨[], [some [qi a1.Kind, qi a1.N, qs a1.S, .c (cL eS a1.Keys), .c (cL eR_Node a1.Kids)], some [qi a2.Kind, qi a2.N, qs a2.S, .c (cL eS a2.Keys), .c (cL eR_Node a2.Kids)], some [qi a3.Kind, qi a3.N, qs a3.S, .c (cL eS a3.Keys), .c (cL eR_Node a3.Kids)]], []⟩) rfl rfl rfl ?_
 refine WO_op (x := .bp 3 0) (σ' := ⟨[], [some [qi a1.Kind, qi a1.N, qs a1.S, .c (cL eS a1.Keys), .c (cL eR_Node a1.Kids)], some [qi a2.Kind, qi a2.N, qs a2.S, .c (cL eS a2.Keys), .c (cL eR_Node a2.Kids)], some [qi a3.Kind, qi a3.N, qs a3.S, .c (cL eS a3.Keys), .c (cL eR_Node a3.Kids)], some [qi 0, qi 0, qs [], .nil, .nil]], []⟩) rfl rfl rfl ?_; simp only [putT,st,ev,gt,hp,ofV,constT,intT,lm]
 refine WO_op rfl rfl rfl ?_; simp only [putT,st,ev,gt,hp,ofV,constT,intT,lm]
 refine WO_nil (W_seq ?_)
 refine W_block ?_
 refine W_seq (W_region ?_)
 refine WO_op (x := .ag [qi a3.Kind, qi a3.N, qs a3.S, .c (cL eS a3.Keys), .c (cL eR_Node a3.Kids)]) rfl rfl rfl ?_
 refine WO_op (x := .ag [qi a1.Kind, qi a1.N, qs a1.S, .c (cL eS a1.Keys), .c (cL eR_Node a1.Kids)]) rfl rfl rfl ?_; simp only [putT,st,ev,gt,hp,ofV,constT,intT,lm]
 obtain ⟨x4, hx4, H⟩ := bnd H
 refine WO_op (x := qb x4) (σ' := ⟨[], [some [qi a1.Kind, qi a1.N, qs a1.S, .c (cL eS a1.Keys), .c (cL eR_Node a1.Kids)], some [qi a2.Kind, qi a2.N, qs a2.S, .c (cL eS a2.Keys), .c (cL eR_Node a2.Kids)], some [qi a3.Kind, qi a3.N, qs a3.S, .c (cL eS a3.Keys), .c (cL eR_Node a3.Kids)], some [qi 0, qi 0, qs [], .nil, .nil]], []⟩) rfl rfl (ev_callG (al := [.ag [qi a3.Kind, qi a3.N, qs a3.S, .c (cL eS a3.Keys), .c (cL eR_Node a3.Kids)], .ag [qi a1.Kind, qi a1.N, qs a1.S, .c (cL eS a1.Keys), .c (cL eR_Node a1.Kids)]]) (ls := []) (impl_TreeSame_ok hx4) rfl rfl rfl rfl rfl (by decide) rfl rfl rfl rfl rfl rfl) ?_; simp only [putT,st,ev,gt,hp,ofV,constT,intT,lm]
 refine WO_op rfl rfl rfl ?_; simp only [putT,st,ev,gt,hp,ofV,constT,intT,lm]
 refine WO_if rfl rfl rfl (fun hc => ?_) (fun hc => ?_)
 ·
  replace H := tr hc H
  simp only [putT,st,ev,gt,hp,ofV,constT,intT,lm]
  iterate 3 refine WO_skip rfl rfl ?_
  refine WO_op (x := qb true) rfl rfl rfl ?_
  refine WO_op rfl rfl rfl ?_; simp only [putT,st,ev,gt,hp,ofV,constT,intT,lm]
  refine WO_nil ?_
  refine W_cond (t := true) rfl (fun _ => ?_) (fun h => by cases h)
  refine W_seq (W_region ?_)
  refine WO_op (x := .ag [qi a2.Kind, qi a2.N, qs a2.S, .c (cL eS a2.Keys), .c (cL eR_Node a2.Kids)]) rfl rfl rfl ?_; simp only [putT,st,ev,gt,hp,ofV,constT,intT,lm]
  obtain ⟨x5, hx5, H⟩ := bnd H
  refine WO_op (x := .ag [qi x5.Kind, qi x5.N, qs x5.S, .row 0, .row 1]) (σ' := ⟨[], [some [qi a1.Kind, qi a1.N, qs a1.S, .c (cL eS a1.Keys), .c (cL eR_Node a1.Kids)], some [qi a2.Kind, qi a2.N, qs a2.S, .c (cL eS a2.Keys), .c (cL eR_Node a2.Kids)], some [qi a3.Kind, qi a3.N, qs a3.S, .c (cL eS a3.Keys), .c (cL eR_Node a3.Kids)], some [qi 0, qi 0, qs [], .nil, .nil]], [rr 1 eS x5.Keys true, rr 5 eR_Node x5.Kids true]⟩) rfl rfl (ev_callG (al := [.ag [qi a2.Kind, qi a2.N, qs a2.S, .c (cL eS a2.Keys), .c (cL eR_Node a2.Kids)]]) (ls := []) (impl_copyTree_ok hx5) rfl rfl rfl rfl rfl (by decide) rfl rfl rfl rfl rfl rfl) ?_; simp only [putT,st,ev,gt,hp,ofV,constT,intT,lm]
  refine WO_op (x := .no) (σ' := ⟨[], [some [qi a1.Kind, qi a1.N, qs a1.S, .c (cL eS a1.Keys), .c (cL eR_Node a1.Kids)], some [qi a2.Kind, qi a2.N, qs a2.S, .c (cL eS a2.Keys), .c (cL eR_Node a2.Kids)], some [qi a3.Kind, qi a3.N, qs a3.S, .c (cL eS a3.Keys), .c (cL eR_Node a3.Kids)], some [qi x5.Kind, qi x5.N, qs x5.S, .row 0, .row 1]], [rr 1 eS x5.Keys true, rr 5 eR_Node x5.Kids true]⟩) rfl rfl rfl ?_
  refine WO_op rfl rfl rfl ?_; simp only [putT,st,ev,gt,hp,ofV,constT,intT,lm]
  refine WO_nil ?_
  refine W_ret ?_
  obtain rfl := Option.some.inj H
  exact told5 rfl rfl rfl rfl (by have er : Try.f14.resultTypes.toList = [30, 22] := rfl; have e22 : sizes Try.prog 8 22 = [1] := (by kernel_rfl); have e30 : sizes Try.prog 8 30 = [0, 0, 0, 1, 5] := (by kernel_rfl); simp only [er, fitAs, e22, e30, fitA, fit_s, fit_n, fit_o, fit_z, fit_e, if_true]; try rfl) rfl
 ·
  replace H := fl hc H
  refine WO_want (x := .ag [qi a2.Kind, qi a2.N, qs a2.S, .c (cL eS a2.Keys), .c (cL eR_Node a2.Kids)]) rfl rfl rfl ?_
  refine WO_want (x := .ag [qi a3.Kind, qi a3.N, qs a3.S, .c (cL eS a3.Keys), .c (cL eR_Node a3.Kids)]) rfl rfl rfl ?_; simp only [putT,st,ev,gt,hp,ofV,constT,intT,lm]
  obtain ⟨x6, hx6, H⟩ := bnd H
  refine WO_want (x := qb x6) (σ' := ⟨[], [some [qi a1.Kind, qi a1.N, qs a1.S, .c (cL eS a1.Keys), .c (cL eR_Node a1.Kids)], some [qi a2.Kind, qi a2.N, qs a2.S, .c (cL eS a2.Keys), .c (cL eR_Node a2.Kids)], some [qi a3.Kind, qi a3.N, qs a3.S, .c (cL eS a3.Keys), .c (cL eR_Node a3.Kids)], some [qi 0, qi 0, qs [], .nil, .nil]], []⟩) rfl rfl (ev_callG (al := [.ag [qi a2.Kind, qi a2.N, qs a2.S, .c (cL eS a2.Keys), .c (cL eR_Node a2.Kids)], .ag [qi a3.Kind, qi a3.N, qs a3.S, .c (cL eS a3.Keys), .c (cL eR_Node a3.Kids)]]) (ls := []) (impl_TreeSame_ok hx6) rfl rfl rfl rfl rfl (by decide) rfl rfl rfl rfl rfl rfl) ?_; simp only [putT,st,ev,gt,hp,ofV,constT,intT,lm]
  refine WO_op (x := qb x6) rfl rfl rfl ?_
  refine WO_op rfl rfl rfl ?_; simp only [putT,st,ev,gt,hp,ofV,constT,intT,lm]
  refine WO_nil ?_
  refine W_cond rfl (fun hc => ?_) (fun hc => ?_)
  ·
   replace H := tr hc H
   refine W_seq (W_region ?_)
   refine WO_op (x := .ag [qi a2.Kind, qi a2.N, qs a2.S, .c (cL eS a2.Keys), .c (cL eR_Node a2.Kids)]) rfl rfl rfl ?_; simp only [putT,st,ev,gt,hp,ofV,constT,intT,lm]
   obtain ⟨x7, hx7, H⟩ := bnd H
   refine WO_op (x := .ag [qi x7.Kind, qi x7.N, qs x7.S, .row 0, .row 1]) (σ' := ⟨[], [some [qi a1.Kind, qi a1.N, qs a1.S, .c (cL eS a1.Keys), .c (cL eR_Node a1.Kids)], some [qi a2.Kind, qi a2.N, qs a2.S, .c (cL eS a2.Keys), .c (cL eR_Node a2.Kids)], some [qi a3.Kind, qi a3.N, qs a3.S, .c (cL eS a3.Keys), .c (cL eR_Node a3.Kids)], some [qi 0, qi 0, qs [], .nil, .nil]], [rr 1 eS x7.Keys true, rr 5 eR_Node x7.Kids true]⟩) rfl rfl (ev_callG (al := [.ag [qi a2.Kind, qi a2.N, qs a2.S, .c (cL eS a2.Keys), .c (cL eR_Node a2.Kids)]]) (ls := []) (impl_copyTree_ok hx7) rfl rfl rfl rfl rfl (by decide) rfl rfl rfl rfl rfl rfl) ?_; simp only [putT,st,ev,gt,hp,ofV,constT,intT,lm]
   refine WO_op (x := .no) (σ' := ⟨[], [some [qi a1.Kind, qi a1.N, qs a1.S, .c (cL eS a1.Keys), .c (cL eR_Node a1.Kids)], some [qi a2.Kind, qi a2.N, qs a2.S, .c (cL eS a2.Keys), .c (cL eR_Node a2.Kids)], some [qi a3.Kind, qi a3.N, qs a3.S, .c (cL eS a3.Keys), .c (cL eR_Node a3.Kids)], some [qi x7.Kind, qi x7.N, qs x7.S, .row 0, .row 1]], [rr 1 eS x7.Keys true, rr 5 eR_Node x7.Kids true]⟩) rfl rfl rfl ?_
   refine WO_op rfl rfl rfl ?_; simp only [putT,st,ev,gt,hp,ofV,constT,intT,lm]
   refine WO_nil ?_
   refine W_ret ?_
   obtain rfl := Option.some.inj H
   exact told5 rfl rfl rfl rfl (by have er : Try.f14.resultTypes.toList = [30, 22] := rfl; have e22 : sizes Try.prog 8 22 = [1] := (by kernel_rfl); have e30 : sizes Try.prog 8 30 = [0, 0, 0, 1, 5] := (by kernel_rfl); simp only [er, fitAs, e22, e30, fitA, fit_s, fit_n, fit_o, fit_z, fit_e, if_true]; try rfl) rfl
  ·
   replace H := fl hc H
   refine W_seq (W_region ?_)
   refine WO_op (x := .ag [qi a2.Kind, qi a2.N, qs a2.S, .c (cL eS a2.Keys), .c (cL eR_Node a2.Kids)]) rfl rfl rfl ?_
   refine WO_op (x := .ag [qi a1.Kind, qi a1.N, qs a1.S, .c (cL eS a1.Keys), .c (cL eR_Node a1.Kids)]) rfl rfl rfl ?_; simp only [putT,st,ev,gt,hp,ofV,constT,intT,lm]
   obtain ⟨x8, hx8, H⟩ := bnd H
   refine WO_op (x := qb x8) (σ' := ⟨[], [some [qi a1.Kind, qi a1.N, qs a1.S, .c (cL eS a1.Keys), .c (cL eR_Node a1.Kids)], some [qi a2.Kind, qi a2.N, qs a2.S, .c (cL eS a2.Keys), .c (cL eR_Node a2.Kids)], some [qi a3.Kind, qi a3.N, qs a3.S, .c (cL eS a3.Keys), .c (cL eR_Node a3.Kids)], some [qi 0, qi 0, qs [], .nil, .nil]], []⟩) rfl rfl (ev_callG (al := [.ag [qi a2.Kind, qi a2.N, qs a2.S, .c (cL eS a2.Keys), .c (cL eR_Node a2.Kids)], .ag [qi a1.Kind, qi a1.N, qs a1.S, .c (cL eS a1.Keys), .c (cL eR_Node a1.Kids)]]) (ls := []) (impl_TreeSame_ok hx8) rfl rfl rfl rfl rfl (by decide) rfl rfl rfl rfl rfl rfl) ?_; simp only [putT,st,ev,gt,hp,ofV,constT,intT,lm]
   refine WO_op rfl rfl rfl ?_; simp only [putT,st,ev,gt,hp,ofV,constT,intT,lm]
   refine WO_nil ?_
   refine W_cond rfl (fun hc => ?_) (fun hc => ?_)
   ·
    replace H := tr hc H
    refine W_seq (W_region ?_)
    refine WO_op (x := .ag [qi a3.Kind, qi a3.N, qs a3.S, .c (cL eS a3.Keys), .c (cL eR_Node a3.Kids)]) rfl rfl rfl ?_; simp only [putT,st,ev,gt,hp,ofV,constT,intT,lm]
    obtain ⟨x9, hx9, H⟩ := bnd H
    refine WO_op (x := .ag [qi x9.Kind, qi x9.N, qs x9.S, .row 0, .row 1]) (σ' := ⟨[], [some [qi a1.Kind, qi a1.N, qs a1.S, .c (cL eS a1.Keys), .c (cL eR_Node a1.Kids)], some [qi a2.Kind, qi a2.N, qs a2.S, .c (cL eS a2.Keys), .c (cL eR_Node a2.Kids)], some [qi a3.Kind, qi a3.N, qs a3.S, .c (cL eS a3.Keys), .c (cL eR_Node a3.Kids)], some [qi 0, qi 0, qs [], .nil, .nil]], [rr 1 eS x9.Keys true, rr 5 eR_Node x9.Kids true]⟩) rfl rfl (ev_callG (al := [.ag [qi a3.Kind, qi a3.N, qs a3.S, .c (cL eS a3.Keys), .c (cL eR_Node a3.Kids)]]) (ls := []) (impl_copyTree_ok hx9) rfl rfl rfl rfl rfl (by decide) rfl rfl rfl rfl rfl rfl) ?_; simp only [putT,st,ev,gt,hp,ofV,constT,intT,lm]
    refine WO_op (x := .no) (σ' := ⟨[], [some [qi a1.Kind, qi a1.N, qs a1.S, .c (cL eS a1.Keys), .c (cL eR_Node a1.Kids)], some [qi a2.Kind, qi a2.N, qs a2.S, .c (cL eS a2.Keys), .c (cL eR_Node a2.Kids)], some [qi a3.Kind, qi a3.N, qs a3.S, .c (cL eS a3.Keys), .c (cL eR_Node a3.Kids)], some [qi x9.Kind, qi x9.N, qs x9.S, .row 0, .row 1]], [rr 1 eS x9.Keys true, rr 5 eR_Node x9.Kids true]⟩) rfl rfl rfl ?_
    refine WO_op rfl rfl rfl ?_; simp only [putT,st,ev,gt,hp,ofV,constT,intT,lm]
    refine WO_nil ?_
    refine W_ret ?_
    obtain rfl := Option.some.inj H
    exact told5 rfl rfl rfl rfl (by have er : Try.f14.resultTypes.toList = [30, 22] := rfl; have e22 : sizes Try.prog 8 22 = [1] := (by kernel_rfl); have e30 : sizes Try.prog 8 30 = [0, 0, 0, 1, 5] := (by kernel_rfl); simp only [er, fitAs, e22, e30, fitA, fit_s, fit_n, fit_o, fit_z, fit_e, if_true]; try rfl) rfl
   ·
    replace H := fl hc H
    refine W_seq (W_region ?_)
    refine WO_op (x := .bp 0 0) rfl rfl rfl ?_
    refine WO_op (x := qi a1.Kind) rfl rfl rfl ?_; simp only [putT,st,ev,gt,hp,ofV,constT,intT,lm]
    iterate 2 (refine WO_op rfl rfl rfl ?_; simp only [putT,st,ev,gt,hp,ofV,constT,intT,lm])
    refine WO_if rfl rfl rfl (fun hc => ?_) (fun hc => ?_)
    ·
     replace H := tr hc H
     simp only [putT,st,ev,gt,hp,ofV,constT,intT,lm]
     iterate 3 refine WO_skip rfl rfl ?_
     refine WO_op (x := qb true) rfl rfl rfl ?_
     refine WO_op rfl rfl rfl ?_; simp only [putT,st,ev,gt,hp,ofV,constT,intT,lm]
     iterate 3 refine WO_skip rfl rfl ?_
     refine WO_op (x := qb true) rfl rfl rfl ?_
     refine WO_op rfl rfl rfl ?_; simp only [putT,st,ev,gt,hp,ofV,constT,intT,lm]
     refine WO_nil ?_
     refine W_cond (t := true) rfl (fun _ => ?_) (fun h => by cases h)
     refine W_seq (W_region ?_)
     refine WO_op (x := .ag [qi a2.Kind, qi a2.N, qs a2.S, .c (cL eS a2.Keys), .c (cL eR_Node a2.Kids)]) rfl rfl rfl ?_; simp only [putT,st,ev,gt,hp,ofV,constT,intT,lm]
     obtain ⟨x10, hx10, H⟩ := bnd H
     refine WO_op (x := .ag [qi x10.Kind, qi x10.N, qs x10.S, .row 0, .row 1]) (σ' := ⟨[], [some [qi a1.Kind, qi a1.N, qs a1.S, .c (cL eS a1.Keys), .c (cL eR_Node a1.Kids)], some [qi a2.Kind, qi a2.N, qs a2.S, .c (cL eS a2.Keys), .c (cL eR_Node a2.Kids)], some [qi a3.Kind, qi a3.N, qs a3.S, .c (cL eS a3.Keys), .c (cL eR_Node a3.Kids)], some [qi 0, qi 0, qs [], .nil, .nil]], [rr 1 eS x10.Keys true, rr 5 eR_Node x10.Kids true]⟩) rfl rfl (ev_callG (al := [.ag [qi a2.Kind, qi a2.N, qs a2.S, .c (cL eS a2.Keys), .c (cL eR_Node a2.Kids)]]) (ls := []) (impl_copyTree_ok hx10) rfl rfl rfl rfl rfl (by decide) rfl rfl rfl rfl rfl rfl) ?_; simp only [putT,st,ev,gt,hp,ofV,constT,intT,lm]
     refine WO_op (x := .row 2) (σ' := ⟨[], [some [qi a1.Kind, qi a1.N, qs a1.S, .c (cL eS a1.Keys), .c (cL eR_Node a1.Kids)], some [qi a2.Kind, qi a2.N, qs a2.S, .c (cL eS a2.Keys), .c (cL eR_Node a2.Kids)], some [qi a3.Kind, qi a3.N, qs a3.S, .c (cL eS a3.Keys), .c (cL eR_Node a3.Kids)], some [qi 0, qi 0, qs [], .nil, .nil]], [rr 1 eS x10.Keys true, rr 5 eR_Node x10.Kids true, rr 1 eS ([[46]] : List Str) true]⟩) rfl rfl (ev_bs ([[46]] : List Str) eS rfl rfl rfl rfl) ?_; simp only [putT,st,ev,gt,hp,ofV,constT,intT,lm]
     refine WO_op (x := .no) (σ' := ⟨[], [some [qi a1.Kind, qi a1.N, qs a1.S, .c (cL eS a1.Keys), .c (cL eR_Node a1.Kids)], some [qi a2.Kind, qi a2.N, qs a2.S, .c (cL eS a2.Keys), .c (cL eR_Node a2.Kids)], some [qi a3.Kind, qi a3.N, qs a3.S, .c (cL eS a3.Keys), .c (cL eR_Node a3.Kids)], some [qi x10.Kind, qi x10.N, qs x10.S, .row 0, .row 1]], [rr 1 eS x10.Keys true, rr 5 eR_Node x10.Kids true, rr 1 eS ([[46]] : List Str) true]⟩) rfl rfl rfl ?_
     refine WO_op rfl rfl rfl ?_; simp only [putT,st,ev,gt,hp,ofV,constT,intT,lm]
     refine WO_nil ?_
     refine W_ret ?_
     obtain rfl := Option.some.inj H
     exact told5 rfl rfl rfl rfl (fitAs_nz rfl) rfl
    ·
     replace H := fl hc H
     refine WO_want (x := .bp 1 0) rfl rfl rfl ?_
     refine WO_want (x := qi a2.Kind) rfl rfl rfl ?_
     refine WO_want rfl rfl rfl ?_; simp only [putT,st,ev,gt,hp,ofV,constT,intT,lm]
     refine WO_op (x := qb (a2.Kind != 5)) rfl rfl rfl ?_
     refine WO_op rfl rfl rfl ?_; simp only [putT,st,ev,gt,hp,ofV,constT,intT,lm]
     refine WO_if rfl rfl rfl (fun hc => ?_) (fun hc => ?_)
     ·
      replace H := tr hc H
      simp only [putT,st,ev,gt,hp,ofV,constT,intT,lm]
      iterate 3 refine WO_skip rfl rfl ?_
      refine WO_op (x := qb true) rfl rfl rfl ?_
      refine WO_op rfl rfl rfl ?_; simp only [putT,st,ev,gt,hp,ofV,constT,intT,lm]
      refine WO_nil ?_
      refine W_cond (t := true) rfl (fun _ => ?_) (fun h => by cases h)
      refine W_seq (W_region ?_)
      refine WO_op (x := .ag [qi a2.Kind, qi a2.N, qs a2.S, .c (cL eS a2.Keys), .c (cL eR_Node a2.Kids)]) rfl rfl rfl ?_; simp only [putT,st,ev,gt,hp,ofV,constT,intT,lm]
      obtain ⟨x11, hx11, H⟩ := bnd H
      refine WO_op (x := .ag [qi x11.Kind, qi x11.N, qs x11.S, .row 0, .row 1]) (σ' := ⟨[], [some [qi a1.Kind, qi a1.N, qs a1.S, .c (cL eS a1.Keys), .c (cL eR_Node a1.Kids)], some [qi a2.Kind, qi a2.N, qs a2.S, .c (cL eS a2.Keys), .c (cL eR_Node a2.Kids)], some [qi a3.Kind, qi a3.N, qs a3.S, .c (cL eS a3.Keys), .c (cL eR_Node a3.Kids)], some [qi 0, qi 0, qs [], .nil, .nil]], [rr 1 eS x11.Keys true, rr 5 eR_Node x11.Kids true]⟩) rfl rfl (ev_callG (al := [.ag [qi a2.Kind, qi a2.N, qs a2.S, .c (cL eS a2.Keys), .c (cL eR_Node a2.Kids)]]) (ls := []) (impl_copyTree_ok hx11) rfl rfl rfl rfl rfl (by decide) rfl rfl rfl rfl rfl rfl) ?_; simp only [putT,st,ev,gt,hp,ofV,constT,intT,lm]
      refine WO_op (x := .row 2) (σ' := ⟨[], [some [qi a1.Kind, qi a1.N, qs a1.S, .c (cL eS a1.Keys), .c (cL eR_Node a1.Kids)], some [qi a2.Kind, qi a2.N, qs a2.S, .c (cL eS a2.Keys), .c (cL eR_Node a2.Kids)], some [qi a3.Kind, qi a3.N, qs a3.S, .c (cL eS a3.Keys), .c (cL eR_Node a3.Kids)], some [qi 0, qi 0, qs [], .nil, .nil]], [rr 1 eS x11.Keys true, rr 5 eR_Node x11.Kids true, rr 1 eS ([[46]] : List Str) true]⟩) rfl rfl (ev_bs ([[46]] : List Str) eS rfl rfl rfl rfl) ?_; simp only [putT,st,ev,gt,hp,ofV,constT,intT,lm]
      refine WO_op (x := .no) (σ' := ⟨[], [some [qi a1.Kind, qi a1.N, qs a1.S, .c (cL eS a1.Keys), .c (cL eR_Node a1.Kids)], some [qi a2.Kind, qi a2.N, qs a2.S, .c (cL eS a2.Keys), .c (cL eR_Node a2.Kids)], some [qi a3.Kind, qi a3.N, qs a3.S, .c (cL eS a3.Keys), .c (cL eR_Node a3.Kids)], some [qi x11.Kind, qi x11.N, qs x11.S, .row 0, .row 1]], [rr 1 eS x11.Keys true, rr 5 eR_Node x11.Kids true, rr 1 eS ([[46]] : List Str) true]⟩) rfl rfl rfl ?_
      refine WO_op rfl rfl rfl ?_; simp only [putT,st,ev,gt,hp,ofV,constT,intT,lm]
      refine WO_nil ?_
      refine W_ret ?_
      obtain rfl := Option.some.inj H
      exact told5 rfl rfl rfl rfl (fitAs_nz rfl) rfl
     ·
      replace H := fl hc H
      refine WO_want (x := .bp 2 0) rfl rfl rfl ?_
      refine WO_want (x := qi a3.Kind) rfl rfl rfl ?_
      refine WO_want rfl rfl rfl ?_; simp only [putT,st,ev,gt,hp,ofV,constT,intT,lm]
      refine WO_op (x := qb (a3.Kind != 5)) rfl rfl rfl ?_
      refine WO_op rfl rfl rfl ?_; simp only [putT,st,ev,gt,hp,ofV,constT,intT,lm]
      refine WO_nil ?_
      refine W_cond rfl (fun hc => ?_) (fun hc => ?_)
      ·
       replace H := tr hc H
       refine W_seq (W_region ?_)
       refine WO_op (x := .ag [qi a2.Kind, qi a2.N, qs a2.S, .c (cL eS a2.Keys), .c (cL eR_Node a2.Kids)]) rfl rfl rfl ?_; simp only [putT,st,ev,gt,hp,ofV,constT,intT,lm]
       obtain ⟨x12, hx12, H⟩ := bnd H
       refine WO_op (x := .ag [qi x12.Kind, qi x12.N, qs x12.S, .row 0, .row 1]) (σ' := ⟨[], [some [qi a1.Kind, qi a1.N, qs a1.S, .c (cL eS a1.Keys), .c (cL eR_Node a1.Kids)], some [qi a2.Kind, qi a2.N, qs a2.S, .c (cL eS a2.Keys), .c (cL eR_Node a2.Kids)], some [qi a3.Kind, qi a3.N, qs a3.S, .c (cL eS a3.Keys), .c (cL eR_Node a3.Kids)], some [qi 0, qi 0, qs [], .nil, .nil]], [rr 1 eS x12.Keys true, rr 5 eR_Node x12.Kids true]⟩) rfl rfl (ev_callG (al := [.ag [qi a2.Kind, qi a2.N, qs a2.S, .c (cL eS a2.Keys), .c (cL eR_Node a2.Kids)]]) (ls := []) (impl_copyTree_ok hx12) rfl rfl rfl rfl rfl (by decide) rfl rfl rfl rfl rfl rfl) ?_; simp only [putT,st,ev,gt,hp,ofV,constT,intT,lm]
       refine WO_op (x := .row 2) (σ' := ⟨[], [some [qi a1.Kind, qi a1.N, qs a1.S, .c (cL eS a1.Keys), .c (cL eR_Node a1.Kids)], some [qi a2.Kind, qi a2.N, qs a2.S, .c (cL eS a2.Keys), .c (cL eR_Node a2.Kids)], some [qi a3.Kind, qi a3.N, qs a3.S, .c (cL eS a3.Keys), .c (cL eR_Node a3.Kids)], some [qi 0, qi 0, qs [], .nil, .nil]], [rr 1 eS x12.Keys true, rr 5 eR_Node x12.Kids true, rr 1 eS ([[46]] : List Str) true]⟩) rfl rfl (ev_bs ([[46]] : List Str) eS rfl rfl rfl rfl) ?_; simp only [putT,st,ev,gt,hp,ofV,constT,intT,lm]
       refine WO_op (x := .no) (σ' := ⟨[], [some [qi a1.Kind, qi a1.N, qs a1.S, .c (cL eS a1.Keys), .c (cL eR_Node a1.Kids)], some [qi a2.Kind, qi a2.N, qs a2.S, .c (cL eS a2.Keys), .c (cL eR_Node a2.Kids)], some [qi a3.Kind, qi a3.N, qs a3.S, .c (cL eS a3.Keys), .c (cL eR_Node a3.Kids)], some [qi x12.Kind, qi x12.N, qs x12.S, .row 0, .row 1]], [rr 1 eS x12.Keys true, rr 5 eR_Node x12.Kids true, rr 1 eS ([[46]] : List Str) true]⟩) rfl rfl rfl ?_
       refine WO_op rfl rfl rfl ?_; simp only [putT,st,ev,gt,hp,ofV,constT,intT,lm]
       refine WO_nil ?_
       refine W_ret ?_
       obtain rfl := Option.some.inj H
       exact told5 rfl rfl rfl rfl (fitAs_nz rfl) rfl
      ·
       replace H := fl hc H
       refine W_skip ?_
       refine W_seq (W_region ?_)
       refine WO_op (x := .ag [qi 5, qi 0, qs [], .nil, .nil]) rfl rfl rfl ?_
       refine WO_op (x := .bp 4 0) (σ' := ⟨[], [some [qi a1.Kind, qi a1.N, qs a1.S, .c (cL eS a1.Keys), .c (cL eR_Node a1.Kids)], some [qi a2.Kind, qi a2.N, qs a2.S, .c (cL eS a2.Keys), .c (cL eR_Node a2.Kids)], some [qi a3.Kind, qi a3.N, qs a3.S, .c (cL eS a3.Keys), .c (cL eR_Node a3.Kids)], some [qi 0, qi 0, qs [], .nil, .nil], some [qi 0, qi 0, qs [], .nil, .nil]], []⟩) rfl rfl rfl ?_
       refine WO_op (x := .no) (σ' := ⟨[], [some [qi a1.Kind, qi a1.N, qs a1.S, .c (cL eS a1.Keys), .c (cL eR_Node a1.Kids)], some [qi a2.Kind, qi a2.N, qs a2.S, .c (cL eS a2.Keys), .c (cL eR_Node a2.Kids)], some [qi a3.Kind, qi a3.N, qs a3.S, .c (cL eS a3.Keys), .c (cL eR_Node a3.Kids)], some [qi 0, qi 0, qs [], .nil, .nil], some [qi 5, qi 0, qs [], .nil, .nil]], []⟩) rfl rfl rfl ?_; simp only [putT,st,ev,gt,hp,ofV,constT,intT,lm]
       refine WO_nil (W_seq (W_region ?_))
       refine WO_op (x := .row 0) (σ' := ⟨[], [some [qi a1.Kind, qi a1.N, qs a1.S, .c (cL eS a1.Keys), .c (cL eR_Node a1.Kids)], some [qi a2.Kind, qi a2.N, qs a2.S, .c (cL eS a2.Keys), .c (cL eR_Node a2.Kids)], some [qi a3.Kind, qi a3.N, qs a3.S, .c (cL eS a3.Keys), .c (cL eR_Node a3.Kids)], some [qi 0, qi 0, qs [], .nil, .nil], some [qi 5, qi 0, qs [], .nil, .nil]], [rr 1 eS ([] : List Str) true]⟩) rfl rfl (ev_bs ([] : List Str) eS rfl rfl rfl rfl) ?_; simp only [putT,st,ev,gt,hp,ofV,constT,intT,lm]
       refine WO_op rfl rfl rfl ?_; simp only [putT,st,ev,gt,hp,ofV,constT,intT,lm]
       refine WO_nil (W_seq (W_seq (W_region ?_)))
       refine WO_op (x := .ag [qi a1.Kind, qi a1.N, qs a1.S, .c (cL eS a1.Keys), .c (cL eR_Node a1.Kids)]) rfl rfl rfl ?_
       refine WO_op (x := .ag [qi a2.Kind, qi a2.N, qs a2.S, .c (cL eS a2.Keys), .c (cL eR_Node a2.Kids)]) rfl rfl rfl ?_
       refine WO_op (x := .ag [qi a3.Kind, qi a3.N, qs a3.S, .c (cL eS a3.Keys), .c (cL eR_Node a3.Kids)]) rfl rfl rfl ?_; simp only [putT,st,ev,gt,hp,ofV,constT,intT,lm]
       refine WO_op (x := .row 1) (σ' := ⟨[], [some [qi a1.Kind, qi a1.N, qs a1.S, .c (cL eS a1.Keys), .c (cL eR_Node a1.Kids)], some [qi a2.Kind, qi a2.N, qs a2.S, .c (cL eS a2.Keys), .c (cL eR_Node a2.Kids)], some [qi a3.Kind, qi a3.N, qs a3.S, .c (cL eS a3.Keys), .c (cL eR_Node a3.Kids)], some [qi 0, qi 0, qs [], .nil, .nil], some [qi 5, qi 0, qs [], .nil, .nil]], [rr 1 eS ([] : List Str) true, rr 5 eR_Node ([rN_Node a1, rN_Node a2, rN_Node a3] : List RNode) true]⟩) rfl rfl (ev_bs ([rN_Node a1, rN_Node a2, rN_Node a3] : List RNode) eR_Node rfl rfl rfl rfl) ?_; simp only [putT,st,ev,gt,hp,ofV,constT,intT,lm]
       obtain ⟨x13, hx13, H⟩ := bnd H
       refine WO_op (x := .row 2) (σ' := ⟨[], [some [qi a1.Kind, qi a1.N, qs a1.S, .c (cL eS a1.Keys), .c (cL eR_Node a1.Kids)], some [qi a2.Kind, qi a2.N, qs a2.S, .c (cL eS a2.Keys), .c (cL eR_Node a2.Kids)], some [qi a3.Kind, qi a3.N, qs a3.S, .c (cL eS a3.Keys), .c (cL eR_Node a3.Kids)], some [qi 0, qi 0, qs [], .nil, .nil], some [qi 5, qi 0, qs [], .nil, .nil]], [rr 1 eS ([] : List Str) true, rr 5 eR_Node ([rN_Node a1, rN_Node a2, rN_Node a3] : List RNode) true, rr 1 eS x13 true]⟩) rfl rfl (ev_callG (al := [.row 1]) (ls := []) (impl_union_ok hx13) rfl rfl rfl rfl rfl (by decide) rfl rfl (by simp only [flatA, flatV, flatC, List.all_cons, List.all_nil, Option.all_some, Option.all_none, Bool.and_self, Bool.or_true, fl_eS]) rfl rfl rfl) ?_; simp only [putT,st,ev,gt,hp,ofV,constT,intT,lm]
       iterate 2 (refine WO_op rfl rfl rfl ?_; simp only [putT,st,ev,gt,hp,ofV,constT,intT,lm])
       refine WO_nil ?_
       refine W_block ?_
       obtain ⟨t58, ht58, H⟩ := bnd H
       refine loop_ruleM (ls := []) 1 (fun (i : Nat) (t58 : Int × Int × Str × List Str × List RNode × List Str) => match i with | 0 => ⟨[.no, .no, .no, .no, .no, .no, .bp 0 0, .no, .bp 1 0, .row 0], [some [qi 0, qi 0, qs [], .nil, .nil], some [qi t58.1, qi t58.2.1, qs t58.2.2.1, .nil, .nil]], [rr 1 eS t58.2.2.2.2.2 true]⟩ | _ => ⟨[.no, .no, .no, .no, .no, .no, .bp 0 0, .no, .bp 1 0, .row 0], [some [qi 0, qi 0, qs [], .nil, .nil], some [qi t58.1, qi t58.2.1, qs t58.2.2.1, .row 1, .row 2]], [rr 1 eS t58.2.2.2.2.2 true, rr 1 eS t58.2.2.2.1 true, rr 5 eR_Node t58.2.2.2.2.1 true]⟩) (fun (i : Nat) t => match i with | 0 => t58 = t ∧ t.2.2.2.1 = [] ∧ t.2.2.2.2.1 = [] | 1 => t58 = t | _ => False) ⟨[.no, .no, .no, .bp 0 0, .bp 1 0, .bp 2 0, .bp 3 0, .no, .bp 4 0, .row 0, .no, .no, .no, .no, .no, .no, .no, .no, .no, .no, .no, .no, .no, .no, .no, .no, .no, .no, .no, .no, .no, .no, .no, .no, .no, .no, .no, .no, .no, .no, .no, .no, .no, .no, .no, .no, .no, .no, .no, .no, .no, .no, .no, .no, .no, .no, .no, .no, .no, .no, .no, .no, .row 1, qi (x13.length : Int), qi 0], [some [qi a1.Kind, qi a1.N, qs a1.S, .c (cL eS a1.Keys), .c (cL eR_Node a1.Kids)], some [qi a2.Kind, qi a2.N, qs a2.S, .c (cL eS a2.Keys), .c (cL eR_Node a2.Kids)], some [qi a3.Kind, qi a3.N, qs a3.S, .c (cL eS a3.Keys), .c (cL eR_Node a3.Kids)], some [qi 0, qi 0, qs [], .nil, .nil], some [qi 5, qi 0, qs [], .nil, .nil]], [rr 1 eS ([] : List Str) true, rr 1 eS x13 true]⟩ (by repeat (first | exact mono_told | refine mono_seq ?_ | refine mono_blk ?_ | refine mono_lp ?_)) (le_intro [0, 1, 2, 3, 4] [0, 2] (by decide) (by decide) rfl (by simp [leS, leT, leA, gt]) (by simp [leB, leT, leA]) (by simp [leR])) ?_ ?_
       ·
        intro i t1 hp
        rcases i with _ | _ | i
        ·
         obtain ⟨rfl, hz_t58_3, hz_t58_4⟩ := hp
         refine W_seq (W_region ?_)
         refine WO_op (x := .ag [qi t58.1, qi t58.2.1, qs t58.2.2.1, .nil, .nil]) rfl rfl rfl ?_
         refine WO_op rfl rfl rfl ?_
         refine WO_op (x := .no) (σ' := ⟨[], [some [qi t58.1, qi t58.2.1, qs t58.2.2.1, .nil, .nil], some [qi t58.1, qi t58.2.1, qs t58.2.2.1, .nil, .nil]], [rr 1 eS t58.2.2.2.2.2 true]⟩) rfl rfl rfl ?_
         refine WO_op rfl rfl rfl ?_; simp only [putT,st,ev,gt,hp,ofV,constT,intT,lm]
         refine WO_nil ?_
         refine W_ret ?_
         obtain rfl := Option.some.inj H
         exact told5 rfl rfl rfl rfl (by have er : Try.f14.resultTypes.toList = [30, 22] := rfl; have e22 : sizes Try.prog 8 22 = [1] := (by kernel_rfl); have e30 : sizes Try.prog 8 30 = [0, 0, 0, 1, 5] := (by kernel_rfl); simp only [er, fitAs, e22, e30, fitA, fit_s, fit_n, fit_o, fit_z, fit_e, if_true]; try rfl) (by simp only [hz_t58_3, hz_t58_4]; try rfl)
        ·
         obtain rfl := hp
         refine W_seq (W_region ?_)
         refine WO_op (x := .ag [qi t58.1, qi t58.2.1, qs t58.2.2.1, .row 1, .row 2]) rfl rfl rfl ?_
         refine WO_op rfl rfl rfl ?_
         refine WO_op (x := .no) (σ' := ⟨[], [some [qi t58.1, qi t58.2.1, qs t58.2.2.1, .row 1, .row 2], some [qi t58.1, qi t58.2.1, qs t58.2.2.1, .row 1, .row 2]], [rr 1 eS t58.2.2.2.2.2 true, rr 1 eS t58.2.2.2.1 true, rr 5 eR_Node t58.2.2.2.2.1 true]⟩) rfl rfl rfl ?_
         refine WO_op rfl rfl rfl ?_; simp only [putT,st,ev,gt,hp,ofV,constT,intT,lm]
         refine WO_nil ?_
         refine W_ret ?_
         obtain rfl := Option.some.inj H
         exact told5 rfl rfl rfl rfl (fitAs_nz rfl) rfl
        · exact hp.elim
       ·
        intro V1 hV1 hW1 hX1
        refine (impl_Merge.l0.partial_correctness rc32 a1 a2 a3 x13 (fun v14 v15 v16 v17 v18 v19 v20 s' => s' = t58 → (v19 = [] → v20 = [] → V1 ⟨[.no, .no, .no, .bp 0 0, .bp 1 0, .bp 2 0, .bp 3 0, .no, .bp 4 0, .row 0, .no, .no, .no, .no, .no, .no, .no, .no, .no, .no, .no, .no, .no, .no, .no, .no, .no, .no, .no, .no, .no, .no, .no, .no, .no, .no, .no, .no, .no, .no, .no, .no, .no, .no, .no, .no, .no, .no, .no, .no, .no, .no, .no, .no, .no, .no, .no, .no, .no, .no, .no, .no, .row 1, qi (x13.length : Int), qi v14], [some [qi a1.Kind, qi a1.N, qs a1.S, .c (cL eS a1.Keys), .c (cL eR_Node a1.Kids)], some [qi a2.Kind, qi a2.N, qs a2.S, .c (cL eS a2.Keys), .c (cL eR_Node a2.Kids)], some [qi a3.Kind, qi a3.N, qs a3.S, .c (cL eS a3.Keys), .c (cL eR_Node a3.Kids)], some [qi 0, qi 0, qs [], .nil, .nil], some [qi v15, qi v16, qs v17, .nil, .nil]], [rr 1 eS v18 true, rr 1 eS x13 true]⟩) ∧ (V1 ⟨[.no, .no, .no, .bp 0 0, .bp 1 0, .bp 2 0, .bp 3 0, .no, .bp 4 0, .row 0, .no, .no, .no, .no, .no, .no, .no, .no, .no, .no, .no, .no, .no, .no, .no, .no, .no, .no, .no, .no, .no, .no, .no, .no, .no, .no, .no, .no, .no, .no, .no, .no, .no, .no, .no, .no, .no, .no, .no, .no, .no, .no, .no, .no, .no, .no, .no, .no, .no, .no, .no, .no, .row 1, qi (x13.length : Int), qi v14], [some [qi a1.Kind, qi a1.N, qs a1.S, .c (cL eS a1.Keys), .c (cL eR_Node a1.Kids)], some [qi a2.Kind, qi a2.N, qs a2.S, .c (cL eS a2.Keys), .c (cL eR_Node a2.Kids)], some [qi a3.Kind, qi a3.N, qs a3.S, .c (cL eS a3.Keys), .c (cL eR_Node a3.Kids)], some [qi 0, qi 0, qs [], .nil, .nil], some [qi v15, qi v16, qs v17, .row 2, .row 3]], [rr 1 eS v18 true, rr 1 eS x13 true, rr 1 eS v19 true, rr 5 eR_Node v20 true]⟩)) ?_ _ _ _ _ _ _ _ _ ht58 rfl).1 rfl rfl
        intro l0 IH1 v14 v15 v16 v17 v18 v19 v20 s' H1 e
        subst e
        refine ⟨?_, ?_⟩
        ·
         intro hn_v19 hn_v20
         refine hV1 _ ?_
         refine W_seq (W_region ?_)
         refine WO_op rfl rfl rfl ?_; simp only [putT,st,ev,gt,hp,ofV,constT,intT,lm]
         refine WO_nil (W_seq ?_)
         refine W_cond rfl (fun hc => ?_) (fun hc => ?_)
         ·
          replace H1 := tr hc H1
          refine W_skip ?_
          refine W_seq ?_
          refine W_block ?_
          refine W_seq (W_region ?_)
          obtain ⟨x21, hx21, H1⟩ := bnd H1
          refine WO_op rfl rfl (ev_ixR (en := eS) hx21 rfl rfl rfl rfl rfl rfl rfl) ?_; simp only [putT,st,ev,gt,hp,ofV,constT,intT,lm]
          refine WO_op (x := qs x21) rfl rfl (ev_ldR (en := eS) hx21 rfl rfl rfl rfl) ?_; simp only [putT,st,ev,gt,hp,ofV,constT,intT,lm]
          refine WO_op rfl rfl rfl ?_; simp only [putT,st,ev,gt,hp,ofV,constT,intT,lm]
          refine WO_nil (W_seq (W_region ?_))
          refine WO_op (x := .ag [qi a1.Kind, qi a1.N, qs a1.S, .c (cL eS a1.Keys), .c (cL eR_Node a1.Kids)]) rfl rfl rfl ?_
          refine WO_op rfl rfl rfl ?_; simp only [putT,st,ev,gt,hp,ofV,constT,intT,lm]
          obtain ⟨x22, hx22, H1⟩ := bnd H1
          refine WO_op (x := .tu [.ag [qi x22.1.Kind, qi x22.1.N, qs x22.1.S, .row 2, .row 3], qb x22.2]) (σ' := ⟨[], [some [qi a1.Kind, qi a1.N, qs a1.S, .c (cL eS a1.Keys), .c (cL eR_Node a1.Kids)], some [qi a2.Kind, qi a2.N, qs a2.S, .c (cL eS a2.Keys), .c (cL eR_Node a2.Kids)], some [qi a3.Kind, qi a3.N, qs a3.S, .c (cL eS a3.Keys), .c (cL eR_Node a3.Kids)], some [qi 0, qi 0, qs [], .nil, .nil], some [qi v15, qi v16, qs v17, .nil, .nil]], [rr 1 eS v18 true, rr 1 eS x13 true, rr 1 eS x22.1.Keys true, rr 5 eR_Node x22.1.Kids true]⟩) rfl rfl (ev_callG (al := [.ag [qi a1.Kind, qi a1.N, qs a1.S, .c (cL eS a1.Keys), .c (cL eR_Node a1.Kids)], qs x21]) (ls := []) (impl_Get_ok hx22) rfl rfl rfl rfl rfl (by decide) rfl rfl rfl rfl rfl rfl) ?_; simp only [putT,st,ev,gt,hp,ofV,constT,intT,lm]
          refine WO_op rfl rfl rfl ?_
          refine WO_op (x := .ag [qi x22.1.Kind, qi x22.1.N, qs x22.1.S, .row 2, .row 3]) rfl rfl rfl ?_
          refine WO_op (x := qb x22.2) rfl rfl rfl ?_
          refine WO_op (x := .bp 5 0) (σ' := ⟨[], [some [qi a1.Kind, qi a1.N, qs a1.S, .c (cL eS a1.Keys), .c (cL eR_Node a1.Kids)], some [qi a2.Kind, qi a2.N, qs a2.S, .c (cL eS a2.Keys), .c (cL eR_Node a2.Kids)], some [qi a3.Kind, qi a3.N, qs a3.S, .c (cL eS a3.Keys), .c (cL eR_Node a3.Kids)], some [qi 0, qi 0, qs [], .nil, .nil], some [qi v15, qi v16, qs v17, .nil, .nil], some [qi 0, qi 0, qs [], .nil, .nil]], [rr 1 eS v18 true, rr 1 eS x13 true, rr 1 eS x22.1.Keys true, rr 5 eR_Node x22.1.Kids true]⟩) rfl rfl rfl ?_; simp only [putT,st,ev,gt,hp,ofV,constT,intT,lm]
          refine WO_op (x := .no) (σ' := ⟨[], [some [qi a1.Kind, qi a1.N, qs a1.S, .c (cL eS a1.Keys), .c (cL eR_Node a1.Kids)], some [qi a2.Kind, qi a2.N, qs a2.S, .c (cL eS a2.Keys), .c (cL eR_Node a2.Kids)], some [qi a3.Kind, qi a3.N, qs a3.S, .c (cL eS a3.Keys), .c (cL eR_Node a3.Kids)], some [qi 0, qi 0, qs [], .nil, .nil], some [qi v15, qi v16, qs v17, .nil, .nil], some [qi x22.1.Kind, qi x22.1.N, qs x22.1.S, .row 2, .row 3]], [rr 1 eS v18 true, rr 1 eS x13 true, rr 1 eS x22.1.Keys true, rr 5 eR_Node x22.1.Kids true]⟩) rfl rfl rfl ?_
          refine WO_op rfl rfl rfl ?_; simp only [putT,st,ev,gt,hp,ofV,constT,intT,lm]
          refine WO_nil (W_seq (W_region ?_))
          refine WO_op (x := .ag [qi a2.Kind, qi a2.N, qs a2.S, .c (cL eS a2.Keys), .c (cL eR_Node a2.Kids)]) rfl rfl rfl ?_
          refine WO_op rfl rfl rfl ?_; simp only [putT,st,ev,gt,hp,ofV,constT,intT,lm]
          obtain ⟨x23, hx23, H1⟩ := bnd H1
          refine WO_op (x := .tu [.ag [qi x23.1.Kind, qi x23.1.N, qs x23.1.S, .row 4, .row 5], qb x23.2]) (σ' := ⟨[], [some [qi a1.Kind, qi a1.N, qs a1.S, .c (cL eS a1.Keys), .c (cL eR_Node a1.Kids)], some [qi a2.Kind, qi a2.N, qs a2.S, .c (cL eS a2.Keys), .c (cL eR_Node a2.Kids)], some [qi a3.Kind, qi a3.N, qs a3.S, .c (cL eS a3.Keys), .c (cL eR_Node a3.Kids)], some [qi 0, qi 0, qs [], .nil, .nil], some [qi v15, qi v16, qs v17, .nil, .nil], some [qi x22.1.Kind, qi x22.1.N, qs x22.1.S, .row 2, .row 3]], [rr 1 eS v18 true, rr 1 eS x13 true, rr 1 eS x22.1.Keys true, rr 5 eR_Node x22.1.Kids true, rr 1 eS x23.1.Keys true, rr 5 eR_Node x23.1.Kids true]⟩) rfl rfl (ev_callG (al := [.ag [qi a2.Kind, qi a2.N, qs a2.S, .c (cL eS a2.Keys), .c (cL eR_Node a2.Kids)], qs x21]) (ls := []) (impl_Get_ok hx23) rfl rfl rfl rfl rfl (by decide) rfl rfl rfl rfl rfl rfl) ?_; simp only [putT,st,ev,gt,hp,ofV,constT,intT,lm]
          refine WO_op rfl rfl rfl ?_
          refine WO_op (x := .ag [qi x23.1.Kind, qi x23.1.N, qs x23.1.S, .row 4, .row 5]) rfl rfl rfl ?_
          refine WO_op (x := qb x23.2) rfl rfl rfl ?_
          refine WO_op (x := .bp 6 0) (σ' := ⟨[], [some [qi a1.Kind, qi a1.N, qs a1.S, .c (cL eS a1.Keys), .c (cL eR_Node a1.Kids)], some [qi a2.Kind, qi a2.N, qs a2.S, .c (cL eS a2.Keys), .c (cL eR_Node a2.Kids)], some [qi a3.Kind, qi a3.N, qs a3.S, .c (cL eS a3.Keys), .c (cL eR_Node a3.Kids)], some [qi 0, qi 0, qs [], .nil, .nil], some [qi v15, qi v16, qs v17, .nil, .nil], some [qi x22.1.Kind, qi x22.1.N, qs x22.1.S, .row 2, .row 3], some [qi 0, qi 0, qs [], .nil, .nil]], [rr 1 eS v18 true, rr 1 eS x13 true, rr 1 eS x22.1.Keys true, rr 5 eR_Node x22.1.Kids true, rr 1 eS x23.1.Keys true, rr 5 eR_Node x23.1.Kids true]⟩) rfl rfl rfl ?_; simp only [putT,st,ev,gt,hp,ofV,constT,intT,lm]
          refine WO_op (x := .no) (σ' := ⟨[], [some [qi a1.Kind, qi a1.N, qs a1.S, .c (cL eS a1.Keys), .c (cL eR_Node a1.Kids)], some [qi a2.Kind, qi a2.N, qs a2.S, .c (cL eS a2.Keys), .c (cL eR_Node a2.Kids)], some [qi a3.Kind, qi a3.N, qs a3.S, .c (cL eS a3.Keys), .c (cL eR_Node a3.Kids)], some [qi 0, qi 0, qs [], .nil, .nil], some [qi v15, qi v16, qs v17, .nil, .nil], some [qi x22.1.Kind, qi x22.1.N, qs x22.1.S, .row 2, .row 3], some [qi x23.1.Kind, qi x23.1.N, qs x23.1.S, .row 4, .row 5]], [rr 1 eS v18 true, rr 1 eS x13 true, rr 1 eS x22.1.Keys true, rr 5 eR_Node x22.1.Kids true, rr 1 eS x23.1.Keys true, rr 5 eR_Node x23.1.Kids true]⟩) rfl rfl rfl ?_
          refine WO_op rfl rfl rfl ?_; simp only [putT,st,ev,gt,hp,ofV,constT,intT,lm]
          refine WO_nil (W_seq (W_region ?_))
          refine WO_op (x := .ag [qi a3.Kind, qi a3.N, qs a3.S, .c (cL eS a3.Keys), .c (cL eR_Node a3.Kids)]) rfl rfl rfl ?_
          refine WO_op rfl rfl rfl ?_; simp only [putT,st,ev,gt,hp,ofV,constT,intT,lm]
          obtain ⟨x24, hx24, H1⟩ := bnd H1
          refine WO_op (x := .tu [.ag [qi x24.1.Kind, qi x24.1.N, qs x24.1.S, .row 6, .row 7], qb x24.2]) (σ' := ⟨[], [some [qi a1.Kind, qi a1.N, qs a1.S, .c (cL eS a1.Keys), .c (cL eR_Node a1.Kids)], some [qi a2.Kind, qi a2.N, qs a2.S, .c (cL eS a2.Keys), .c (cL eR_Node a2.Kids)], some [qi a3.Kind, qi a3.N, qs a3.S, .c (cL eS a3.Keys), .c (cL eR_Node a3.Kids)], some [qi 0, qi 0, qs [], .nil, .nil], some [qi v15, qi v16, qs v17, .nil, .nil], some [qi x22.1.Kind, qi x22.1.N, qs x22.1.S, .row 2, .row 3], some [qi x23.1.Kind, qi x23.1.N, qs x23.1.S, .row 4, .row 5]], [rr 1 eS v18 true, rr 1 eS x13 true, rr 1 eS x22.1.Keys true, rr 5 eR_Node x22.1.Kids true, rr 1 eS x23.1.Keys true, rr 5 eR_Node x23.1.Kids true, rr 1 eS x24.1.Keys true, rr 5 eR_Node x24.1.Kids true]⟩) rfl rfl (ev_callG (al := [.ag [qi a3.Kind, qi a3.N, qs a3.S, .c (cL eS a3.Keys), .c (cL eR_Node a3.Kids)], qs x21]) (ls := []) (impl_Get_ok hx24) rfl rfl rfl rfl rfl (by decide) rfl rfl rfl rfl rfl rfl) ?_; simp only [putT,st,ev,gt,hp,ofV,constT,intT,lm]
          refine WO_op rfl rfl rfl ?_
          refine WO_op (x := .ag [qi x24.1.Kind, qi x24.1.N, qs x24.1.S, .row 6, .row 7]) rfl rfl rfl ?_
          refine WO_op (x := qb x24.2) rfl rfl rfl ?_
          refine WO_op (x := .bp 7 0) (σ' := ⟨[], [some [qi a1.Kind, qi a1.N, qs a1.S, .c (cL eS a1.Keys), .c (cL eR_Node a1.Kids)], some [qi a2.Kind, qi a2.N, qs a2.S, .c (cL eS a2.Keys), .c (cL eR_Node a2.Kids)], some [qi a3.Kind, qi a3.N, qs a3.S, .c (cL eS a3.Keys), .c (cL eR_Node a3.Kids)], some [qi 0, qi 0, qs [], .nil, .nil], some [qi v15, qi v16, qs v17, .nil, .nil], some [qi x22.1.Kind, qi x22.1.N, qs x22.1.S, .row 2, .row 3], some [qi x23.1.Kind, qi x23.1.N, qs x23.1.S, .row 4, .row 5], some [qi 0, qi 0, qs [], .nil, .nil]], [rr 1 eS v18 true, rr 1 eS x13 true, rr 1 eS x22.1.Keys true, rr 5 eR_Node x22.1.Kids true, rr 1 eS x23.1.Keys true, rr 5 eR_Node x23.1.Kids true, rr 1 eS x24.1.Keys true, rr 5 eR_Node x24.1.Kids true]⟩) rfl rfl rfl ?_; simp only [putT,st,ev,gt,hp,ofV,constT,intT,lm]
          refine WO_op (x := .no) (σ' := ⟨[], [some [qi a1.Kind, qi a1.N, qs a1.S, .c (cL eS a1.Keys), .c (cL eR_Node a1.Kids)], some [qi a2.Kind, qi a2.N, qs a2.S, .c (cL eS a2.Keys), .c (cL eR_Node a2.Kids)], some [qi a3.Kind, qi a3.N, qs a3.S, .c (cL eS a3.Keys), .c (cL eR_Node a3.Kids)], some [qi 0, qi 0, qs [], .nil, .nil], some [qi v15, qi v16, qs v17, .nil, .nil], some [qi x22.1.Kind, qi x22.1.N, qs x22.1.S, .row 2, .row 3], some [qi x23.1.Kind, qi x23.1.N, qs x23.1.S, .row 4, .row 5], some [qi x24.1.Kind, qi x24.1.N, qs x24.1.S, .row 6, .row 7]], [rr 1 eS v18 true, rr 1 eS x13 true, rr 1 eS x22.1.Keys true, rr 5 eR_Node x22.1.Kids true, rr 1 eS x23.1.Keys true, rr 5 eR_Node x23.1.Kids true, rr 1 eS x24.1.Keys true, rr 5 eR_Node x24.1.Kids true]⟩) rfl rfl rfl ?_
          refine WO_op rfl rfl rfl ?_; simp only [putT,st,ev,gt,hp,ofV,constT,intT,lm]
          refine WO_nil (W_seq ?_)
          refine W_block ?_
          refine W_seq (W_region ?_)
          iterate 2 (refine WO_op rfl rfl rfl ?_; simp only [putT,st,ev,gt,hp,ofV,constT,intT,lm])
          refine WO_if rfl rfl rfl (fun hc => ?_) (fun hc => ?_)
          ·
           replace H1 := tr hc H1
           refine WO_want rfl rfl rfl ?_
           refine WO_op (x := qb x23.2) rfl rfl rfl ?_
           refine WO_op rfl rfl rfl ?_; simp only [putT,st,ev,gt,hp,ofV,constT,intT,lm]
           refine WO_if rfl rfl rfl (fun hc => ?_) (fun hc => ?_)
           ·
            replace H1 := tr hc H1
            refine WO_want rfl rfl rfl ?_
            refine WO_op (x := qb x24.2) rfl rfl rfl ?_
            refine WO_op rfl rfl rfl ?_; simp only [putT,st,ev,gt,hp,ofV,constT,intT,lm]
            refine WO_nil ?_
            refine W_cond rfl (fun hc => ?_) (fun hc => ?_)
            ·
             replace H1 := tr hc H1
             refine W_seq (W_region ?_)
             refine WO_op (x := .ag [qi x22.1.Kind, qi x22.1.N, qs x22.1.S, .row 2, .row 3]) rfl rfl rfl ?_
             refine WO_op (x := .ag [qi x23.1.Kind, qi x23.1.N, qs x23.1.S, .row 4, .row 5]) rfl rfl rfl ?_
             refine WO_op (x := .ag [qi x24.1.Kind, qi x24.1.N, qs x24.1.S, .row 6, .row 7]) rfl rfl rfl ?_; simp only [putT,st,ev,gt,hp,ofV,constT,intT,lm]
             obtain ⟨x25, hx25, H1⟩ := bnd H1
             refine WO_op (x := .tu [.ag [qi x25.1.Kind, qi x25.1.N, qs x25.1.S, .row 8, .row 9], .row 10]) (σ' := ⟨[], [some [qi a1.Kind, qi a1.N, qs a1.S, .c (cL eS a1.Keys), .c (cL eR_Node a1.Kids)], some [qi a2.Kind, qi a2.N, qs a2.S, .c (cL eS a2.Keys), .c (cL eR_Node a2.Kids)], some [qi a3.Kind, qi a3.N, qs a3.S, .c (cL eS a3.Keys), .c (cL eR_Node a3.Kids)], some [qi 0, qi 0, qs [], .nil, .nil], some [qi v15, qi v16, qs v17, .nil, .nil], some [qi x22.1.Kind, qi x22.1.N, qs x22.1.S, .row 2, .row 3], some [qi x23.1.Kind, qi x23.1.N, qs x23.1.S, .row 4, .row 5], some [qi x24.1.Kind, qi x24.1.N, qs x24.1.S, .row 6, .row 7]], [rr 1 eS v18 true, rr 1 eS x13 true, rr 1 eS x22.1.Keys false, rr 5 eR_Node x22.1.Kids false, rr 1 eS x23.1.Keys false, rr 5 eR_Node x23.1.Kids false, rr 1 eS x24.1.Keys false, rr 5 eR_Node x24.1.Kids false, rr 1 eS x25.1.Keys true, rr 5 eR_Node x25.1.Kids true, rr 1 eS x25.2 true]⟩) rfl rfl (ev_callG (al := [.ag [qi x22.1.Kind, qi x22.1.N, qs x22.1.S, .row 2, .row 3], .ag [qi x23.1.Kind, qi x23.1.N, qs x23.1.S, .row 4, .row 5], .ag [qi x24.1.Kind, qi x24.1.N, qs x24.1.S, .row 6, .row 7]]) (ls := []) (hrc32 hx25) rfl rfl rfl rfl rfl (by decide) rfl rfl rfl rfl rfl rfl) ?_; simp only [putT,st,ev,gt,hp,ofV,constT,intT,lm]
             refine WO_op rfl rfl rfl ?_
             refine WO_op (x := .ag [qi x25.1.Kind, qi x25.1.N, qs x25.1.S, .row 8, .row 9]) rfl rfl rfl ?_
             refine WO_op (x := .row 10) rfl rfl rfl ?_
             refine WO_op (x := .bp 8 0) (σ' := ⟨[], [some [qi a1.Kind, qi a1.N, qs a1.S, .c (cL eS a1.Keys), .c (cL eR_Node a1.Kids)], some [qi a2.Kind, qi a2.N, qs a2.S, .c (cL eS a2.Keys), .c (cL eR_Node a2.Kids)], some [qi a3.Kind, qi a3.N, qs a3.S, .c (cL eS a3.Keys), .c (cL eR_Node a3.Kids)], some [qi 0, qi 0, qs [], .nil, .nil], some [qi v15, qi v16, qs v17, .nil, .nil], some [qi x22.1.Kind, qi x22.1.N, qs x22.1.S, .row 2, .row 3], some [qi x23.1.Kind, qi x23.1.N, qs x23.1.S, .row 4, .row 5], some [qi x24.1.Kind, qi x24.1.N, qs x24.1.S, .row 6, .row 7], some [qi 0, qi 0, qs [], .nil, .nil]], [rr 1 eS v18 true, rr 1 eS x13 true, rr 1 eS x22.1.Keys false, rr 5 eR_Node x22.1.Kids false, rr 1 eS x23.1.Keys false, rr 5 eR_Node x23.1.Kids false, rr 1 eS x24.1.Keys false, rr 5 eR_Node x24.1.Kids false, rr 1 eS x25.1.Keys true, rr 5 eR_Node x25.1.Kids true, rr 1 eS x25.2 true]⟩) rfl rfl rfl ?_; simp only [putT,st,ev,gt,hp,ofV,constT,intT,lm]
             refine WO_op (x := .no) (σ' := ⟨[], [some [qi a1.Kind, qi a1.N, qs a1.S, .c (cL eS a1.Keys), .c (cL eR_Node a1.Kids)], some [qi a2.Kind, qi a2.N, qs a2.S, .c (cL eS a2.Keys), .c (cL eR_Node a2.Kids)], some [qi a3.Kind, qi a3.N, qs a3.S, .c (cL eS a3.Keys), .c (cL eR_Node a3.Kids)], some [qi 0, qi 0, qs [], .nil, .nil], some [qi v15, qi v16, qs v17, .nil, .nil], some [qi x22.1.Kind, qi x22.1.N, qs x22.1.S, .row 2, .row 3], some [qi x23.1.Kind, qi x23.1.N, qs x23.1.S, .row 4, .row 5], some [qi x24.1.Kind, qi x24.1.N, qs x24.1.S, .row 6, .row 7], some [qi x25.1.Kind, qi x25.1.N, qs x25.1.S, .row 8, .row 9]], [rr 1 eS v18 true, rr 1 eS x13 true, rr 1 eS x22.1.Keys false, rr 5 eR_Node x22.1.Kids false, rr 1 eS x23.1.Keys false, rr 5 eR_Node x23.1.Kids false, rr 1 eS x24.1.Keys false, rr 5 eR_Node x24.1.Kids false, rr 1 eS x25.1.Keys true, rr 5 eR_Node x25.1.Kids true, rr 1 eS x25.2 true]⟩) rfl rfl rfl ?_
             refine WO_op rfl rfl rfl ?_; simp only [putT,st,ev,gt,hp,ofV,constT,intT,lm]
             refine WO_nil (W_seq (W_region ?_))
             refine WO_op (x := .ag [qi v15, qi v16, qs v17, .nil, .nil]) rfl rfl rfl ?_
             refine WO_op rfl rfl rfl ?_
             refine WO_op (x := .ag [qi x25.1.Kind, qi x25.1.N, qs x25.1.S, .row 8, .row 9]) rfl rfl rfl ?_; simp only [putT,st,ev,gt,hp,ofV,constT,intT,lm]
             obtain ⟨x26, hx26, H1⟩ := bnd H1
             refine WO_op (x := .ag [qi x26.Kind, qi x26.N, qs x26.S, .row 11, .row 12]) (σ' := ⟨[], [some [qi a1.Kind, qi a1.N, qs a1.S, .c (cL eS a1.Keys), .c (cL eR_Node a1.Kids)], some [qi a2.Kind, qi a2.N, qs a2.S, .c (cL eS a2.Keys), .c (cL eR_Node a2.Kids)], some [qi a3.Kind, qi a3.N, qs a3.S, .c (cL eS a3.Keys), .c (cL eR_Node a3.Kids)], some [qi 0, qi 0, qs [], .nil, .nil], some [qi v15, qi v16, qs v17, .nil, .nil], some [qi x22.1.Kind, qi x22.1.N, qs x22.1.S, .row 2, .row 3], some [qi x23.1.Kind, qi x23.1.N, qs x23.1.S, .row 4, .row 5], some [qi x24.1.Kind, qi x24.1.N, qs x24.1.S, .row 6, .row 7], some [qi x25.1.Kind, qi x25.1.N, qs x25.1.S, .row 8, .row 9]], [rr 1 eS v18 true, rr 1 eS x13 true, rr 1 eS x22.1.Keys false, rr 5 eR_Node x22.1.Kids false, rr 1 eS x23.1.Keys false, rr 5 eR_Node x23.1.Kids false, rr 1 eS x24.1.Keys false, rr 5 eR_Node x24.1.Kids false, rr 1 eS x25.1.Keys false, rr 5 eR_Node x25.1.Kids false, rr 1 eS x25.2 true, rr 1 eS x26.Keys true, rr 5 eR_Node x26.Kids true]⟩) rfl rfl (ev_callG (al := [.ag [qi v15, qi v16, qs v17, .nil, .nil], qs x21, .ag [qi x25.1.Kind, qi x25.1.N, qs x25.1.S, .row 8, .row 9]]) (ls := []) (impl_Set_ok hx26) rfl rfl rfl rfl rfl (by decide) rfl (by rw [hn_v19, hn_v20]; rfl) rfl rfl rfl rfl) ?_; simp only [putT,st,ev,gt,hp,ofV,constT,intT,lm]
             refine WO_op (x := .no) (σ' := ⟨[], [some [qi a1.Kind, qi a1.N, qs a1.S, .c (cL eS a1.Keys), .c (cL eR_Node a1.Kids)], some [qi a2.Kind, qi a2.N, qs a2.S, .c (cL eS a2.Keys), .c (cL eR_Node a2.Kids)], some [qi a3.Kind, qi a3.N, qs a3.S, .c (cL eS a3.Keys), .c (cL eR_Node a3.Kids)], some [qi 0, qi 0, qs [], .nil, .nil], some [qi x26.Kind, qi x26.N, qs x26.S, .row 11, .row 12], some [qi x22.1.Kind, qi x22.1.N, qs x22.1.S, .row 2, .row 3], some [qi x23.1.Kind, qi x23.1.N, qs x23.1.S, .row 4, .row 5], some [qi x24.1.Kind, qi x24.1.N, qs x24.1.S, .row 6, .row 7], some [qi x25.1.Kind, qi x25.1.N, qs x25.1.S, .row 8, .row 9]], [rr 1 eS v18 true, rr 1 eS x13 true, rr 1 eS x22.1.Keys false, rr 5 eR_Node x22.1.Kids false, rr 1 eS x23.1.Keys false, rr 5 eR_Node x23.1.Kids false, rr 1 eS x24.1.Keys false, rr 5 eR_Node x24.1.Kids false, rr 1 eS x25.1.Keys false, rr 5 eR_Node x25.1.Kids false, rr 1 eS x25.2 true, rr 1 eS x26.Keys true, rr 5 eR_Node x26.Kids true]⟩) rfl rfl rfl ?_; simp only [putT,st,ev,gt,hp,ofV,constT,intT,lm]
             refine WO_nil (W_seq (W_seq (W_region ?_)))
             iterate 3 (refine WO_op rfl rfl rfl ?_; simp only [putT,st,ev,gt,hp,ofV,constT,intT,lm])
             refine WO_nil ?_
             refine W_block ?_
             obtain ⟨t32, ht32, H1⟩ := bnd H1
             refine loop_rule (ls := []) 4 (fun t32 : List Str => ⟨[.no, .no, .no, .bp 0 0, .bp 1 0, .bp 2 0, .bp 3 0, .no, .bp 4 0, .row 0, .no, .no, .no, .no, .no, .no, .no, .no, .no, .no, .no, .no, .no, .no, .no, .no, .no, .no, .no, .no, .no, .no, .no, .no, .no, .no, .no, .no, .no, .no, .no, .no, .no, .no, .no, .no, .no, .no, .no, .no, .no, .no, .no, .no, .no, .no, .no, .no, .no, .no, .no, .no, .row 1, qi (x13.length : Int), qi v14], [some [qi a1.Kind, qi a1.N, qs a1.S, .c (cL eS a1.Keys), .c (cL eR_Node a1.Kids)], some [qi a2.Kind, qi a2.N, qs a2.S, .c (cL eS a2.Keys), .c (cL eR_Node a2.Kids)], some [qi a3.Kind, qi a3.N, qs a3.S, .c (cL eS a3.Keys), .c (cL eR_Node a3.Kids)], some [qi 0, qi 0, qs [], .nil, .nil], some [qi x26.Kind, qi x26.N, qs x26.S, .row 2, .row 3]], [rr 1 eS t32 true, rr 1 eS x13 true, rr 1 eS x26.Keys true, rr 5 eR_Node x26.Kids true]⟩) (fun t => t32 = t) ⟨[.no, .no, .no, .bp 0 0, .bp 1 0, .bp 2 0, .bp 3 0, .no, .bp 4 0, .row 0, .no, qs x21, .no, .no, .no, .no, .no, .no, .no, .no, .no, .no, .no, .no, .no, .no, .no, .no, .no, .no, .no, .no, .no, .no, .no, .no, .no, .no, .no, .no, .no, .no, .no, .no, .no, .no, .no, .no, .no, .no, .no, .no, .no, .no, .no, .no, .no, .no, .no, .no, .no, .no, .row 1, qi (x13.length : Int), qi v14, .no, .no, .no, .no, .no, .no, .no, .no, .no, .no, .no, .no, .no, .no, .no, .no, .no, .no, .no, .no, .no, .no, .no, .no, .no, .no, .no, .no, .no, .no, .no, .no, .no, .no, .no, .no, .no, .no, .no, .no, .no, .no, .no, .no, .row 2, qi (x25.2.length : Int), qi 0], [some [qi a1.Kind, qi a1.N, qs a1.S, .c (cL eS a1.Keys), .c (cL eR_Node a1.Kids)], some [qi a2.Kind, qi a2.N, qs a2.S, .c (cL eS a2.Keys), .c (cL eR_Node a2.Kids)], some [qi a3.Kind, qi a3.N, qs a3.S, .c (cL eS a3.Keys), .c (cL eR_Node a3.Kids)], some [qi 0, qi 0, qs [], .nil, .nil], some [qi x26.Kind, qi x26.N, qs x26.S, .row 3, .row 4]], [rr 1 eS v18 true, rr 1 eS x13 true, rr 1 eS x25.2 true, rr 1 eS x26.Keys true, rr 5 eR_Node x26.Kids true]⟩ (by repeat (first | exact mono_told | refine mono_seq ?_ | refine mono_blk ?_ | refine mono_lp ?_)) (le_intro [0, 1, 2, 3, 4] [0, 1, 10, 11, 12] (by decide) (by decide) rfl (by simp [leS, leT, leA, gt]) (by simp [leB, leT, leA]) (by simp [leR])) ?_ ?_
             ·
              rintro t1 rfl
              refine W_exit ?_
              refine W_region ?_
              iterate 2 (refine WO_op rfl rfl rfl ?_; simp only [putT,st,ev,gt,hp,ofV,constT,intT,lm])
              refine WO_nil ?_
              exact hW1 _ _ ((IH1 _ _ _ _ _ _ _ _ H1 rfl).2) (le_intro [0, 1, 2, 3, 4] [0, 1, 2, 3] (by decide) (by decide) rfl (by simp [leS, leT, leA, gt]) (by simp [leB, leT, leA]) (by simp [leR]))
             ·
              intro V2 hV2 hW2 hX2
              refine (impl_Merge.l1.partial_correctness x21 x25 (fun v27 v28 s' => s' = t32 → (V2 ⟨[.no, .no, .no, .bp 0 0, .bp 1 0, .bp 2 0, .bp 3 0, .no, .bp 4 0, .row 0, .no, qs x21, .no, .no, .no, .no, .no, .no, .no, .no, .no, .no, .no, .no, .no, .no, .no, .no, .no, .no, .no, .no, .no, .no, .no, .no, .no, .no, .no, .no, .no, .no, .no, .no, .no, .no, .no, .no, .no, .no, .no, .no, .no, .no, .no, .no, .no, .no, .no, .no, .no, .no, .row 1, qi (x13.length : Int), qi v14, .no, .no, .no, .no, .no, .no, .no, .no, .no, .no, .no, .no, .no, .no, .no, .no, .no, .no, .no, .no, .no, .no, .no, .no, .no, .no, .no, .no, .no, .no, .no, .no, .no, .no, .no, .no, .no, .no, .no, .no, .no, .no, .no, .no, .row 2, qi (x25.2.length : Int), qi v27], [some [qi a1.Kind, qi a1.N, qs a1.S, .c (cL eS a1.Keys), .c (cL eR_Node a1.Kids)], some [qi a2.Kind, qi a2.N, qs a2.S, .c (cL eS a2.Keys), .c (cL eR_Node a2.Kids)], some [qi a3.Kind, qi a3.N, qs a3.S, .c (cL eS a3.Keys), .c (cL eR_Node a3.Kids)], some [qi 0, qi 0, qs [], .nil, .nil], some [qi x26.Kind, qi x26.N, qs x26.S, .row 3, .row 4]], [rr 1 eS v28 true, rr 1 eS x13 true, rr 1 eS x25.2 true, rr 1 eS x26.Keys true, rr 5 eR_Node x26.Kids true]⟩)) ?_ _ _ _ ht32 rfl)
              intro l0 IH2 v27 v28 s' H2 e
              subst e
              refine hV2 _ ?_
              refine W_seq (W_region ?_)
              refine WO_op rfl rfl rfl ?_; simp only [putT,st,ev,gt,hp,ofV,constT,intT,lm]
              refine WO_nil (W_seq ?_)
              refine W_cond rfl (fun hc => ?_) (fun hc => ?_)
              ·
               replace H2 := tr hc H2
               refine W_skip ?_
               refine W_seq ?_
               refine W_block ?_
               refine W_seq (W_region ?_)
               obtain ⟨x29, hx29, H2⟩ := bnd H2
               refine WO_op rfl rfl (ev_ixR (en := eS) hx29 rfl rfl rfl rfl rfl rfl rfl) ?_; simp only [putT,st,ev,gt,hp,ofV,constT,intT,lm]
               refine WO_op (x := qs x29) rfl rfl (ev_ldR (en := eS) hx29 rfl rfl rfl rfl) ?_; simp only [putT,st,ev,gt,hp,ofV,constT,intT,lm]
               refine WO_op rfl rfl rfl ?_; simp only [putT,st,ev,gt,hp,ofV,constT,intT,lm]
               refine WO_nil (W_region ?_)
               iterate 3 (refine WO_op rfl rfl rfl ?_; simp only [putT,st,ev,gt,hp,ofV,constT,intT,lm])
               obtain ⟨x30, hx30, H2⟩ := bnd H2
               refine WO_op (x := qs x30) (σ' := ⟨[], [some [qi a1.Kind, qi a1.N, qs a1.S, .c (cL eS a1.Keys), .c (cL eR_Node a1.Kids)], some [qi a2.Kind, qi a2.N, qs a2.S, .c (cL eS a2.Keys), .c (cL eR_Node a2.Kids)], some [qi a3.Kind, qi a3.N, qs a3.S, .c (cL eS a3.Keys), .c (cL eR_Node a3.Kids)], some [qi 0, qi 0, qs [], .nil, .nil], some [qi x26.Kind, qi x26.N, qs x26.S, .row 3, .row 4]], [rr 1 eS v28 true, rr 1 eS x13 true, rr 1 eS x25.2 true, rr 1 eS x26.Keys true, rr 5 eR_Node x26.Kids true]⟩) rfl rfl (ev_callG (al := [qs x21, qs x29]) (ls := []) (impl_below_ok hx30) rfl rfl rfl rfl rfl (by decide) rfl rfl rfl rfl rfl rfl) ?_; simp only [putT,st,ev,gt,hp,ofV,constT,intT,lm]
               refine WO_op (x := .row 5) (σ' := ⟨[], [some [qi a1.Kind, qi a1.N, qs a1.S, .c (cL eS a1.Keys), .c (cL eR_Node a1.Kids)], some [qi a2.Kind, qi a2.N, qs a2.S, .c (cL eS a2.Keys), .c (cL eR_Node a2.Kids)], some [qi a3.Kind, qi a3.N, qs a3.S, .c (cL eS a3.Keys), .c (cL eR_Node a3.Kids)], some [qi 0, qi 0, qs [], .nil, .nil], some [qi x26.Kind, qi x26.N, qs x26.S, .row 3, .row 4]], [rr 1 eS v28 true, rr 1 eS x13 true, rr 1 eS x25.2 true, rr 1 eS x26.Keys true, rr 5 eR_Node x26.Kids true, rr 1 eS ([x30] : List Str) true]⟩) rfl rfl (ev_bs ([x30] : List Str) eS rfl rfl rfl rfl) ?_; simp only [putT,st,ev,gt,hp,ofV,constT,intT,lm]
               obtain ⟨m31, hm31, H2⟩ := bnd H2
               refine WO_op (x := .row 6) (σ' := ⟨[], [some [qi a1.Kind, qi a1.N, qs a1.S, .c (cL eS a1.Keys), .c (cL eR_Node a1.Kids)], some [qi a2.Kind, qi a2.N, qs a2.S, .c (cL eS a2.Keys), .c (cL eR_Node a2.Kids)], some [qi a3.Kind, qi a3.N, qs a3.S, .c (cL eS a3.Keys), .c (cL eR_Node a3.Kids)], some [qi 0, qi 0, qs [], .nil, .nil], some [qi x26.Kind, qi x26.N, qs x26.S, .row 3, .row 4]], [none, rr 1 eS x13 true, rr 1 eS x25.2 true, rr 1 eS x26.Keys true, rr 5 eR_Node x26.Kids true, rr 1 eS ([x30] : List Str) true, rr 1 eS m31 true]⟩) rfl rfl (ev_app (en := eS) hm31 rfl rfl rfl rfl (Or.inl rfl) rfl rfl rfl rfl rfl rfl rfl rfl rfl rfl rfl (fun _ => rfl) rfl (Or.inr rfl) rfl) ?_; simp only [putT,st,ev,gt,hp,ofV,constT,intT,lm]
               refine WO_op rfl rfl rfl ?_; simp only [putT,st,ev,gt,hp,ofV,constT,intT,lm]
               refine WO_nil (W_region ?_)
               iterate 2 (refine WO_op rfl rfl rfl ?_; simp only [putT,st,ev,gt,hp,ofV,constT,intT,lm])
               refine WO_nil ?_
               exact hW2 _ _ ((IH2 _ _ _ H2 rfl)) (le_intro [0, 1, 2, 3, 4] [6, 1, 2, 3, 4] (by decide) (by decide) rfl (by simp [leS, leT, leA, gt]) (by simp [leB, leT, leA]) (by simp [leR]))
              ·
               replace H2 := fl hc H2
               refine W_exit ?_
               obtain rfl := Option.some.inj H2
               exact hX2 v28 _ rfl (le_intro [0, 1, 2, 3, 4] [0, 1, 3, 4] (by decide) (by decide) rfl (by simp [leS, leT, leA, gt]) (by simp [leB, leT, leA]) (by simp [leR]))
            ·
             replace H1 := fl hc H1
             refine W_seq (W_region ?_)
             refine WO_op (x := .ag [qi a3.Kind, qi a3.N, qs a3.S, .c (cL eS a3.Keys), .c (cL eR_Node a3.Kids)]) rfl rfl rfl ?_
             refine WO_op (x := .ag [qi a1.Kind, qi a1.N, qs a1.S, .c (cL eS a1.Keys), .c (cL eR_Node a1.Kids)]) rfl rfl rfl ?_
             refine WO_op rfl rfl rfl ?_; simp only [putT,st,ev,gt,hp,ofV,constT,intT,lm]
             obtain ⟨x34, hx34, H1⟩ := bnd H1
             refine WO_op (x := qb x34) (σ' := ⟨[], [some [qi a1.Kind, qi a1.N, qs a1.S, .c (cL eS a1.Keys), .c (cL eR_Node a1.Kids)], some [qi a2.Kind, qi a2.N, qs a2.S, .c (cL eS a2.Keys), .c (cL eR_Node a2.Kids)], some [qi a3.Kind, qi a3.N, qs a3.S, .c (cL eS a3.Keys), .c (cL eR_Node a3.Kids)], some [qi 0, qi 0, qs [], .nil, .nil], some [qi v15, qi v16, qs v17, .nil, .nil], some [qi x22.1.Kind, qi x22.1.N, qs x22.1.S, .row 2, .row 3], some [qi x23.1.Kind, qi x23.1.N, qs x23.1.S, .row 4, .row 5], some [qi x24.1.Kind, qi x24.1.N, qs x24.1.S, .row 6, .row 7]], [rr 1 eS v18 true, rr 1 eS x13 true, rr 1 eS x22.1.Keys true, rr 5 eR_Node x22.1.Kids true, rr 1 eS x23.1.Keys true, rr 5 eR_Node x23.1.Kids true, rr 1 eS x24.1.Keys true, rr 5 eR_Node x24.1.Kids true]⟩) rfl rfl (ev_callG (al := [.ag [qi a3.Kind, qi a3.N, qs a3.S, .c (cL eS a3.Keys), .c (cL eR_Node a3.Kids)], .ag [qi a1.Kind, qi a1.N, qs a1.S, .c (cL eS a1.Keys), .c (cL eR_Node a1.Kids)], qs x21]) (ls := []) (impl_alike_ok hx34) rfl rfl rfl rfl rfl (by decide) rfl rfl rfl rfl rfl rfl) ?_; simp only [putT,st,ev,gt,hp,ofV,constT,intT,lm]
             refine WO_op rfl rfl rfl ?_; simp only [putT,st,ev,gt,hp,ofV,constT,intT,lm]
             refine WO_if rfl rfl rfl (fun hc => ?_) (fun hc => ?_)
             ·
              replace H1 := tr hc H1
              simp only [putT,st,ev,gt,hp,ofV,constT,intT,lm]
              iterate 4 refine WO_skip rfl rfl ?_
              refine WO_op (x := qb true) rfl rfl rfl ?_
              refine WO_op rfl rfl rfl ?_; simp only [putT,st,ev,gt,hp,ofV,constT,intT,lm]
              refine WO_nil ?_
              refine W_cond (t := true) rfl (fun _ => ?_) (fun h => by cases h)
              refine W_skip ?_
              refine W_seq (W_region ?_)
              refine WO_op rfl rfl rfl ?_; simp only [putT,st,ev,gt,hp,ofV,constT,intT,lm]
              refine WO_nil ?_
              refine W_cond rfl (fun hc => ?_) (fun hc => ?_)
              ·
               replace H1 := tr hc H1
               refine W_region ?_
               refine WO_op (x := .ag [qi v15, qi v16, qs v17, .nil, .nil]) rfl rfl rfl ?_
               refine WO_op rfl rfl rfl ?_
               refine WO_op (x := .ag [qi x23.1.Kind, qi x23.1.N, qs x23.1.S, .row 4, .row 5]) rfl rfl rfl ?_; simp only [putT,st,ev,gt,hp,ofV,constT,intT,lm]
               obtain ⟨x35, hx35, H1⟩ := bnd H1
               refine WO_op (x := .ag [qi x35.Kind, qi x35.N, qs x35.S, .row 8, .row 9]) (σ' := ⟨[], [some [qi a1.Kind, qi a1.N, qs a1.S, .c (cL eS a1.Keys), .c (cL eR_Node a1.Kids)], some [qi a2.Kind, qi a2.N, qs a2.S, .c (cL eS a2.Keys), .c (cL eR_Node a2.Kids)], some [qi a3.Kind, qi a3.N, qs a3.S, .c (cL eS a3.Keys), .c (cL eR_Node a3.Kids)], some [qi 0, qi 0, qs [], .nil, .nil], some [qi v15, qi v16, qs v17, .nil, .nil], some [qi x22.1.Kind, qi x22.1.N, qs x22.1.S, .row 2, .row 3], some [qi x23.1.Kind, qi x23.1.N, qs x23.1.S, .row 4, .row 5], some [qi x24.1.Kind, qi x24.1.N, qs x24.1.S, .row 6, .row 7]], [rr 1 eS v18 true, rr 1 eS x13 true, rr 1 eS x22.1.Keys true, rr 5 eR_Node x22.1.Kids true, rr 1 eS x23.1.Keys false, rr 5 eR_Node x23.1.Kids false, rr 1 eS x24.1.Keys true, rr 5 eR_Node x24.1.Kids true, rr 1 eS x35.Keys true, rr 5 eR_Node x35.Kids true]⟩) rfl rfl (ev_callG (al := [.ag [qi v15, qi v16, qs v17, .nil, .nil], qs x21, .ag [qi x23.1.Kind, qi x23.1.N, qs x23.1.S, .row 4, .row 5]]) (ls := []) (impl_Set_ok hx35) rfl rfl rfl rfl rfl (by decide) rfl (by rw [hn_v19, hn_v20]; rfl) rfl rfl rfl rfl) ?_; simp only [putT,st,ev,gt,hp,ofV,constT,intT,lm]
               refine WO_op (x := .no) (σ' := ⟨[], [some [qi a1.Kind, qi a1.N, qs a1.S, .c (cL eS a1.Keys), .c (cL eR_Node a1.Kids)], some [qi a2.Kind, qi a2.N, qs a2.S, .c (cL eS a2.Keys), .c (cL eR_Node a2.Kids)], some [qi a3.Kind, qi a3.N, qs a3.S, .c (cL eS a3.Keys), .c (cL eR_Node a3.Kids)], some [qi 0, qi 0, qs [], .nil, .nil], some [qi x35.Kind, qi x35.N, qs x35.S, .row 8, .row 9], some [qi x22.1.Kind, qi x22.1.N, qs x22.1.S, .row 2, .row 3], some [qi x23.1.Kind, qi x23.1.N, qs x23.1.S, .row 4, .row 5], some [qi x24.1.Kind, qi x24.1.N, qs x24.1.S, .row 6, .row 7]], [rr 1 eS v18 true, rr 1 eS x13 true, rr 1 eS x22.1.Keys true, rr 5 eR_Node x22.1.Kids true, rr 1 eS x23.1.Keys false, rr 5 eR_Node x23.1.Kids false, rr 1 eS x24.1.Keys true, rr 5 eR_Node x24.1.Kids true, rr 1 eS x35.Keys true, rr 5 eR_Node x35.Kids true]⟩) rfl rfl rfl ?_; simp only [putT,st,ev,gt,hp,ofV,constT,intT,lm]
               refine WO_nil (W_region ?_)
               iterate 2 (refine WO_op rfl rfl rfl ?_; simp only [putT,st,ev,gt,hp,ofV,constT,intT,lm])
               refine WO_nil ?_
               exact hW1 _ _ ((IH1 _ _ _ _ _ _ _ _ H1 rfl).2) (le_intro [0, 1, 2, 3, 4] [0, 1, 8, 9] (by decide) (by decide) rfl (by simp [leS, leT, leA, gt]) (by simp [leB, leT, leA]) (by simp [leR]))
              ·
               replace H1 := fl hc H1
               refine W_skip ?_
               refine W_region ?_
               iterate 2 (refine WO_op rfl rfl rfl ?_; simp only [putT,st,ev,gt,hp,ofV,constT,intT,lm])
               refine WO_nil ?_
               exact hW1 _ _ ((IH1 _ _ _ _ _ _ _ _ H1 rfl).1 hn_v19 hn_v20) (le_intro [0, 1, 2, 3, 4] [0, 1] (by decide) (by decide) rfl (by simp [leS, leT, leA, gt]) (by simp [leB, leT, leA]) (by simp [leR]))
             ·
              replace H1 := fl hc H1
              refine WO_want (x := .ag [qi a2.Kind, qi a2.N, qs a2.S, .c (cL eS a2.Keys), .c (cL eR_Node a2.Kids)]) rfl rfl rfl ?_
              refine WO_want (x := .ag [qi a3.Kind, qi a3.N, qs a3.S, .c (cL eS a3.Keys), .c (cL eR_Node a3.Kids)]) rfl rfl rfl ?_
              refine WO_want rfl rfl rfl ?_; simp only [putT,st,ev,gt,hp,ofV,constT,intT,lm]
              obtain ⟨x36, hx36, H1⟩ := bnd H1
              refine WO_want (x := qb x36) (σ' := ⟨[], [some [qi a1.Kind, qi a1.N, qs a1.S, .c (cL eS a1.Keys), .c (cL eR_Node a1.Kids)], some [qi a2.Kind, qi a2.N, qs a2.S, .c (cL eS a2.Keys), .c (cL eR_Node a2.Kids)], some [qi a3.Kind, qi a3.N, qs a3.S, .c (cL eS a3.Keys), .c (cL eR_Node a3.Kids)], some [qi 0, qi 0, qs [], .nil, .nil], some [qi v15, qi v16, qs v17, .nil, .nil], some [qi x22.1.Kind, qi x22.1.N, qs x22.1.S, .row 2, .row 3], some [qi x23.1.Kind, qi x23.1.N, qs x23.1.S, .row 4, .row 5], some [qi x24.1.Kind, qi x24.1.N, qs x24.1.S, .row 6, .row 7]], [rr 1 eS v18 true, rr 1 eS x13 true, rr 1 eS x22.1.Keys true, rr 5 eR_Node x22.1.Kids true, rr 1 eS x23.1.Keys true, rr 5 eR_Node x23.1.Kids true, rr 1 eS x24.1.Keys true, rr 5 eR_Node x24.1.Kids true]⟩) rfl rfl (ev_callG (al := [.ag [qi a2.Kind, qi a2.N, qs a2.S, .c (cL eS a2.Keys), .c (cL eR_Node a2.Kids)], .ag [qi a3.Kind, qi a3.N, qs a3.S, .c (cL eS a3.Keys), .c (cL eR_Node a3.Kids)], qs x21]) (ls := []) (impl_alike_ok hx36) rfl rfl rfl rfl rfl (by decide) rfl rfl rfl rfl rfl rfl) ?_; simp only [putT,st,ev,gt,hp,ofV,constT,intT,lm]
              refine WO_op (x := qb x36) rfl rfl rfl ?_
              refine WO_op rfl rfl rfl ?_; simp only [putT,st,ev,gt,hp,ofV,constT,intT,lm]
              refine WO_nil ?_
              refine W_cond rfl (fun hc => ?_) (fun hc => ?_)
              ·
               replace H1 := tr hc H1
               refine W_skip ?_
               refine W_seq (W_region ?_)
               refine WO_op rfl rfl rfl ?_; simp only [putT,st,ev,gt,hp,ofV,constT,intT,lm]
               refine WO_nil ?_
               refine W_cond rfl (fun hc => ?_) (fun hc => ?_)
               ·
                replace H1 := tr hc H1
                refine W_region ?_
                refine WO_op (x := .ag [qi v15, qi v16, qs v17, .nil, .nil]) rfl rfl rfl ?_
                refine WO_op rfl rfl rfl ?_
                refine WO_op (x := .ag [qi x23.1.Kind, qi x23.1.N, qs x23.1.S, .row 4, .row 5]) rfl rfl rfl ?_; simp only [putT,st,ev,gt,hp,ofV,constT,intT,lm]
                obtain ⟨x37, hx37, H1⟩ := bnd H1
                refine WO_op (x := .ag [qi x37.Kind, qi x37.N, qs x37.S, .row 8, .row 9]) (σ' := ⟨[], [some [qi a1.Kind, qi a1.N, qs a1.S, .c (cL eS a1.Keys), .c (cL eR_Node a1.Kids)], some [qi a2.Kind, qi a2.N, qs a2.S, .c (cL eS a2.Keys), .c (cL eR_Node a2.Kids)], some [qi a3.Kind, qi a3.N, qs a3.S, .c (cL eS a3.Keys), .c (cL eR_Node a3.Kids)], some [qi 0, qi 0, qs [], .nil, .nil], some [qi v15, qi v16, qs v17, .nil, .nil], some [qi x22.1.Kind, qi x22.1.N, qs x22.1.S, .row 2, .row 3], some [qi x23.1.Kind, qi x23.1.N, qs x23.1.S, .row 4, .row 5], some [qi x24.1.Kind, qi x24.1.N, qs x24.1.S, .row 6, .row 7]], [rr 1 eS v18 true, rr 1 eS x13 true, rr 1 eS x22.1.Keys true, rr 5 eR_Node x22.1.Kids true, rr 1 eS x23.1.Keys false, rr 5 eR_Node x23.1.Kids false, rr 1 eS x24.1.Keys true, rr 5 eR_Node x24.1.Kids true, rr 1 eS x37.Keys true, rr 5 eR_Node x37.Kids true]⟩) rfl rfl (ev_callG (al := [.ag [qi v15, qi v16, qs v17, .nil, .nil], qs x21, .ag [qi x23.1.Kind, qi x23.1.N, qs x23.1.S, .row 4, .row 5]]) (ls := []) (impl_Set_ok hx37) rfl rfl rfl rfl rfl (by decide) rfl (by rw [hn_v19, hn_v20]; rfl) rfl rfl rfl rfl) ?_; simp only [putT,st,ev,gt,hp,ofV,constT,intT,lm]
                refine WO_op (x := .no) (σ' := ⟨[], [some [qi a1.Kind, qi a1.N, qs a1.S, .c (cL eS a1.Keys), .c (cL eR_Node a1.Kids)], some [qi a2.Kind, qi a2.N, qs a2.S, .c (cL eS a2.Keys), .c (cL eR_Node a2.Kids)], some [qi a3.Kind, qi a3.N, qs a3.S, .c (cL eS a3.Keys), .c (cL eR_Node a3.Kids)], some [qi 0, qi 0, qs [], .nil, .nil], some [qi x37.Kind, qi x37.N, qs x37.S, .row 8, .row 9], some [qi x22.1.Kind, qi x22.1.N, qs x22.1.S, .row 2, .row 3], some [qi x23.1.Kind, qi x23.1.N, qs x23.1.S, .row 4, .row 5], some [qi x24.1.Kind, qi x24.1.N, qs x24.1.S, .row 6, .row 7]], [rr 1 eS v18 true, rr 1 eS x13 true, rr 1 eS x22.1.Keys true, rr 5 eR_Node x22.1.Kids true, rr 1 eS x23.1.Keys false, rr 5 eR_Node x23.1.Kids false, rr 1 eS x24.1.Keys true, rr 5 eR_Node x24.1.Kids true, rr 1 eS x37.Keys true, rr 5 eR_Node x37.Kids true]⟩) rfl rfl rfl ?_; simp only [putT,st,ev,gt,hp,ofV,constT,intT,lm]
                refine WO_nil (W_region ?_)
                iterate 2 (refine WO_op rfl rfl rfl ?_; simp only [putT,st,ev,gt,hp,ofV,constT,intT,lm])
                refine WO_nil ?_
                exact hW1 _ _ ((IH1 _ _ _ _ _ _ _ _ H1 rfl).2) (le_intro [0, 1, 2, 3, 4] [0, 1, 8, 9] (by decide) (by decide) rfl (by simp [leS, leT, leA, gt]) (by simp [leB, leT, leA]) (by simp [leR]))
               ·
                replace H1 := fl hc H1
                refine W_skip ?_
                refine W_region ?_
                iterate 2 (refine WO_op rfl rfl rfl ?_; simp only [putT,st,ev,gt,hp,ofV,constT,intT,lm])
                refine WO_nil ?_
                exact hW1 _ _ ((IH1 _ _ _ _ _ _ _ _ H1 rfl).1 hn_v19 hn_v20) (le_intro [0, 1, 2, 3, 4] [0, 1] (by decide) (by decide) rfl (by simp [leS, leT, leA, gt]) (by simp [leB, leT, leA]) (by simp [leR]))
              ·
               replace H1 := fl hc H1
               refine W_seq (W_region ?_)
               refine WO_op (x := .ag [qi a2.Kind, qi a2.N, qs a2.S, .c (cL eS a2.Keys), .c (cL eR_Node a2.Kids)]) rfl rfl rfl ?_
               refine WO_op (x := .ag [qi a1.Kind, qi a1.N, qs a1.S, .c (cL eS a1.Keys), .c (cL eR_Node a1.Kids)]) rfl rfl rfl ?_
               refine WO_op rfl rfl rfl ?_; simp only [putT,st,ev,gt,hp,ofV,constT,intT,lm]
               obtain ⟨x38, hx38, H1⟩ := bnd H1
               refine WO_op (x := qb x38) (σ' := ⟨[], [some [qi a1.Kind, qi a1.N, qs a1.S, .c (cL eS a1.Keys), .c (cL eR_Node a1.Kids)], some [qi a2.Kind, qi a2.N, qs a2.S, .c (cL eS a2.Keys), .c (cL eR_Node a2.Kids)], some [qi a3.Kind, qi a3.N, qs a3.S, .c (cL eS a3.Keys), .c (cL eR_Node a3.Kids)], some [qi 0, qi 0, qs [], .nil, .nil], some [qi v15, qi v16, qs v17, .nil, .nil], some [qi x22.1.Kind, qi x22.1.N, qs x22.1.S, .row 2, .row 3], some [qi x23.1.Kind, qi x23.1.N, qs x23.1.S, .row 4, .row 5], some [qi x24.1.Kind, qi x24.1.N, qs x24.1.S, .row 6, .row 7]], [rr 1 eS v18 true, rr 1 eS x13 true, rr 1 eS x22.1.Keys true, rr 5 eR_Node x22.1.Kids true, rr 1 eS x23.1.Keys true, rr 5 eR_Node x23.1.Kids true, rr 1 eS x24.1.Keys true, rr 5 eR_Node x24.1.Kids true]⟩) rfl rfl (ev_callG (al := [.ag [qi a2.Kind, qi a2.N, qs a2.S, .c (cL eS a2.Keys), .c (cL eR_Node a2.Kids)], .ag [qi a1.Kind, qi a1.N, qs a1.S, .c (cL eS a1.Keys), .c (cL eR_Node a1.Kids)], qs x21]) (ls := []) (impl_alike_ok hx38) rfl rfl rfl rfl rfl (by decide) rfl rfl rfl rfl rfl rfl) ?_; simp only [putT,st,ev,gt,hp,ofV,constT,intT,lm]
               refine WO_op rfl rfl rfl ?_; simp only [putT,st,ev,gt,hp,ofV,constT,intT,lm]
               refine WO_nil ?_
               refine W_cond rfl (fun hc => ?_) (fun hc => ?_)
               ·
                replace H1 := tr hc H1
                refine W_region ?_
                refine WO_op (x := .ag [qi x24.1.Kind, qi x24.1.N, qs x24.1.S, .row 6, .row 7]) rfl rfl rfl ?_
                refine WO_op rfl rfl rfl ?_
                refine WO_op (x := .no) (σ' := ⟨[], [some [qi a1.Kind, qi a1.N, qs a1.S, .c (cL eS a1.Keys), .c (cL eR_Node a1.Kids)], some [qi a2.Kind, qi a2.N, qs a2.S, .c (cL eS a2.Keys), .c (cL eR_Node a2.Kids)], some [qi a3.Kind, qi a3.N, qs a3.S, .c (cL eS a3.Keys), .c (cL eR_Node a3.Kids)], some [qi 0, qi 0, qs [], .nil, .nil], some [qi v15, qi v16, qs v17, .nil, .nil], some [qi x22.1.Kind, qi x22.1.N, qs x22.1.S, .row 2, .row 3], some [qi x24.1.Kind, qi x24.1.N, qs x24.1.S, .row 6, .row 7], some [qi x24.1.Kind, qi x24.1.N, qs x24.1.S, .row 6, .row 7]], [rr 1 eS v18 true, rr 1 eS x13 true, rr 1 eS x22.1.Keys true, rr 5 eR_Node x22.1.Kids true, rr 1 eS x23.1.Keys true, rr 5 eR_Node x23.1.Kids true, rr 1 eS x24.1.Keys true, rr 5 eR_Node x24.1.Kids true]⟩) rfl rfl rfl ?_
                refine WO_op rfl rfl rfl ?_; simp only [putT,st,ev,gt,hp,ofV,constT,intT,lm]
                refine WO_nil (W_seq (W_region ?_))
                refine WO_op rfl rfl rfl ?_; simp only [putT,st,ev,gt,hp,ofV,constT,intT,lm]
                refine WO_nil ?_
                refine W_cond rfl (fun hc => ?_) (fun hc => ?_)
                ·
                 replace H1 := tr hc H1
                 refine W_region ?_
                 refine WO_op (x := .ag [qi v15, qi v16, qs v17, .nil, .nil]) rfl rfl rfl ?_
                 refine WO_op rfl rfl rfl ?_
                 refine WO_op (x := .ag [qi x24.1.Kind, qi x24.1.N, qs x24.1.S, .row 6, .row 7]) rfl rfl rfl ?_; simp only [putT,st,ev,gt,hp,ofV,constT,intT,lm]
                 obtain ⟨x39, hx39, H1⟩ := bnd H1
                 refine WO_op (x := .ag [qi x39.Kind, qi x39.N, qs x39.S, .row 8, .row 9]) (σ' := ⟨[], [some [qi a1.Kind, qi a1.N, qs a1.S, .c (cL eS a1.Keys), .c (cL eR_Node a1.Kids)], some [qi a2.Kind, qi a2.N, qs a2.S, .c (cL eS a2.Keys), .c (cL eR_Node a2.Kids)], some [qi a3.Kind, qi a3.N, qs a3.S, .c (cL eS a3.Keys), .c (cL eR_Node a3.Kids)], some [qi 0, qi 0, qs [], .nil, .nil], some [qi v15, qi v16, qs v17, .nil, .nil], some [qi x22.1.Kind, qi x22.1.N, qs x22.1.S, .row 2, .row 3], some [qi x24.1.Kind, qi x24.1.N, qs x24.1.S, .row 6, .row 7], some [qi x24.1.Kind, qi x24.1.N, qs x24.1.S, .row 6, .row 7]], [rr 1 eS v18 true, rr 1 eS x13 true, rr 1 eS x22.1.Keys true, rr 5 eR_Node x22.1.Kids true, rr 1 eS x23.1.Keys true, rr 5 eR_Node x23.1.Kids true, rr 1 eS x24.1.Keys false, rr 5 eR_Node x24.1.Kids false, rr 1 eS x39.Keys true, rr 5 eR_Node x39.Kids true]⟩) rfl rfl (ev_callG (al := [.ag [qi v15, qi v16, qs v17, .nil, .nil], qs x21, .ag [qi x24.1.Kind, qi x24.1.N, qs x24.1.S, .row 6, .row 7]]) (ls := []) (impl_Set_ok hx39) rfl rfl rfl rfl rfl (by decide) rfl (by rw [hn_v19, hn_v20]; rfl) rfl rfl rfl rfl) ?_; simp only [putT,st,ev,gt,hp,ofV,constT,intT,lm]
                 refine WO_op (x := .no) (σ' := ⟨[], [some [qi a1.Kind, qi a1.N, qs a1.S, .c (cL eS a1.Keys), .c (cL eR_Node a1.Kids)], some [qi a2.Kind, qi a2.N, qs a2.S, .c (cL eS a2.Keys), .c (cL eR_Node a2.Kids)], some [qi a3.Kind, qi a3.N, qs a3.S, .c (cL eS a3.Keys), .c (cL eR_Node a3.Kids)], some [qi 0, qi 0, qs [], .nil, .nil], some [qi x39.Kind, qi x39.N, qs x39.S, .row 8, .row 9], some [qi x22.1.Kind, qi x22.1.N, qs x22.1.S, .row 2, .row 3], some [qi x24.1.Kind, qi x24.1.N, qs x24.1.S, .row 6, .row 7], some [qi x24.1.Kind, qi x24.1.N, qs x24.1.S, .row 6, .row 7]], [rr 1 eS v18 true, rr 1 eS x13 true, rr 1 eS x22.1.Keys true, rr 5 eR_Node x22.1.Kids true, rr 1 eS x23.1.Keys true, rr 5 eR_Node x23.1.Kids true, rr 1 eS x24.1.Keys false, rr 5 eR_Node x24.1.Kids false, rr 1 eS x39.Keys true, rr 5 eR_Node x39.Kids true]⟩) rfl rfl rfl ?_; simp only [putT,st,ev,gt,hp,ofV,constT,intT,lm]
                 refine WO_nil (W_region ?_)
                 iterate 2 (refine WO_op rfl rfl rfl ?_; simp only [putT,st,ev,gt,hp,ofV,constT,intT,lm])
                 refine WO_nil ?_
                 exact hW1 _ _ ((IH1 _ _ _ _ _ _ _ _ H1 rfl).2) (le_intro [0, 1, 2, 3, 4] [0, 1, 8, 9] (by decide) (by decide) rfl (by simp [leS, leT, leA, gt]) (by simp [leB, leT, leA]) (by simp [leR]))
                ·
                 replace H1 := fl hc H1
                 refine W_skip ?_
                 refine W_region ?_
                 iterate 2 (refine WO_op rfl rfl rfl ?_; simp only [putT,st,ev,gt,hp,ofV,constT,intT,lm])
                 refine WO_nil ?_
                 exact hW1 _ _ ((IH1 _ _ _ _ _ _ _ _ H1 rfl).1 hn_v19 hn_v20) (le_intro [0, 1, 2, 3, 4] [0, 1] (by decide) (by decide) rfl (by simp [leS, leT, leA, gt]) (by simp [leB, leT, leA]) (by simp [leR]))
               ·
                replace H1 := fl hc H1
                refine W_region ?_
                iterate 2 (refine WO_op rfl rfl rfl ?_; simp only [putT,st,ev,gt,hp,ofV,constT,intT,lm])
                refine WO_op (x := .row 8) (σ' := ⟨[], [some [qi a1.Kind, qi a1.N, qs a1.S, .c (cL eS a1.Keys), .c (cL eR_Node a1.Kids)], some [qi a2.Kind, qi a2.N, qs a2.S, .c (cL eS a2.Keys), .c (cL eR_Node a2.Kids)], some [qi a3.Kind, qi a3.N, qs a3.S, .c (cL eS a3.Keys), .c (cL eR_Node a3.Kids)], some [qi 0, qi 0, qs [], .nil, .nil], some [qi v15, qi v16, qs v17, .nil, .nil], some [qi x22.1.Kind, qi x22.1.N, qs x22.1.S, .row 2, .row 3], some [qi x23.1.Kind, qi x23.1.N, qs x23.1.S, .row 4, .row 5], some [qi x24.1.Kind, qi x24.1.N, qs x24.1.S, .row 6, .row 7]], [rr 1 eS v18 true, rr 1 eS x13 true, rr 1 eS x22.1.Keys true, rr 5 eR_Node x22.1.Kids true, rr 1 eS x23.1.Keys true, rr 5 eR_Node x23.1.Kids true, rr 1 eS x24.1.Keys true, rr 5 eR_Node x24.1.Kids true, rr 1 eS ([x21] : List Str) true]⟩) rfl rfl (ev_bs ([x21] : List Str) eS rfl rfl rfl rfl) ?_; simp only [putT,st,ev,gt,hp,ofV,constT,intT,lm]
                obtain ⟨m40, hm40, H1⟩ := bnd H1
                refine WO_op (x := .row 9) (σ' := ⟨[], [some [qi a1.Kind, qi a1.N, qs a1.S, .c (cL eS a1.Keys), .c (cL eR_Node a1.Kids)], some [qi a2.Kind, qi a2.N, qs a2.S, .c (cL eS a2.Keys), .c (cL eR_Node a2.Kids)], some [qi a3.Kind, qi a3.N, qs a3.S, .c (cL eS a3.Keys), .c (cL eR_Node a3.Kids)], some [qi 0, qi 0, qs [], .nil, .nil], some [qi v15, qi v16, qs v17, .nil, .nil], some [qi x22.1.Kind, qi x22.1.N, qs x22.1.S, .row 2, .row 3], some [qi x23.1.Kind, qi x23.1.N, qs x23.1.S, .row 4, .row 5], some [qi x24.1.Kind, qi x24.1.N, qs x24.1.S, .row 6, .row 7]], [none, rr 1 eS x13 true, rr 1 eS x22.1.Keys true, rr 5 eR_Node x22.1.Kids true, rr 1 eS x23.1.Keys true, rr 5 eR_Node x23.1.Kids true, rr 1 eS x24.1.Keys true, rr 5 eR_Node x24.1.Kids true, rr 1 eS ([x21] : List Str) true, rr 1 eS m40 true]⟩) rfl rfl (ev_app (en := eS) hm40 rfl rfl rfl rfl (Or.inl rfl) rfl rfl rfl rfl rfl rfl rfl rfl rfl rfl rfl (fun _ => rfl) rfl (Or.inr rfl) rfl) ?_; simp only [putT,st,ev,gt,hp,ofV,constT,intT,lm]
                refine WO_op rfl rfl rfl ?_; simp only [putT,st,ev,gt,hp,ofV,constT,intT,lm]
                refine WO_nil (W_seq (W_region ?_))
                refine WO_op rfl rfl rfl ?_; simp only [putT,st,ev,gt,hp,ofV,constT,intT,lm]
                refine WO_nil ?_
                refine W_cond rfl (fun hc => ?_) (fun hc => ?_)
                ·
                 replace H1 := tr hc H1
                 refine W_region ?_
                 refine WO_op (x := .ag [qi v15, qi v16, qs v17, .nil, .nil]) rfl rfl rfl ?_
                 refine WO_op rfl rfl rfl ?_
                 refine WO_op (x := .ag [qi x23.1.Kind, qi x23.1.N, qs x23.1.S, .row 4, .row 5]) rfl rfl rfl ?_; simp only [putT,st,ev,gt,hp,ofV,constT,intT,lm]
                 obtain ⟨x41, hx41, H1⟩ := bnd H1
                 refine WO_op (x := .ag [qi x41.Kind, qi x41.N, qs x41.S, .row 10, .row 11]) (σ' := ⟨[], [some [qi a1.Kind, qi a1.N, qs a1.S, .c (cL eS a1.Keys), .c (cL eR_Node a1.Kids)], some [qi a2.Kind, qi a2.N, qs a2.S, .c (cL eS a2.Keys), .c (cL eR_Node a2.Kids)], some [qi a3.Kind, qi a3.N, qs a3.S, .c (cL eS a3.Keys), .c (cL eR_Node a3.Kids)], some [qi 0, qi 0, qs [], .nil, .nil], some [qi v15, qi v16, qs v17, .nil, .nil], some [qi x22.1.Kind, qi x22.1.N, qs x22.1.S, .row 2, .row 3], some [qi x23.1.Kind, qi x23.1.N, qs x23.1.S, .row 4, .row 5], some [qi x24.1.Kind, qi x24.1.N, qs x24.1.S, .row 6, .row 7]], [none, rr 1 eS x13 true, rr 1 eS x22.1.Keys true, rr 5 eR_Node x22.1.Kids true, rr 1 eS x23.1.Keys false, rr 5 eR_Node x23.1.Kids false, rr 1 eS x24.1.Keys true, rr 5 eR_Node x24.1.Kids true, rr 1 eS ([x21] : List Str) true, rr 1 eS m40 true, rr 1 eS x41.Keys true, rr 5 eR_Node x41.Kids true]⟩) rfl rfl (ev_callG (al := [.ag [qi v15, qi v16, qs v17, .nil, .nil], qs x21, .ag [qi x23.1.Kind, qi x23.1.N, qs x23.1.S, .row 4, .row 5]]) (ls := []) (impl_Set_ok hx41) rfl rfl rfl rfl rfl (by decide) rfl (by rw [hn_v19, hn_v20]; rfl) rfl rfl rfl rfl) ?_; simp only [putT,st,ev,gt,hp,ofV,constT,intT,lm]
                 refine WO_op (x := .no) (σ' := ⟨[], [some [qi a1.Kind, qi a1.N, qs a1.S, .c (cL eS a1.Keys), .c (cL eR_Node a1.Kids)], some [qi a2.Kind, qi a2.N, qs a2.S, .c (cL eS a2.Keys), .c (cL eR_Node a2.Kids)], some [qi a3.Kind, qi a3.N, qs a3.S, .c (cL eS a3.Keys), .c (cL eR_Node a3.Kids)], some [qi 0, qi 0, qs [], .nil, .nil], some [qi x41.Kind, qi x41.N, qs x41.S, .row 10, .row 11], some [qi x22.1.Kind, qi x22.1.N, qs x22.1.S, .row 2, .row 3], some [qi x23.1.Kind, qi x23.1.N, qs x23.1.S, .row 4, .row 5], some [qi x24.1.Kind, qi x24.1.N, qs x24.1.S, .row 6, .row 7]], [none, rr 1 eS x13 true, rr 1 eS x22.1.Keys true, rr 5 eR_Node x22.1.Kids true, rr 1 eS x23.1.Keys false, rr 5 eR_Node x23.1.Kids false, rr 1 eS x24.1.Keys true, rr 5 eR_Node x24.1.Kids true, rr 1 eS ([x21] : List Str) true, rr 1 eS m40 true, rr 1 eS x41.Keys true, rr 5 eR_Node x41.Kids true]⟩) rfl rfl rfl ?_; simp only [putT,st,ev,gt,hp,ofV,constT,intT,lm]
                 refine WO_nil (W_region ?_)
                 iterate 2 (refine WO_op rfl rfl rfl ?_; simp only [putT,st,ev,gt,hp,ofV,constT,intT,lm])
                 refine WO_nil ?_
                 exact hW1 _ _ ((IH1 _ _ _ _ _ _ _ _ H1 rfl).2) (le_intro [0, 1, 2, 3, 4] [9, 1, 10, 11] (by decide) (by decide) rfl (by simp [leS, leT, leA, gt]) (by simp [leB, leT, leA]) (by simp [leR]))
                ·
                 replace H1 := fl hc H1
                 refine W_skip ?_
                 refine W_region ?_
                 iterate 2 (refine WO_op rfl rfl rfl ?_; simp only [putT,st,ev,gt,hp,ofV,constT,intT,lm])
                 refine WO_nil ?_
                 exact hW1 _ _ ((IH1 _ _ _ _ _ _ _ _ H1 rfl).1 hn_v19 hn_v20) (le_intro [0, 1, 2, 3, 4] [9, 1] (by decide) (by decide) rfl (by simp [leS, leT, leA, gt]) (by simp [leB, leT, leA]) (by simp [leR]))
           ·
            replace H1 := fl hc H1
            refine WO_skip rfl rfl ?_
            refine WO_op (x := qb false) rfl rfl rfl ?_
            refine WO_op rfl rfl rfl ?_; simp only [putT,st,ev,gt,hp,ofV,constT,intT,lm]
            refine WO_nil ?_
            refine W_cond (t := false) rfl (fun h => by cases h) (fun _ => ?_)
            refine W_seq (W_region ?_)
            refine WO_op (x := .ag [qi a3.Kind, qi a3.N, qs a3.S, .c (cL eS a3.Keys), .c (cL eR_Node a3.Kids)]) rfl rfl rfl ?_
            refine WO_op (x := .ag [qi a1.Kind, qi a1.N, qs a1.S, .c (cL eS a1.Keys), .c (cL eR_Node a1.Kids)]) rfl rfl rfl ?_
            refine WO_op rfl rfl rfl ?_; simp only [putT,st,ev,gt,hp,ofV,constT,intT,lm]
            obtain ⟨x42, hx42, H1⟩ := bnd H1
            refine WO_op (x := qb x42) (σ' := ⟨[], [some [qi a1.Kind, qi a1.N, qs a1.S, .c (cL eS a1.Keys), .c (cL eR_Node a1.Kids)], some [qi a2.Kind, qi a2.N, qs a2.S, .c (cL eS a2.Keys), .c (cL eR_Node a2.Kids)], some [qi a3.Kind, qi a3.N, qs a3.S, .c (cL eS a3.Keys), .c (cL eR_Node a3.Kids)], some [qi 0, qi 0, qs [], .nil, .nil], some [qi v15, qi v16, qs v17, .nil, .nil], some [qi x22.1.Kind, qi x22.1.N, qs x22.1.S, .row 2, .row 3], some [qi x23.1.Kind, qi x23.1.N, qs x23.1.S, .row 4, .row 5], some [qi x24.1.Kind, qi x24.1.N, qs x24.1.S, .row 6, .row 7]], [rr 1 eS v18 true, rr 1 eS x13 true, rr 1 eS x22.1.Keys true, rr 5 eR_Node x22.1.Kids true, rr 1 eS x23.1.Keys true, rr 5 eR_Node x23.1.Kids true, rr 1 eS x24.1.Keys true, rr 5 eR_Node x24.1.Kids true]⟩) rfl rfl (ev_callG (al := [.ag [qi a3.Kind, qi a3.N, qs a3.S, .c (cL eS a3.Keys), .c (cL eR_Node a3.Kids)], .ag [qi a1.Kind, qi a1.N, qs a1.S, .c (cL eS a1.Keys), .c (cL eR_Node a1.Kids)], qs x21]) (ls := []) (impl_alike_ok hx42) rfl rfl rfl rfl rfl (by decide) rfl rfl rfl rfl rfl rfl) ?_; simp only [putT,st,ev,gt,hp,ofV,constT,intT,lm]
            refine WO_op rfl rfl rfl ?_; simp only [putT,st,ev,gt,hp,ofV,constT,intT,lm]
            refine WO_if rfl rfl rfl (fun hc => ?_) (fun hc => ?_)
            ·
             replace H1 := tr hc H1
             simp only [putT,st,ev,gt,hp,ofV,constT,intT,lm]
             iterate 4 refine WO_skip rfl rfl ?_
             refine WO_op (x := qb true) rfl rfl rfl ?_
             refine WO_op rfl rfl rfl ?_; simp only [putT,st,ev,gt,hp,ofV,constT,intT,lm]
             refine WO_nil ?_
             refine W_cond (t := true) rfl (fun _ => ?_) (fun h => by cases h)
             refine W_skip ?_
             refine W_seq (W_region ?_)
             refine WO_op rfl rfl rfl ?_; simp only [putT,st,ev,gt,hp,ofV,constT,intT,lm]
             refine WO_nil ?_
             refine W_cond rfl (fun hc => ?_) (fun hc => ?_)
             ·
              replace H1 := tr hc H1
              refine W_region ?_
              refine WO_op (x := .ag [qi v15, qi v16, qs v17, .nil, .nil]) rfl rfl rfl ?_
              refine WO_op rfl rfl rfl ?_
              refine WO_op (x := .ag [qi x23.1.Kind, qi x23.1.N, qs x23.1.S, .row 4, .row 5]) rfl rfl rfl ?_; simp only [putT,st,ev,gt,hp,ofV,constT,intT,lm]
              obtain ⟨x43, hx43, H1⟩ := bnd H1
              refine WO_op (x := .ag [qi x43.Kind, qi x43.N, qs x43.S, .row 8, .row 9]) (σ' := ⟨[], [some [qi a1.Kind, qi a1.N, qs a1.S, .c (cL eS a1.Keys), .c (cL eR_Node a1.Kids)], some [qi a2.Kind, qi a2.N, qs a2.S, .c (cL eS a2.Keys), .c (cL eR_Node a2.Kids)], some [qi a3.Kind, qi a3.N, qs a3.S, .c (cL eS a3.Keys), .c (cL eR_Node a3.Kids)], some [qi 0, qi 0, qs [], .nil, .nil], some [qi v15, qi v16, qs v17, .nil, .nil], some [qi x22.1.Kind, qi x22.1.N, qs x22.1.S, .row 2, .row 3], some [qi x23.1.Kind, qi x23.1.N, qs x23.1.S, .row 4, .row 5], some [qi x24.1.Kind, qi x24.1.N, qs x24.1.S, .row 6, .row 7]], [rr 1 eS v18 true, rr 1 eS x13 true, rr 1 eS x22.1.Keys true, rr 5 eR_Node x22.1.Kids true, rr 1 eS x23.1.Keys false, rr 5 eR_Node x23.1.Kids false, rr 1 eS x24.1.Keys true, rr 5 eR_Node x24.1.Kids true, rr 1 eS x43.Keys true, rr 5 eR_Node x43.Kids true]⟩) rfl rfl (ev_callG (al := [.ag [qi v15, qi v16, qs v17, .nil, .nil], qs x21, .ag [qi x23.1.Kind, qi x23.1.N, qs x23.1.S, .row 4, .row 5]]) (ls := []) (impl_Set_ok hx43) rfl rfl rfl rfl rfl (by decide) rfl (by rw [hn_v19, hn_v20]; rfl) rfl rfl rfl rfl) ?_; simp only [putT,st,ev,gt,hp,ofV,constT,intT,lm]
              refine WO_op (x := .no) (σ' := ⟨[], [some [qi a1.Kind, qi a1.N, qs a1.S, .c (cL eS a1.Keys), .c (cL eR_Node a1.Kids)], some [qi a2.Kind, qi a2.N, qs a2.S, .c (cL eS a2.Keys), .c (cL eR_Node a2.Kids)], some [qi a3.Kind, qi a3.N, qs a3.S, .c (cL eS a3.Keys), .c (cL eR_Node a3.Kids)], some [qi 0, qi 0, qs [], .nil, .nil], some [qi x43.Kind, qi x43.N, qs x43.S, .row 8, .row 9], some [qi x22.1.Kind, qi x22.1.N, qs x22.1.S, .row 2, .row 3], some [qi x23.1.Kind, qi x23.1.N, qs x23.1.S, .row 4, .row 5], some [qi x24.1.Kind, qi x24.1.N, qs x24.1.S, .row 6, .row 7]], [rr 1 eS v18 true, rr 1 eS x13 true, rr 1 eS x22.1.Keys true, rr 5 eR_Node x22.1.Kids true, rr 1 eS x23.1.Keys false, rr 5 eR_Node x23.1.Kids false, rr 1 eS x24.1.Keys true, rr 5 eR_Node x24.1.Kids true, rr 1 eS x43.Keys true, rr 5 eR_Node x43.Kids true]⟩) rfl rfl rfl ?_; simp only [putT,st,ev,gt,hp,ofV,constT,intT,lm]
              refine WO_nil (W_region ?_)
              iterate 2 (refine WO_op rfl rfl rfl ?_; simp only [putT,st,ev,gt,hp,ofV,constT,intT,lm])
              refine WO_nil ?_
              exact hW1 _ _ ((IH1 _ _ _ _ _ _ _ _ H1 rfl).2) (le_intro [0, 1, 2, 3, 4] [0, 1, 8, 9] (by decide) (by decide) rfl (by simp [leS, leT, leA, gt]) (by simp [leB, leT, leA]) (by simp [leR]))
             ·
              replace H1 := fl hc H1
              refine W_skip ?_
              refine W_region ?_
              iterate 2 (refine WO_op rfl rfl rfl ?_; simp only [putT,st,ev,gt,hp,ofV,constT,intT,lm])
              refine WO_nil ?_
              exact hW1 _ _ ((IH1 _ _ _ _ _ _ _ _ H1 rfl).1 hn_v19 hn_v20) (le_intro [0, 1, 2, 3, 4] [0, 1] (by decide) (by decide) rfl (by simp [leS, leT, leA, gt]) (by simp [leB, leT, leA]) (by simp [leR]))
            ·
             replace H1 := fl hc H1
             refine WO_want (x := .ag [qi a2.Kind, qi a2.N, qs a2.S, .c (cL eS a2.Keys), .c (cL eR_Node a2.Kids)]) rfl rfl rfl ?_
             refine WO_want (x := .ag [qi a3.Kind, qi a3.N, qs a3.S, .c (cL eS a3.Keys), .c (cL eR_Node a3.Kids)]) rfl rfl rfl ?_
             refine WO_want rfl rfl rfl ?_; simp only [putT,st,ev,gt,hp,ofV,constT,intT,lm]
             obtain ⟨x44, hx44, H1⟩ := bnd H1
             refine WO_want (x := qb x44) (σ' := ⟨[], [some [qi a1.Kind, qi a1.N, qs a1.S, .c (cL eS a1.Keys), .c (cL eR_Node a1.Kids)], some [qi a2.Kind, qi a2.N, qs a2.S, .c (cL eS a2.Keys), .c (cL eR_Node a2.Kids)], some [qi a3.Kind, qi a3.N, qs a3.S, .c (cL eS a3.Keys), .c (cL eR_Node a3.Kids)], some [qi 0, qi 0, qs [], .nil, .nil], some [qi v15, qi v16, qs v17, .nil, .nil], some [qi x22.1.Kind, qi x22.1.N, qs x22.1.S, .row 2, .row 3], some [qi x23.1.Kind, qi x23.1.N, qs x23.1.S, .row 4, .row 5], some [qi x24.1.Kind, qi x24.1.N, qs x24.1.S, .row 6, .row 7]], [rr 1 eS v18 true, rr 1 eS x13 true, rr 1 eS x22.1.Keys true, rr 5 eR_Node x22.1.Kids true, rr 1 eS x23.1.Keys true, rr 5 eR_Node x23.1.Kids true, rr 1 eS x24.1.Keys true, rr 5 eR_Node x24.1.Kids true]⟩) rfl rfl (ev_callG (al := [.ag [qi a2.Kind, qi a2.N, qs a2.S, .c (cL eS a2.Keys), .c (cL eR_Node a2.Kids)], .ag [qi a3.Kind, qi a3.N, qs a3.S, .c (cL eS a3.Keys), .c (cL eR_Node a3.Kids)], qs x21]) (ls := []) (impl_alike_ok hx44) rfl rfl rfl rfl rfl (by decide) rfl rfl rfl rfl rfl rfl) ?_; simp only [putT,st,ev,gt,hp,ofV,constT,intT,lm]
             refine WO_op (x := qb x44) rfl rfl rfl ?_
             refine WO_op rfl rfl rfl ?_; simp only [putT,st,ev,gt,hp,ofV,constT,intT,lm]
             refine WO_nil ?_
             refine W_cond rfl (fun hc => ?_) (fun hc => ?_)
             ·
              replace H1 := tr hc H1
              refine W_skip ?_
              refine W_seq (W_region ?_)
              refine WO_op rfl rfl rfl ?_; simp only [putT,st,ev,gt,hp,ofV,constT,intT,lm]
              refine WO_nil ?_
              refine W_cond rfl (fun hc => ?_) (fun hc => ?_)
              ·
               replace H1 := tr hc H1
               refine W_region ?_
               refine WO_op (x := .ag [qi v15, qi v16, qs v17, .nil, .nil]) rfl rfl rfl ?_
               refine WO_op rfl rfl rfl ?_
               refine WO_op (x := .ag [qi x23.1.Kind, qi x23.1.N, qs x23.1.S, .row 4, .row 5]) rfl rfl rfl ?_; simp only [putT,st,ev,gt,hp,ofV,constT,intT,lm]
               obtain ⟨x45, hx45, H1⟩ := bnd H1
               refine WO_op (x := .ag [qi x45.Kind, qi x45.N, qs x45.S, .row 8, .row 9]) (σ' := ⟨[], [some [qi a1.Kind, qi a1.N, qs a1.S, .c (cL eS a1.Keys), .c (cL eR_Node a1.Kids)], some [qi a2.Kind, qi a2.N, qs a2.S, .c (cL eS a2.Keys), .c (cL eR_Node a2.Kids)], some [qi a3.Kind, qi a3.N, qs a3.S, .c (cL eS a3.Keys), .c (cL eR_Node a3.Kids)], some [qi 0, qi 0, qs [], .nil, .nil], some [qi v15, qi v16, qs v17, .nil, .nil], some [qi x22.1.Kind, qi x22.1.N, qs x22.1.S, .row 2, .row 3], some [qi x23.1.Kind, qi x23.1.N, qs x23.1.S, .row 4, .row 5], some [qi x24.1.Kind, qi x24.1.N, qs x24.1.S, .row 6, .row 7]], [rr 1 eS v18 true, rr 1 eS x13 true, rr 1 eS x22.1.Keys true, rr 5 eR_Node x22.1.Kids true, rr 1 eS x23.1.Keys false, rr 5 eR_Node x23.1.Kids false, rr 1 eS x24.1.Keys true, rr 5 eR_Node x24.1.Kids true, rr 1 eS x45.Keys true, rr 5 eR_Node x45.Kids true]⟩) rfl rfl (ev_callG (al := [.ag [qi v15, qi v16, qs v17, .nil, .nil], qs x21, .ag [qi x23.1.Kind, qi x23.1.N, qs x23.1.S, .row 4, .row 5]]) (ls := []) (impl_Set_ok hx45) rfl rfl rfl rfl rfl (by decide) rfl (by rw [hn_v19, hn_v20]; rfl) rfl rfl rfl rfl) ?_; simp only [putT,st,ev,gt,hp,ofV,constT,intT,lm]
               refine WO_op (x := .no) (σ' := ⟨[], [some [qi a1.Kind, qi a1.N, qs a1.S, .c (cL eS a1.Keys), .c (cL eR_Node a1.Kids)], some [qi a2.Kind, qi a2.N, qs a2.S, .c (cL eS a2.Keys), .c (cL eR_Node a2.Kids)], some [qi a3.Kind, qi a3.N, qs a3.S, .c (cL eS a3.Keys), .c (cL eR_Node a3.Kids)], some [qi 0, qi 0, qs [], .nil, .nil], some [qi x45.Kind, qi x45.N, qs x45.S, .row 8, .row 9], some [qi x22.1.Kind, qi x22.1.N, qs x22.1.S, .row 2, .row 3], some [qi x23.1.Kind, qi x23.1.N, qs x23.1.S, .row 4, .row 5], some [qi x24.1.Kind, qi x24.1.N, qs x24.1.S, .row 6, .row 7]], [rr 1 eS v18 true, rr 1 eS x13 true, rr 1 eS x22.1.Keys true, rr 5 eR_Node x22.1.Kids true, rr 1 eS x23.1.Keys false, rr 5 eR_Node x23.1.Kids false, rr 1 eS x24.1.Keys true, rr 5 eR_Node x24.1.Kids true, rr 1 eS x45.Keys true, rr 5 eR_Node x45.Kids true]⟩) rfl rfl rfl ?_; simp only [putT,st,ev,gt,hp,ofV,constT,intT,lm]
               refine WO_nil (W_region ?_)
               iterate 2 (refine WO_op rfl rfl rfl ?_; simp only [putT,st,ev,gt,hp,ofV,constT,intT,lm])
               refine WO_nil ?_
               exact hW1 _ _ ((IH1 _ _ _ _ _ _ _ _ H1 rfl).2) (le_intro [0, 1, 2, 3, 4] [0, 1, 8, 9] (by decide) (by decide) rfl (by simp [leS, leT, leA, gt]) (by simp [leB, leT, leA]) (by simp [leR]))
              ·
               replace H1 := fl hc H1
               refine W_skip ?_
               refine W_region ?_
               iterate 2 (refine WO_op rfl rfl rfl ?_; simp only [putT,st,ev,gt,hp,ofV,constT,intT,lm])
               refine WO_nil ?_
               exact hW1 _ _ ((IH1 _ _ _ _ _ _ _ _ H1 rfl).1 hn_v19 hn_v20) (le_intro [0, 1, 2, 3, 4] [0, 1] (by decide) (by decide) rfl (by simp [leS, leT, leA, gt]) (by simp [leB, leT, leA]) (by simp [leR]))
             ·
              replace H1 := fl hc H1
              refine W_seq (W_region ?_)
              refine WO_op (x := .ag [qi a2.Kind, qi a2.N, qs a2.S, .c (cL eS a2.Keys), .c (cL eR_Node a2.Kids)]) rfl rfl rfl ?_
              refine WO_op (x := .ag [qi a1.Kind, qi a1.N, qs a1.S, .c (cL eS a1.Keys), .c (cL eR_Node a1.Kids)]) rfl rfl rfl ?_
              refine WO_op rfl rfl rfl ?_; simp only [putT,st,ev,gt,hp,ofV,constT,intT,lm]
              obtain ⟨x46, hx46, H1⟩ := bnd H1
              refine WO_op (x := qb x46) (σ' := ⟨[], [some [qi a1.Kind, qi a1.N, qs a1.S, .c (cL eS a1.Keys), .c (cL eR_Node a1.Kids)], some [qi a2.Kind, qi a2.N, qs a2.S, .c (cL eS a2.Keys), .c (cL eR_Node a2.Kids)], some [qi a3.Kind, qi a3.N, qs a3.S, .c (cL eS a3.Keys), .c (cL eR_Node a3.Kids)], some [qi 0, qi 0, qs [], .nil, .nil], some [qi v15, qi v16, qs v17, .nil, .nil], some [qi x22.1.Kind, qi x22.1.N, qs x22.1.S, .row 2, .row 3], some [qi x23.1.Kind, qi x23.1.N, qs x23.1.S, .row 4, .row 5], some [qi x24.1.Kind, qi x24.1.N, qs x24.1.S, .row 6, .row 7]], [rr 1 eS v18 true, rr 1 eS x13 true, rr 1 eS x22.1.Keys true, rr 5 eR_Node x22.1.Kids true, rr 1 eS x23.1.Keys true, rr 5 eR_Node x23.1.Kids true, rr 1 eS x24.1.Keys true, rr 5 eR_Node x24.1.Kids true]⟩) rfl rfl (ev_callG (al := [.ag [qi a2.Kind, qi a2.N, qs a2.S, .c (cL eS a2.Keys), .c (cL eR_Node a2.Kids)], .ag [qi a1.Kind, qi a1.N, qs a1.S, .c (cL eS a1.Keys), .c (cL eR_Node a1.Kids)], qs x21]) (ls := []) (impl_alike_ok hx46) rfl rfl rfl rfl rfl (by decide) rfl rfl rfl rfl rfl rfl) ?_; simp only [putT,st,ev,gt,hp,ofV,constT,intT,lm]
              refine WO_op rfl rfl rfl ?_; simp only [putT,st,ev,gt,hp,ofV,constT,intT,lm]
              refine WO_nil ?_
              refine W_cond rfl (fun hc => ?_) (fun hc => ?_)
              ·
               replace H1 := tr hc H1
               refine W_region ?_
               refine WO_op (x := .ag [qi x24.1.Kind, qi x24.1.N, qs x24.1.S, .row 6, .row 7]) rfl rfl rfl ?_
               refine WO_op rfl rfl rfl ?_
               refine WO_op (x := .no) (σ' := ⟨[], [some [qi a1.Kind, qi a1.N, qs a1.S, .c (cL eS a1.Keys), .c (cL eR_Node a1.Kids)], some [qi a2.Kind, qi a2.N, qs a2.S, .c (cL eS a2.Keys), .c (cL eR_Node a2.Kids)], some [qi a3.Kind, qi a3.N, qs a3.S, .c (cL eS a3.Keys), .c (cL eR_Node a3.Kids)], some [qi 0, qi 0, qs [], .nil, .nil], some [qi v15, qi v16, qs v17, .nil, .nil], some [qi x22.1.Kind, qi x22.1.N, qs x22.1.S, .row 2, .row 3], some [qi x24.1.Kind, qi x24.1.N, qs x24.1.S, .row 6, .row 7], some [qi x24.1.Kind, qi x24.1.N, qs x24.1.S, .row 6, .row 7]], [rr 1 eS v18 true, rr 1 eS x13 true, rr 1 eS x22.1.Keys true, rr 5 eR_Node x22.1.Kids true, rr 1 eS x23.1.Keys true, rr 5 eR_Node x23.1.Kids true, rr 1 eS x24.1.Keys true, rr 5 eR_Node x24.1.Kids true]⟩) rfl rfl rfl ?_
               refine WO_op rfl rfl rfl ?_; simp only [putT,st,ev,gt,hp,ofV,constT,intT,lm]
               refine WO_nil (W_seq (W_region ?_))
               refine WO_op rfl rfl rfl ?_; simp only [putT,st,ev,gt,hp,ofV,constT,intT,lm]
               refine WO_nil ?_
               refine W_cond rfl (fun hc => ?_) (fun hc => ?_)
               ·
                replace H1 := tr hc H1
                refine W_region ?_
                refine WO_op (x := .ag [qi v15, qi v16, qs v17, .nil, .nil]) rfl rfl rfl ?_
                refine WO_op rfl rfl rfl ?_
                refine WO_op (x := .ag [qi x24.1.Kind, qi x24.1.N, qs x24.1.S, .row 6, .row 7]) rfl rfl rfl ?_; simp only [putT,st,ev,gt,hp,ofV,constT,intT,lm]
                obtain ⟨x47, hx47, H1⟩ := bnd H1
                refine WO_op (x := .ag [qi x47.Kind, qi x47.N, qs x47.S, .row 8, .row 9]) (σ' := ⟨[], [some [qi a1.Kind, qi a1.N, qs a1.S, .c (cL eS a1.Keys), .c (cL eR_Node a1.Kids)], some [qi a2.Kind, qi a2.N, qs a2.S, .c (cL eS a2.Keys), .c (cL eR_Node a2.Kids)], some [qi a3.Kind, qi a3.N, qs a3.S, .c (cL eS a3.Keys), .c (cL eR_Node a3.Kids)], some [qi 0, qi 0, qs [], .nil, .nil], some [qi v15, qi v16, qs v17, .nil, .nil], some [qi x22.1.Kind, qi x22.1.N, qs x22.1.S, .row 2, .row 3], some [qi x24.1.Kind, qi x24.1.N, qs x24.1.S, .row 6, .row 7], some [qi x24.1.Kind, qi x24.1.N, qs x24.1.S, .row 6, .row 7]], [rr 1 eS v18 true, rr 1 eS x13 true, rr 1 eS x22.1.Keys true, rr 5 eR_Node x22.1.Kids true, rr 1 eS x23.1.Keys true, rr 5 eR_Node x23.1.Kids true, rr 1 eS x24.1.Keys false, rr 5 eR_Node x24.1.Kids false, rr 1 eS x47.Keys true, rr 5 eR_Node x47.Kids true]⟩) rfl rfl (ev_callG (al := [.ag [qi v15, qi v16, qs v17, .nil, .nil], qs x21, .ag [qi x24.1.Kind, qi x24.1.N, qs x24.1.S, .row 6, .row 7]]) (ls := []) (impl_Set_ok hx47) rfl rfl rfl rfl rfl (by decide) rfl (by rw [hn_v19, hn_v20]; rfl) rfl rfl rfl rfl) ?_; simp only [putT,st,ev,gt,hp,ofV,constT,intT,lm]
                refine WO_op (x := .no) (σ' := ⟨[], [some [qi a1.Kind, qi a1.N, qs a1.S, .c (cL eS a1.Keys), .c (cL eR_Node a1.Kids)], some [qi a2.Kind, qi a2.N, qs a2.S, .c (cL eS a2.Keys), .c (cL eR_Node a2.Kids)], some [qi a3.Kind, qi a3.N, qs a3.S, .c (cL eS a3.Keys), .c (cL eR_Node a3.Kids)], some [qi 0, qi 0, qs [], .nil, .nil], some [qi x47.Kind, qi x47.N, qs x47.S, .row 8, .row 9], some [qi x22.1.Kind, qi x22.1.N, qs x22.1.S, .row 2, .row 3], some [qi x24.1.Kind, qi x24.1.N, qs x24.1.S, .row 6, .row 7], some [qi x24.1.Kind, qi x24.1.N, qs x24.1.S, .row 6, .row 7]], [rr 1 eS v18 true, rr 1 eS x13 true, rr 1 eS x22.1.Keys true, rr 5 eR_Node x22.1.Kids true, rr 1 eS x23.1.Keys true, rr 5 eR_Node x23.1.Kids true, rr 1 eS x24.1.Keys false, rr 5 eR_Node x24.1.Kids false, rr 1 eS x47.Keys true, rr 5 eR_Node x47.Kids true]⟩) rfl rfl rfl ?_; simp only [putT,st,ev,gt,hp,ofV,constT,intT,lm]
                refine WO_nil (W_region ?_)
                iterate 2 (refine WO_op rfl rfl rfl ?_; simp only [putT,st,ev,gt,hp,ofV,constT,intT,lm])
                refine WO_nil ?_
                exact hW1 _ _ ((IH1 _ _ _ _ _ _ _ _ H1 rfl).2) (le_intro [0, 1, 2, 3, 4] [0, 1, 8, 9] (by decide) (by decide) rfl (by simp [leS, leT, leA, gt]) (by simp [leB, leT, leA]) (by simp [leR]))
               ·
                replace H1 := fl hc H1
                refine W_skip ?_
                refine W_region ?_
                iterate 2 (refine WO_op rfl rfl rfl ?_; simp only [putT,st,ev,gt,hp,ofV,constT,intT,lm])
                refine WO_nil ?_
                exact hW1 _ _ ((IH1 _ _ _ _ _ _ _ _ H1 rfl).1 hn_v19 hn_v20) (le_intro [0, 1, 2, 3, 4] [0, 1] (by decide) (by decide) rfl (by simp [leS, leT, leA, gt]) (by simp [leB, leT, leA]) (by simp [leR]))
              ·
               replace H1 := fl hc H1
               refine W_region ?_
               iterate 2 (refine WO_op rfl rfl rfl ?_; simp only [putT,st,ev,gt,hp,ofV,constT,intT,lm])
               refine WO_op (x := .row 8) (σ' := ⟨[], [some [qi a1.Kind, qi a1.N, qs a1.S, .c (cL eS a1.Keys), .c (cL eR_Node a1.Kids)], some [qi a2.Kind, qi a2.N, qs a2.S, .c (cL eS a2.Keys), .c (cL eR_Node a2.Kids)], some [qi a3.Kind, qi a3.N, qs a3.S, .c (cL eS a3.Keys), .c (cL eR_Node a3.Kids)], some [qi 0, qi 0, qs [], .nil, .nil], some [qi v15, qi v16, qs v17, .nil, .nil], some [qi x22.1.Kind, qi x22.1.N, qs x22.1.S, .row 2, .row 3], some [qi x23.1.Kind, qi x23.1.N, qs x23.1.S, .row 4, .row 5], some [qi x24.1.Kind, qi x24.1.N, qs x24.1.S, .row 6, .row 7]], [rr 1 eS v18 true, rr 1 eS x13 true, rr 1 eS x22.1.Keys true, rr 5 eR_Node x22.1.Kids true, rr 1 eS x23.1.Keys true, rr 5 eR_Node x23.1.Kids true, rr 1 eS x24.1.Keys true, rr 5 eR_Node x24.1.Kids true, rr 1 eS ([x21] : List Str) true]⟩) rfl rfl (ev_bs ([x21] : List Str) eS rfl rfl rfl rfl) ?_; simp only [putT,st,ev,gt,hp,ofV,constT,intT,lm]
               obtain ⟨m48, hm48, H1⟩ := bnd H1
               refine WO_op (x := .row 9) (σ' := ⟨[], [some [qi a1.Kind, qi a1.N, qs a1.S, .c (cL eS a1.Keys), .c (cL eR_Node a1.Kids)], some [qi a2.Kind, qi a2.N, qs a2.S, .c (cL eS a2.Keys), .c (cL eR_Node a2.Kids)], some [qi a3.Kind, qi a3.N, qs a3.S, .c (cL eS a3.Keys), .c (cL eR_Node a3.Kids)], some [qi 0, qi 0, qs [], .nil, .nil], some [qi v15, qi v16, qs v17, .nil, .nil], some [qi x22.1.Kind, qi x22.1.N, qs x22.1.S, .row 2, .row 3], some [qi x23.1.Kind, qi x23.1.N, qs x23.1.S, .row 4, .row 5], some [qi x24.1.Kind, qi x24.1.N, qs x24.1.S, .row 6, .row 7]], [none, rr 1 eS x13 true, rr 1 eS x22.1.Keys true, rr 5 eR_Node x22.1.Kids true, rr 1 eS x23.1.Keys true, rr 5 eR_Node x23.1.Kids true, rr 1 eS x24.1.Keys true, rr 5 eR_Node x24.1.Kids true, rr 1 eS ([x21] : List Str) true, rr 1 eS m48 true]⟩) rfl rfl (ev_app (en := eS) hm48 rfl rfl rfl rfl (Or.inl rfl) rfl rfl rfl rfl rfl rfl rfl rfl rfl rfl rfl (fun _ => rfl) rfl (Or.inr rfl) rfl) ?_; simp only [putT,st,ev,gt,hp,ofV,constT,intT,lm]
               refine WO_op rfl rfl rfl ?_; simp only [putT,st,ev,gt,hp,ofV,constT,intT,lm]
               refine WO_nil (W_seq (W_region ?_))
               refine WO_op rfl rfl rfl ?_; simp only [putT,st,ev,gt,hp,ofV,constT,intT,lm]
               refine WO_nil ?_
               refine W_cond rfl (fun hc => ?_) (fun hc => ?_)
               ·
                replace H1 := tr hc H1
                refine W_region ?_
                refine WO_op (x := .ag [qi v15, qi v16, qs v17, .nil, .nil]) rfl rfl rfl ?_
                refine WO_op rfl rfl rfl ?_
                refine WO_op (x := .ag [qi x23.1.Kind, qi x23.1.N, qs x23.1.S, .row 4, .row 5]) rfl rfl rfl ?_; simp only [putT,st,ev,gt,hp,ofV,constT,intT,lm]
                obtain ⟨x49, hx49, H1⟩ := bnd H1
                refine WO_op (x := .ag [qi x49.Kind, qi x49.N, qs x49.S, .row 10, .row 11]) (σ' := ⟨[], [some [qi a1.Kind, qi a1.N, qs a1.S, .c (cL eS a1.Keys), .c (cL eR_Node a1.Kids)], some [qi a2.Kind, qi a2.N, qs a2.S, .c (cL eS a2.Keys), .c (cL eR_Node a2.Kids)], some [qi a3.Kind, qi a3.N, qs a3.S, .c (cL eS a3.Keys), .c (cL eR_Node a3.Kids)], some [qi 0, qi 0, qs [], .nil, .nil], some [qi v15, qi v16, qs v17, .nil, .nil], some [qi x22.1.Kind, qi x22.1.N, qs x22.1.S, .row 2, .row 3], some [qi x23.1.Kind, qi x23.1.N, qs x23.1.S, .row 4, .row 5], some [qi x24.1.Kind, qi x24.1.N, qs x24.1.S, .row 6, .row 7]], [none, rr 1 eS x13 true, rr 1 eS x22.1.Keys true, rr 5 eR_Node x22.1.Kids true, rr 1 eS x23.1.Keys false, rr 5 eR_Node x23.1.Kids false, rr 1 eS x24.1.Keys true, rr 5 eR_Node x24.1.Kids true, rr 1 eS ([x21] : List Str) true, rr 1 eS m48 true, rr 1 eS x49.Keys true, rr 5 eR_Node x49.Kids true]⟩) rfl rfl (ev_callG (al := [.ag [qi v15, qi v16, qs v17, .nil, .nil], qs x21, .ag [qi x23.1.Kind, qi x23.1.N, qs x23.1.S, .row 4, .row 5]]) (ls := []) (impl_Set_ok hx49) rfl rfl rfl rfl rfl (by decide) rfl (by rw [hn_v19, hn_v20]; rfl) rfl rfl rfl rfl) ?_; simp only [putT,st,ev,gt,hp,ofV,constT,intT,lm]
                refine WO_op (x := .no) (σ' := ⟨[], [some [qi a1.Kind, qi a1.N, qs a1.S, .c (cL eS a1.Keys), .c (cL eR_Node a1.Kids)], some [qi a2.Kind, qi a2.N, qs a2.S, .c (cL eS a2.Keys), .c (cL eR_Node a2.Kids)], some [qi a3.Kind, qi a3.N, qs a3.S, .c (cL eS a3.Keys), .c (cL eR_Node a3.Kids)], some [qi 0, qi 0, qs [], .nil, .nil], some [qi x49.Kind, qi x49.N, qs x49.S, .row 10, .row 11], some [qi x22.1.Kind, qi x22.1.N, qs x22.1.S, .row 2, .row 3], some [qi x23.1.Kind, qi x23.1.N, qs x23.1.S, .row 4, .row 5], some [qi x24.1.Kind, qi x24.1.N, qs x24.1.S, .row 6, .row 7]], [none, rr 1 eS x13 true, rr 1 eS x22.1.Keys true, rr 5 eR_Node x22.1.Kids true, rr 1 eS x23.1.Keys false, rr 5 eR_Node x23.1.Kids false, rr 1 eS x24.1.Keys true, rr 5 eR_Node x24.1.Kids true, rr 1 eS ([x21] : List Str) true, rr 1 eS m48 true, rr 1 eS x49.Keys true, rr 5 eR_Node x49.Kids true]⟩) rfl rfl rfl ?_; simp only [putT,st,ev,gt,hp,ofV,constT,intT,lm]
                refine WO_nil (W_region ?_)
                iterate 2 (refine WO_op rfl rfl rfl ?_; simp only [putT,st,ev,gt,hp,ofV,constT,intT,lm])
                refine WO_nil ?_
                exact hW1 _ _ ((IH1 _ _ _ _ _ _ _ _ H1 rfl).2) (le_intro [0, 1, 2, 3, 4] [9, 1, 10, 11] (by decide) (by decide) rfl (by simp [leS, leT, leA, gt]) (by simp [leB, leT, leA]) (by simp [leR]))
               ·
                replace H1 := fl hc H1
                refine W_skip ?_
                refine W_region ?_
                iterate 2 (refine WO_op rfl rfl rfl ?_; simp only [putT,st,ev,gt,hp,ofV,constT,intT,lm])
                refine WO_nil ?_
                exact hW1 _ _ ((IH1 _ _ _ _ _ _ _ _ H1 rfl).1 hn_v19 hn_v20) (le_intro [0, 1, 2, 3, 4] [9, 1] (by decide) (by decide) rfl (by simp [leS, leT, leA, gt]) (by simp [leB, leT, leA]) (by simp [leR]))
          ·
           replace H1 := fl hc H1
           refine WO_skip rfl rfl ?_
           refine WO_op (x := qb false) rfl rfl rfl ?_
           refine WO_op rfl rfl rfl ?_; simp only [putT,st,ev,gt,hp,ofV,constT,intT,lm]
           refine WO_skip rfl rfl ?_
           refine WO_op (x := qb false) rfl rfl rfl ?_
           refine WO_op rfl rfl rfl ?_; simp only [putT,st,ev,gt,hp,ofV,constT,intT,lm]
           refine WO_nil ?_
           refine W_cond (t := false) rfl (fun h => by cases h) (fun _ => ?_)
           refine W_seq (W_region ?_)
           refine WO_op (x := .ag [qi a3.Kind, qi a3.N, qs a3.S, .c (cL eS a3.Keys), .c (cL eR_Node a3.Kids)]) rfl rfl rfl ?_
           refine WO_op (x := .ag [qi a1.Kind, qi a1.N, qs a1.S, .c (cL eS a1.Keys), .c (cL eR_Node a1.Kids)]) rfl rfl rfl ?_
           refine WO_op rfl rfl rfl ?_; simp only [putT,st,ev,gt,hp,ofV,constT,intT,lm]
           obtain ⟨x50, hx50, H1⟩ := bnd H1
           refine WO_op (x := qb x50) (σ' := ⟨[], [some [qi a1.Kind, qi a1.N, qs a1.S, .c (cL eS a1.Keys), .c (cL eR_Node a1.Kids)], some [qi a2.Kind, qi a2.N, qs a2.S, .c (cL eS a2.Keys), .c (cL eR_Node a2.Kids)], some [qi a3.Kind, qi a3.N, qs a3.S, .c (cL eS a3.Keys), .c (cL eR_Node a3.Kids)], some [qi 0, qi 0, qs [], .nil, .nil], some [qi v15, qi v16, qs v17, .nil, .nil], some [qi x22.1.Kind, qi x22.1.N, qs x22.1.S, .row 2, .row 3], some [qi x23.1.Kind, qi x23.1.N, qs x23.1.S, .row 4, .row 5], some [qi x24.1.Kind, qi x24.1.N, qs x24.1.S, .row 6, .row 7]], [rr 1 eS v18 true, rr 1 eS x13 true, rr 1 eS x22.1.Keys true, rr 5 eR_Node x22.1.Kids true, rr 1 eS x23.1.Keys true, rr 5 eR_Node x23.1.Kids true, rr 1 eS x24.1.Keys true, rr 5 eR_Node x24.1.Kids true]⟩) rfl rfl (ev_callG (al := [.ag [qi a3.Kind, qi a3.N, qs a3.S, .c (cL eS a3.Keys), .c (cL eR_Node a3.Kids)], .ag [qi a1.Kind, qi a1.N, qs a1.S, .c (cL eS a1.Keys), .c (cL eR_Node a1.Kids)], qs x21]) (ls := []) (impl_alike_ok hx50) rfl rfl rfl rfl rfl (by decide) rfl rfl rfl rfl rfl rfl) ?_; simp only [putT,st,ev,gt,hp,ofV,constT,intT,lm]
           refine WO_op rfl rfl rfl ?_; simp only [putT,st,ev,gt,hp,ofV,constT,intT,lm]
           refine WO_if rfl rfl rfl (fun hc => ?_) (fun hc => ?_)
           ·
            replace H1 := tr hc H1
            simp only [putT,st,ev,gt,hp,ofV,constT,intT,lm]
            iterate 4 refine WO_skip rfl rfl ?_
            refine WO_op (x := qb true) rfl rfl rfl ?_
            refine WO_op rfl rfl rfl ?_; simp only [putT,st,ev,gt,hp,ofV,constT,intT,lm]
            refine WO_nil ?_
            refine W_cond (t := true) rfl (fun _ => ?_) (fun h => by cases h)
            refine W_skip ?_
            refine W_seq (W_region ?_)
            refine WO_op rfl rfl rfl ?_; simp only [putT,st,ev,gt,hp,ofV,constT,intT,lm]
            refine WO_nil ?_
            refine W_cond rfl (fun hc => ?_) (fun hc => ?_)
            ·
             replace H1 := tr hc H1
             refine W_region ?_
             refine WO_op (x := .ag [qi v15, qi v16, qs v17, .nil, .nil]) rfl rfl rfl ?_
             refine WO_op rfl rfl rfl ?_
             refine WO_op (x := .ag [qi x23.1.Kind, qi x23.1.N, qs x23.1.S, .row 4, .row 5]) rfl rfl rfl ?_; simp only [putT,st,ev,gt,hp,ofV,constT,intT,lm]
             obtain ⟨x51, hx51, H1⟩ := bnd H1
             refine WO_op (x := .ag [qi x51.Kind, qi x51.N, qs x51.S, .row 8, .row 9]) (σ' := ⟨[], [some [qi a1.Kind, qi a1.N, qs a1.S, .c (cL eS a1.Keys), .c (cL eR_Node a1.Kids)], some [qi a2.Kind, qi a2.N, qs a2.S, .c (cL eS a2.Keys), .c (cL eR_Node a2.Kids)], some [qi a3.Kind, qi a3.N, qs a3.S, .c (cL eS a3.Keys), .c (cL eR_Node a3.Kids)], some [qi 0, qi 0, qs [], .nil, .nil], some [qi v15, qi v16, qs v17, .nil, .nil], some [qi x22.1.Kind, qi x22.1.N, qs x22.1.S, .row 2, .row 3], some [qi x23.1.Kind, qi x23.1.N, qs x23.1.S, .row 4, .row 5], some [qi x24.1.Kind, qi x24.1.N, qs x24.1.S, .row 6, .row 7]], [rr 1 eS v18 true, rr 1 eS x13 true, rr 1 eS x22.1.Keys true, rr 5 eR_Node x22.1.Kids true, rr 1 eS x23.1.Keys false, rr 5 eR_Node x23.1.Kids false, rr 1 eS x24.1.Keys true, rr 5 eR_Node x24.1.Kids true, rr 1 eS x51.Keys true, rr 5 eR_Node x51.Kids true]⟩) rfl rfl (ev_callG (al := [.ag [qi v15, qi v16, qs v17, .nil, .nil], qs x21, .ag [qi x23.1.Kind, qi x23.1.N, qs x23.1.S, .row 4, .row 5]]) (ls := []) (impl_Set_ok hx51) rfl rfl rfl rfl rfl (by decide) rfl (by rw [hn_v19, hn_v20]; rfl) rfl rfl rfl rfl) ?_; simp only [putT,st,ev,gt,hp,ofV,constT,intT,lm]
             refine WO_op (x := .no) (σ' := ⟨[], [some [qi a1.Kind, qi a1.N, qs a1.S, .c (cL eS a1.Keys), .c (cL eR_Node a1.Kids)], some [qi a2.Kind, qi a2.N, qs a2.S, .c (cL eS a2.Keys), .c (cL eR_Node a2.Kids)], some [qi a3.Kind, qi a3.N, qs a3.S, .c (cL eS a3.Keys), .c (cL eR_Node a3.Kids)], some [qi 0, qi 0, qs [], .nil, .nil], some [qi x51.Kind, qi x51.N, qs x51.S, .row 8, .row 9], some [qi x22.1.Kind, qi x22.1.N, qs x22.1.S, .row 2, .row 3], some [qi x23.1.Kind, qi x23.1.N, qs x23.1.S, .row 4, .row 5], some [qi x24.1.Kind, qi x24.1.N, qs x24.1.S, .row 6, .row 7]], [rr 1 eS v18 true, rr 1 eS x13 true, rr 1 eS x22.1.Keys true, rr 5 eR_Node x22.1.Kids true, rr 1 eS x23.1.Keys false, rr 5 eR_Node x23.1.Kids false, rr 1 eS x24.1.Keys true, rr 5 eR_Node x24.1.Kids true, rr 1 eS x51.Keys true, rr 5 eR_Node x51.Kids true]⟩) rfl rfl rfl ?_; simp only [putT,st,ev,gt,hp,ofV,constT,intT,lm]
             refine WO_nil (W_region ?_)
             iterate 2 (refine WO_op rfl rfl rfl ?_; simp only [putT,st,ev,gt,hp,ofV,constT,intT,lm])
             refine WO_nil ?_
             exact hW1 _ _ ((IH1 _ _ _ _ _ _ _ _ H1 rfl).2) (le_intro [0, 1, 2, 3, 4] [0, 1, 8, 9] (by decide) (by decide) rfl (by simp [leS, leT, leA, gt]) (by simp [leB, leT, leA]) (by simp [leR]))
            ·
             replace H1 := fl hc H1
             refine W_skip ?_
             refine W_region ?_
             iterate 2 (refine WO_op rfl rfl rfl ?_; simp only [putT,st,ev,gt,hp,ofV,constT,intT,lm])
             refine WO_nil ?_
             exact hW1 _ _ ((IH1 _ _ _ _ _ _ _ _ H1 rfl).1 hn_v19 hn_v20) (le_intro [0, 1, 2, 3, 4] [0, 1] (by decide) (by decide) rfl (by simp [leS, leT, leA, gt]) (by simp [leB, leT, leA]) (by simp [leR]))
           ·
            replace H1 := fl hc H1
            refine WO_want (x := .ag [qi a2.Kind, qi a2.N, qs a2.S, .c (cL eS a2.Keys), .c (cL eR_Node a2.Kids)]) rfl rfl rfl ?_
            refine WO_want (x := .ag [qi a3.Kind, qi a3.N, qs a3.S, .c (cL eS a3.Keys), .c (cL eR_Node a3.Kids)]) rfl rfl rfl ?_
            refine WO_want rfl rfl rfl ?_; simp only [putT,st,ev,gt,hp,ofV,constT,intT,lm]
            obtain ⟨x52, hx52, H1⟩ := bnd H1
            refine WO_want (x := qb x52) (σ' := ⟨[], [some [qi a1.Kind, qi a1.N, qs a1.S, .c (cL eS a1.Keys), .c (cL eR_Node a1.Kids)], some [qi a2.Kind, qi a2.N, qs a2.S, .c (cL eS a2.Keys), .c (cL eR_Node a2.Kids)], some [qi a3.Kind, qi a3.N, qs a3.S, .c (cL eS a3.Keys), .c (cL eR_Node a3.Kids)], some [qi 0, qi 0, qs [], .nil, .nil], some [qi v15, qi v16, qs v17, .nil, .nil], some [qi x22.1.Kind, qi x22.1.N, qs x22.1.S, .row 2, .row 3], some [qi x23.1.Kind, qi x23.1.N, qs x23.1.S, .row 4, .row 5], some [qi x24.1.Kind, qi x24.1.N, qs x24.1.S, .row 6, .row 7]], [rr 1 eS v18 true, rr 1 eS x13 true, rr 1 eS x22.1.Keys true, rr 5 eR_Node x22.1.Kids true, rr 1 eS x23.1.Keys true, rr 5 eR_Node x23.1.Kids true, rr 1 eS x24.1.Keys true, rr 5 eR_Node x24.1.Kids true]⟩) rfl rfl (ev_callG (al := [.ag [qi a2.Kind, qi a2.N, qs a2.S, .c (cL eS a2.Keys), .c (cL eR_Node a2.Kids)], .ag [qi a3.Kind, qi a3.N, qs a3.S, .c (cL eS a3.Keys), .c (cL eR_Node a3.Kids)], qs x21]) (ls := []) (impl_alike_ok hx52) rfl rfl rfl rfl rfl (by decide) rfl rfl rfl rfl rfl rfl) ?_; simp only [putT,st,ev,gt,hp,ofV,constT,intT,lm]
            refine WO_op (x := qb x52) rfl rfl rfl ?_
            refine WO_op rfl rfl rfl ?_; simp only [putT,st,ev,gt,hp,ofV,constT,intT,lm]
            refine WO_nil ?_
            refine W_cond rfl (fun hc => ?_) (fun hc => ?_)
            ·
             replace H1 := tr hc H1
             refine W_skip ?_
             refine W_seq (W_region ?_)
             refine WO_op rfl rfl rfl ?_; simp only [putT,st,ev,gt,hp,ofV,constT,intT,lm]
             refine WO_nil ?_
             refine W_cond rfl (fun hc => ?_) (fun hc => ?_)
             ·
              replace H1 := tr hc H1
              refine W_region ?_
              refine WO_op (x := .ag [qi v15, qi v16, qs v17, .nil, .nil]) rfl rfl rfl ?_
              refine WO_op rfl rfl rfl ?_
              refine WO_op (x := .ag [qi x23.1.Kind, qi x23.1.N, qs x23.1.S, .row 4, .row 5]) rfl rfl rfl ?_; simp only [putT,st,ev,gt,hp,ofV,constT,intT,lm]
              obtain ⟨x53, hx53, H1⟩ := bnd H1
              refine WO_op (x := .ag [qi x53.Kind, qi x53.N, qs x53.S, .row 8, .row 9]) (σ' := ⟨[], [some [qi a1.Kind, qi a1.N, qs a1.S, .c (cL eS a1.Keys), .c (cL eR_Node a1.Kids)], some [qi a2.Kind, qi a2.N, qs a2.S, .c (cL eS a2.Keys), .c (cL eR_Node a2.Kids)], some [qi a3.Kind, qi a3.N, qs a3.S, .c (cL eS a3.Keys), .c (cL eR_Node a3.Kids)], some [qi 0, qi 0, qs [], .nil, .nil], some [qi v15, qi v16, qs v17, .nil, .nil], some [qi x22.1.Kind, qi x22.1.N, qs x22.1.S, .row 2, .row 3], some [qi x23.1.Kind, qi x23.1.N, qs x23.1.S, .row 4, .row 5], some [qi x24.1.Kind, qi x24.1.N, qs x24.1.S, .row 6, .row 7]], [rr 1 eS v18 true, rr 1 eS x13 true, rr 1 eS x22.1.Keys true, rr 5 eR_Node x22.1.Kids true, rr 1 eS x23.1.Keys false, rr 5 eR_Node x23.1.Kids false, rr 1 eS x24.1.Keys true, rr 5 eR_Node x24.1.Kids true, rr 1 eS x53.Keys true, rr 5 eR_Node x53.Kids true]⟩) rfl rfl (ev_callG (al := [.ag [qi v15, qi v16, qs v17, .nil, .nil], qs x21, .ag [qi x23.1.Kind, qi x23.1.N, qs x23.1.S, .row 4, .row 5]]) (ls := []) (impl_Set_ok hx53) rfl rfl rfl rfl rfl (by decide) rfl (by rw [hn_v19, hn_v20]; rfl) rfl rfl rfl rfl) ?_; simp only [putT,st,ev,gt,hp,ofV,constT,intT,lm]
              refine WO_op (x := .no) (σ' := ⟨[], [some [qi a1.Kind, qi a1.N, qs a1.S, .c (cL eS a1.Keys), .c (cL eR_Node a1.Kids)], some [qi a2.Kind, qi a2.N, qs a2.S, .c (cL eS a2.Keys), .c (cL eR_Node a2.Kids)], some [qi a3.Kind, qi a3.N, qs a3.S, .c (cL eS a3.Keys), .c (cL eR_Node a3.Kids)], some [qi 0, qi 0, qs [], .nil, .nil], some [qi x53.Kind, qi x53.N, qs x53.S, .row 8, .row 9], some [qi x22.1.Kind, qi x22.1.N, qs x22.1.S, .row 2, .row 3], some [qi x23.1.Kind, qi x23.1.N, qs x23.1.S, .row 4, .row 5], some [qi x24.1.Kind, qi x24.1.N, qs x24.1.S, .row 6, .row 7]], [rr 1 eS v18 true, rr 1 eS x13 true, rr 1 eS x22.1.Keys true, rr 5 eR_Node x22.1.Kids true, rr 1 eS x23.1.Keys false, rr 5 eR_Node x23.1.Kids false, rr 1 eS x24.1.Keys true, rr 5 eR_Node x24.1.Kids true, rr 1 eS x53.Keys true, rr 5 eR_Node x53.Kids true]⟩) rfl rfl rfl ?_; simp only [putT,st,ev,gt,hp,ofV,constT,intT,lm]
              refine WO_nil (W_region ?_)
              iterate 2 (refine WO_op rfl rfl rfl ?_; simp only [putT,st,ev,gt,hp,ofV,constT,intT,lm])
              refine WO_nil ?_
              exact hW1 _ _ ((IH1 _ _ _ _ _ _ _ _ H1 rfl).2) (le_intro [0, 1, 2, 3, 4] [0, 1, 8, 9] (by decide) (by decide) rfl (by simp [leS, leT, leA, gt]) (by simp [leB, leT, leA]) (by simp [leR]))
             ·
              replace H1 := fl hc H1
              refine W_skip ?_
              refine W_region ?_
              iterate 2 (refine WO_op rfl rfl rfl ?_; simp only [putT,st,ev,gt,hp,ofV,constT,intT,lm])
              refine WO_nil ?_
              exact hW1 _ _ ((IH1 _ _ _ _ _ _ _ _ H1 rfl).1 hn_v19 hn_v20) (le_intro [0, 1, 2, 3, 4] [0, 1] (by decide) (by decide) rfl (by simp [leS, leT, leA, gt]) (by simp [leB, leT, leA]) (by simp [leR]))
            ·
             replace H1 := fl hc H1
             refine W_seq (W_region ?_)
             refine WO_op (x := .ag [qi a2.Kind, qi a2.N, qs a2.S, .c (cL eS a2.Keys), .c (cL eR_Node a2.Kids)]) rfl rfl rfl ?_
             refine WO_op (x := .ag [qi a1.Kind, qi a1.N, qs a1.S, .c (cL eS a1.Keys), .c (cL eR_Node a1.Kids)]) rfl rfl rfl ?_
             refine WO_op rfl rfl rfl ?_; simp only [putT,st,ev,gt,hp,ofV,constT,intT,lm]
             obtain ⟨x54, hx54, H1⟩ := bnd H1
             refine WO_op (x := qb x54) (σ' := ⟨[], [some [qi a1.Kind, qi a1.N, qs a1.S, .c (cL eS a1.Keys), .c (cL eR_Node a1.Kids)], some [qi a2.Kind, qi a2.N, qs a2.S, .c (cL eS a2.Keys), .c (cL eR_Node a2.Kids)], some [qi a3.Kind, qi a3.N, qs a3.S, .c (cL eS a3.Keys), .c (cL eR_Node a3.Kids)], some [qi 0, qi 0, qs [], .nil, .nil], some [qi v15, qi v16, qs v17, .nil, .nil], some [qi x22.1.Kind, qi x22.1.N, qs x22.1.S, .row 2, .row 3], some [qi x23.1.Kind, qi x23.1.N, qs x23.1.S, .row 4, .row 5], some [qi x24.1.Kind, qi x24.1.N, qs x24.1.S, .row 6, .row 7]], [rr 1 eS v18 true, rr 1 eS x13 true, rr 1 eS x22.1.Keys true, rr 5 eR_Node x22.1.Kids true, rr 1 eS x23.1.Keys true, rr 5 eR_Node x23.1.Kids true, rr 1 eS x24.1.Keys true, rr 5 eR_Node x24.1.Kids true]⟩) rfl rfl (ev_callG (al := [.ag [qi a2.Kind, qi a2.N, qs a2.S, .c (cL eS a2.Keys), .c (cL eR_Node a2.Kids)], .ag [qi a1.Kind, qi a1.N, qs a1.S, .c (cL eS a1.Keys), .c (cL eR_Node a1.Kids)], qs x21]) (ls := []) (impl_alike_ok hx54) rfl rfl rfl rfl rfl (by decide) rfl rfl rfl rfl rfl rfl) ?_; simp only [putT,st,ev,gt,hp,ofV,constT,intT,lm]
             refine WO_op rfl rfl rfl ?_; simp only [putT,st,ev,gt,hp,ofV,constT,intT,lm]
             refine WO_nil ?_
             refine W_cond rfl (fun hc => ?_) (fun hc => ?_)
             ·
              replace H1 := tr hc H1
              refine W_region ?_
              refine WO_op (x := .ag [qi x24.1.Kind, qi x24.1.N, qs x24.1.S, .row 6, .row 7]) rfl rfl rfl ?_
              refine WO_op rfl rfl rfl ?_
              refine WO_op (x := .no) (σ' := ⟨[], [some [qi a1.Kind, qi a1.N, qs a1.S, .c (cL eS a1.Keys), .c (cL eR_Node a1.Kids)], some [qi a2.Kind, qi a2.N, qs a2.S, .c (cL eS a2.Keys), .c (cL eR_Node a2.Kids)], some [qi a3.Kind, qi a3.N, qs a3.S, .c (cL eS a3.Keys), .c (cL eR_Node a3.Kids)], some [qi 0, qi 0, qs [], .nil, .nil], some [qi v15, qi v16, qs v17, .nil, .nil], some [qi x22.1.Kind, qi x22.1.N, qs x22.1.S, .row 2, .row 3], some [qi x24.1.Kind, qi x24.1.N, qs x24.1.S, .row 6, .row 7], some [qi x24.1.Kind, qi x24.1.N, qs x24.1.S, .row 6, .row 7]], [rr 1 eS v18 true, rr 1 eS x13 true, rr 1 eS x22.1.Keys true, rr 5 eR_Node x22.1.Kids true, rr 1 eS x23.1.Keys true, rr 5 eR_Node x23.1.Kids true, rr 1 eS x24.1.Keys true, rr 5 eR_Node x24.1.Kids true]⟩) rfl rfl rfl ?_
              refine WO_op rfl rfl rfl ?_; simp only [putT,st,ev,gt,hp,ofV,constT,intT,lm]
              refine WO_nil (W_seq (W_region ?_))
              refine WO_op rfl rfl rfl ?_; simp only [putT,st,ev,gt,hp,ofV,constT,intT,lm]
              refine WO_nil ?_
              refine W_cond rfl (fun hc => ?_) (fun hc => ?_)
              ·
               replace H1 := tr hc H1
               refine W_region ?_
               refine WO_op (x := .ag [qi v15, qi v16, qs v17, .nil, .nil]) rfl rfl rfl ?_
               refine WO_op rfl rfl rfl ?_
               refine WO_op (x := .ag [qi x24.1.Kind, qi x24.1.N, qs x24.1.S, .row 6, .row 7]) rfl rfl rfl ?_; simp only [putT,st,ev,gt,hp,ofV,constT,intT,lm]
               obtain ⟨x55, hx55, H1⟩ := bnd H1
               refine WO_op (x := .ag [qi x55.Kind, qi x55.N, qs x55.S, .row 8, .row 9]) (σ' := ⟨[], [some [qi a1.Kind, qi a1.N, qs a1.S, .c (cL eS a1.Keys), .c (cL eR_Node a1.Kids)], some [qi a2.Kind, qi a2.N, qs a2.S, .c (cL eS a2.Keys), .c (cL eR_Node a2.Kids)], some [qi a3.Kind, qi a3.N, qs a3.S, .c (cL eS a3.Keys), .c (cL eR_Node a3.Kids)], some [qi 0, qi 0, qs [], .nil, .nil], some [qi v15, qi v16, qs v17, .nil, .nil], some [qi x22.1.Kind, qi x22.1.N, qs x22.1.S, .row 2, .row 3], some [qi x24.1.Kind, qi x24.1.N, qs x24.1.S, .row 6, .row 7], some [qi x24.1.Kind, qi x24.1.N, qs x24.1.S, .row 6, .row 7]], [rr 1 eS v18 true, rr 1 eS x13 true, rr 1 eS x22.1.Keys true, rr 5 eR_Node x22.1.Kids true, rr 1 eS x23.1.Keys true, rr 5 eR_Node x23.1.Kids true, rr 1 eS x24.1.Keys false, rr 5 eR_Node x24.1.Kids false, rr 1 eS x55.Keys true, rr 5 eR_Node x55.Kids true]⟩) rfl rfl (ev_callG (al := [.ag [qi v15, qi v16, qs v17, .nil, .nil], qs x21, .ag [qi x24.1.Kind, qi x24.1.N, qs x24.1.S, .row 6, .row 7]]) (ls := []) (impl_Set_ok hx55) rfl rfl rfl rfl rfl (by decide) rfl (by rw [hn_v19, hn_v20]; rfl) rfl rfl rfl rfl) ?_; simp only [putT,st,ev,gt,hp,ofV,constT,intT,lm]
               refine WO_op (x := .no) (σ' := ⟨[], [some [qi a1.Kind, qi a1.N, qs a1.S, .c (cL eS a1.Keys), .c (cL eR_Node a1.Kids)], some [qi a2.Kind, qi a2.N, qs a2.S, .c (cL eS a2.Keys), .c (cL eR_Node a2.Kids)], some [qi a3.Kind, qi a3.N, qs a3.S, .c (cL eS a3.Keys), .c (cL eR_Node a3.Kids)], some [qi 0, qi 0, qs [], .nil, .nil], some [qi x55.Kind, qi x55.N, qs x55.S, .row 8, .row 9], some [qi x22.1.Kind, qi x22.1.N, qs x22.1.S, .row 2, .row 3], some [qi x24.1.Kind, qi x24.1.N, qs x24.1.S, .row 6, .row 7], some [qi x24.1.Kind, qi x24.1.N, qs x24.1.S, .row 6, .row 7]], [rr 1 eS v18 true, rr 1 eS x13 true, rr 1 eS x22.1.Keys true, rr 5 eR_Node x22.1.Kids true, rr 1 eS x23.1.Keys true, rr 5 eR_Node x23.1.Kids true, rr 1 eS x24.1.Keys false, rr 5 eR_Node x24.1.Kids false, rr 1 eS x55.Keys true, rr 5 eR_Node x55.Kids true]⟩) rfl rfl rfl ?_; simp only [putT,st,ev,gt,hp,ofV,constT,intT,lm]
               refine WO_nil (W_region ?_)
               iterate 2 (refine WO_op rfl rfl rfl ?_; simp only [putT,st,ev,gt,hp,ofV,constT,intT,lm])
               refine WO_nil ?_
               exact hW1 _ _ ((IH1 _ _ _ _ _ _ _ _ H1 rfl).2) (le_intro [0, 1, 2, 3, 4] [0, 1, 8, 9] (by decide) (by decide) rfl (by simp [leS, leT, leA, gt]) (by simp [leB, leT, leA]) (by simp [leR]))
              ·
               replace H1 := fl hc H1
               refine W_skip ?_
               refine W_region ?_
               iterate 2 (refine WO_op rfl rfl rfl ?_; simp only [putT,st,ev,gt,hp,ofV,constT,intT,lm])
               refine WO_nil ?_
               exact hW1 _ _ ((IH1 _ _ _ _ _ _ _ _ H1 rfl).1 hn_v19 hn_v20) (le_intro [0, 1, 2, 3, 4] [0, 1] (by decide) (by decide) rfl (by simp [leS, leT, leA, gt]) (by simp [leB, leT, leA]) (by simp [leR]))
             ·
              replace H1 := fl hc H1
              refine W_region ?_
              iterate 2 (refine WO_op rfl rfl rfl ?_; simp only [putT,st,ev,gt,hp,ofV,constT,intT,lm])
              refine WO_op (x := .row 8) (σ' := ⟨[], [some [qi a1.Kind, qi a1.N, qs a1.S, .c (cL eS a1.Keys), .c (cL eR_Node a1.Kids)], some [qi a2.Kind, qi a2.N, qs a2.S, .c (cL eS a2.Keys), .c (cL eR_Node a2.Kids)], some [qi a3.Kind, qi a3.N, qs a3.S, .c (cL eS a3.Keys), .c (cL eR_Node a3.Kids)], some [qi 0, qi 0, qs [], .nil, .nil], some [qi v15, qi v16, qs v17, .nil, .nil], some [qi x22.1.Kind, qi x22.1.N, qs x22.1.S, .row 2, .row 3], some [qi x23.1.Kind, qi x23.1.N, qs x23.1.S, .row 4, .row 5], some [qi x24.1.Kind, qi x24.1.N, qs x24.1.S, .row 6, .row 7]], [rr 1 eS v18 true, rr 1 eS x13 true, rr 1 eS x22.1.Keys true, rr 5 eR_Node x22.1.Kids true, rr 1 eS x23.1.Keys true, rr 5 eR_Node x23.1.Kids true, rr 1 eS x24.1.Keys true, rr 5 eR_Node x24.1.Kids true, rr 1 eS ([x21] : List Str) true]⟩) rfl rfl (ev_bs ([x21] : List Str) eS rfl rfl rfl rfl) ?_; simp only [putT,st,ev,gt,hp,ofV,constT,intT,lm]
              obtain ⟨m56, hm56, H1⟩ := bnd H1
              refine WO_op (x := .row 9) (σ' := ⟨[], [some [qi a1.Kind, qi a1.N, qs a1.S, .c (cL eS a1.Keys), .c (cL eR_Node a1.Kids)], some [qi a2.Kind, qi a2.N, qs a2.S, .c (cL eS a2.Keys), .c (cL eR_Node a2.Kids)], some [qi a3.Kind, qi a3.N, qs a3.S, .c (cL eS a3.Keys), .c (cL eR_Node a3.Kids)], some [qi 0, qi 0, qs [], .nil, .nil], some [qi v15, qi v16, qs v17, .nil, .nil], some [qi x22.1.Kind, qi x22.1.N, qs x22.1.S, .row 2, .row 3], some [qi x23.1.Kind, qi x23.1.N, qs x23.1.S, .row 4, .row 5], some [qi x24.1.Kind, qi x24.1.N, qs x24.1.S, .row 6, .row 7]], [none, rr 1 eS x13 true, rr 1 eS x22.1.Keys true, rr 5 eR_Node x22.1.Kids true, rr 1 eS x23.1.Keys true, rr 5 eR_Node x23.1.Kids true, rr 1 eS x24.1.Keys true, rr 5 eR_Node x24.1.Kids true, rr 1 eS ([x21] : List Str) true, rr 1 eS m56 true]⟩) rfl rfl (ev_app (en := eS) hm56 rfl rfl rfl rfl (Or.inl rfl) rfl rfl rfl rfl rfl rfl rfl rfl rfl rfl rfl (fun _ => rfl) rfl (Or.inr rfl) rfl) ?_; simp only [putT,st,ev,gt,hp,ofV,constT,intT,lm]
              refine WO_op rfl rfl rfl ?_; simp only [putT,st,ev,gt,hp,ofV,constT,intT,lm]
              refine WO_nil (W_seq (W_region ?_))
              refine WO_op rfl rfl rfl ?_; simp only [putT,st,ev,gt,hp,ofV,constT,intT,lm]
              refine WO_nil ?_
              refine W_cond rfl (fun hc => ?_) (fun hc => ?_)
              ·
               replace H1 := tr hc H1
               refine W_region ?_
               refine WO_op (x := .ag [qi v15, qi v16, qs v17, .nil, .nil]) rfl rfl rfl ?_
               refine WO_op rfl rfl rfl ?_
               refine WO_op (x := .ag [qi x23.1.Kind, qi x23.1.N, qs x23.1.S, .row 4, .row 5]) rfl rfl rfl ?_; simp only [putT,st,ev,gt,hp,ofV,constT,intT,lm]
               obtain ⟨x57, hx57, H1⟩ := bnd H1
               refine WO_op (x := .ag [qi x57.Kind, qi x57.N, qs x57.S, .row 10, .row 11]) (σ' := ⟨[], [some [qi a1.Kind, qi a1.N, qs a1.S, .c (cL eS a1.Keys), .c (cL eR_Node a1.Kids)], some [qi a2.Kind, qi a2.N, qs a2.S, .c (cL eS a2.Keys), .c (cL eR_Node a2.Kids)], some [qi a3.Kind, qi a3.N, qs a3.S, .c (cL eS a3.Keys), .c (cL eR_Node a3.Kids)], some [qi 0, qi 0, qs [], .nil, .nil], some [qi v15, qi v16, qs v17, .nil, .nil], some [qi x22.1.Kind, qi x22.1.N, qs x22.1.S, .row 2, .row 3], some [qi x23.1.Kind, qi x23.1.N, qs x23.1.S, .row 4, .row 5], some [qi x24.1.Kind, qi x24.1.N, qs x24.1.S, .row 6, .row 7]], [none, rr 1 eS x13 true, rr 1 eS x22.1.Keys true, rr 5 eR_Node x22.1.Kids true, rr 1 eS x23.1.Keys false, rr 5 eR_Node x23.1.Kids false, rr 1 eS x24.1.Keys true, rr 5 eR_Node x24.1.Kids true, rr 1 eS ([x21] : List Str) true, rr 1 eS m56 true, rr 1 eS x57.Keys true, rr 5 eR_Node x57.Kids true]⟩) rfl rfl (ev_callG (al := [.ag [qi v15, qi v16, qs v17, .nil, .nil], qs x21, .ag [qi x23.1.Kind, qi x23.1.N, qs x23.1.S, .row 4, .row 5]]) (ls := []) (impl_Set_ok hx57) rfl rfl rfl rfl rfl (by decide) rfl (by rw [hn_v19, hn_v20]; rfl) rfl rfl rfl rfl) ?_; simp only [putT,st,ev,gt,hp,ofV,constT,intT,lm]
               refine WO_op (x := .no) (σ' := ⟨[], [some [qi a1.Kind, qi a1.N, qs a1.S, .c (cL eS a1.Keys), .c (cL eR_Node a1.Kids)], some [qi a2.Kind, qi a2.N, qs a2.S, .c (cL eS a2.Keys), .c (cL eR_Node a2.Kids)], some [qi a3.Kind, qi a3.N, qs a3.S, .c (cL eS a3.Keys), .c (cL eR_Node a3.Kids)], some [qi 0, qi 0, qs [], .nil, .nil], some [qi x57.Kind, qi x57.N, qs x57.S, .row 10, .row 11], some [qi x22.1.Kind, qi x22.1.N, qs x22.1.S, .row 2, .row 3], some [qi x23.1.Kind, qi x23.1.N, qs x23.1.S, .row 4, .row 5], some [qi x24.1.Kind, qi x24.1.N, qs x24.1.S, .row 6, .row 7]], [none, rr 1 eS x13 true, rr 1 eS x22.1.Keys true, rr 5 eR_Node x22.1.Kids true, rr 1 eS x23.1.Keys false, rr 5 eR_Node x23.1.Kids false, rr 1 eS x24.1.Keys true, rr 5 eR_Node x24.1.Kids true, rr 1 eS ([x21] : List Str) true, rr 1 eS m56 true, rr 1 eS x57.Keys true, rr 5 eR_Node x57.Kids true]⟩) rfl rfl rfl ?_; simp only [putT,st,ev,gt,hp,ofV,constT,intT,lm]
               refine WO_nil (W_region ?_)
               iterate 2 (refine WO_op rfl rfl rfl ?_; simp only [putT,st,ev,gt,hp,ofV,constT,intT,lm])
               refine WO_nil ?_
               exact hW1 _ _ ((IH1 _ _ _ _ _ _ _ _ H1 rfl).2) (le_intro [0, 1, 2, 3, 4] [9, 1, 10, 11] (by decide) (by decide) rfl (by simp [leS, leT, leA, gt]) (by simp [leB, leT, leA]) (by simp [leR]))
              ·
               replace H1 := fl hc H1
               refine W_skip ?_
               refine W_region ?_
               iterate 2 (refine WO_op rfl rfl rfl ?_; simp only [putT,st,ev,gt,hp,ofV,constT,intT,lm])
               refine WO_nil ?_
               exact hW1 _ _ ((IH1 _ _ _ _ _ _ _ _ H1 rfl).1 hn_v19 hn_v20) (le_intro [0, 1, 2, 3, 4] [9, 1] (by decide) (by decide) rfl (by simp [leS, leT, leA, gt]) (by simp [leB, leT, leA]) (by simp [leR]))
         ·
          replace H1 := fl hc H1
          refine W_exit ?_
          obtain rfl := Option.some.inj H1
          exact hX1 0 (v15, v16, v17, v19, v20, v18) _ ⟨rfl, hn_v19, hn_v20⟩ (le_intro [3, 4] [0] (by decide) (by decide) rfl (by simp [leS, leT, leA, gt]) (by simp [leB, leT, leA]) (by simp [leR]))
        ·
         skip
         refine hV1 _ ?_
         refine W_seq (W_region ?_)
         refine WO_op rfl rfl rfl ?_; simp only [putT,st,ev,gt,hp,ofV,constT,intT,lm]
         refine WO_nil (W_seq ?_)
         refine W_cond rfl (fun hc => ?_) (fun hc => ?_)
         ·
          replace H1 := tr hc H1
          refine W_skip ?_
          refine W_seq ?_
          refine W_block ?_
          refine W_seq (W_region ?_)
          obtain ⟨x21, hx21, H1⟩ := bnd H1
          refine WO_op rfl rfl (ev_ixR (en := eS) hx21 rfl rfl rfl rfl rfl rfl rfl) ?_; simp only [putT,st,ev,gt,hp,ofV,constT,intT,lm]
          refine WO_op (x := qs x21) rfl rfl (ev_ldR (en := eS) hx21 rfl rfl rfl rfl) ?_; simp only [putT,st,ev,gt,hp,ofV,constT,intT,lm]
          refine WO_op rfl rfl rfl ?_; simp only [putT,st,ev,gt,hp,ofV,constT,intT,lm]
          refine WO_nil (W_seq (W_region ?_))
          refine WO_op (x := .ag [qi a1.Kind, qi a1.N, qs a1.S, .c (cL eS a1.Keys), .c (cL eR_Node a1.Kids)]) rfl rfl rfl ?_
          refine WO_op rfl rfl rfl ?_; simp only [putT,st,ev,gt,hp,ofV,constT,intT,lm]
          obtain ⟨x22, hx22, H1⟩ := bnd H1
          refine WO_op (x := .tu [.ag [qi x22.1.Kind, qi x22.1.N, qs x22.1.S, .row 4, .row 5], qb x22.2]) (σ' := ⟨[], [some [qi a1.Kind, qi a1.N, qs a1.S, .c (cL eS a1.Keys), .c (cL eR_Node a1.Kids)], some [qi a2.Kind, qi a2.N, qs a2.S, .c (cL eS a2.Keys), .c (cL eR_Node a2.Kids)], some [qi a3.Kind, qi a3.N, qs a3.S, .c (cL eS a3.Keys), .c (cL eR_Node a3.Kids)], some [qi 0, qi 0, qs [], .nil, .nil], some [qi v15, qi v16, qs v17, .row 2, .row 3]], [rr 1 eS v18 true, rr 1 eS x13 true, rr 1 eS v19 true, rr 5 eR_Node v20 true, rr 1 eS x22.1.Keys true, rr 5 eR_Node x22.1.Kids true]⟩) rfl rfl (ev_callG (al := [.ag [qi a1.Kind, qi a1.N, qs a1.S, .c (cL eS a1.Keys), .c (cL eR_Node a1.Kids)], qs x21]) (ls := []) (impl_Get_ok hx22) rfl rfl rfl rfl rfl (by decide) rfl rfl rfl rfl rfl rfl) ?_; simp only [putT,st,ev,gt,hp,ofV,constT,intT,lm]
          refine WO_op rfl rfl rfl ?_
          refine WO_op (x := .ag [qi x22.1.Kind, qi x22.1.N, qs x22.1.S, .row 4, .row 5]) rfl rfl rfl ?_
          refine WO_op (x := qb x22.2) rfl rfl rfl ?_
          refine WO_op (x := .bp 5 0) (σ' := ⟨[], [some [qi a1.Kind, qi a1.N, qs a1.S, .c (cL eS a1.Keys), .c (cL eR_Node a1.Kids)], some [qi a2.Kind, qi a2.N, qs a2.S, .c (cL eS a2.Keys), .c (cL eR_Node a2.Kids)], some [qi a3.Kind, qi a3.N, qs a3.S, .c (cL eS a3.Keys), .c (cL eR_Node a3.Kids)], some [qi 0, qi 0, qs [], .nil, .nil], some [qi v15, qi v16, qs v17, .row 2, .row 3], some [qi 0, qi 0, qs [], .nil, .nil]], [rr 1 eS v18 true, rr 1 eS x13 true, rr 1 eS v19 true, rr 5 eR_Node v20 true, rr 1 eS x22.1.Keys true, rr 5 eR_Node x22.1.Kids true]⟩) rfl rfl rfl ?_; simp only [putT,st,ev,gt,hp,ofV,constT,intT,lm]
          refine WO_op (x := .no) (σ' := ⟨[], [some [qi a1.Kind, qi a1.N, qs a1.S, .c (cL eS a1.Keys), .c (cL eR_Node a1.Kids)], some [qi a2.Kind, qi a2.N, qs a2.S, .c (cL eS a2.Keys), .c (cL eR_Node a2.Kids)], some [qi a3.Kind, qi a3.N, qs a3.S, .c (cL eS a3.Keys), .c (cL eR_Node a3.Kids)], some [qi 0, qi 0, qs [], .nil, .nil], some [qi v15, qi v16, qs v17, .row 2, .row 3], some [qi x22.1.Kind, qi x22.1.N, qs x22.1.S, .row 4, .row 5]], [rr 1 eS v18 true, rr 1 eS x13 true, rr 1 eS v19 true, rr 5 eR_Node v20 true, rr 1 eS x22.1.Keys true, rr 5 eR_Node x22.1.Kids true]⟩) rfl rfl rfl ?_
          refine WO_op rfl rfl rfl ?_; simp only [putT,st,ev,gt,hp,ofV,constT,intT,lm]
          refine WO_nil (W_seq (W_region ?_))
          refine WO_op (x := .ag [qi a2.Kind, qi a2.N, qs a2.S, .c (cL eS a2.Keys), .c (cL eR_Node a2.Kids)]) rfl rfl rfl ?_
          refine WO_op rfl rfl rfl ?_; simp only [putT,st,ev,gt,hp,ofV,constT,intT,lm]
          obtain ⟨x23, hx23, H1⟩ := bnd H1
          refine WO_op (x := .tu [.ag [qi x23.1.Kind, qi x23.1.N, qs x23.1.S, .row 6, .row 7], qb x23.2]) (σ' := ⟨[], [some [qi a1.Kind, qi a1.N, qs a1.S, .c (cL eS a1.Keys), .c (cL eR_Node a1.Kids)], some [qi a2.Kind, qi a2.N, qs a2.S, .c (cL eS a2.Keys), .c (cL eR_Node a2.Kids)], some [qi a3.Kind, qi a3.N, qs a3.S, .c (cL eS a3.Keys), .c (cL eR_Node a3.Kids)], some [qi 0, qi 0, qs [], .nil, .nil], some [qi v15, qi v16, qs v17, .row 2, .row 3], some [qi x22.1.Kind, qi x22.1.N, qs x22.1.S, .row 4, .row 5]], [rr 1 eS v18 true, rr 1 eS x13 true, rr 1 eS v19 true, rr 5 eR_Node v20 true, rr 1 eS x22.1.Keys true, rr 5 eR_Node x22.1.Kids true, rr 1 eS x23.1.Keys true, rr 5 eR_Node x23.1.Kids true]⟩) rfl rfl (ev_callG (al := [.ag [qi a2.Kind, qi a2.N, qs a2.S, .c (cL eS a2.Keys), .c (cL eR_Node a2.Kids)], qs x21]) (ls := []) (impl_Get_ok hx23) rfl rfl rfl rfl rfl (by decide) rfl rfl rfl rfl rfl rfl) ?_; simp only [putT,st,ev,gt,hp,ofV,constT,intT,lm]
          refine WO_op rfl rfl rfl ?_
          refine WO_op (x := .ag [qi x23.1.Kind, qi x23.1.N, qs x23.1.S, .row 6, .row 7]) rfl rfl rfl ?_
          refine WO_op (x := qb x23.2) rfl rfl rfl ?_
          refine WO_op (x := .bp 6 0) (σ' := ⟨[], [some [qi a1.Kind, qi a1.N, qs a1.S, .c (cL eS a1.Keys), .c (cL eR_Node a1.Kids)], some [qi a2.Kind, qi a2.N, qs a2.S, .c (cL eS a2.Keys), .c (cL eR_Node a2.Kids)], some [qi a3.Kind, qi a3.N, qs a3.S, .c (cL eS a3.Keys), .c (cL eR_Node a3.Kids)], some [qi 0, qi 0, qs [], .nil, .nil], some [qi v15, qi v16, qs v17, .row 2, .row 3], some [qi x22.1.Kind, qi x22.1.N, qs x22.1.S, .row 4, .row 5], some [qi 0, qi 0, qs [], .nil, .nil]], [rr 1 eS v18 true, rr 1 eS x13 true, rr 1 eS v19 true, rr 5 eR_Node v20 true, rr 1 eS x22.1.Keys true, rr 5 eR_Node x22.1.Kids true, rr 1 eS x23.1.Keys true, rr 5 eR_Node x23.1.Kids true]⟩) rfl rfl rfl ?_; simp only [putT,st,ev,gt,hp,ofV,constT,intT,lm]
          refine WO_op (x := .no) (σ' := ⟨[], [some [qi a1.Kind, qi a1.N, qs a1.S, .c (cL eS a1.Keys), .c (cL eR_Node a1.Kids)], some [qi a2.Kind, qi a2.N, qs a2.S, .c (cL eS a2.Keys), .c (cL eR_Node a2.Kids)], some [qi a3.Kind, qi a3.N, qs a3.S, .c (cL eS a3.Keys), .c (cL eR_Node a3.Kids)], some [qi 0, qi 0, qs [], .nil, .nil], some [qi v15, qi v16, qs v17, .row 2, .row 3], some [qi x22.1.Kind, qi x22.1.N, qs x22.1.S, .row 4, .row 5], some [qi x23.1.Kind, qi x23.1.N, qs x23.1.S, .row 6, .row 7]], [rr 1 eS v18 true, rr 1 eS x13 true, rr 1 eS v19 true, rr 5 eR_Node v20 true, rr 1 eS x22.1.Keys true, rr 5 eR_Node x22.1.Kids true, rr 1 eS x23.1.Keys true, rr 5 eR_Node x23.1.Kids true]⟩) rfl rfl rfl ?_
          refine WO_op rfl rfl rfl ?_; simp only [putT,st,ev,gt,hp,ofV,constT,intT,lm]
          refine WO_nil (W_seq (W_region ?_))
          refine WO_op (x := .ag [qi a3.Kind, qi a3.N, qs a3.S, .c (cL eS a3.Keys), .c (cL eR_Node a3.Kids)]) rfl rfl rfl ?_
          refine WO_op rfl rfl rfl ?_; simp only [putT,st,ev,gt,hp,ofV,constT,intT,lm]
          obtain ⟨x24, hx24, H1⟩ := bnd H1
          refine WO_op (x := .tu [.ag [qi x24.1.Kind, qi x24.1.N, qs x24.1.S, .row 8, .row 9], qb x24.2]) (σ' := ⟨[], [some [qi a1.Kind, qi a1.N, qs a1.S, .c (cL eS a1.Keys), .c (cL eR_Node a1.Kids)], some [qi a2.Kind, qi a2.N, qs a2.S, .c (cL eS a2.Keys), .c (cL eR_Node a2.Kids)], some [qi a3.Kind, qi a3.N, qs a3.S, .c (cL eS a3.Keys), .c (cL eR_Node a3.Kids)], some [qi 0, qi 0, qs [], .nil, .nil], some [qi v15, qi v16, qs v17, .row 2, .row 3], some [qi x22.1.Kind, qi x22.1.N, qs x22.1.S, .row 4, .row 5], some [qi x23.1.Kind, qi x23.1.N, qs x23.1.S, .row 6, .row 7]], [rr 1 eS v18 true, rr 1 eS x13 true, rr 1 eS v19 true, rr 5 eR_Node v20 true, rr 1 eS x22.1.Keys true, rr 5 eR_Node x22.1.Kids true, rr 1 eS x23.1.Keys true, rr 5 eR_Node x23.1.Kids true, rr 1 eS x24.1.Keys true, rr 5 eR_Node x24.1.Kids true]⟩) rfl rfl (ev_callG (al := [.ag [qi a3.Kind, qi a3.N, qs a3.S, .c (cL eS a3.Keys), .c (cL eR_Node a3.Kids)], qs x21]) (ls := []) (impl_Get_ok hx24) rfl rfl rfl rfl rfl (by decide) rfl rfl rfl rfl rfl rfl) ?_; simp only [putT,st,ev,gt,hp,ofV,constT,intT,lm]
          refine WO_op rfl rfl rfl ?_
          refine WO_op (x := .ag [qi x24.1.Kind, qi x24.1.N, qs x24.1.S, .row 8, .row 9]) rfl rfl rfl ?_
          refine WO_op (x := qb x24.2) rfl rfl rfl ?_
          refine WO_op (x := .bp 7 0) (σ' := ⟨[], [some [qi a1.Kind, qi a1.N, qs a1.S, .c (cL eS a1.Keys), .c (cL eR_Node a1.Kids)], some [qi a2.Kind, qi a2.N, qs a2.S, .c (cL eS a2.Keys), .c (cL eR_Node a2.Kids)], some [qi a3.Kind, qi a3.N, qs a3.S, .c (cL eS a3.Keys), .c (cL eR_Node a3.Kids)], some [qi 0, qi 0, qs [], .nil, .nil], some [qi v15, qi v16, qs v17, .row 2, .row 3], some [qi x22.1.Kind, qi x22.1.N, qs x22.1.S, .row 4, .row 5], some [qi x23.1.Kind, qi x23.1.N, qs x23.1.S, .row 6, .row 7], some [qi 0, qi 0, qs [], .nil, .nil]], [rr 1 eS v18 true, rr 1 eS x13 true, rr 1 eS v19 true, rr 5 eR_Node v20 true, rr 1 eS x22.1.Keys true, rr 5 eR_Node x22.1.Kids true, rr 1 eS x23.1.Keys true, rr 5 eR_Node x23.1.Kids true, rr 1 eS x24.1.Keys true, rr 5 eR_Node x24.1.Kids true]⟩) rfl rfl rfl ?_; simp only [putT,st,ev,gt,hp,ofV,constT,intT,lm]
          refine WO_op (x := .no) (σ' := ⟨[], [some [qi a1.Kind, qi a1.N, qs a1.S, .c (cL eS a1.Keys), .c (cL eR_Node a1.Kids)], some [qi a2.Kind, qi a2.N, qs a2.S, .c (cL eS a2.Keys), .c (cL eR_Node a2.Kids)], some [qi a3.Kind, qi a3.N, qs a3.S, .c (cL eS a3.Keys), .c (cL eR_Node a3.Kids)], some [qi 0, qi 0, qs [], .nil, .nil], some [qi v15, qi v16, qs v17, .row 2, .row 3], some [qi x22.1.Kind, qi x22.1.N, qs x22.1.S, .row 4, .row 5], some [qi x23.1.Kind, qi x23.1.N, qs x23.1.S, .row 6, .row 7], some [qi x24.1.Kind, qi x24.1.N, qs x24.1.S, .row 8, .row 9]], [rr 1 eS v18 true, rr 1 eS x13 true, rr 1 eS v19 true, rr 5 eR_Node v20 true, rr 1 eS x22.1.Keys true, rr 5 eR_Node x22.1.Kids true, rr 1 eS x23.1.Keys true, rr 5 eR_Node x23.1.Kids true, rr 1 eS x24.1.Keys true, rr 5 eR_Node x24.1.Kids true]⟩) rfl rfl rfl ?_
          refine WO_op rfl rfl rfl ?_; simp only [putT,st,ev,gt,hp,ofV,constT,intT,lm]
          refine WO_nil (W_seq ?_)
          refine W_block ?_
          refine W_seq (W_region ?_)
          iterate 2 (refine WO_op rfl rfl rfl ?_; simp only [putT,st,ev,gt,hp,ofV,constT,intT,lm])
          refine WO_if rfl rfl rfl (fun hc => ?_) (fun hc => ?_)
          ·
           replace H1 := tr hc H1
           refine WO_want rfl rfl rfl ?_
           refine WO_op (x := qb x23.2) rfl rfl rfl ?_
           refine WO_op rfl rfl rfl ?_; simp only [putT,st,ev,gt,hp,ofV,constT,intT,lm]
           refine WO_if rfl rfl rfl (fun hc => ?_) (fun hc => ?_)
           ·
            replace H1 := tr hc H1
            refine WO_want rfl rfl rfl ?_
            refine WO_op (x := qb x24.2) rfl rfl rfl ?_
            refine WO_op rfl rfl rfl ?_; simp only [putT,st,ev,gt,hp,ofV,constT,intT,lm]
            refine WO_nil ?_
            refine W_cond rfl (fun hc => ?_) (fun hc => ?_)
            ·
             replace H1 := tr hc H1
             refine W_seq (W_region ?_)
             refine WO_op (x := .ag [qi x22.1.Kind, qi x22.1.N, qs x22.1.S, .row 4, .row 5]) rfl rfl rfl ?_
             refine WO_op (x := .ag [qi x23.1.Kind, qi x23.1.N, qs x23.1.S, .row 6, .row 7]) rfl rfl rfl ?_
             refine WO_op (x := .ag [qi x24.1.Kind, qi x24.1.N, qs x24.1.S, .row 8, .row 9]) rfl rfl rfl ?_; simp only [putT,st,ev,gt,hp,ofV,constT,intT,lm]
             obtain ⟨x25, hx25, H1⟩ := bnd H1
             refine WO_op (x := .tu [.ag [qi x25.1.Kind, qi x25.1.N, qs x25.1.S, .row 10, .row 11], .row 12]) (σ' := ⟨[], [some [qi a1.Kind, qi a1.N, qs a1.S, .c (cL eS a1.Keys), .c (cL eR_Node a1.Kids)], some [qi a2.Kind, qi a2.N, qs a2.S, .c (cL eS a2.Keys), .c (cL eR_Node a2.Kids)], some [qi a3.Kind, qi a3.N, qs a3.S, .c (cL eS a3.Keys), .c (cL eR_Node a3.Kids)], some [qi 0, qi 0, qs [], .nil, .nil], some [qi v15, qi v16, qs v17, .row 2, .row 3], some [qi x22.1.Kind, qi x22.1.N, qs x22.1.S, .row 4, .row 5], some [qi x23.1.Kind, qi x23.1.N, qs x23.1.S, .row 6, .row 7], some [qi x24.1.Kind, qi x24.1.N, qs x24.1.S, .row 8, .row 9]], [rr 1 eS v18 true, rr 1 eS x13 true, rr 1 eS v19 true, rr 5 eR_Node v20 true, rr 1 eS x22.1.Keys false, rr 5 eR_Node x22.1.Kids false, rr 1 eS x23.1.Keys false, rr 5 eR_Node x23.1.Kids false, rr 1 eS x24.1.Keys false, rr 5 eR_Node x24.1.Kids false, rr 1 eS x25.1.Keys true, rr 5 eR_Node x25.1.Kids true, rr 1 eS x25.2 true]⟩) rfl rfl (ev_callG (al := [.ag [qi x22.1.Kind, qi x22.1.N, qs x22.1.S, .row 4, .row 5], .ag [qi x23.1.Kind, qi x23.1.N, qs x23.1.S, .row 6, .row 7], .ag [qi x24.1.Kind, qi x24.1.N, qs x24.1.S, .row 8, .row 9]]) (ls := []) (hrc32 hx25) rfl rfl rfl rfl rfl (by decide) rfl rfl rfl rfl rfl rfl) ?_; simp only [putT,st,ev,gt,hp,ofV,constT,intT,lm]
             refine WO_op rfl rfl rfl ?_
             refine WO_op (x := .ag [qi x25.1.Kind, qi x25.1.N, qs x25.1.S, .row 10, .row 11]) rfl rfl rfl ?_
             refine WO_op (x := .row 12) rfl rfl rfl ?_
             refine WO_op (x := .bp 8 0) (σ' := ⟨[], [some [qi a1.Kind, qi a1.N, qs a1.S, .c (cL eS a1.Keys), .c (cL eR_Node a1.Kids)], some [qi a2.Kind, qi a2.N, qs a2.S, .c (cL eS a2.Keys), .c (cL eR_Node a2.Kids)], some [qi a3.Kind, qi a3.N, qs a3.S, .c (cL eS a3.Keys), .c (cL eR_Node a3.Kids)], some [qi 0, qi 0, qs [], .nil, .nil], some [qi v15, qi v16, qs v17, .row 2, .row 3], some [qi x22.1.Kind, qi x22.1.N, qs x22.1.S, .row 4, .row 5], some [qi x23.1.Kind, qi x23.1.N, qs x23.1.S, .row 6, .row 7], some [qi x24.1.Kind, qi x24.1.N, qs x24.1.S, .row 8, .row 9], some [qi 0, qi 0, qs [], .nil, .nil]], [rr 1 eS v18 true, rr 1 eS x13 true, rr 1 eS v19 true, rr 5 eR_Node v20 true, rr 1 eS x22.1.Keys false, rr 5 eR_Node x22.1.Kids false, rr 1 eS x23.1.Keys false, rr 5 eR_Node x23.1.Kids false, rr 1 eS x24.1.Keys false, rr 5 eR_Node x24.1.Kids false, rr 1 eS x25.1.Keys true, rr 5 eR_Node x25.1.Kids true, rr 1 eS x25.2 true]⟩) rfl rfl rfl ?_; simp only [putT,st,ev,gt,hp,ofV,constT,intT,lm]
             refine WO_op (x := .no) (σ' := ⟨[], [some [qi a1.Kind, qi a1.N, qs a1.S, .c (cL eS a1.Keys), .c (cL eR_Node a1.Kids)], some [qi a2.Kind, qi a2.N, qs a2.S, .c (cL eS a2.Keys), .c (cL eR_Node a2.Kids)], some [qi a3.Kind, qi a3.N, qs a3.S, .c (cL eS a3.Keys), .c (cL eR_Node a3.Kids)], some [qi 0, qi 0, qs [], .nil, .nil], some [qi v15, qi v16, qs v17, .row 2, .row 3], some [qi x22.1.Kind, qi x22.1.N, qs x22.1.S, .row 4, .row 5], some [qi x23.1.Kind, qi x23.1.N, qs x23.1.S, .row 6, .row 7], some [qi x24.1.Kind, qi x24.1.N, qs x24.1.S, .row 8, .row 9], some [qi x25.1.Kind, qi x25.1.N, qs x25.1.S, .row 10, .row 11]], [rr 1 eS v18 true, rr 1 eS x13 true, rr 1 eS v19 true, rr 5 eR_Node v20 true, rr 1 eS x22.1.Keys false, rr 5 eR_Node x22.1.Kids false, rr 1 eS x23.1.Keys false, rr 5 eR_Node x23.1.Kids false, rr 1 eS x24.1.Keys false, rr 5 eR_Node x24.1.Kids false, rr 1 eS x25.1.Keys true, rr 5 eR_Node x25.1.Kids true, rr 1 eS x25.2 true]⟩) rfl rfl rfl ?_
             refine WO_op rfl rfl rfl ?_; simp only [putT,st,ev,gt,hp,ofV,constT,intT,lm]
             refine WO_nil (W_seq (W_region ?_))
             refine WO_op (x := .ag [qi v15, qi v16, qs v17, .row 2, .row 3]) rfl rfl rfl ?_
             refine WO_op rfl rfl rfl ?_
             refine WO_op (x := .ag [qi x25.1.Kind, qi x25.1.N, qs x25.1.S, .row 10, .row 11]) rfl rfl rfl ?_; simp only [putT,st,ev,gt,hp,ofV,constT,intT,lm]
             obtain ⟨x26, hx26, H1⟩ := bnd H1
             refine WO_op (x := .ag [qi x26.Kind, qi x26.N, qs x26.S, .row 13, .row 14]) (σ' := ⟨[], [some [qi a1.Kind, qi a1.N, qs a1.S, .c (cL eS a1.Keys), .c (cL eR_Node a1.Kids)], some [qi a2.Kind, qi a2.N, qs a2.S, .c (cL eS a2.Keys), .c (cL eR_Node a2.Kids)], some [qi a3.Kind, qi a3.N, qs a3.S, .c (cL eS a3.Keys), .c (cL eR_Node a3.Kids)], some [qi 0, qi 0, qs [], .nil, .nil], some [qi v15, qi v16, qs v17, .row 2, .row 3], some [qi x22.1.Kind, qi x22.1.N, qs x22.1.S, .row 4, .row 5], some [qi x23.1.Kind, qi x23.1.N, qs x23.1.S, .row 6, .row 7], some [qi x24.1.Kind, qi x24.1.N, qs x24.1.S, .row 8, .row 9], some [qi x25.1.Kind, qi x25.1.N, qs x25.1.S, .row 10, .row 11]], [rr 1 eS v18 true, rr 1 eS x13 true, rr 1 eS v19 false, rr 5 eR_Node v20 false, rr 1 eS x22.1.Keys false, rr 5 eR_Node x22.1.Kids false, rr 1 eS x23.1.Keys false, rr 5 eR_Node x23.1.Kids false, rr 1 eS x24.1.Keys false, rr 5 eR_Node x24.1.Kids false, rr 1 eS x25.1.Keys false, rr 5 eR_Node x25.1.Kids false, rr 1 eS x25.2 true, rr 1 eS x26.Keys true, rr 5 eR_Node x26.Kids true]⟩) rfl rfl (ev_callG (al := [.ag [qi v15, qi v16, qs v17, .row 2, .row 3], qs x21, .ag [qi x25.1.Kind, qi x25.1.N, qs x25.1.S, .row 10, .row 11]]) (ls := []) (impl_Set_ok hx26) rfl rfl rfl rfl rfl (by decide) rfl rfl rfl rfl rfl rfl) ?_; simp only [putT,st,ev,gt,hp,ofV,constT,intT,lm]
             refine WO_op (x := .no) (σ' := ⟨[], [some [qi a1.Kind, qi a1.N, qs a1.S, .c (cL eS a1.Keys), .c (cL eR_Node a1.Kids)], some [qi a2.Kind, qi a2.N, qs a2.S, .c (cL eS a2.Keys), .c (cL eR_Node a2.Kids)], some [qi a3.Kind, qi a3.N, qs a3.S, .c (cL eS a3.Keys), .c (cL eR_Node a3.Kids)], some [qi 0, qi 0, qs [], .nil, .nil], some [qi x26.Kind, qi x26.N, qs x26.S, .row 13, .row 14], some [qi x22.1.Kind, qi x22.1.N, qs x22.1.S, .row 4, .row 5], some [qi x23.1.Kind, qi x23.1.N, qs x23.1.S, .row 6, .row 7], some [qi x24.1.Kind, qi x24.1.N, qs x24.1.S, .row 8, .row 9], some [qi x25.1.Kind, qi x25.1.N, qs x25.1.S, .row 10, .row 11]], [rr 1 eS v18 true, rr 1 eS x13 true, rr 1 eS v19 false, rr 5 eR_Node v20 false, rr 1 eS x22.1.Keys false, rr 5 eR_Node x22.1.Kids false, rr 1 eS x23.1.Keys false, rr 5 eR_Node x23.1.Kids false, rr 1 eS x24.1.Keys false, rr 5 eR_Node x24.1.Kids false, rr 1 eS x25.1.Keys false, rr 5 eR_Node x25.1.Kids false, rr 1 eS x25.2 true, rr 1 eS x26.Keys true, rr 5 eR_Node x26.Kids true]⟩) rfl rfl rfl ?_; simp only [putT,st,ev,gt,hp,ofV,constT,intT,lm]
             refine WO_nil (W_seq (W_seq (W_region ?_)))
             iterate 3 (refine WO_op rfl rfl rfl ?_; simp only [putT,st,ev,gt,hp,ofV,constT,intT,lm])
             refine WO_nil ?_
             refine W_block ?_
             obtain ⟨t32, ht32, H1⟩ := bnd H1
             refine loop_rule (ls := []) 4 (fun t32 : List Str => ⟨[.no, .no, .no, .bp 0 0, .bp 1 0, .bp 2 0, .bp 3 0, .no, .bp 4 0, .row 0, .no, .no, .no, .no, .no, .no, .no, .no, .no, .no, .no, .no, .no, .no, .no, .no, .no, .no, .no, .no, .no, .no, .no, .no, .no, .no, .no, .no, .no, .no, .no, .no, .no, .no, .no, .no, .no, .no, .no, .no, .no, .no, .no, .no, .no, .no, .no, .no, .no, .no, .no, .no, .row 1, qi (x13.length : Int), qi v14], [some [qi a1.Kind, qi a1.N, qs a1.S, .c (cL eS a1.Keys), .c (cL eR_Node a1.Kids)], some [qi a2.Kind, qi a2.N, qs a2.S, .c (cL eS a2.Keys), .c (cL eR_Node a2.Kids)], some [qi a3.Kind, qi a3.N, qs a3.S, .c (cL eS a3.Keys), .c (cL eR_Node a3.Kids)], some [qi 0, qi 0, qs [], .nil, .nil], some [qi x26.Kind, qi x26.N, qs x26.S, .row 2, .row 3]], [rr 1 eS t32 true, rr 1 eS x13 true, rr 1 eS x26.Keys true, rr 5 eR_Node x26.Kids true]⟩) (fun t => t32 = t) ⟨[.no, .no, .no, .bp 0 0, .bp 1 0, .bp 2 0, .bp 3 0, .no, .bp 4 0, .row 0, .no, qs x21, .no, .no, .no, .no, .no, .no, .no, .no, .no, .no, .no, .no, .no, .no, .no, .no, .no, .no, .no, .no, .no, .no, .no, .no, .no, .no, .no, .no, .no, .no, .no, .no, .no, .no, .no, .no, .no, .no, .no, .no, .no, .no, .no, .no, .no, .no, .no, .no, .no, .no, .row 1, qi (x13.length : Int), qi v14, .no, .no, .no, .no, .no, .no, .no, .no, .no, .no, .no, .no, .no, .no, .no, .no, .no, .no, .no, .no, .no, .no, .no, .no, .no, .no, .no, .no, .no, .no, .no, .no, .no, .no, .no, .no, .no, .no, .no, .no, .no, .no, .no, .no, .row 2, qi (x25.2.length : Int), qi 0], [some [qi a1.Kind, qi a1.N, qs a1.S, .c (cL eS a1.Keys), .c (cL eR_Node a1.Kids)], some [qi a2.Kind, qi a2.N, qs a2.S, .c (cL eS a2.Keys), .c (cL eR_Node a2.Kids)], some [qi a3.Kind, qi a3.N, qs a3.S, .c (cL eS a3.Keys), .c (cL eR_Node a3.Kids)], some [qi 0, qi 0, qs [], .nil, .nil], some [qi x26.Kind, qi x26.N, qs x26.S, .row 3, .row 4]], [rr 1 eS v18 true, rr 1 eS x13 true, rr 1 eS x25.2 true, rr 1 eS x26.Keys true, rr 5 eR_Node x26.Kids true]⟩ (by repeat (first | exact mono_told | refine mono_seq ?_ | refine mono_blk ?_ | refine mono_lp ?_)) (le_intro [0, 1, 2, 3, 4] [0, 1, 12, 13, 14] (by decide) (by decide) rfl (by simp [leS, leT, leA, gt]) (by simp [leB, leT, leA]) (by simp [leR])) ?_ ?_
             ·
              rintro t1 rfl
              refine W_exit ?_
              refine W_region ?_
              iterate 2 (refine WO_op rfl rfl rfl ?_; simp only [putT,st,ev,gt,hp,ofV,constT,intT,lm])
              refine WO_nil ?_
              exact hW1 _ _ ((IH1 _ _ _ _ _ _ _ _ H1 rfl).2) (le_intro [0, 1, 2, 3, 4] [0, 1, 2, 3] (by decide) (by decide) rfl (by simp [leS, leT, leA, gt]) (by simp [leB, leT, leA]) (by simp [leR]))
             ·
              intro V2 hV2 hW2 hX2
              refine (impl_Merge.l1.partial_correctness x21 x25 (fun v27 v28 s' => s' = t32 → (V2 ⟨[.no, .no, .no, .bp 0 0, .bp 1 0, .bp 2 0, .bp 3 0, .no, .bp 4 0, .row 0, .no, qs x21, .no, .no, .no, .no, .no, .no, .no, .no, .no, .no, .no, .no, .no, .no, .no, .no, .no, .no, .no, .no, .no, .no, .no, .no, .no, .no, .no, .no, .no, .no, .no, .no, .no, .no, .no, .no, .no, .no, .no, .no, .no, .no, .no, .no, .no, .no, .no, .no, .no, .no, .row 1, qi (x13.length : Int), qi v14, .no, .no, .no, .no, .no, .no, .no, .no, .no, .no, .no, .no, .no, .no, .no, .no, .no, .no, .no, .no, .no, .no, .no, .no, .no, .no, .no, .no, .no, .no, .no, .no, .no, .no, .no, .no, .no, .no, .no, .no, .no, .no, .no, .no, .row 2, qi (x25.2.length : Int), qi v27], [some [qi a1.Kind, qi a1.N, qs a1.S, .c (cL eS a1.Keys), .c (cL eR_Node a1.Kids)], some [qi a2.Kind, qi a2.N, qs a2.S, .c (cL eS a2.Keys), .c (cL eR_Node a2.Kids)], some [qi a3.Kind, qi a3.N, qs a3.S, .c (cL eS a3.Keys), .c (cL eR_Node a3.Kids)], some [qi 0, qi 0, qs [], .nil, .nil], some [qi x26.Kind, qi x26.N, qs x26.S, .row 3, .row 4]], [rr 1 eS v28 true, rr 1 eS x13 true, rr 1 eS x25.2 true, rr 1 eS x26.Keys true, rr 5 eR_Node x26.Kids true]⟩)) ?_ _ _ _ ht32 rfl)
              intro l0 IH2 v27 v28 s' H2 e
              subst e
              refine hV2 _ ?_
              refine W_seq (W_region ?_)
              refine WO_op rfl rfl rfl ?_; simp only [putT,st,ev,gt,hp,ofV,constT,intT,lm]
              refine WO_nil (W_seq ?_)
              refine W_cond rfl (fun hc => ?_) (fun hc => ?_)
              ·
               replace H2 := tr hc H2
               refine W_skip ?_
               refine W_seq ?_
               refine W_block ?_
               refine W_seq (W_region ?_)
               obtain ⟨x29, hx29, H2⟩ := bnd H2
               refine WO_op rfl rfl (ev_ixR (en := eS) hx29 rfl rfl rfl rfl rfl rfl rfl) ?_; simp only [putT,st,ev,gt,hp,ofV,constT,intT,lm]
               refine WO_op (x := qs x29) rfl rfl (ev_ldR (en := eS) hx29 rfl rfl rfl rfl) ?_; simp only [putT,st,ev,gt,hp,ofV,constT,intT,lm]
               refine WO_op rfl rfl rfl ?_; simp only [putT,st,ev,gt,hp,ofV,constT,intT,lm]
               refine WO_nil (W_region ?_)
               iterate 3 (refine WO_op rfl rfl rfl ?_; simp only [putT,st,ev,gt,hp,ofV,constT,intT,lm])
               obtain ⟨x30, hx30, H2⟩ := bnd H2
               refine WO_op (x := qs x30) (σ' := ⟨[], [some [qi a1.Kind, qi a1.N, qs a1.S, .c (cL eS a1.Keys), .c (cL eR_Node a1.Kids)], some [qi a2.Kind, qi a2.N, qs a2.S, .c (cL eS a2.Keys), .c (cL eR_Node a2.Kids)], some [qi a3.Kind, qi a3.N, qs a3.S, .c (cL eS a3.Keys), .c (cL eR_Node a3.Kids)], some [qi 0, qi 0, qs [], .nil, .nil], some [qi x26.Kind, qi x26.N, qs x26.S, .row 3, .row 4]], [rr 1 eS v28 true, rr 1 eS x13 true, rr 1 eS x25.2 true, rr 1 eS x26.Keys true, rr 5 eR_Node x26.Kids true]⟩) rfl rfl (ev_callG (al := [qs x21, qs x29]) (ls := []) (impl_below_ok hx30) rfl rfl rfl rfl rfl (by decide) rfl rfl rfl rfl rfl rfl) ?_; simp only [putT,st,ev,gt,hp,ofV,constT,intT,lm]
               refine WO_op (x := .row 5) (σ' := ⟨[], [some [qi a1.Kind, qi a1.N, qs a1.S, .c (cL eS a1.Keys), .c (cL eR_Node a1.Kids)], some [qi a2.Kind, qi a2.N, qs a2.S, .c (cL eS a2.Keys), .c (cL eR_Node a2.Kids)], some [qi a3.Kind, qi a3.N, qs a3.S, .c (cL eS a3.Keys), .c (cL eR_Node a3.Kids)], some [qi 0, qi 0, qs [], .nil, .nil], some [qi x26.Kind, qi x26.N, qs x26.S, .row 3, .row 4]], [rr 1 eS v28 true, rr 1 eS x13 true, rr 1 eS x25.2 true, rr 1 eS x26.Keys true, rr 5 eR_Node x26.Kids true, rr 1 eS ([x30] : List Str) true]⟩) rfl rfl (ev_bs ([x30] : List Str) eS rfl rfl rfl rfl) ?_; simp only [putT,st,ev,gt,hp,ofV,constT,intT,lm]
               obtain ⟨m31, hm31, H2⟩ := bnd H2
               refine WO_op (x := .row 6) (σ' := ⟨[], [some [qi a1.Kind, qi a1.N, qs a1.S, .c (cL eS a1.Keys), .c (cL eR_Node a1.Kids)], some [qi a2.Kind, qi a2.N, qs a2.S, .c (cL eS a2.Keys), .c (cL eR_Node a2.Kids)], some [qi a3.Kind, qi a3.N, qs a3.S, .c (cL eS a3.Keys), .c (cL eR_Node a3.Kids)], some [qi 0, qi 0, qs [], .nil, .nil], some [qi x26.Kind, qi x26.N, qs x26.S, .row 3, .row 4]], [none, rr 1 eS x13 true, rr 1 eS x25.2 true, rr 1 eS x26.Keys true, rr 5 eR_Node x26.Kids true, rr 1 eS ([x30] : List Str) true, rr 1 eS m31 true]⟩) rfl rfl (ev_app (en := eS) hm31 rfl rfl rfl rfl (Or.inl rfl) rfl rfl rfl rfl rfl rfl rfl rfl rfl rfl rfl (fun _ => rfl) rfl (Or.inr rfl) rfl) ?_; simp only [putT,st,ev,gt,hp,ofV,constT,intT,lm]
               refine WO_op rfl rfl rfl ?_; simp only [putT,st,ev,gt,hp,ofV,constT,intT,lm]
               refine WO_nil (W_region ?_)
               iterate 2 (refine WO_op rfl rfl rfl ?_; simp only [putT,st,ev,gt,hp,ofV,constT,intT,lm])
               refine WO_nil ?_
               exact hW2 _ _ ((IH2 _ _ _ H2 rfl)) (le_intro [0, 1, 2, 3, 4] [6, 1, 2, 3, 4] (by decide) (by decide) rfl (by simp [leS, leT, leA, gt]) (by simp [leB, leT, leA]) (by simp [leR]))
              ·
               replace H2 := fl hc H2
               refine W_exit ?_
               obtain rfl := Option.some.inj H2
               exact hX2 v28 _ rfl (le_intro [0, 1, 2, 3, 4] [0, 1, 3, 4] (by decide) (by decide) rfl (by simp [leS, leT, leA, gt]) (by simp [leB, leT, leA]) (by simp [leR]))
            ·
             replace H1 := fl hc H1
             refine W_seq (W_region ?_)
             refine WO_op (x := .ag [qi a3.Kind, qi a3.N, qs a3.S, .c (cL eS a3.Keys), .c (cL eR_Node a3.Kids)]) rfl rfl rfl ?_
             refine WO_op (x := .ag [qi a1.Kind, qi a1.N, qs a1.S, .c (cL eS a1.Keys), .c (cL eR_Node a1.Kids)]) rfl rfl rfl ?_
             refine WO_op rfl rfl rfl ?_; simp only [putT,st,ev,gt,hp,ofV,constT,intT,lm]
             obtain ⟨x34, hx34, H1⟩ := bnd H1
             refine WO_op (x := qb x34) (σ' := ⟨[], [some [qi a1.Kind, qi a1.N, qs a1.S, .c (cL eS a1.Keys), .c (cL eR_Node a1.Kids)], some [qi a2.Kind, qi a2.N, qs a2.S, .c (cL eS a2.Keys), .c (cL eR_Node a2.Kids)], some [qi a3.Kind, qi a3.N, qs a3.S, .c (cL eS a3.Keys), .c (cL eR_Node a3.Kids)], some [qi 0, qi 0, qs [], .nil, .nil], some [qi v15, qi v16, qs v17, .row 2, .row 3], some [qi x22.1.Kind, qi x22.1.N, qs x22.1.S, .row 4, .row 5], some [qi x23.1.Kind, qi x23.1.N, qs x23.1.S, .row 6, .row 7], some [qi x24.1.Kind, qi x24.1.N, qs x24.1.S, .row 8, .row 9]], [rr 1 eS v18 true, rr 1 eS x13 true, rr 1 eS v19 true, rr 5 eR_Node v20 true, rr 1 eS x22.1.Keys true, rr 5 eR_Node x22.1.Kids true, rr 1 eS x23.1.Keys true, rr 5 eR_Node x23.1.Kids true, rr 1 eS x24.1.Keys true, rr 5 eR_Node x24.1.Kids true]⟩) rfl rfl (ev_callG (al := [.ag [qi a3.Kind, qi a3.N, qs a3.S, .c (cL eS a3.Keys), .c (cL eR_Node a3.Kids)], .ag [qi a1.Kind, qi a1.N, qs a1.S, .c (cL eS a1.Keys), .c (cL eR_Node a1.Kids)], qs x21]) (ls := []) (impl_alike_ok hx34) rfl rfl rfl rfl rfl (by decide) rfl rfl rfl rfl rfl rfl) ?_; simp only [putT,st,ev,gt,hp,ofV,constT,intT,lm]
             refine WO_op rfl rfl rfl ?_; simp only [putT,st,ev,gt,hp,ofV,constT,intT,lm]
             refine WO_if rfl rfl rfl (fun hc => ?_) (fun hc => ?_)
             ·
              replace H1 := tr hc H1
              simp only [putT,st,ev,gt,hp,ofV,constT,intT,lm]
              iterate 4 refine WO_skip rfl rfl ?_
              refine WO_op (x := qb true) rfl rfl rfl ?_
              refine WO_op rfl rfl rfl ?_; simp only [putT,st,ev,gt,hp,ofV,constT,intT,lm]
              refine WO_nil ?_
              refine W_cond (t := true) rfl (fun _ => ?_) (fun h => by cases h)
              refine W_skip ?_
              refine W_seq (W_region ?_)
              refine WO_op rfl rfl rfl ?_; simp only [putT,st,ev,gt,hp,ofV,constT,intT,lm]
              refine WO_nil ?_
              refine W_cond rfl (fun hc => ?_) (fun hc => ?_)
              ·
               replace H1 := tr hc H1
               refine W_region ?_
               refine WO_op (x := .ag [qi v15, qi v16, qs v17, .row 2, .row 3]) rfl rfl rfl ?_
               refine WO_op rfl rfl rfl ?_
               refine WO_op (x := .ag [qi x23.1.Kind, qi x23.1.N, qs x23.1.S, .row 6, .row 7]) rfl rfl rfl ?_; simp only [putT,st,ev,gt,hp,ofV,constT,intT,lm]
               obtain ⟨x35, hx35, H1⟩ := bnd H1
               refine WO_op (x := .ag [qi x35.Kind, qi x35.N, qs x35.S, .row 10, .row 11]) (σ' := ⟨[], [some [qi a1.Kind, qi a1.N, qs a1.S, .c (cL eS a1.Keys), .c (cL eR_Node a1.Kids)], some [qi a2.Kind, qi a2.N, qs a2.S, .c (cL eS a2.Keys), .c (cL eR_Node a2.Kids)], some [qi a3.Kind, qi a3.N, qs a3.S, .c (cL eS a3.Keys), .c (cL eR_Node a3.Kids)], some [qi 0, qi 0, qs [], .nil, .nil], some [qi v15, qi v16, qs v17, .row 2, .row 3], some [qi x22.1.Kind, qi x22.1.N, qs x22.1.S, .row 4, .row 5], some [qi x23.1.Kind, qi x23.1.N, qs x23.1.S, .row 6, .row 7], some [qi x24.1.Kind, qi x24.1.N, qs x24.1.S, .row 8, .row 9]], [rr 1 eS v18 true, rr 1 eS x13 true, rr 1 eS v19 false, rr 5 eR_Node v20 false, rr 1 eS x22.1.Keys true, rr 5 eR_Node x22.1.Kids true, rr 1 eS x23.1.Keys false, rr 5 eR_Node x23.1.Kids false, rr 1 eS x24.1.Keys true, rr 5 eR_Node x24.1.Kids true, rr 1 eS x35.Keys true, rr 5 eR_Node x35.Kids true]⟩) rfl rfl (ev_callG (al := [.ag [qi v15, qi v16, qs v17, .row 2, .row 3], qs x21, .ag [qi x23.1.Kind, qi x23.1.N, qs x23.1.S, .row 6, .row 7]]) (ls := []) (impl_Set_ok hx35) rfl rfl rfl rfl rfl (by decide) rfl rfl rfl rfl rfl rfl) ?_; simp only [putT,st,ev,gt,hp,ofV,constT,intT,lm]
               refine WO_op (x := .no) (σ' := ⟨[], [some [qi a1.Kind, qi a1.N, qs a1.S, .c (cL eS a1.Keys), .c (cL eR_Node a1.Kids)], some [qi a2.Kind, qi a2.N, qs a2.S, .c (cL eS a2.Keys), .c (cL eR_Node a2.Kids)], some [qi a3.Kind, qi a3.N, qs a3.S, .c (cL eS a3.Keys), .c (cL eR_Node a3.Kids)], some [qi 0, qi 0, qs [], .nil, .nil], some [qi x35.Kind, qi x35.N, qs x35.S, .row 10, .row 11], some [qi x22.1.Kind, qi x22.1.N, qs x22.1.S, .row 4, .row 5], some [qi x23.1.Kind, qi x23.1.N, qs x23.1.S, .row 6, .row 7], some [qi x24.1.Kind, qi x24.1.N, qs x24.1.S, .row 8, .row 9]], [rr 1 eS v18 true, rr 1 eS x13 true, rr 1 eS v19 false, rr 5 eR_Node v20 false, rr 1 eS x22.1.Keys true, rr 5 eR_Node x22.1.Kids true, rr 1 eS x23.1.Keys false, rr 5 eR_Node x23.1.Kids false, rr 1 eS x24.1.Keys true, rr 5 eR_Node x24.1.Kids true, rr 1 eS x35.Keys true, rr 5 eR_Node x35.Kids true]⟩) rfl rfl rfl ?_; simp only [putT,st,ev,gt,hp,ofV,constT,intT,lm]
               refine WO_nil (W_region ?_)
               iterate 2 (refine WO_op rfl rfl rfl ?_; simp only [putT,st,ev,gt,hp,ofV,constT,intT,lm])
               refine WO_nil ?_
               exact hW1 _ _ ((IH1 _ _ _ _ _ _ _ _ H1 rfl).2) (le_intro [0, 1, 2, 3, 4] [0, 1, 10, 11] (by decide) (by decide) rfl (by simp [leS, leT, leA, gt]) (by simp [leB, leT, leA]) (by simp [leR]))
              ·
               replace H1 := fl hc H1
               refine W_skip ?_
               refine W_region ?_
               iterate 2 (refine WO_op rfl rfl rfl ?_; simp only [putT,st,ev,gt,hp,ofV,constT,intT,lm])
               refine WO_nil ?_
               exact hW1 _ _ ((IH1 _ _ _ _ _ _ _ _ H1 rfl).2) (le_intro [0, 1, 2, 3, 4] [0, 1, 2, 3] (by decide) (by decide) rfl (by simp [leS, leT, leA, gt]) (by simp [leB, leT, leA]) (by simp [leR]))
             ·
              replace H1 := fl hc H1
              refine WO_want (x := .ag [qi a2.Kind, qi a2.N, qs a2.S, .c (cL eS a2.Keys), .c (cL eR_Node a2.Kids)]) rfl rfl rfl ?_
              refine WO_want (x := .ag [qi a3.Kind, qi a3.N, qs a3.S, .c (cL eS a3.Keys), .c (cL eR_Node a3.Kids)]) rfl rfl rfl ?_
              refine WO_want rfl rfl rfl ?_; simp only [putT,st,ev,gt,hp,ofV,constT,intT,lm]
              obtain ⟨x36, hx36, H1⟩ := bnd H1
              refine WO_want (x := qb x36) (σ' := ⟨[], [some [qi a1.Kind, qi a1.N, qs a1.S, .c (cL eS a1.Keys), .c (cL eR_Node a1.Kids)], some [qi a2.Kind, qi a2.N, qs a2.S, .c (cL eS a2.Keys), .c (cL eR_Node a2.Kids)], some [qi a3.Kind, qi a3.N, qs a3.S, .c (cL eS a3.Keys), .c (cL eR_Node a3.Kids)], some [qi 0, qi 0, qs [], .nil, .nil], some [qi v15, qi v16, qs v17, .row 2, .row 3], some [qi x22.1.Kind, qi x22.1.N, qs x22.1.S, .row 4, .row 5], some [qi x23.1.Kind, qi x23.1.N, qs x23.1.S, .row 6, .row 7], some [qi x24.1.Kind, qi x24.1.N, qs x24.1.S, .row 8, .row 9]], [rr 1 eS v18 true, rr 1 eS x13 true, rr 1 eS v19 true, rr 5 eR_Node v20 true, rr 1 eS x22.1.Keys true, rr 5 eR_Node x22.1.Kids true, rr 1 eS x23.1.Keys true, rr 5 eR_Node x23.1.Kids true, rr 1 eS x24.1.Keys true, rr 5 eR_Node x24.1.Kids true]⟩) rfl rfl (ev_callG (al := [.ag [qi a2.Kind, qi a2.N, qs a2.S, .c (cL eS a2.Keys), .c (cL eR_Node a2.Kids)], .ag [qi a3.Kind, qi a3.N, qs a3.S, .c (cL eS a3.Keys), .c (cL eR_Node a3.Kids)], qs x21]) (ls := []) (impl_alike_ok hx36) rfl rfl rfl rfl rfl (by decide) rfl rfl rfl rfl rfl rfl) ?_; simp only [putT,st,ev,gt,hp,ofV,constT,intT,lm]
              refine WO_op (x := qb x36) rfl rfl rfl ?_
              refine WO_op rfl rfl rfl ?_; simp only [putT,st,ev,gt,hp,ofV,constT,intT,lm]
              refine WO_nil ?_
              refine W_cond rfl (fun hc => ?_) (fun hc => ?_)
              ·
               replace H1 := tr hc H1
               refine W_skip ?_
               refine W_seq (W_region ?_)
               refine WO_op rfl rfl rfl ?_; simp only [putT,st,ev,gt,hp,ofV,constT,intT,lm]
               refine WO_nil ?_
               refine W_cond rfl (fun hc => ?_) (fun hc => ?_)
               ·
                replace H1 := tr hc H1
                refine W_region ?_
                refine WO_op (x := .ag [qi v15, qi v16, qs v17, .row 2, .row 3]) rfl rfl rfl ?_
                refine WO_op rfl rfl rfl ?_
                refine WO_op (x := .ag [qi x23.1.Kind, qi x23.1.N, qs x23.1.S, .row 6, .row 7]) rfl rfl rfl ?_; simp only [putT,st,ev,gt,hp,ofV,constT,intT,lm]
                obtain ⟨x37, hx37, H1⟩ := bnd H1
                refine WO_op (x := .ag [qi x37.Kind, qi x37.N, qs x37.S, .row 10, .row 11]) (σ' := ⟨[], [some [qi a1.Kind, qi a1.N, qs a1.S, .c (cL eS a1.Keys), .c (cL eR_Node a1.Kids)], some [qi a2.Kind, qi a2.N, qs a2.S, .c (cL eS a2.Keys), .c (cL eR_Node a2.Kids)], some [qi a3.Kind, qi a3.N, qs a3.S, .c (cL eS a3.Keys), .c (cL eR_Node a3.Kids)], some [qi 0, qi 0, qs [], .nil, .nil], some [qi v15, qi v16, qs v17, .row 2, .row 3], some [qi x22.1.Kind, qi x22.1.N, qs x22.1.S, .row 4, .row 5], some [qi x23.1.Kind, qi x23.1.N, qs x23.1.S, .row 6, .row 7], some [qi x24.1.Kind, qi x24.1.N, qs x24.1.S, .row 8, .row 9]], [rr 1 eS v18 true, rr 1 eS x13 true, rr 1 eS v19 false, rr 5 eR_Node v20 false, rr 1 eS x22.1.Keys true, rr 5 eR_Node x22.1.Kids true, rr 1 eS x23.1.Keys false, rr 5 eR_Node x23.1.Kids false, rr 1 eS x24.1.Keys true, rr 5 eR_Node x24.1.Kids true, rr 1 eS x37.Keys true, rr 5 eR_Node x37.Kids true]⟩) rfl rfl (ev_callG (al := [.ag [qi v15, qi v16, qs v17, .row 2, .row 3], qs x21, .ag [qi x23.1.Kind, qi x23.1.N, qs x23.1.S, .row 6, .row 7]]) (ls := []) (impl_Set_ok hx37) rfl rfl rfl rfl rfl (by decide) rfl rfl rfl rfl rfl rfl) ?_; simp only [putT,st,ev,gt,hp,ofV,constT,intT,lm]
                refine WO_op (x := .no) (σ' := ⟨[], [some [qi a1.Kind, qi a1.N, qs a1.S, .c (cL eS a1.Keys), .c (cL eR_Node a1.Kids)], some [qi a2.Kind, qi a2.N, qs a2.S, .c (cL eS a2.Keys), .c (cL eR_Node a2.Kids)], some [qi a3.Kind, qi a3.N, qs a3.S, .c (cL eS a3.Keys), .c (cL eR_Node a3.Kids)], some [qi 0, qi 0, qs [], .nil, .nil], some [qi x37.Kind, qi x37.N, qs x37.S, .row 10, .row 11], some [qi x22.1.Kind, qi x22.1.N, qs x22.1.S, .row 4, .row 5], some [qi x23.1.Kind, qi x23.1.N, qs x23.1.S, .row 6, .row 7], some [qi x24.1.Kind, qi x24.1.N, qs x24.1.S, .row 8, .row 9]], [rr 1 eS v18 true, rr 1 eS x13 true, rr 1 eS v19 false, rr 5 eR_Node v20 false, rr 1 eS x22.1.Keys true, rr 5 eR_Node x22.1.Kids true, rr 1 eS x23.1.Keys false, rr 5 eR_Node x23.1.Kids false, rr 1 eS x24.1.Keys true, rr 5 eR_Node x24.1.Kids true, rr 1 eS x37.Keys true, rr 5 eR_Node x37.Kids true]⟩) rfl rfl rfl ?_; simp only [putT,st,ev,gt,hp,ofV,constT,intT,lm]
                refine WO_nil (W_region ?_)
                iterate 2 (refine WO_op rfl rfl rfl ?_; simp only [putT,st,ev,gt,hp,ofV,constT,intT,lm])
                refine WO_nil ?_
                exact hW1 _ _ ((IH1 _ _ _ _ _ _ _ _ H1 rfl).2) (le_intro [0, 1, 2, 3, 4] [0, 1, 10, 11] (by decide) (by decide) rfl (by simp [leS, leT, leA, gt]) (by simp [leB, leT, leA]) (by simp [leR]))
               ·
                replace H1 := fl hc H1
                refine W_skip ?_
                refine W_region ?_
                iterate 2 (refine WO_op rfl rfl rfl ?_; simp only [putT,st,ev,gt,hp,ofV,constT,intT,lm])
                refine WO_nil ?_
                exact hW1 _ _ ((IH1 _ _ _ _ _ _ _ _ H1 rfl).2) (le_intro [0, 1, 2, 3, 4] [0, 1, 2, 3] (by decide) (by decide) rfl (by simp [leS, leT, leA, gt]) (by simp [leB, leT, leA]) (by simp [leR]))
              ·
               replace H1 := fl hc H1
               refine W_seq (W_region ?_)
               refine WO_op (x := .ag [qi a2.Kind, qi a2.N, qs a2.S, .c (cL eS a2.Keys), .c (cL eR_Node a2.Kids)]) rfl rfl rfl ?_
               refine WO_op (x := .ag [qi a1.Kind, qi a1.N, qs a1.S, .c (cL eS a1.Keys), .c (cL eR_Node a1.Kids)]) rfl rfl rfl ?_
               refine WO_op rfl rfl rfl ?_; simp only [putT,st,ev,gt,hp,ofV,constT,intT,lm]
               obtain ⟨x38, hx38, H1⟩ := bnd H1
               refine WO_op (x := qb x38) (σ' := ⟨[], [some [qi a1.Kind, qi a1.N, qs a1.S, .c (cL eS a1.Keys), .c (cL eR_Node a1.Kids)], some [qi a2.Kind, qi a2.N, qs a2.S, .c (cL eS a2.Keys), .c (cL eR_Node a2.Kids)], some [qi a3.Kind, qi a3.N, qs a3.S, .c (cL eS a3.Keys), .c (cL eR_Node a3.Kids)], some [qi 0, qi 0, qs [], .nil, .nil], some [qi v15, qi v16, qs v17, .row 2, .row 3], some [qi x22.1.Kind, qi x22.1.N, qs x22.1.S, .row 4, .row 5], some [qi x23.1.Kind, qi x23.1.N, qs x23.1.S, .row 6, .row 7], some [qi x24.1.Kind, qi x24.1.N, qs x24.1.S, .row 8, .row 9]], [rr 1 eS v18 true, rr 1 eS x13 true, rr 1 eS v19 true, rr 5 eR_Node v20 true, rr 1 eS x22.1.Keys true, rr 5 eR_Node x22.1.Kids true, rr 1 eS x23.1.Keys true, rr 5 eR_Node x23.1.Kids true, rr 1 eS x24.1.Keys true, rr 5 eR_Node x24.1.Kids true]⟩) rfl rfl (ev_callG (al := [.ag [qi a2.Kind, qi a2.N, qs a2.S, .c (cL eS a2.Keys), .c (cL eR_Node a2.Kids)], .ag [qi a1.Kind, qi a1.N, qs a1.S, .c (cL eS a1.Keys), .c (cL eR_Node a1.Kids)], qs x21]) (ls := []) (impl_alike_ok hx38) rfl rfl rfl rfl rfl (by decide) rfl rfl rfl rfl rfl rfl) ?_; simp only [putT,st,ev,gt,hp,ofV,constT,intT,lm]
               refine WO_op rfl rfl rfl ?_; simp only [putT,st,ev,gt,hp,ofV,constT,intT,lm]
               refine WO_nil ?_
               refine W_cond rfl (fun hc => ?_) (fun hc => ?_)
               ·
                replace H1 := tr hc H1
                refine W_region ?_
                refine WO_op (x := .ag [qi x24.1.Kind, qi x24.1.N, qs x24.1.S, .row 8, .row 9]) rfl rfl rfl ?_
                refine WO_op rfl rfl rfl ?_
                refine WO_op (x := .no) (σ' := ⟨[], [some [qi a1.Kind, qi a1.N, qs a1.S, .c (cL eS a1.Keys), .c (cL eR_Node a1.Kids)], some [qi a2.Kind, qi a2.N, qs a2.S, .c (cL eS a2.Keys), .c (cL eR_Node a2.Kids)], some [qi a3.Kind, qi a3.N, qs a3.S, .c (cL eS a3.Keys), .c (cL eR_Node a3.Kids)], some [qi 0, qi 0, qs [], .nil, .nil], some [qi v15, qi v16, qs v17, .row 2, .row 3], some [qi x22.1.Kind, qi x22.1.N, qs x22.1.S, .row 4, .row 5], some [qi x24.1.Kind, qi x24.1.N, qs x24.1.S, .row 8, .row 9], some [qi x24.1.Kind, qi x24.1.N, qs x24.1.S, .row 8, .row 9]], [rr 1 eS v18 true, rr 1 eS x13 true, rr 1 eS v19 true, rr 5 eR_Node v20 true, rr 1 eS x22.1.Keys true, rr 5 eR_Node x22.1.Kids true, rr 1 eS x23.1.Keys true, rr 5 eR_Node x23.1.Kids true, rr 1 eS x24.1.Keys true, rr 5 eR_Node x24.1.Kids true]⟩) rfl rfl rfl ?_
                refine WO_op rfl rfl rfl ?_; simp only [putT,st,ev,gt,hp,ofV,constT,intT,lm]
                refine WO_nil (W_seq (W_region ?_))
                refine WO_op rfl rfl rfl ?_; simp only [putT,st,ev,gt,hp,ofV,constT,intT,lm]
                refine WO_nil ?_
                refine W_cond rfl (fun hc => ?_) (fun hc => ?_)
                ·
                 replace H1 := tr hc H1
                 refine W_region ?_
                 refine WO_op (x := .ag [qi v15, qi v16, qs v17, .row 2, .row 3]) rfl rfl rfl ?_
                 refine WO_op rfl rfl rfl ?_
                 refine WO_op (x := .ag [qi x24.1.Kind, qi x24.1.N, qs x24.1.S, .row 8, .row 9]) rfl rfl rfl ?_; simp only [putT,st,ev,gt,hp,ofV,constT,intT,lm]
                 obtain ⟨x39, hx39, H1⟩ := bnd H1
                 refine WO_op (x := .ag [qi x39.Kind, qi x39.N, qs x39.S, .row 10, .row 11]) (σ' := ⟨[], [some [qi a1.Kind, qi a1.N, qs a1.S, .c (cL eS a1.Keys), .c (cL eR_Node a1.Kids)], some [qi a2.Kind, qi a2.N, qs a2.S, .c (cL eS a2.Keys), .c (cL eR_Node a2.Kids)], some [qi a3.Kind, qi a3.N, qs a3.S, .c (cL eS a3.Keys), .c (cL eR_Node a3.Kids)], some [qi 0, qi 0, qs [], .nil, .nil], some [qi v15, qi v16, qs v17, .row 2, .row 3], some [qi x22.1.Kind, qi x22.1.N, qs x22.1.S, .row 4, .row 5], some [qi x24.1.Kind, qi x24.1.N, qs x24.1.S, .row 8, .row 9], some [qi x24.1.Kind, qi x24.1.N, qs x24.1.S, .row 8, .row 9]], [rr 1 eS v18 true, rr 1 eS x13 true, rr 1 eS v19 false, rr 5 eR_Node v20 false, rr 1 eS x22.1.Keys true, rr 5 eR_Node x22.1.Kids true, rr 1 eS x23.1.Keys true, rr 5 eR_Node x23.1.Kids true, rr 1 eS x24.1.Keys false, rr 5 eR_Node x24.1.Kids false, rr 1 eS x39.Keys true, rr 5 eR_Node x39.Kids true]⟩) rfl rfl (ev_callG (al := [.ag [qi v15, qi v16, qs v17, .row 2, .row 3], qs x21, .ag [qi x24.1.Kind, qi x24.1.N, qs x24.1.S, .row 8, .row 9]]) (ls := []) (impl_Set_ok hx39) rfl rfl rfl rfl rfl (by decide) rfl rfl rfl rfl rfl rfl) ?_; simp only [putT,st,ev,gt,hp,ofV,constT,intT,lm]
                 refine WO_op (x := .no) (σ' := ⟨[], [some [qi a1.Kind, qi a1.N, qs a1.S, .c (cL eS a1.Keys), .c (cL eR_Node a1.Kids)], some [qi a2.Kind, qi a2.N, qs a2.S, .c (cL eS a2.Keys), .c (cL eR_Node a2.Kids)], some [qi a3.Kind, qi a3.N, qs a3.S, .c (cL eS a3.Keys), .c (cL eR_Node a3.Kids)], some [qi 0, qi 0, qs [], .nil, .nil], some [qi x39.Kind, qi x39.N, qs x39.S, .row 10, .row 11], some [qi x22.1.Kind, qi x22.1.N, qs x22.1.S, .row 4, .row 5], some [qi x24.1.Kind, qi x24.1.N, qs x24.1.S, .row 8, .row 9], some [qi x24.1.Kind, qi x24.1.N, qs x24.1.S, .row 8, .row 9]], [rr 1 eS v18 true, rr 1 eS x13 true, rr 1 eS v19 false, rr 5 eR_Node v20 false, rr 1 eS x22.1.Keys true, rr 5 eR_Node x22.1.Kids true, rr 1 eS x23.1.Keys true, rr 5 eR_Node x23.1.Kids true, rr 1 eS x24.1.Keys false, rr 5 eR_Node x24.1.Kids false, rr 1 eS x39.Keys true, rr 5 eR_Node x39.Kids true]⟩) rfl rfl rfl ?_; simp only [putT,st,ev,gt,hp,ofV,constT,intT,lm]
                 refine WO_nil (W_region ?_)
                 iterate 2 (refine WO_op rfl rfl rfl ?_; simp only [putT,st,ev,gt,hp,ofV,constT,intT,lm])
                 refine WO_nil ?_
                 exact hW1 _ _ ((IH1 _ _ _ _ _ _ _ _ H1 rfl).2) (le_intro [0, 1, 2, 3, 4] [0, 1, 10, 11] (by decide) (by decide) rfl (by simp [leS, leT, leA, gt]) (by simp [leB, leT, leA]) (by simp [leR]))
                ·
                 replace H1 := fl hc H1
                 refine W_skip ?_
                 refine W_region ?_
                 iterate 2 (refine WO_op rfl rfl rfl ?_; simp only [putT,st,ev,gt,hp,ofV,constT,intT,lm])
                 refine WO_nil ?_
                 exact hW1 _ _ ((IH1 _ _ _ _ _ _ _ _ H1 rfl).2) (le_intro [0, 1, 2, 3, 4] [0, 1, 2, 3] (by decide) (by decide) rfl (by simp [leS, leT, leA, gt]) (by simp [leB, leT, leA]) (by simp [leR]))
               ·
                replace H1 := fl hc H1
                refine W_region ?_
                iterate 2 (refine WO_op rfl rfl rfl ?_; simp only [putT,st,ev,gt,hp,ofV,constT,intT,lm])
                refine WO_op (x := .row 10) (σ' := ⟨[], [some [qi a1.Kind, qi a1.N, qs a1.S, .c (cL eS a1.Keys), .c (cL eR_Node a1.Kids)], some [qi a2.Kind, qi a2.N, qs a2.S, .c (cL eS a2.Keys), .c (cL eR_Node a2.Kids)], some [qi a3.Kind, qi a3.N, qs a3.S, .c (cL eS a3.Keys), .c (cL eR_Node a3.Kids)], some [qi 0, qi 0, qs [], .nil, .nil], some [qi v15, qi v16, qs v17, .row 2, .row 3], some [qi x22.1.Kind, qi x22.1.N, qs x22.1.S, .row 4, .row 5], some [qi x23.1.Kind, qi x23.1.N, qs x23.1.S, .row 6, .row 7], some [qi x24.1.Kind, qi x24.1.N, qs x24.1.S, .row 8, .row 9]], [rr 1 eS v18 true, rr 1 eS x13 true, rr 1 eS v19 true, rr 5 eR_Node v20 true, rr 1 eS x22.1.Keys true, rr 5 eR_Node x22.1.Kids true, rr 1 eS x23.1.Keys true, rr 5 eR_Node x23.1.Kids true, rr 1 eS x24.1.Keys true, rr 5 eR_Node x24.1.Kids true, rr 1 eS ([x21] : List Str) true]⟩) rfl rfl (ev_bs ([x21] : List Str) eS rfl rfl rfl rfl) ?_; simp only [putT,st,ev,gt,hp,ofV,constT,intT,lm]
                obtain ⟨m40, hm40, H1⟩ := bnd H1
                refine WO_op (x := .row 11) (σ' := ⟨[], [some [qi a1.Kind, qi a1.N, qs a1.S, .c (cL eS a1.Keys), .c (cL eR_Node a1.Kids)], some [qi a2.Kind, qi a2.N, qs a2.S, .c (cL eS a2.Keys), .c (cL eR_Node a2.Kids)], some [qi a3.Kind, qi a3.N, qs a3.S, .c (cL eS a3.Keys), .c (cL eR_Node a3.Kids)], some [qi 0, qi 0, qs [], .nil, .nil], some [qi v15, qi v16, qs v17, .row 2, .row 3], some [qi x22.1.Kind, qi x22.1.N, qs x22.1.S, .row 4, .row 5], some [qi x23.1.Kind, qi x23.1.N, qs x23.1.S, .row 6, .row 7], some [qi x24.1.Kind, qi x24.1.N, qs x24.1.S, .row 8, .row 9]], [none, rr 1 eS x13 true, rr 1 eS v19 true, rr 5 eR_Node v20 true, rr 1 eS x22.1.Keys true, rr 5 eR_Node x22.1.Kids true, rr 1 eS x23.1.Keys true, rr 5 eR_Node x23.1.Kids true, rr 1 eS x24.1.Keys true, rr 5 eR_Node x24.1.Kids true, rr 1 eS ([x21] : List Str) true, rr 1 eS m40 true]⟩) rfl rfl (ev_app (en := eS) hm40 rfl rfl rfl rfl (Or.inl rfl) rfl rfl rfl rfl rfl rfl rfl rfl rfl rfl rfl (fun _ => rfl) rfl (Or.inr rfl) rfl) ?_; simp only [putT,st,ev,gt,hp,ofV,constT,intT,lm]
                refine WO_op rfl rfl rfl ?_; simp only [putT,st,ev,gt,hp,ofV,constT,intT,lm]
                refine WO_nil (W_seq (W_region ?_))
                refine WO_op rfl rfl rfl ?_; simp only [putT,st,ev,gt,hp,ofV,constT,intT,lm]
                refine WO_nil ?_
                refine W_cond rfl (fun hc => ?_) (fun hc => ?_)
                ·
                 replace H1 := tr hc H1
                 refine W_region ?_
                 refine WO_op (x := .ag [qi v15, qi v16, qs v17, .row 2, .row 3]) rfl rfl rfl ?_
                 refine WO_op rfl rfl rfl ?_
                 refine WO_op (x := .ag [qi x23.1.Kind, qi x23.1.N, qs x23.1.S, .row 6, .row 7]) rfl rfl rfl ?_; simp only [putT,st,ev,gt,hp,ofV,constT,intT,lm]
                 obtain ⟨x41, hx41, H1⟩ := bnd H1
                 refine WO_op (x := .ag [qi x41.Kind, qi x41.N, qs x41.S, .row 12, .row 13]) (σ' := ⟨[], [some [qi a1.Kind, qi a1.N, qs a1.S, .c (cL eS a1.Keys), .c (cL eR_Node a1.Kids)], some [qi a2.Kind, qi a2.N, qs a2.S, .c (cL eS a2.Keys), .c (cL eR_Node a2.Kids)], some [qi a3.Kind, qi a3.N, qs a3.S, .c (cL eS a3.Keys), .c (cL eR_Node a3.Kids)], some [qi 0, qi 0, qs [], .nil, .nil], some [qi v15, qi v16, qs v17, .row 2, .row 3], some [qi x22.1.Kind, qi x22.1.N, qs x22.1.S, .row 4, .row 5], some [qi x23.1.Kind, qi x23.1.N, qs x23.1.S, .row 6, .row 7], some [qi x24.1.Kind, qi x24.1.N, qs x24.1.S, .row 8, .row 9]], [none, rr 1 eS x13 true, rr 1 eS v19 false, rr 5 eR_Node v20 false, rr 1 eS x22.1.Keys true, rr 5 eR_Node x22.1.Kids true, rr 1 eS x23.1.Keys false, rr 5 eR_Node x23.1.Kids false, rr 1 eS x24.1.Keys true, rr 5 eR_Node x24.1.Kids true, rr 1 eS ([x21] : List Str) true, rr 1 eS m40 true, rr 1 eS x41.Keys true, rr 5 eR_Node x41.Kids true]⟩) rfl rfl (ev_callG (al := [.ag [qi v15, qi v16, qs v17, .row 2, .row 3], qs x21, .ag [qi x23.1.Kind, qi x23.1.N, qs x23.1.S, .row 6, .row 7]]) (ls := []) (impl_Set_ok hx41) rfl rfl rfl rfl rfl (by decide) rfl rfl rfl rfl rfl rfl) ?_; simp only [putT,st,ev,gt,hp,ofV,constT,intT,lm]
                 refine WO_op (x := .no) (σ' := ⟨[], [some [qi a1.Kind, qi a1.N, qs a1.S, .c (cL eS a1.Keys), .c (cL eR_Node a1.Kids)], some [qi a2.Kind, qi a2.N, qs a2.S, .c (cL eS a2.Keys), .c (cL eR_Node a2.Kids)], some [qi a3.Kind, qi a3.N, qs a3.S, .c (cL eS a3.Keys), .c (cL eR_Node a3.Kids)], some [qi 0, qi 0, qs [], .nil, .nil], some [qi x41.Kind, qi x41.N, qs x41.S, .row 12, .row 13], some [qi x22.1.Kind, qi x22.1.N, qs x22.1.S, .row 4, .row 5], some [qi x23.1.Kind, qi x23.1.N, qs x23.1.S, .row 6, .row 7], some [qi x24.1.Kind, qi x24.1.N, qs x24.1.S, .row 8, .row 9]], [none, rr 1 eS x13 true, rr 1 eS v19 false, rr 5 eR_Node v20 false, rr 1 eS x22.1.Keys true, rr 5 eR_Node x22.1.Kids true, rr 1 eS x23.1.Keys false, rr 5 eR_Node x23.1.Kids false, rr 1 eS x24.1.Keys true, rr 5 eR_Node x24.1.Kids true, rr 1 eS ([x21] : List Str) true, rr 1 eS m40 true, rr 1 eS x41.Keys true, rr 5 eR_Node x41.Kids true]⟩) rfl rfl rfl ?_; simp only [putT,st,ev,gt,hp,ofV,constT,intT,lm]
                 refine WO_nil (W_region ?_)
                 iterate 2 (refine WO_op rfl rfl rfl ?_; simp only [putT,st,ev,gt,hp,ofV,constT,intT,lm])
                 refine WO_nil ?_
                 exact hW1 _ _ ((IH1 _ _ _ _ _ _ _ _ H1 rfl).2) (le_intro [0, 1, 2, 3, 4] [11, 1, 12, 13] (by decide) (by decide) rfl (by simp [leS, leT, leA, gt]) (by simp [leB, leT, leA]) (by simp [leR]))
                ·
                 replace H1 := fl hc H1
                 refine W_skip ?_
                 refine W_region ?_
                 iterate 2 (refine WO_op rfl rfl rfl ?_; simp only [putT,st,ev,gt,hp,ofV,constT,intT,lm])
                 refine WO_nil ?_
                 exact hW1 _ _ ((IH1 _ _ _ _ _ _ _ _ H1 rfl).2) (le_intro [0, 1, 2, 3, 4] [11, 1, 2, 3] (by decide) (by decide) rfl (by simp [leS, leT, leA, gt]) (by simp [leB, leT, leA]) (by simp [leR]))
           ·
            replace H1 := fl hc H1
            refine WO_skip rfl rfl ?_
            refine WO_op (x := qb false) rfl rfl rfl ?_
            refine WO_op rfl rfl rfl ?_; simp only [putT,st,ev,gt,hp,ofV,constT,intT,lm]
            refine WO_nil ?_
            refine W_cond (t := false) rfl (fun h => by cases h) (fun _ => ?_)
            refine W_seq (W_region ?_)
            refine WO_op (x := .ag [qi a3.Kind, qi a3.N, qs a3.S, .c (cL eS a3.Keys), .c (cL eR_Node a3.Kids)]) rfl rfl rfl ?_
            refine WO_op (x := .ag [qi a1.Kind, qi a1.N, qs a1.S, .c (cL eS a1.Keys), .c (cL eR_Node a1.Kids)]) rfl rfl rfl ?_
            refine WO_op rfl rfl rfl ?_; simp only [putT,st,ev,gt,hp,ofV,constT,intT,lm]
            obtain ⟨x42, hx42, H1⟩ := bnd H1
            refine WO_op (x := qb x42) (σ' := ⟨[], [some [qi a1.Kind, qi a1.N, qs a1.S, .c (cL eS a1.Keys), .c (cL eR_Node a1.Kids)], some [qi a2.Kind, qi a2.N, qs a2.S, .c (cL eS a2.Keys), .c (cL eR_Node a2.Kids)], some [qi a3.Kind, qi a3.N, qs a3.S, .c (cL eS a3.Keys), .c (cL eR_Node a3.Kids)], some [qi 0, qi 0, qs [], .nil, .nil], some [qi v15, qi v16, qs v17, .row 2, .row 3], some [qi x22.1.Kind, qi x22.1.N, qs x22.1.S, .row 4, .row 5], some [qi x23.1.Kind, qi x23.1.N, qs x23.1.S, .row 6, .row 7], some [qi x24.1.Kind, qi x24.1.N, qs x24.1.S, .row 8, .row 9]], [rr 1 eS v18 true, rr 1 eS x13 true, rr 1 eS v19 true, rr 5 eR_Node v20 true, rr 1 eS x22.1.Keys true, rr 5 eR_Node x22.1.Kids true, rr 1 eS x23.1.Keys true, rr 5 eR_Node x23.1.Kids true, rr 1 eS x24.1.Keys true, rr 5 eR_Node x24.1.Kids true]⟩) rfl rfl (ev_callG (al := [.ag [qi a3.Kind, qi a3.N, qs a3.S, .c (cL eS a3.Keys), .c (cL eR_Node a3.Kids)], .ag [qi a1.Kind, qi a1.N, qs a1.S, .c (cL eS a1.Keys), .c (cL eR_Node a1.Kids)], qs x21]) (ls := []) (impl_alike_ok hx42) rfl rfl rfl rfl rfl (by decide) rfl rfl rfl rfl rfl rfl) ?_; simp only [putT,st,ev,gt,hp,ofV,constT,intT,lm]
            refine WO_op rfl rfl rfl ?_; simp only [putT,st,ev,gt,hp,ofV,constT,intT,lm]
            refine WO_if rfl rfl rfl (fun hc => ?_) (fun hc => ?_)
            ·
             replace H1 := tr hc H1
             simp only [putT,st,ev,gt,hp,ofV,constT,intT,lm]
             iterate 4 refine WO_skip rfl rfl ?_
             refine WO_op (x := qb true) rfl rfl rfl ?_
             refine WO_op rfl rfl rfl ?_; simp only [putT,st,ev,gt,hp,ofV,constT,intT,lm]
             refine WO_nil ?_
             refine W_cond (t := true) rfl (fun _ => ?_) (fun h => by cases h)
             refine W_skip ?_
             refine W_seq (W_region ?_)
             refine WO_op rfl rfl rfl ?_; simp only [putT,st,ev,gt,hp,ofV,constT,intT,lm]
             refine WO_nil ?_
             refine W_cond rfl (fun hc => ?_) (fun hc => ?_)
             ·
              replace H1 := tr hc H1
              refine W_region ?_
              refine WO_op (x := .ag [qi v15, qi v16, qs v17, .row 2, .row 3]) rfl rfl rfl ?_
              refine WO_op rfl rfl rfl ?_
              refine WO_op (x := .ag [qi x23.1.Kind, qi x23.1.N, qs x23.1.S, .row 6, .row 7]) rfl rfl rfl ?_; simp only [putT,st,ev,gt,hp,ofV,constT,intT,lm]
              obtain ⟨x43, hx43, H1⟩ := bnd H1
              refine WO_op (x := .ag [qi x43.Kind, qi x43.N, qs x43.S, .row 10, .row 11]) (σ' := ⟨[], [some [qi a1.Kind, qi a1.N, qs a1.S, .c (cL eS a1.Keys), .c (cL eR_Node a1.Kids)], some [qi a2.Kind, qi a2.N, qs a2.S, .c (cL eS a2.Keys), .c (cL eR_Node a2.Kids)], some [qi a3.Kind, qi a3.N, qs a3.S, .c (cL eS a3.Keys), .c (cL eR_Node a3.Kids)], some [qi 0, qi 0, qs [], .nil, .nil], some [qi v15, qi v16, qs v17, .row 2, .row 3], some [qi x22.1.Kind, qi x22.1.N, qs x22.1.S, .row 4, .row 5], some [qi x23.1.Kind, qi x23.1.N, qs x23.1.S, .row 6, .row 7], some [qi x24.1.Kind, qi x24.1.N, qs x24.1.S, .row 8, .row 9]], [rr 1 eS v18 true, rr 1 eS x13 true, rr 1 eS v19 false, rr 5 eR_Node v20 false, rr 1 eS x22.1.Keys true, rr 5 eR_Node x22.1.Kids true, rr 1 eS x23.1.Keys false, rr 5 eR_Node x23.1.Kids false, rr 1 eS x24.1.Keys true, rr 5 eR_Node x24.1.Kids true, rr 1 eS x43.Keys true, rr 5 eR_Node x43.Kids true]⟩) rfl rfl (ev_callG (al := [.ag [qi v15, qi v16, qs v17, .row 2, .row 3], qs x21, .ag [qi x23.1.Kind, qi x23.1.N, qs x23.1.S, .row 6, .row 7]]) (ls := []) (impl_Set_ok hx43) rfl rfl rfl rfl rfl (by decide) rfl rfl rfl rfl rfl rfl) ?_; simp only [putT,st,ev,gt,hp,ofV,constT,intT,lm]
              refine WO_op (x := .no) (σ' := ⟨[], [some [qi a1.Kind, qi a1.N, qs a1.S, .c (cL eS a1.Keys), .c (cL eR_Node a1.Kids)], some [qi a2.Kind, qi a2.N, qs a2.S, .c (cL eS a2.Keys), .c (cL eR_Node a2.Kids)], some [qi a3.Kind, qi a3.N, qs a3.S, .c (cL eS a3.Keys), .c (cL eR_Node a3.Kids)], some [qi 0, qi 0, qs [], .nil, .nil], some [qi x43.Kind, qi x43.N, qs x43.S, .row 10, .row 11], some [qi x22.1.Kind, qi x22.1.N, qs x22.1.S, .row 4, .row 5], some [qi x23.1.Kind, qi x23.1.N, qs x23.1.S, .row 6, .row 7], some [qi x24.1.Kind, qi x24.1.N, qs x24.1.S, .row 8, .row 9]], [rr 1 eS v18 true, rr 1 eS x13 true, rr 1 eS v19 false, rr 5 eR_Node v20 false, rr 1 eS x22.1.Keys true, rr 5 eR_Node x22.1.Kids true, rr 1 eS x23.1.Keys false, rr 5 eR_Node x23.1.Kids false, rr 1 eS x24.1.Keys true, rr 5 eR_Node x24.1.Kids true, rr 1 eS x43.Keys true, rr 5 eR_Node x43.Kids true]⟩) rfl rfl rfl ?_; simp only [putT,st,ev,gt,hp,ofV,constT,intT,lm]
              refine WO_nil (W_region ?_)
              iterate 2 (refine WO_op rfl rfl rfl ?_; simp only [putT,st,ev,gt,hp,ofV,constT,intT,lm])
              refine WO_nil ?_
              exact hW1 _ _ ((IH1 _ _ _ _ _ _ _ _ H1 rfl).2) (le_intro [0, 1, 2, 3, 4] [0, 1, 10, 11] (by decide) (by decide) rfl (by simp [leS, leT, leA, gt]) (by simp [leB, leT, leA]) (by simp [leR]))
             ·
              replace H1 := fl hc H1
              refine W_skip ?_
              refine W_region ?_
              iterate 2 (refine WO_op rfl rfl rfl ?_; simp only [putT,st,ev,gt,hp,ofV,constT,intT,lm])
              refine WO_nil ?_
              exact hW1 _ _ ((IH1 _ _ _ _ _ _ _ _ H1 rfl).2) (le_intro [0, 1, 2, 3, 4] [0, 1, 2, 3] (by decide) (by decide) rfl (by simp [leS, leT, leA, gt]) (by simp [leB, leT, leA]) (by simp [leR]))
            ·
             replace H1 := fl hc H1
             refine WO_want (x := .ag [qi a2.Kind, qi a2.N, qs a2.S, .c (cL eS a2.Keys), .c (cL eR_Node a2.Kids)]) rfl rfl rfl ?_
             refine WO_want (x := .ag [qi a3.Kind, qi a3.N, qs a3.S, .c (cL eS a3.Keys), .c (cL eR_Node a3.Kids)]) rfl rfl rfl ?_
             refine WO_want rfl rfl rfl ?_; simp only [putT,st,ev,gt,hp,ofV,constT,intT,lm]
             obtain ⟨x44, hx44, H1⟩ := bnd H1
             refine WO_want (x := qb x44) (σ' := ⟨[], [some [qi a1.Kind, qi a1.N, qs a1.S, .c (cL eS a1.Keys), .c (cL eR_Node a1.Kids)], some [qi a2.Kind, qi a2.N, qs a2.S, .c (cL eS a2.Keys), .c (cL eR_Node a2.Kids)], some [qi a3.Kind, qi a3.N, qs a3.S, .c (cL eS a3.Keys), .c (cL eR_Node a3.Kids)], some [qi 0, qi 0, qs [], .nil, .nil], some [qi v15, qi v16, qs v17, .row 2, .row 3], some [qi x22.1.Kind, qi x22.1.N, qs x22.1.S, .row 4, .row 5], some [qi x23.1.Kind, qi x23.1.N, qs x23.1.S, .row 6, .row 7], some [qi x24.1.Kind, qi x24.1.N, qs x24.1.S, .row 8, .row 9]], [rr 1 eS v18 true, rr 1 eS x13 true, rr 1 eS v19 true, rr 5 eR_Node v20 true, rr 1 eS x22.1.Keys true, rr 5 eR_Node x22.1.Kids true, rr 1 eS x23.1.Keys true, rr 5 eR_Node x23.1.Kids true, rr 1 eS x24.1.Keys true, rr 5 eR_Node x24.1.Kids true]⟩) rfl rfl (ev_callG (al := [.ag [qi a2.Kind, qi a2.N, qs a2.S, .c (cL eS a2.Keys), .c (cL eR_Node a2.Kids)], .ag [qi a3.Kind, qi a3.N, qs a3.S, .c (cL eS a3.Keys), .c (cL eR_Node a3.Kids)], qs x21]) (ls := []) (impl_alike_ok hx44) rfl rfl rfl rfl rfl (by decide) rfl rfl rfl rfl rfl rfl) ?_; simp only [putT,st,ev,gt,hp,ofV,constT,intT,lm]
             refine WO_op (x := qb x44) rfl rfl rfl ?_
             refine WO_op rfl rfl rfl ?_; simp only [putT,st,ev,gt,hp,ofV,constT,intT,lm]
             refine WO_nil ?_
             refine W_cond rfl (fun hc => ?_) (fun hc => ?_)
             ·
              replace H1 := tr hc H1
              refine W_skip ?_
              refine W_seq (W_region ?_)
              refine WO_op rfl rfl rfl ?_; simp only [putT,st,ev,gt,hp,ofV,constT,intT,lm]
              refine WO_nil ?_
              refine W_cond rfl (fun hc => ?_) (fun hc => ?_)
              ·
               replace H1 := tr hc H1
               refine W_region ?_
               refine WO_op (x := .ag [qi v15, qi v16, qs v17, .row 2, .row 3]) rfl rfl rfl ?_
               refine WO_op rfl rfl rfl ?_
               refine WO_op (x := .ag [qi x23.1.Kind, qi x23.1.N, qs x23.1.S, .row 6, .row 7]) rfl rfl rfl ?_; simp only [putT,st,ev,gt,hp,ofV,constT,intT,lm]
               obtain ⟨x45, hx45, H1⟩ := bnd H1
               refine WO_op (x := .ag [qi x45.Kind, qi x45.N, qs x45.S, .row 10, .row 11]) (σ' := ⟨[], [some [qi a1.Kind, qi a1.N, qs a1.S, .c (cL eS a1.Keys), .c (cL eR_Node a1.Kids)], some [qi a2.Kind, qi a2.N, qs a2.S, .c (cL eS a2.Keys), .c (cL eR_Node a2.Kids)], some [qi a3.Kind, qi a3.N, qs a3.S, .c (cL eS a3.Keys), .c (cL eR_Node a3.Kids)], some [qi 0, qi 0, qs [], .nil, .nil], some [qi v15, qi v16, qs v17, .row 2, .row 3], some [qi x22.1.Kind, qi x22.1.N, qs x22.1.S, .row 4, .row 5], some [qi x23.1.Kind, qi x23.1.N, qs x23.1.S, .row 6, .row 7], some [qi x24.1.Kind, qi x24.1.N, qs x24.1.S, .row 8, .row 9]], [rr 1 eS v18 true, rr 1 eS x13 true, rr 1 eS v19 false, rr 5 eR_Node v20 false, rr 1 eS x22.1.Keys true, rr 5 eR_Node x22.1.Kids true, rr 1 eS x23.1.Keys false, rr 5 eR_Node x23.1.Kids false, rr 1 eS x24.1.Keys true, rr 5 eR_Node x24.1.Kids true, rr 1 eS x45.Keys true, rr 5 eR_Node x45.Kids true]⟩) rfl rfl (ev_callG (al := [.ag [qi v15, qi v16, qs v17, .row 2, .row 3], qs x21, .ag [qi x23.1.Kind, qi x23.1.N, qs x23.1.S, .row 6, .row 7]]) (ls := []) (impl_Set_ok hx45) rfl rfl rfl rfl rfl (by decide) rfl rfl rfl rfl rfl rfl) ?_; simp only [putT,st,ev,gt,hp,ofV,constT,intT,lm]
               refine WO_op (x := .no) (σ' := ⟨[], [some [qi a1.Kind, qi a1.N, qs a1.S, .c (cL eS a1.Keys), .c (cL eR_Node a1.Kids)], some [qi a2.Kind, qi a2.N, qs a2.S, .c (cL eS a2.Keys), .c (cL eR_Node a2.Kids)], some [qi a3.Kind, qi a3.N, qs a3.S, .c (cL eS a3.Keys), .c (cL eR_Node a3.Kids)], some [qi 0, qi 0, qs [], .nil, .nil], some [qi x45.Kind, qi x45.N, qs x45.S, .row 10, .row 11], some [qi x22.1.Kind, qi x22.1.N, qs x22.1.S, .row 4, .row 5], some [qi x23.1.Kind, qi x23.1.N, qs x23.1.S, .row 6, .row 7], some [qi x24.1.Kind, qi x24.1.N, qs x24.1.S, .row 8, .row 9]], [rr 1 eS v18 true, rr 1 eS x13 true, rr 1 eS v19 false, rr 5 eR_Node v20 false, rr 1 eS x22.1.Keys true, rr 5 eR_Node x22.1.Kids true, rr 1 eS x23.1.Keys false, rr 5 eR_Node x23.1.Kids false, rr 1 eS x24.1.Keys true, rr 5 eR_Node x24.1.Kids true, rr 1 eS x45.Keys true, rr 5 eR_Node x45.Kids true]⟩) rfl rfl rfl ?_; simp only [putT,st,ev,gt,hp,ofV,constT,intT,lm]
               refine WO_nil (W_region ?_)
               iterate 2 (refine WO_op rfl rfl rfl ?_; simp only [putT,st,ev,gt,hp,ofV,constT,intT,lm])
               refine WO_nil ?_
               exact hW1 _ _ ((IH1 _ _ _ _ _ _ _ _ H1 rfl).2) (le_intro [0, 1, 2, 3, 4] [0, 1, 10, 11] (by decide) (by decide) rfl (by simp [leS, leT, leA, gt]) (by simp [leB, leT, leA]) (by simp [leR]))
              ·
               replace H1 := fl hc H1
               refine W_skip ?_
               refine W_region ?_
               iterate 2 (refine WO_op rfl rfl rfl ?_; simp only [putT,st,ev,gt,hp,ofV,constT,intT,lm])
               refine WO_nil ?_
               exact hW1 _ _ ((IH1 _ _ _ _ _ _ _ _ H1 rfl).2) (le_intro [0, 1, 2, 3, 4] [0, 1, 2, 3] (by decide) (by decide) rfl (by simp [leS, leT, leA, gt]) (by simp [leB, leT, leA]) (by simp [leR]))
             ·
              replace H1 := fl hc H1
              refine W_seq (W_region ?_)
              refine WO_op (x := .ag [qi a2.Kind, qi a2.N, qs a2.S, .c (cL eS a2.Keys), .c (cL eR_Node a2.Kids)]) rfl rfl rfl ?_
              refine WO_op (x := .ag [qi a1.Kind, qi a1.N, qs a1.S, .c (cL eS a1.Keys), .c (cL eR_Node a1.Kids)]) rfl rfl rfl ?_
              refine WO_op rfl rfl rfl ?_; simp only [putT,st,ev,gt,hp,ofV,constT,intT,lm]
              obtain ⟨x46, hx46, H1⟩ := bnd H1
              refine WO_op (x := qb x46) (σ' := ⟨[], [some [qi a1.Kind, qi a1.N, qs a1.S, .c (cL eS a1.Keys), .c (cL eR_Node a1.Kids)], some [qi a2.Kind, qi a2.N, qs a2.S, .c (cL eS a2.Keys), .c (cL eR_Node a2.Kids)], some [qi a3.Kind, qi a3.N, qs a3.S, .c (cL eS a3.Keys), .c (cL eR_Node a3.Kids)], some [qi 0, qi 0, qs [], .nil, .nil], some [qi v15, qi v16, qs v17, .row 2, .row 3], some [qi x22.1.Kind, qi x22.1.N, qs x22.1.S, .row 4, .row 5], some [qi x23.1.Kind, qi x23.1.N, qs x23.1.S, .row 6, .row 7], some [qi x24.1.Kind, qi x24.1.N, qs x24.1.S, .row 8, .row 9]], [rr 1 eS v18 true, rr 1 eS x13 true, rr 1 eS v19 true, rr 5 eR_Node v20 true, rr 1 eS x22.1.Keys true, rr 5 eR_Node x22.1.Kids true, rr 1 eS x23.1.Keys true, rr 5 eR_Node x23.1.Kids true, rr 1 eS x24.1.Keys true, rr 5 eR_Node x24.1.Kids true]⟩) rfl rfl (ev_callG (al := [.ag [qi a2.Kind, qi a2.N, qs a2.S, .c (cL eS a2.Keys), .c (cL eR_Node a2.Kids)], .ag [qi a1.Kind, qi a1.N, qs a1.S, .c (cL eS a1.Keys), .c (cL eR_Node a1.Kids)], qs x21]) (ls := []) (impl_alike_ok hx46) rfl rfl rfl rfl rfl (by decide) rfl rfl rfl rfl rfl rfl) ?_; simp only [putT,st,ev,gt,hp,ofV,constT,intT,lm]
              refine WO_op rfl rfl rfl ?_; simp only [putT,st,ev,gt,hp,ofV,constT,intT,lm]
              refine WO_nil ?_
              refine W_cond rfl (fun hc => ?_) (fun hc => ?_)
              ·
               replace H1 := tr hc H1
               refine W_region ?_
               refine WO_op (x := .ag [qi x24.1.Kind, qi x24.1.N, qs x24.1.S, .row 8, .row 9]) rfl rfl rfl ?_
               refine WO_op rfl rfl rfl ?_
               refine WO_op (x := .no) (σ' := ⟨[], [some [qi a1.Kind, qi a1.N, qs a1.S, .c (cL eS a1.Keys), .c (cL eR_Node a1.Kids)], some [qi a2.Kind, qi a2.N, qs a2.S, .c (cL eS a2.Keys), .c (cL eR_Node a2.Kids)], some [qi a3.Kind, qi a3.N, qs a3.S, .c (cL eS a3.Keys), .c (cL eR_Node a3.Kids)], some [qi 0, qi 0, qs [], .nil, .nil], some [qi v15, qi v16, qs v17, .row 2, .row 3], some [qi x22.1.Kind, qi x22.1.N, qs x22.1.S, .row 4, .row 5], some [qi x24.1.Kind, qi x24.1.N, qs x24.1.S, .row 8, .row 9], some [qi x24.1.Kind, qi x24.1.N, qs x24.1.S, .row 8, .row 9]], [rr 1 eS v18 true, rr 1 eS x13 true, rr 1 eS v19 true, rr 5 eR_Node v20 true, rr 1 eS x22.1.Keys true, rr 5 eR_Node x22.1.Kids true, rr 1 eS x23.1.Keys true, rr 5 eR_Node x23.1.Kids true, rr 1 eS x24.1.Keys true, rr 5 eR_Node x24.1.Kids true]⟩) rfl rfl rfl ?_
               refine WO_op rfl rfl rfl ?_; simp only [putT,st,ev,gt,hp,ofV,constT,intT,lm]
               refine WO_nil (W_seq (W_region ?_))
               refine WO_op rfl rfl rfl ?_; simp only [putT,st,ev,gt,hp,ofV,constT,intT,lm]
               refine WO_nil ?_
               refine W_cond rfl (fun hc => ?_) (fun hc => ?_)
               ·
                replace H1 := tr hc H1
                refine W_region ?_
                refine WO_op (x := .ag [qi v15, qi v16, qs v17, .row 2, .row 3]) rfl rfl rfl ?_
                refine WO_op rfl rfl rfl ?_
                refine WO_op (x := .ag [qi x24.1.Kind, qi x24.1.N, qs x24.1.S, .row 8, .row 9]) rfl rfl rfl ?_; simp only [putT,st,ev,gt,hp,ofV,constT,intT,lm]
                obtain ⟨x47, hx47, H1⟩ := bnd H1
                refine WO_op (x := .ag [qi x47.Kind, qi x47.N, qs x47.S, .row 10, .row 11]) (σ' := ⟨[], [some [qi a1.Kind, qi a1.N, qs a1.S, .c (cL eS a1.Keys), .c (cL eR_Node a1.Kids)], some [qi a2.Kind, qi a2.N, qs a2.S, .c (cL eS a2.Keys), .c (cL eR_Node a2.Kids)], some [qi a3.Kind, qi a3.N, qs a3.S, .c (cL eS a3.Keys), .c (cL eR_Node a3.Kids)], some [qi 0, qi 0, qs [], .nil, .nil], some [qi v15, qi v16, qs v17, .row 2, .row 3], some [qi x22.1.Kind, qi x22.1.N, qs x22.1.S, .row 4, .row 5], some [qi x24.1.Kind, qi x24.1.N, qs x24.1.S, .row 8, .row 9], some [qi x24.1.Kind, qi x24.1.N, qs x24.1.S, .row 8, .row 9]], [rr 1 eS v18 true, rr 1 eS x13 true, rr 1 eS v19 false, rr 5 eR_Node v20 false, rr 1 eS x22.1.Keys true, rr 5 eR_Node x22.1.Kids true, rr 1 eS x23.1.Keys true, rr 5 eR_Node x23.1.Kids true, rr 1 eS x24.1.Keys false, rr 5 eR_Node x24.1.Kids false, rr 1 eS x47.Keys true, rr 5 eR_Node x47.Kids true]⟩) rfl rfl (ev_callG (al := [.ag [qi v15, qi v16, qs v17, .row 2, .row 3], qs x21, .ag [qi x24.1.Kind, qi x24.1.N, qs x24.1.S, .row 8, .row 9]]) (ls := []) (impl_Set_ok hx47) rfl rfl rfl rfl rfl (by decide) rfl rfl rfl rfl rfl rfl) ?_; simp only [putT,st,ev,gt,hp,ofV,constT,intT,lm]
                refine WO_op (x := .no) (σ' := ⟨[], [some [qi a1.Kind, qi a1.N, qs a1.S, .c (cL eS a1.Keys), .c (cL eR_Node a1.Kids)], some [qi a2.Kind, qi a2.N, qs a2.S, .c (cL eS a2.Keys), .c (cL eR_Node a2.Kids)], some [qi a3.Kind, qi a3.N, qs a3.S, .c (cL eS a3.Keys), .c (cL eR_Node a3.Kids)], some [qi 0, qi 0, qs [], .nil, .nil], some [qi x47.Kind, qi x47.N, qs x47.S, .row 10, .row 11], some [qi x22.1.Kind, qi x22.1.N, qs x22.1.S, .row 4, .row 5], some [qi x24.1.Kind, qi x24.1.N, qs x24.1.S, .row 8, .row 9], some [qi x24.1.Kind, qi x24.1.N, qs x24.1.S, .row 8, .row 9]], [rr 1 eS v18 true, rr 1 eS x13 true, rr 1 eS v19 false, rr 5 eR_Node v20 false, rr 1 eS x22.1.Keys true, rr 5 eR_Node x22.1.Kids true, rr 1 eS x23.1.Keys true, rr 5 eR_Node x23.1.Kids true, rr 1 eS x24.1.Keys false, rr 5 eR_Node x24.1.Kids false, rr 1 eS x47.Keys true, rr 5 eR_Node x47.Kids true]⟩) rfl rfl rfl ?_; simp only [putT,st,ev,gt,hp,ofV,constT,intT,lm]
                refine WO_nil (W_region ?_)
                iterate 2 (refine WO_op rfl rfl rfl ?_; simp only [putT,st,ev,gt,hp,ofV,constT,intT,lm])
                refine WO_nil ?_
                exact hW1 _ _ ((IH1 _ _ _ _ _ _ _ _ H1 rfl).2) (le_intro [0, 1, 2, 3, 4] [0, 1, 10, 11] (by decide) (by decide) rfl (by simp [leS, leT, leA, gt]) (by simp [leB, leT, leA]) (by simp [leR]))
               ·
                replace H1 := fl hc H1
                refine W_skip ?_
                refine W_region ?_
                iterate 2 (refine WO_op rfl rfl rfl ?_; simp only [putT,st,ev,gt,hp,ofV,constT,intT,lm])
                refine WO_nil ?_
                exact hW1 _ _ ((IH1 _ _ _ _ _ _ _ _ H1 rfl).2) (le_intro [0, 1, 2, 3, 4] [0, 1, 2, 3] (by decide) (by decide) rfl (by simp [leS, leT, leA, gt]) (by simp [leB, leT, leA]) (by simp [leR]))
              ·
               replace H1 := fl hc H1
               refine W_region ?_
               iterate 2 (refine WO_op rfl rfl rfl ?_; simp only [putT,st,ev,gt,hp,ofV,constT,intT,lm])
               refine WO_op (x := .row 10) (σ' := ⟨[], [some [qi a1.Kind, qi a1.N, qs a1.S, .c (cL eS a1.Keys), .c (cL eR_Node a1.Kids)], some [qi a2.Kind, qi a2.N, qs a2.S, .c (cL eS a2.Keys), .c (cL eR_Node a2.Kids)], some [qi a3.Kind, qi a3.N, qs a3.S, .c (cL eS a3.Keys), .c (cL eR_Node a3.Kids)], some [qi 0, qi 0, qs [], .nil, .nil], some [qi v15, qi v16, qs v17, .row 2, .row 3], some [qi x22.1.Kind, qi x22.1.N, qs x22.1.S, .row 4, .row 5], some [qi x23.1.Kind, qi x23.1.N, qs x23.1.S, .row 6, .row 7], some [qi x24.1.Kind, qi x24.1.N, qs x24.1.S, .row 8, .row 9]], [rr 1 eS v18 true, rr 1 eS x13 true, rr 1 eS v19 true, rr 5 eR_Node v20 true, rr 1 eS x22.1.Keys true, rr 5 eR_Node x22.1.Kids true, rr 1 eS x23.1.Keys true, rr 5 eR_Node x23.1.Kids true, rr 1 eS x24.1.Keys true, rr 5 eR_Node x24.1.Kids true, rr 1 eS ([x21] : List Str) true]⟩) rfl rfl (ev_bs ([x21] : List Str) eS rfl rfl rfl rfl) ?_; simp only [putT,st,ev,gt,hp,ofV,constT,intT,lm]
               obtain ⟨m48, hm48, H1⟩ := bnd H1
               refine WO_op (x := .row 11) (σ' := ⟨[], [some [qi a1.Kind, qi a1.N, qs a1.S, .c (cL eS a1.Keys), .c (cL eR_Node a1.Kids)], some [qi a2.Kind, qi a2.N, qs a2.S, .c (cL eS a2.Keys), .c (cL eR_Node a2.Kids)], some [qi a3.Kind, qi a3.N, qs a3.S, .c (cL eS a3.Keys), .c (cL eR_Node a3.Kids)], some [qi 0, qi 0, qs [], .nil, .nil], some [qi v15, qi v16, qs v17, .row 2, .row 3], some [qi x22.1.Kind, qi x22.1.N, qs x22.1.S, .row 4, .row 5], some [qi x23.1.Kind, qi x23.1.N, qs x23.1.S, .row 6, .row 7], some [qi x24.1.Kind, qi x24.1.N, qs x24.1.S, .row 8, .row 9]], [none, rr 1 eS x13 true, rr 1 eS v19 true, rr 5 eR_Node v20 true, rr 1 eS x22.1.Keys true, rr 5 eR_Node x22.1.Kids true, rr 1 eS x23.1.Keys true, rr 5 eR_Node x23.1.Kids true, rr 1 eS x24.1.Keys true, rr 5 eR_Node x24.1.Kids true, rr 1 eS ([x21] : List Str) true, rr 1 eS m48 true]⟩) rfl rfl (ev_app (en := eS) hm48 rfl rfl rfl rfl (Or.inl rfl) rfl rfl rfl rfl rfl rfl rfl rfl rfl rfl rfl (fun _ => rfl) rfl (Or.inr rfl) rfl) ?_; simp only [putT,st,ev,gt,hp,ofV,constT,intT,lm]
               refine WO_op rfl rfl rfl ?_; simp only [putT,st,ev,gt,hp,ofV,constT,intT,lm]
               refine WO_nil (W_seq (W_region ?_))
               refine WO_op rfl rfl rfl ?_; simp only [putT,st,ev,gt,hp,ofV,constT,intT,lm]
               refine WO_nil ?_
               refine W_cond rfl (fun hc => ?_) (fun hc => ?_)
               ·
                replace H1 := tr hc H1
                refine W_region ?_
                refine WO_op (x := .ag [qi v15, qi v16, qs v17, .row 2, .row 3]) rfl rfl rfl ?_
                refine WO_op rfl rfl rfl ?_
                refine WO_op (x := .ag [qi x23.1.Kind, qi x23.1.N, qs x23.1.S, .row 6, .row 7]) rfl rfl rfl ?_; simp only [putT,st,ev,gt,hp,ofV,constT,intT,lm]
                obtain ⟨x49, hx49, H1⟩ := bnd H1
                refine WO_op (x := .ag [qi x49.Kind, qi x49.N, qs x49.S, .row 12, .row 13]) (σ' := ⟨[], [some [qi a1.Kind, qi a1.N, qs a1.S, .c (cL eS a1.Keys), .c (cL eR_Node a1.Kids)], some [qi a2.Kind, qi a2.N, qs a2.S, .c (cL eS a2.Keys), .c (cL eR_Node a2.Kids)], some [qi a3.Kind, qi a3.N, qs a3.S, .c (cL eS a3.Keys), .c (cL eR_Node a3.Kids)], some [qi 0, qi 0, qs [], .nil, .nil], some [qi v15, qi v16, qs v17, .row 2, .row 3], some [qi x22.1.Kind, qi x22.1.N, qs x22.1.S, .row 4, .row 5], some [qi x23.1.Kind, qi x23.1.N, qs x23.1.S, .row 6, .row 7], some [qi x24.1.Kind, qi x24.1.N, qs x24.1.S, .row 8, .row 9]], [none, rr 1 eS x13 true, rr 1 eS v19 false, rr 5 eR_Node v20 false, rr 1 eS x22.1.Keys true, rr 5 eR_Node x22.1.Kids true, rr 1 eS x23.1.Keys false, rr 5 eR_Node x23.1.Kids false, rr 1 eS x24.1.Keys true, rr 5 eR_Node x24.1.Kids true, rr 1 eS ([x21] : List Str) true, rr 1 eS m48 true, rr 1 eS x49.Keys true, rr 5 eR_Node x49.Kids true]⟩) rfl rfl (ev_callG (al := [.ag [qi v15, qi v16, qs v17, .row 2, .row 3], qs x21, .ag [qi x23.1.Kind, qi x23.1.N, qs x23.1.S, .row 6, .row 7]]) (ls := []) (impl_Set_ok hx49) rfl rfl rfl rfl rfl (by decide) rfl rfl rfl rfl rfl rfl) ?_; simp only [putT,st,ev,gt,hp,ofV,constT,intT,lm]
                refine WO_op (x := .no) (σ' := ⟨[], [some [qi a1.Kind, qi a1.N, qs a1.S, .c (cL eS a1.Keys), .c (cL eR_Node a1.Kids)], some [qi a2.Kind, qi a2.N, qs a2.S, .c (cL eS a2.Keys), .c (cL eR_Node a2.Kids)], some [qi a3.Kind, qi a3.N, qs a3.S, .c (cL eS a3.Keys), .c (cL eR_Node a3.Kids)], some [qi 0, qi 0, qs [], .nil, .nil], some [qi x49.Kind, qi x49.N, qs x49.S, .row 12, .row 13], some [qi x22.1.Kind, qi x22.1.N, qs x22.1.S, .row 4, .row 5], some [qi x23.1.Kind, qi x23.1.N, qs x23.1.S, .row 6, .row 7], some [qi x24.1.Kind, qi x24.1.N, qs x24.1.S, .row 8, .row 9]], [none, rr 1 eS x13 true, rr 1 eS v19 false, rr 5 eR_Node v20 false, rr 1 eS x22.1.Keys true, rr 5 eR_Node x22.1.Kids true, rr 1 eS x23.1.Keys false, rr 5 eR_Node x23.1.Kids false, rr 1 eS x24.1.Keys true, rr 5 eR_Node x24.1.Kids true, rr 1 eS ([x21] : List Str) true, rr 1 eS m48 true, rr 1 eS x49.Keys true, rr 5 eR_Node x49.Kids true]⟩) rfl rfl rfl ?_; simp only [putT,st,ev,gt,hp,ofV,constT,intT,lm]
                refine WO_nil (W_region ?_)
                iterate 2 (refine WO_op rfl rfl rfl ?_; simp only [putT,st,ev,gt,hp,ofV,constT,intT,lm])
                refine WO_nil ?_
                exact hW1 _ _ ((IH1 _ _ _ _ _ _ _ _ H1 rfl).2) (le_intro [0, 1, 2, 3, 4] [11, 1, 12, 13] (by decide) (by decide) rfl (by simp [leS, leT, leA, gt]) (by simp [leB, leT, leA]) (by simp [leR]))
               ·
                replace H1 := fl hc H1
                refine W_skip ?_
                refine W_region ?_
                iterate 2 (refine WO_op rfl rfl rfl ?_; simp only [putT,st,ev,gt,hp,ofV,constT,intT,lm])
                refine WO_nil ?_
                exact hW1 _ _ ((IH1 _ _ _ _ _ _ _ _ H1 rfl).2) (le_intro [0, 1, 2, 3, 4] [11, 1, 2, 3] (by decide) (by decide) rfl (by simp [leS, leT, leA, gt]) (by simp [leB, leT, leA]) (by simp [leR]))
          ·
           replace H1 := fl hc H1
           refine WO_skip rfl rfl ?_
           refine WO_op (x := qb false) rfl rfl rfl ?_
           refine WO_op rfl rfl rfl ?_; simp only [putT,st,ev,gt,hp,ofV,constT,intT,lm]
           refine WO_skip rfl rfl ?_
           refine WO_op (x := qb false) rfl rfl rfl ?_
           refine WO_op rfl rfl rfl ?_; simp only [putT,st,ev,gt,hp,ofV,constT,intT,lm]
           refine WO_nil ?_
           refine W_cond (t := false) rfl (fun h => by cases h) (fun _ => ?_)
           refine W_seq (W_region ?_)
           refine WO_op (x := .ag [qi a3.Kind, qi a3.N, qs a3.S, .c (cL eS a3.Keys), .c (cL eR_Node a3.Kids)]) rfl rfl rfl ?_
           refine WO_op (x := .ag [qi a1.Kind, qi a1.N, qs a1.S, .c (cL eS a1.Keys), .c (cL eR_Node a1.Kids)]) rfl rfl rfl ?_
           refine WO_op rfl rfl rfl ?_; simp only [putT,st,ev,gt,hp,ofV,constT,intT,lm]
           obtain ⟨x50, hx50, H1⟩ := bnd H1
           refine WO_op (x := qb x50) (σ' := ⟨[], [some [qi a1.Kind, qi a1.N, qs a1.S, .c (cL eS a1.Keys), .c (cL eR_Node a1.Kids)], some [qi a2.Kind, qi a2.N, qs a2.S, .c (cL eS a2.Keys), .c (cL eR_Node a2.Kids)], some [qi a3.Kind, qi a3.N, qs a3.S, .c (cL eS a3.Keys), .c (cL eR_Node a3.Kids)], some [qi 0, qi 0, qs [], .nil, .nil], some [qi v15, qi v16, qs v17, .row 2, .row 3], some [qi x22.1.Kind, qi x22.1.N, qs x22.1.S, .row 4, .row 5], some [qi x23.1.Kind, qi x23.1.N, qs x23.1.S, .row 6, .row 7], some [qi x24.1.Kind, qi x24.1.N, qs x24.1.S, .row 8, .row 9]], [rr 1 eS v18 true, rr 1 eS x13 true, rr 1 eS v19 true, rr 5 eR_Node v20 true, rr 1 eS x22.1.Keys true, rr 5 eR_Node x22.1.Kids true, rr 1 eS x23.1.Keys true, rr 5 eR_Node x23.1.Kids true, rr 1 eS x24.1.Keys true, rr 5 eR_Node x24.1.Kids true]⟩) rfl rfl (ev_callG (al := [.ag [qi a3.Kind, qi a3.N, qs a3.S, .c (cL eS a3.Keys), .c (cL eR_Node a3.Kids)], .ag [qi a1.Kind, qi a1.N, qs a1.S, .c (cL eS a1.Keys), .c (cL eR_Node a1.Kids)], qs x21]) (ls := []) (impl_alike_ok hx50) rfl rfl rfl rfl rfl (by decide) rfl rfl rfl rfl rfl rfl) ?_; simp only [putT,st,ev,gt,hp,ofV,constT,intT,lm]
           refine WO_op rfl rfl rfl ?_; simp only [putT,st,ev,gt,hp,ofV,constT,intT,lm]
           refine WO_if rfl rfl rfl (fun hc => ?_) (fun hc => ?_)
           ·
            replace H1 := tr hc H1
            simp only [putT,st,ev,gt,hp,ofV,constT,intT,lm]
            iterate 4 refine WO_skip rfl rfl ?_
            refine WO_op (x := qb true) rfl rfl rfl ?_
            refine WO_op rfl rfl rfl ?_; simp only [putT,st,ev,gt,hp,ofV,constT,intT,lm]
            refine WO_nil ?_
            refine W_cond (t := true) rfl (fun _ => ?_) (fun h => by cases h)
            refine W_skip ?_
            refine W_seq (W_region ?_)
            refine WO_op rfl rfl rfl ?_; simp only [putT,st,ev,gt,hp,ofV,constT,intT,lm]
            refine WO_nil ?_
            refine W_cond rfl (fun hc => ?_) (fun hc => ?_)
            ·
             replace H1 := tr hc H1
             refine W_region ?_
             refine WO_op (x := .ag [qi v15, qi v16, qs v17, .row 2, .row 3]) rfl rfl rfl ?_
             refine WO_op rfl rfl rfl ?_
             refine WO_op (x := .ag [qi x23.1.Kind, qi x23.1.N, qs x23.1.S, .row 6, .row 7]) rfl rfl rfl ?_; simp only [putT,st,ev,gt,hp,ofV,constT,intT,lm]
             obtain ⟨x51, hx51, H1⟩ := bnd H1
             refine WO_op (x := .ag [qi x51.Kind, qi x51.N, qs x51.S, .row 10, .row 11]) (σ' := ⟨[], [some [qi a1.Kind, qi a1.N, qs a1.S, .c (cL eS a1.Keys), .c (cL eR_Node a1.Kids)], some [qi a2.Kind, qi a2.N, qs a2.S, .c (cL eS a2.Keys), .c (cL eR_Node a2.Kids)], some [qi a3.Kind, qi a3.N, qs a3.S, .c (cL eS a3.Keys), .c (cL eR_Node a3.Kids)], some [qi 0, qi 0, qs [], .nil, .nil], some [qi v15, qi v16, qs v17, .row 2, .row 3], some [qi x22.1.Kind, qi x22.1.N, qs x22.1.S, .row 4, .row 5], some [qi x23.1.Kind, qi x23.1.N, qs x23.1.S, .row 6, .row 7], some [qi x24.1.Kind, qi x24.1.N, qs x24.1.S, .row 8, .row 9]], [rr 1 eS v18 true, rr 1 eS x13 true, rr 1 eS v19 false, rr 5 eR_Node v20 false, rr 1 eS x22.1.Keys true, rr 5 eR_Node x22.1.Kids true, rr 1 eS x23.1.Keys false, rr 5 eR_Node x23.1.Kids false, rr 1 eS x24.1.Keys true, rr 5 eR_Node x24.1.Kids true, rr 1 eS x51.Keys true, rr 5 eR_Node x51.Kids true]⟩) rfl rfl (ev_callG (al := [.ag [qi v15, qi v16, qs v17, .row 2, .row 3], qs x21, .ag [qi x23.1.Kind, qi x23.1.N, qs x23.1.S, .row 6, .row 7]]) (ls := []) (impl_Set_ok hx51) rfl rfl rfl rfl rfl (by decide) rfl rfl rfl rfl rfl rfl) ?_; simp only [putT,st,ev,gt,hp,ofV,constT,intT,lm]
             refine WO_op (x := .no) (σ' := ⟨[], [some [qi a1.Kind, qi a1.N, qs a1.S, .c (cL eS a1.Keys), .c (cL eR_Node a1.Kids)], some [qi a2.Kind, qi a2.N, qs a2.S, .c (cL eS a2.Keys), .c (cL eR_Node a2.Kids)], some [qi a3.Kind, qi a3.N, qs a3.S, .c (cL eS a3.Keys), .c (cL eR_Node a3.Kids)], some [qi 0, qi 0, qs [], .nil, .nil], some [qi x51.Kind, qi x51.N, qs x51.S, .row 10, .row 11], some [qi x22.1.Kind, qi x22.1.N, qs x22.1.S, .row 4, .row 5], some [qi x23.1.Kind, qi x23.1.N, qs x23.1.S, .row 6, .row 7], some [qi x24.1.Kind, qi x24.1.N, qs x24.1.S, .row 8, .row 9]], [rr 1 eS v18 true, rr 1 eS x13 true, rr 1 eS v19 false, rr 5 eR_Node v20 false, rr 1 eS x22.1.Keys true, rr 5 eR_Node x22.1.Kids true, rr 1 eS x23.1.Keys false, rr 5 eR_Node x23.1.Kids false, rr 1 eS x24.1.Keys true, rr 5 eR_Node x24.1.Kids true, rr 1 eS x51.Keys true, rr 5 eR_Node x51.Kids true]⟩) rfl rfl rfl ?_; simp only [putT,st,ev,gt,hp,ofV,constT,intT,lm]
             refine WO_nil (W_region ?_)
             iterate 2 (refine WO_op rfl rfl rfl ?_; simp only [putT,st,ev,gt,hp,ofV,constT,intT,lm])
             refine WO_nil ?_
             exact hW1 _ _ ((IH1 _ _ _ _ _ _ _ _ H1 rfl).2) (le_intro [0, 1, 2, 3, 4] [0, 1, 10, 11] (by decide) (by decide) rfl (by simp [leS, leT, leA, gt]) (by simp [leB, leT, leA]) (by simp [leR]))
            ·
             replace H1 := fl hc H1
             refine W_skip ?_
             refine W_region ?_
             iterate 2 (refine WO_op rfl rfl rfl ?_; simp only [putT,st,ev,gt,hp,ofV,constT,intT,lm])
             refine WO_nil ?_
             exact hW1 _ _ ((IH1 _ _ _ _ _ _ _ _ H1 rfl).2) (le_intro [0, 1, 2, 3, 4] [0, 1, 2, 3] (by decide) (by decide) rfl (by simp [leS, leT, leA, gt]) (by simp [leB, leT, leA]) (by simp [leR]))
           ·
            replace H1 := fl hc H1
            refine WO_want (x := .ag [qi a2.Kind, qi a2.N, qs a2.S, .c (cL eS a2.Keys), .c (cL eR_Node a2.Kids)]) rfl rfl rfl ?_
            refine WO_want (x := .ag [qi a3.Kind, qi a3.N, qs a3.S, .c (cL eS a3.Keys), .c (cL eR_Node a3.Kids)]) rfl rfl rfl ?_
            refine WO_want rfl rfl rfl ?_; simp only [putT,st,ev,gt,hp,ofV,constT,intT,lm]
            obtain ⟨x52, hx52, H1⟩ := bnd H1
            refine WO_want (x := qb x52) (σ' := ⟨[], [some [qi a1.Kind, qi a1.N, qs a1.S, .c (cL eS a1.Keys), .c (cL eR_Node a1.Kids)], some [qi a2.Kind, qi a2.N, qs a2.S, .c (cL eS a2.Keys), .c (cL eR_Node a2.Kids)], some [qi a3.Kind, qi a3.N, qs a3.S, .c (cL eS a3.Keys), .c (cL eR_Node a3.Kids)], some [qi 0, qi 0, qs [], .nil, .nil], some [qi v15, qi v16, qs v17, .row 2, .row 3], some [qi x22.1.Kind, qi x22.1.N, qs x22.1.S, .row 4, .row 5], some [qi x23.1.Kind, qi x23.1.N, qs x23.1.S, .row 6, .row 7], some [qi x24.1.Kind, qi x24.1.N, qs x24.1.S, .row 8, .row 9]], [rr 1 eS v18 true, rr 1 eS x13 true, rr 1 eS v19 true, rr 5 eR_Node v20 true, rr 1 eS x22.1.Keys true, rr 5 eR_Node x22.1.Kids true, rr 1 eS x23.1.Keys true, rr 5 eR_Node x23.1.Kids true, rr 1 eS x24.1.Keys true, rr 5 eR_Node x24.1.Kids true]⟩) rfl rfl (ev_callG (al := [.ag [qi a2.Kind, qi a2.N, qs a2.S, .c (cL eS a2.Keys), .c (cL eR_Node a2.Kids)], .ag [qi a3.Kind, qi a3.N, qs a3.S, .c (cL eS a3.Keys), .c (cL eR_Node a3.Kids)], qs x21]) (ls := []) (impl_alike_ok hx52) rfl rfl rfl rfl rfl (by decide) rfl rfl rfl rfl rfl rfl) ?_; simp only [putT,st,ev,gt,hp,ofV,constT,intT,lm]
            refine WO_op (x := qb x52) rfl rfl rfl ?_
            refine WO_op rfl rfl rfl ?_; simp only [putT,st,ev,gt,hp,ofV,constT,intT,lm]
            refine WO_nil ?_
            refine W_cond rfl (fun hc => ?_) (fun hc => ?_)
            ·
             replace H1 := tr hc H1
             refine W_skip ?_
             refine W_seq (W_region ?_)
             refine WO_op rfl rfl rfl ?_; simp only [putT,st,ev,gt,hp,ofV,constT,intT,lm]
             refine WO_nil ?_
             refine W_cond rfl (fun hc => ?_) (fun hc => ?_)
             ·
              replace H1 := tr hc H1
              refine W_region ?_
              refine WO_op (x := .ag [qi v15, qi v16, qs v17, .row 2, .row 3]) rfl rfl rfl ?_
              refine WO_op rfl rfl rfl ?_
              refine WO_op (x := .ag [qi x23.1.Kind, qi x23.1.N, qs x23.1.S, .row 6, .row 7]) rfl rfl rfl ?_; simp only [putT,st,ev,gt,hp,ofV,constT,intT,lm]
              obtain ⟨x53, hx53, H1⟩ := bnd H1
              refine WO_op (x := .ag [qi x53.Kind, qi x53.N, qs x53.S, .row 10, .row 11]) (σ' := ⟨[], [some [qi a1.Kind, qi a1.N, qs a1.S, .c (cL eS a1.Keys), .c (cL eR_Node a1.Kids)], some [qi a2.Kind, qi a2.N, qs a2.S, .c (cL eS a2.Keys), .c (cL eR_Node a2.Kids)], some [qi a3.Kind, qi a3.N, qs a3.S, .c (cL eS a3.Keys), .c (cL eR_Node a3.Kids)], some [qi 0, qi 0, qs [], .nil, .nil], some [qi v15, qi v16, qs v17, .row 2, .row 3], some [qi x22.1.Kind, qi x22.1.N, qs x22.1.S, .row 4, .row 5], some [qi x23.1.Kind, qi x23.1.N, qs x23.1.S, .row 6, .row 7], some [qi x24.1.Kind, qi x24.1.N, qs x24.1.S, .row 8, .row 9]], [rr 1 eS v18 true, rr 1 eS x13 true, rr 1 eS v19 false, rr 5 eR_Node v20 false, rr 1 eS x22.1.Keys true, rr 5 eR_Node x22.1.Kids true, rr 1 eS x23.1.Keys false, rr 5 eR_Node x23.1.Kids false, rr 1 eS x24.1.Keys true, rr 5 eR_Node x24.1.Kids true, rr 1 eS x53.Keys true, rr 5 eR_Node x53.Kids true]⟩) rfl rfl (ev_callG (al := [.ag [qi v15, qi v16, qs v17, .row 2, .row 3], qs x21, .ag [qi x23.1.Kind, qi x23.1.N, qs x23.1.S, .row 6, .row 7]]) (ls := []) (impl_Set_ok hx53) rfl rfl rfl rfl rfl (by decide) rfl rfl rfl rfl rfl rfl) ?_; simp only [putT,st,ev,gt,hp,ofV,constT,intT,lm]
              refine WO_op (x := .no) (σ' := ⟨[], [some [qi a1.Kind, qi a1.N, qs a1.S, .c (cL eS a1.Keys), .c (cL eR_Node a1.Kids)], some [qi a2.Kind, qi a2.N, qs a2.S, .c (cL eS a2.Keys), .c (cL eR_Node a2.Kids)], some [qi a3.Kind, qi a3.N, qs a3.S, .c (cL eS a3.Keys), .c (cL eR_Node a3.Kids)], some [qi 0, qi 0, qs [], .nil, .nil], some [qi x53.Kind, qi x53.N, qs x53.S, .row 10, .row 11], some [qi x22.1.Kind, qi x22.1.N, qs x22.1.S, .row 4, .row 5], some [qi x23.1.Kind, qi x23.1.N, qs x23.1.S, .row 6, .row 7], some [qi x24.1.Kind, qi x24.1.N, qs x24.1.S, .row 8, .row 9]], [rr 1 eS v18 true, rr 1 eS x13 true, rr 1 eS v19 false, rr 5 eR_Node v20 false, rr 1 eS x22.1.Keys true, rr 5 eR_Node x22.1.Kids true, rr 1 eS x23.1.Keys false, rr 5 eR_Node x23.1.Kids false, rr 1 eS x24.1.Keys true, rr 5 eR_Node x24.1.Kids true, rr 1 eS x53.Keys true, rr 5 eR_Node x53.Kids true]⟩) rfl rfl rfl ?_; simp only [putT,st,ev,gt,hp,ofV,constT,intT,lm]
              refine WO_nil (W_region ?_)
              iterate 2 (refine WO_op rfl rfl rfl ?_; simp only [putT,st,ev,gt,hp,ofV,constT,intT,lm])
              refine WO_nil ?_
              exact hW1 _ _ ((IH1 _ _ _ _ _ _ _ _ H1 rfl).2) (le_intro [0, 1, 2, 3, 4] [0, 1, 10, 11] (by decide) (by decide) rfl (by simp [leS, leT, leA, gt]) (by simp [leB, leT, leA]) (by simp [leR]))
             ·
              replace H1 := fl hc H1
              refine W_skip ?_
              refine W_region ?_
              iterate 2 (refine WO_op rfl rfl rfl ?_; simp only [putT,st,ev,gt,hp,ofV,constT,intT,lm])
              refine WO_nil ?_
              exact hW1 _ _ ((IH1 _ _ _ _ _ _ _ _ H1 rfl).2) (le_intro [0, 1, 2, 3, 4] [0, 1, 2, 3] (by decide) (by decide) rfl (by simp [leS, leT, leA, gt]) (by simp [leB, leT, leA]) (by simp [leR]))
            ·
             replace H1 := fl hc H1
             refine W_seq (W_region ?_)
             refine WO_op (x := .ag [qi a2.Kind, qi a2.N, qs a2.S, .c (cL eS a2.Keys), .c (cL eR_Node a2.Kids)]) rfl rfl rfl ?_
             refine WO_op (x := .ag [qi a1.Kind, qi a1.N, qs a1.S, .c (cL eS a1.Keys), .c (cL eR_Node a1.Kids)]) rfl rfl rfl ?_
             refine WO_op rfl rfl rfl ?_; simp only [putT,st,ev,gt,hp,ofV,constT,intT,lm]
             obtain ⟨x54, hx54, H1⟩ := bnd H1
             refine WO_op (x := qb x54) (σ' := ⟨[], [some [qi a1.Kind, qi a1.N, qs a1.S, .c (cL eS a1.Keys), .c (cL eR_Node a1.Kids)], some [qi a2.Kind, qi a2.N, qs a2.S, .c (cL eS a2.Keys), .c (cL eR_Node a2.Kids)], some [qi a3.Kind, qi a3.N, qs a3.S, .c (cL eS a3.Keys), .c (cL eR_Node a3.Kids)], some [qi 0, qi 0, qs [], .nil, .nil], some [qi v15, qi v16, qs v17, .row 2, .row 3], some [qi x22.1.Kind, qi x22.1.N, qs x22.1.S, .row 4, .row 5], some [qi x23.1.Kind, qi x23.1.N, qs x23.1.S, .row 6, .row 7], some [qi x24.1.Kind, qi x24.1.N, qs x24.1.S, .row 8, .row 9]], [rr 1 eS v18 true, rr 1 eS x13 true, rr 1 eS v19 true, rr 5 eR_Node v20 true, rr 1 eS x22.1.Keys true, rr 5 eR_Node x22.1.Kids true, rr 1 eS x23.1.Keys true, rr 5 eR_Node x23.1.Kids true, rr 1 eS x24.1.Keys true, rr 5 eR_Node x24.1.Kids true]⟩) rfl rfl (ev_callG (al := [.ag [qi a2.Kind, qi a2.N, qs a2.S, .c (cL eS a2.Keys), .c (cL eR_Node a2.Kids)], .ag [qi a1.Kind, qi a1.N, qs a1.S, .c (cL eS a1.Keys), .c (cL eR_Node a1.Kids)], qs x21]) (ls := []) (impl_alike_ok hx54) rfl rfl rfl rfl rfl (by decide) rfl rfl rfl rfl rfl rfl) ?_; simp only [putT,st,ev,gt,hp,ofV,constT,intT,lm]
             refine WO_op rfl rfl rfl ?_; simp only [putT,st,ev,gt,hp,ofV,constT,intT,lm]
             refine WO_nil ?_
             refine W_cond rfl (fun hc => ?_) (fun hc => ?_)
             ·
              replace H1 := tr hc H1
              refine W_region ?_
              refine WO_op (x := .ag [qi x24.1.Kind, qi x24.1.N, qs x24.1.S, .row 8, .row 9]) rfl rfl rfl ?_
              refine WO_op rfl rfl rfl ?_
              refine WO_op (x := .no) (σ' := ⟨[], [some [qi a1.Kind, qi a1.N, qs a1.S, .c (cL eS a1.Keys), .c (cL eR_Node a1.Kids)], some [qi a2.Kind, qi a2.N, qs a2.S, .c (cL eS a2.Keys), .c (cL eR_Node a2.Kids)], some [qi a3.Kind, qi a3.N, qs a3.S, .c (cL eS a3.Keys), .c (cL eR_Node a3.Kids)], some [qi 0, qi 0, qs [], .nil, .nil], some [qi v15, qi v16, qs v17, .row 2, .row 3], some [qi x22.1.Kind, qi x22.1.N, qs x22.1.S, .row 4, .row 5], some [qi x24.1.Kind, qi x24.1.N, qs x24.1.S, .row 8, .row 9], some [qi x24.1.Kind, qi x24.1.N, qs x24.1.S, .row 8, .row 9]], [rr 1 eS v18 true, rr 1 eS x13 true, rr 1 eS v19 true, rr 5 eR_Node v20 true, rr 1 eS x22.1.Keys true, rr 5 eR_Node x22.1.Kids true, rr 1 eS x23.1.Keys true, rr 5 eR_Node x23.1.Kids true, rr 1 eS x24.1.Keys true, rr 5 eR_Node x24.1.Kids true]⟩) rfl rfl rfl ?_
              refine WO_op rfl rfl rfl ?_; simp only [putT,st,ev,gt,hp,ofV,constT,intT,lm]
              refine WO_nil (W_seq (W_region ?_))
              refine WO_op rfl rfl rfl ?_; simp only [putT,st,ev,gt,hp,ofV,constT,intT,lm]
              refine WO_nil ?_
              refine W_cond rfl (fun hc => ?_) (fun hc => ?_)
              ·
               replace H1 := tr hc H1
               refine W_region ?_
               refine WO_op (x := .ag [qi v15, qi v16, qs v17, .row 2, .row 3]) rfl rfl rfl ?_
               refine WO_op rfl rfl rfl ?_
               refine WO_op (x := .ag [qi x24.1.Kind, qi x24.1.N, qs x24.1.S, .row 8, .row 9]) rfl rfl rfl ?_; simp only [putT,st,ev,gt,hp,ofV,constT,intT,lm]
               obtain ⟨x55, hx55, H1⟩ := bnd H1
               refine WO_op (x := .ag [qi x55.Kind, qi x55.N, qs x55.S, .row 10, .row 11]) (σ' := ⟨[], [some [qi a1.Kind, qi a1.N, qs a1.S, .c (cL eS a1.Keys), .c (cL eR_Node a1.Kids)], some [qi a2.Kind, qi a2.N, qs a2.S, .c (cL eS a2.Keys), .c (cL eR_Node a2.Kids)], some [qi a3.Kind, qi a3.N, qs a3.S, .c (cL eS a3.Keys), .c (cL eR_Node a3.Kids)], some [qi 0, qi 0, qs [], .nil, .nil], some [qi v15, qi v16, qs v17, .row 2, .row 3], some [qi x22.1.Kind, qi x22.1.N, qs x22.1.S, .row 4, .row 5], some [qi x24.1.Kind, qi x24.1.N, qs x24.1.S, .row 8, .row 9], some [qi x24.1.Kind, qi x24.1.N, qs x24.1.S, .row 8, .row 9]], [rr 1 eS v18 true, rr 1 eS x13 true, rr 1 eS v19 false, rr 5 eR_Node v20 false, rr 1 eS x22.1.Keys true, rr 5 eR_Node x22.1.Kids true, rr 1 eS x23.1.Keys true, rr 5 eR_Node x23.1.Kids true, rr 1 eS x24.1.Keys false, rr 5 eR_Node x24.1.Kids false, rr 1 eS x55.Keys true, rr 5 eR_Node x55.Kids true]⟩) rfl rfl (ev_callG (al := [.ag [qi v15, qi v16, qs v17, .row 2, .row 3], qs x21, .ag [qi x24.1.Kind, qi x24.1.N, qs x24.1.S, .row 8, .row 9]]) (ls := []) (impl_Set_ok hx55) rfl rfl rfl rfl rfl (by decide) rfl rfl rfl rfl rfl rfl) ?_; simp only [putT,st,ev,gt,hp,ofV,constT,intT,lm]
               refine WO_op (x := .no) (σ' := ⟨[], [some [qi a1.Kind, qi a1.N, qs a1.S, .c (cL eS a1.Keys), .c (cL eR_Node a1.Kids)], some [qi a2.Kind, qi a2.N, qs a2.S, .c (cL eS a2.Keys), .c (cL eR_Node a2.Kids)], some [qi a3.Kind, qi a3.N, qs a3.S, .c (cL eS a3.Keys), .c (cL eR_Node a3.Kids)], some [qi 0, qi 0, qs [], .nil, .nil], some [qi x55.Kind, qi x55.N, qs x55.S, .row 10, .row 11], some [qi x22.1.Kind, qi x22.1.N, qs x22.1.S, .row 4, .row 5], some [qi x24.1.Kind, qi x24.1.N, qs x24.1.S, .row 8, .row 9], some [qi x24.1.Kind, qi x24.1.N, qs x24.1.S, .row 8, .row 9]], [rr 1 eS v18 true, rr 1 eS x13 true, rr 1 eS v19 false, rr 5 eR_Node v20 false, rr 1 eS x22.1.Keys true, rr 5 eR_Node x22.1.Kids true, rr 1 eS x23.1.Keys true, rr 5 eR_Node x23.1.Kids true, rr 1 eS x24.1.Keys false, rr 5 eR_Node x24.1.Kids false, rr 1 eS x55.Keys true, rr 5 eR_Node x55.Kids true]⟩) rfl rfl rfl ?_; simp only [putT,st,ev,gt,hp,ofV,constT,intT,lm]
               refine WO_nil (W_region ?_)
               iterate 2 (refine WO_op rfl rfl rfl ?_; simp only [putT,st,ev,gt,hp,ofV,constT,intT,lm])
               refine WO_nil ?_
               exact hW1 _ _ ((IH1 _ _ _ _ _ _ _ _ H1 rfl).2) (le_intro [0, 1, 2, 3, 4] [0, 1, 10, 11] (by decide) (by decide) rfl (by simp [leS, leT, leA, gt]) (by simp [leB, leT, leA]) (by simp [leR]))
              ·
               replace H1 := fl hc H1
               refine W_skip ?_
               refine W_region ?_
               iterate 2 (refine WO_op rfl rfl rfl ?_; simp only [putT,st,ev,gt,hp,ofV,constT,intT,lm])
               refine WO_nil ?_
               exact hW1 _ _ ((IH1 _ _ _ _ _ _ _ _ H1 rfl).2) (le_intro [0, 1, 2, 3, 4] [0, 1, 2, 3] (by decide) (by decide) rfl (by simp [leS, leT, leA, gt]) (by simp [leB, leT, leA]) (by simp [leR]))
             ·
              replace H1 := fl hc H1
              refine W_region ?_
              iterate 2 (refine WO_op rfl rfl rfl ?_; simp only [putT,st,ev,gt,hp,ofV,constT,intT,lm])
              refine WO_op (x := .row 10) (σ' := ⟨[], [some [qi a1.Kind, qi a1.N, qs a1.S, .c (cL eS a1.Keys), .c (cL eR_Node a1.Kids)], some [qi a2.Kind, qi a2.N, qs a2.S, .c (cL eS a2.Keys), .c (cL eR_Node a2.Kids)], some [qi a3.Kind, qi a3.N, qs a3.S, .c (cL eS a3.Keys), .c (cL eR_Node a3.Kids)], some [qi 0, qi 0, qs [], .nil, .nil], some [qi v15, qi v16, qs v17, .row 2, .row 3], some [qi x22.1.Kind, qi x22.1.N, qs x22.1.S, .row 4, .row 5], some [qi x23.1.Kind, qi x23.1.N, qs x23.1.S, .row 6, .row 7], some [qi x24.1.Kind, qi x24.1.N, qs x24.1.S, .row 8, .row 9]], [rr 1 eS v18 true, rr 1 eS x13 true, rr 1 eS v19 true, rr 5 eR_Node v20 true, rr 1 eS x22.1.Keys true, rr 5 eR_Node x22.1.Kids true, rr 1 eS x23.1.Keys true, rr 5 eR_Node x23.1.Kids true, rr 1 eS x24.1.Keys true, rr 5 eR_Node x24.1.Kids true, rr 1 eS ([x21] : List Str) true]⟩) rfl rfl (ev_bs ([x21] : List Str) eS rfl rfl rfl rfl) ?_; simp only [putT,st,ev,gt,hp,ofV,constT,intT,lm]
              obtain ⟨m56, hm56, H1⟩ := bnd H1
              refine WO_op (x := .row 11) (σ' := ⟨[], [some [qi a1.Kind, qi a1.N, qs a1.S, .c (cL eS a1.Keys), .c (cL eR_Node a1.Kids)], some [qi a2.Kind, qi a2.N, qs a2.S, .c (cL eS a2.Keys), .c (cL eR_Node a2.Kids)], some [qi a3.Kind, qi a3.N, qs a3.S, .c (cL eS a3.Keys), .c (cL eR_Node a3.Kids)], some [qi 0, qi 0, qs [], .nil, .nil], some [qi v15, qi v16, qs v17, .row 2, .row 3], some [qi x22.1.Kind, qi x22.1.N, qs x22.1.S, .row 4, .row 5], some [qi x23.1.Kind, qi x23.1.N, qs x23.1.S, .row 6, .row 7], some [qi x24.1.Kind, qi x24.1.N, qs x24.1.S, .row 8, .row 9]], [none, rr 1 eS x13 true, rr 1 eS v19 true, rr 5 eR_Node v20 true, rr 1 eS x22.1.Keys true, rr 5 eR_Node x22.1.Kids true, rr 1 eS x23.1.Keys true, rr 5 eR_Node x23.1.Kids true, rr 1 eS x24.1.Keys true, rr 5 eR_Node x24.1.Kids true, rr 1 eS ([x21] : List Str) true, rr 1 eS m56 true]⟩) rfl rfl (ev_app (en := eS) hm56 rfl rfl rfl rfl (Or.inl rfl) rfl rfl rfl rfl rfl rfl rfl rfl rfl rfl rfl (fun _ => rfl) rfl (Or.inr rfl) rfl) ?_; simp only [putT,st,ev,gt,hp,ofV,constT,intT,lm]
              refine WO_op rfl rfl rfl ?_; simp only [putT,st,ev,gt,hp,ofV,constT,intT,lm]
              refine WO_nil (W_seq (W_region ?_))
              refine WO_op rfl rfl rfl ?_; simp only [putT,st,ev,gt,hp,ofV,constT,intT,lm]
              refine WO_nil ?_
              refine W_cond rfl (fun hc => ?_) (fun hc => ?_)
              ·
               replace H1 := tr hc H1
               refine W_region ?_
               refine WO_op (x := .ag [qi v15, qi v16, qs v17, .row 2, .row 3]) rfl rfl rfl ?_
               refine WO_op rfl rfl rfl ?_
               refine WO_op (x := .ag [qi x23.1.Kind, qi x23.1.N, qs x23.1.S, .row 6, .row 7]) rfl rfl rfl ?_; simp only [putT,st,ev,gt,hp,ofV,constT,intT,lm]
               obtain ⟨x57, hx57, H1⟩ := bnd H1
               refine WO_op (x := .ag [qi x57.Kind, qi x57.N, qs x57.S, .row 12, .row 13]) (σ' := ⟨[], [some [qi a1.Kind, qi a1.N, qs a1.S, .c (cL eS a1.Keys), .c (cL eR_Node a1.Kids)], some [qi a2.Kind, qi a2.N, qs a2.S, .c (cL eS a2.Keys), .c (cL eR_Node a2.Kids)], some [qi a3.Kind, qi a3.N, qs a3.S, .c (cL eS a3.Keys), .c (cL eR_Node a3.Kids)], some [qi 0, qi 0, qs [], .nil, .nil], some [qi v15, qi v16, qs v17, .row 2, .row 3], some [qi x22.1.Kind, qi x22.1.N, qs x22.1.S, .row 4, .row 5], some [qi x23.1.Kind, qi x23.1.N, qs x23.1.S, .row 6, .row 7], some [qi x24.1.Kind, qi x24.1.N, qs x24.1.S, .row 8, .row 9]], [none, rr 1 eS x13 true, rr 1 eS v19 false, rr 5 eR_Node v20 false, rr 1 eS x22.1.Keys true, rr 5 eR_Node x22.1.Kids true, rr 1 eS x23.1.Keys false, rr 5 eR_Node x23.1.Kids false, rr 1 eS x24.1.Keys true, rr 5 eR_Node x24.1.Kids true, rr 1 eS ([x21] : List Str) true, rr 1 eS m56 true, rr 1 eS x57.Keys true, rr 5 eR_Node x57.Kids true]⟩) rfl rfl (ev_callG (al := [.ag [qi v15, qi v16, qs v17, .row 2, .row 3], qs x21, .ag [qi x23.1.Kind, qi x23.1.N, qs x23.1.S, .row 6, .row 7]]) (ls := []) (impl_Set_ok hx57) rfl rfl rfl rfl rfl (by decide) rfl rfl rfl rfl rfl rfl) ?_; simp only [putT,st,ev,gt,hp,ofV,constT,intT,lm]
               refine WO_op (x := .no) (σ' := ⟨[], [some [qi a1.Kind, qi a1.N, qs a1.S, .c (cL eS a1.Keys), .c (cL eR_Node a1.Kids)], some [qi a2.Kind, qi a2.N, qs a2.S, .c (cL eS a2.Keys), .c (cL eR_Node a2.Kids)], some [qi a3.Kind, qi a3.N, qs a3.S, .c (cL eS a3.Keys), .c (cL eR_Node a3.Kids)], some [qi 0, qi 0, qs [], .nil, .nil], some [qi x57.Kind, qi x57.N, qs x57.S, .row 12, .row 13], some [qi x22.1.Kind, qi x22.1.N, qs x22.1.S, .row 4, .row 5], some [qi x23.1.Kind, qi x23.1.N, qs x23.1.S, .row 6, .row 7], some [qi x24.1.Kind, qi x24.1.N, qs x24.1.S, .row 8, .row 9]], [none, rr 1 eS x13 true, rr 1 eS v19 false, rr 5 eR_Node v20 false, rr 1 eS x22.1.Keys true, rr 5 eR_Node x22.1.Kids true, rr 1 eS x23.1.Keys false, rr 5 eR_Node x23.1.Kids false, rr 1 eS x24.1.Keys true, rr 5 eR_Node x24.1.Kids true, rr 1 eS ([x21] : List Str) true, rr 1 eS m56 true, rr 1 eS x57.Keys true, rr 5 eR_Node x57.Kids true]⟩) rfl rfl rfl ?_; simp only [putT,st,ev,gt,hp,ofV,constT,intT,lm]
               refine WO_nil (W_region ?_)
               iterate 2 (refine WO_op rfl rfl rfl ?_; simp only [putT,st,ev,gt,hp,ofV,constT,intT,lm])
               refine WO_nil ?_
               exact hW1 _ _ ((IH1 _ _ _ _ _ _ _ _ H1 rfl).2) (le_intro [0, 1, 2, 3, 4] [11, 1, 12, 13] (by decide) (by decide) rfl (by simp [leS, leT, leA, gt]) (by simp [leB, leT, leA]) (by simp [leR]))
              ·
               replace H1 := fl hc H1
               refine W_skip ?_
               refine W_region ?_
               iterate 2 (refine WO_op rfl rfl rfl ?_; simp only [putT,st,ev,gt,hp,ofV,constT,intT,lm])
               refine WO_nil ?_
               exact hW1 _ _ ((IH1 _ _ _ _ _ _ _ _ H1 rfl).2) (le_intro [0, 1, 2, 3, 4] [11, 1, 2, 3] (by decide) (by decide) rfl (by simp [leS, leT, leA, gt]) (by simp [leB, leT, leA]) (by simp [leR]))
         ·
          replace H1 := fl hc H1
          refine W_exit ?_
          obtain rfl := Option.some.inj H1
          exact hX1 1 (v15, v16, v17, v19, v20, v18) _ rfl (le_intro [3, 4] [0, 2, 3] (by decide) (by decide) rfl (by simp [leS, leT, leA, gt]) (by simp [leB, leT, leA]) (by simp [leR]))
theorem impl_Merge_n_ok : ∀ (k : Nat) {a1 : Node} {a2 : Node} {a3 : Node} {r : Node × List Str}, impl_Merge_n k a1 a2 a3 = some r → R 14 [.ag [(cI .i64 a1.Kind, none), (cI .i64 a1.N, none), (cS a1.S, none), (cL eS a1.Keys, none), (cL eR_Node a1.Kids, none)], .ag [(cI .i64 a2.Kind, none), (cI .i64 a2.N, none), (cS a2.S, none), (cL eS a2.Keys, none), (cL eR_Node a2.Kids, none)], .ag [(cI .i64 a3.Kind, none), (cI .i64 a3.N, none), (cS a3.S, none), (cL eS a3.Keys, none), (cL eR_Node a3.Kids, none)]] = some (.tu [.ag [(cI .i64 r.1.Kind, none), (cI .i64 r.1.N, none), (cS r.1.S, none), (cL eS r.1.Keys, some 1), (cL eR_Node r.1.Kids, some 5)], .c (cL eS r.2) (some 1)], [])
  | 0, _, _, _, _, h => by simp [impl_Merge_n] at h
  | k + 1, _, _, _, _, h => impl_Merge_F_ok (fun h => impl_Merge_n_ok k h) h
theorem impl_Merge_ok {a1 : Node} {a2 : Node} {a3 : Node} {r : Node × List Str} (H : impl_Merge a1 a2 a3 = some r) : R 14 [.ag [(cI .i64 a1.Kind, none), (cI .i64 a1.N, none), (cS a1.S, none), (cL eS a1.Keys, none), (cL eR_Node a1.Kids, none)], .ag [(cI .i64 a2.Kind, none), (cI .i64 a2.N, none), (cS a2.S, none), (cL eS a2.Keys, none), (cL eR_Node a2.Kids, none)], .ag [(cI .i64 a3.Kind, none), (cI .i64 a3.N, none), (cS a3.S, none), (cL eS a3.Keys, none), (cL eR_Node a3.Kids, none)]] = some (.tu [.ag [(cI .i64 r.1.Kind, none), (cI .i64 r.1.N, none), (cS r.1.S, none), (cL eS r.1.Keys, some 1), (cL eR_Node r.1.Kids, some 5)], .c (cL eS r.2) (some 1)], []) := by
  obtain ⟨k, hk⟩ := Nt.lim_ex H
  exact impl_Merge_n_ok k (hk k (Nat.le_refl k))
end Go.Pu
