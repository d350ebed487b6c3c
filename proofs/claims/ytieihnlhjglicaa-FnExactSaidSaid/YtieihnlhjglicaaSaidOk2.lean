import Derived.Test.YtieihnlhjglicaaSaidOk0
import Derived.Test.YtieihnlhjglicaaSaidOk1
set_option linter.unusedVariables false
set_option linter.unusedSimpArgs false
set_option synthInstance.maxSize 1000000000
set_option maxRecDepth 20000
set_option maxHeartbeats 20000000
namespace Go.Pu
open Go Go.SX Go.Nt Go.Proofs
theorem impl_braced_F_ok {rc39 : Node → Option (Str)} (hrc39 : ∀ {a1 : Node} {r : Str}, rc39 a1 = some r → R 25 [.ag [(cI .i64 a1.Kind, none), (cI .i64 a1.N, none), (cS a1.S, none), (cL eS a1.Keys, none), (cL eR_Node a1.Kids, none)]] = some (.c (cS r) none, [])) {a1 : Node} {r : Str} (H : impl_braced_F rc39 a1 = some r) : R 25 [.ag [(cI .i64 a1.Kind, none), (cI .i64 a1.N, none), (cS a1.S, none), (cL eS a1.Keys, none), (cL eR_Node a1.Kids, none)]] = some (.c (cS r) none, []) := by
 unfold impl_braced_F at H
 refine Fz_walk 65 rfl rfl Try.func25 rfl (by kernel_rfl) rfl rfl rfl rfl ?_
 simp only [tellVs, tellV, tells, tell, st0, padT, SX.newRow, SX.newBox, List.length_cons, List.length_nil, Nat.reduceAdd, Nat.reduceSub, List.replicate, List.cons_append, List.nil_append, List.foldl_cons, List.foldl_nil]
 refine W_seq (W_region ?_)
 refine WO_op (x := .bp 0 0) (σ' := ⟨[], [some [qi a1.Kind, qi a1.N, qs a1.S, .c (cL eS a1.Keys), .c (cL eR_Node a1.Kids)]], []⟩) rfl rfl rfl ?_
 refine WO_op rfl rfl rfl ?_; simp only [putT,st,ev,gt,hp,ofV,constT,intT,lm]
 refine WO_nil (W_seq (W_seq (W_region ?_)))
 refine WO_op (x := .bp 0 0) rfl rfl rfl ?_
 refine WO_op (x := qi a1.Kind) rfl rfl rfl ?_; simp only [putT,st,ev,gt,hp,ofV,constT,intT,lm]
 refine WO_nil ?_
 refine W_block ?_
 refine W_seq (W_region ?_)
 iterate 2 (refine WO_op rfl rfl rfl ?_; simp only [putT,st,ev,gt,hp,ofV,constT,intT,lm])
 refine WO_nil ?_
 refine W_cond rfl (fun hc => ?_) (fun hc => ?_)
 ·
  replace H := tr hc H
  refine W_seq (W_region ?_)
  refine WO_op rfl rfl rfl ?_; simp only [putT,st,ev,gt,hp,ofV,constT,intT,lm]
  refine WO_nil ?_
  refine W_ret ?_
  obtain rfl := Option.some.inj H
  exact told3 rfl
 ·
  replace H := fl hc H
  refine W_seq (W_region ?_)
  iterate 2 (refine WO_op rfl rfl rfl ?_; simp only [putT,st,ev,gt,hp,ofV,constT,intT,lm])
  refine WO_nil ?_
  refine W_cond rfl (fun hc => ?_) (fun hc => ?_)
  ·
   replace H := tr hc H
   refine W_seq (W_seq (W_region ?_))
   refine WO_op (x := .bp 0 1) rfl rfl rfl ?_
   refine WO_op (x := qi a1.N) rfl rfl rfl ?_
   refine WO_op rfl rfl rfl ?_; simp only [putT,st,ev,gt,hp,ofV,constT,intT,lm]
   refine WO_nil ?_
   refine W_cond rfl (fun hc => ?_) (fun hc => ?_)
   ·
    replace H := tr hc H
    refine W_seq (W_region ?_)
    refine WO_op rfl rfl rfl ?_; simp only [putT,st,ev,gt,hp,ofV,constT,intT,lm]
    refine WO_nil ?_
    refine W_ret ?_
    obtain rfl := Option.some.inj H
    exact told3 rfl
   ·
    replace H := fl hc H
    refine W_skip ?_
    refine W_seq (W_region ?_)
    refine WO_op rfl rfl rfl ?_; simp only [putT,st,ev,gt,hp,ofV,constT,intT,lm]
    refine WO_nil ?_
    refine W_ret ?_
    obtain rfl := Option.some.inj H
    exact told3 rfl
  ·
   replace H := fl hc H
   refine W_seq (W_region ?_)
   iterate 2 (refine WO_op rfl rfl rfl ?_; simp only [putT,st,ev,gt,hp,ofV,constT,intT,lm])
   refine WO_nil ?_
   refine W_cond rfl (fun hc => ?_) (fun hc => ?_)
   ·
    replace H := tr hc H
    refine W_seq (W_region ?_)
    refine WO_op (x := .bp 0 1) rfl rfl rfl ?_
    refine WO_op (x := qi a1.N) rfl rfl rfl ?_; simp only [putT,st,ev,gt,hp,ofV,constT,intT,lm]
    obtain ⟨x2, hx2, H⟩ := bnd H
    refine WO_op (x := qs x2) (σ' := ⟨[], [some [qi a1.Kind, qi a1.N, qs a1.S, .c (cL eS a1.Keys), .c (cL eR_Node a1.Kids)]], []⟩) rfl rfl (ev_callG (al := [qi a1.N]) (ls := []) (impl_Digits_ok hx2) rfl rfl rfl rfl rfl (by decide) rfl rfl rfl rfl rfl rfl) ?_; simp only [putT,st,ev,gt,hp,ofV,constT,intT,lm]
    refine WO_op rfl rfl rfl ?_; simp only [putT,st,ev,gt,hp,ofV,constT,intT,lm]
    refine WO_nil ?_
    refine W_ret ?_
    obtain rfl := Option.some.inj H
    exact told3 rfl
   ·
    replace H := fl hc H
    refine W_seq (W_region ?_)
    iterate 2 (refine WO_op rfl rfl rfl ?_; simp only [putT,st,ev,gt,hp,ofV,constT,intT,lm])
    refine WO_nil ?_
    refine W_cond rfl (fun hc => ?_) (fun hc => ?_)
    ·
     replace H := tr hc H
     refine W_seq (W_region ?_)
     refine WO_op (x := .bp 0 2) rfl rfl rfl ?_
     refine WO_op (x := qs a1.S) rfl rfl rfl ?_; simp only [putT,st,ev,gt,hp,ofV,constT,intT,lm]
     obtain ⟨x3, hx3, H⟩ := bnd H
     refine WO_op (x := qs x3) (σ' := ⟨[], [some [qi a1.Kind, qi a1.N, qs a1.S, .c (cL eS a1.Keys), .c (cL eR_Node a1.Kids)]], []⟩) rfl rfl (ev_callG (al := [qs a1.S]) (ls := []) (impl_Quote_ok hx3) rfl rfl rfl rfl rfl (by decide) rfl rfl rfl rfl rfl rfl) ?_; simp only [putT,st,ev,gt,hp,ofV,constT,intT,lm]
     refine WO_op rfl rfl rfl ?_; simp only [putT,st,ev,gt,hp,ofV,constT,intT,lm]
     refine WO_nil ?_
     refine W_ret ?_
     obtain rfl := Option.some.inj H
     exact told3 rfl
    ·
     replace H := fl hc H
     refine W_skip ?_
     refine W_seq (W_region ?_)
     refine WO_op (x := .row 0) (σ' := ⟨[], [some [qi a1.Kind, qi a1.N, qs a1.S, .c (cL eS a1.Keys), .c (cL eR_Node a1.Kids)]], [rr 1 eS ([] : List Str) true]⟩) rfl rfl (ev_bs ([] : List Str) eS rfl rfl rfl rfl) ?_; simp only [putT,st,ev,gt,hp,ofV,constT,intT,lm]
     refine WO_op rfl rfl rfl ?_; simp only [putT,st,ev,gt,hp,ofV,constT,intT,lm]
     refine WO_nil (W_seq (W_seq (W_region ?_)))
     refine WO_op (x := .bp 0 4) rfl rfl rfl ?_
     refine WO_op (x := .c (cL eR_Node a1.Kids)) rfl rfl rfl ?_; simp only [putT,st,ev,gt,hp,ofV,constT,intT,lm]
     iterate 2 (refine WO_op rfl rfl rfl ?_; simp only [putT,st,ev,gt,hp,ofV,constT,intT,lm])
     refine WO_nil ?_
     refine W_block ?_
     obtain ⟨t15, ht15, H⟩ := bnd H
     refine loop_rule (ls := []) 1 (fun t15 : List Str => ⟨[.no, .bp 0 0, .no, .row 0], [some [qi a1.Kind, qi a1.N, qs a1.S, .c (cL eS a1.Keys), .c (cL eR_Node a1.Kids)]], [rr 1 eS t15 true]⟩) (fun t => t15 = t) ⟨[.no, .bp 0 0, .no, .row 0, .no, .no, .no, .no, .no, .no, .no, .no, .no, .no, .no, .no, .no, .no, .no, .no, .no, .no, .no, .no, .no, .no, .no, .no, .c (cL eR_Node a1.Kids), qi (a1.Kids.length : Int), qi 0], [some [qi a1.Kind, qi a1.N, qs a1.S, .c (cL eS a1.Keys), .c (cL eR_Node a1.Kids)]], [rr 1 eS ([] : List Str) true]⟩ (by repeat (first | exact mono_told | refine mono_seq ?_ | refine mono_blk ?_ | refine mono_lp ?_)) (le_intro [0] [0] (by decide) (by decide) rfl (by simp [leS, leT, leA, gt]) (by simp [leB, leT, leA]) (by simp [leR])) ?_ ?_
     ·
      rintro t1 rfl
      refine W_seq (W_seq (W_region ?_))
      refine WO_op (x := .bp 0 0) rfl rfl rfl ?_
      refine WO_op (x := qi a1.Kind) rfl rfl rfl ?_
      refine WO_op rfl rfl rfl ?_; simp only [putT,st,ev,gt,hp,ofV,constT,intT,lm]
      refine WO_nil ?_
      refine W_cond rfl (fun hc => ?_) (fun hc => ?_)
      ·
       replace H := tr hc H
       refine W_seq (W_region ?_)
       refine WO_op rfl rfl rfl ?_; simp only [putT,st,ev,gt,hp,ofV,constT,intT,lm]
       obtain ⟨x16, hx16, H⟩ := bnd H
       refine WO_op (x := qs x16) (σ' := ⟨[], [some [qi a1.Kind, qi a1.N, qs a1.S, .c (cL eS a1.Keys), .c (cL eR_Node a1.Kids)]], [rr 1 eS t15 true]⟩) rfl rfl (ev_callG (al := [.row 0, qs [44]]) (ls := []) (strings_Join_ok hx16) rfl rfl rfl rfl rfl (by decide) rfl rfl rfl rfl rfl rfl) ?_; simp only [putT,st,ev,gt,hp,ofV,constT,intT,lm]
       obtain ⟨s17, hs17, H⟩ := bnd H
       refine WO_op rfl rfl (ev_cat hs17 rfl rfl rfl) ?_; simp only [putT,st,ev,gt,hp,ofV,constT,intT,lm]
       obtain ⟨s18, hs18, H⟩ := bnd H
       refine WO_op rfl rfl (ev_cat hs18 rfl rfl rfl) ?_; simp only [putT,st,ev,gt,hp,ofV,constT,intT,lm]
       refine WO_op rfl rfl rfl ?_; simp only [putT,st,ev,gt,hp,ofV,constT,intT,lm]
       refine WO_nil ?_
       refine W_ret ?_
       obtain rfl := Option.some.inj H
       exact told3 rfl
      ·
       replace H := fl hc H
       refine W_skip ?_
       refine W_seq (W_region ?_)
       refine WO_op rfl rfl rfl ?_; simp only [putT,st,ev,gt,hp,ofV,constT,intT,lm]
       obtain ⟨x19, hx19, H⟩ := bnd H
       refine WO_op (x := qs x19) (σ' := ⟨[], [some [qi a1.Kind, qi a1.N, qs a1.S, .c (cL eS a1.Keys), .c (cL eR_Node a1.Kids)]], [rr 1 eS t15 true]⟩) rfl rfl (ev_callG (al := [.row 0, qs [44]]) (ls := []) (strings_Join_ok hx19) rfl rfl rfl rfl rfl (by decide) rfl rfl rfl rfl rfl rfl) ?_; simp only [putT,st,ev,gt,hp,ofV,constT,intT,lm]
       obtain ⟨s20, hs20, H⟩ := bnd H
       refine WO_op rfl rfl (ev_cat hs20 rfl rfl rfl) ?_; simp only [putT,st,ev,gt,hp,ofV,constT,intT,lm]
       obtain ⟨s21, hs21, H⟩ := bnd H
       refine WO_op rfl rfl (ev_cat hs21 rfl rfl rfl) ?_; simp only [putT,st,ev,gt,hp,ofV,constT,intT,lm]
       refine WO_op rfl rfl rfl ?_; simp only [putT,st,ev,gt,hp,ofV,constT,intT,lm]
       refine WO_nil ?_
       refine W_ret ?_
       obtain rfl := Option.some.inj H
       exact told3 rfl
     ·
      intro V1 hV1 hW1 hX1
      refine (impl_braced.l0.partial_correctness rc39 a1 (fun v4 v5 s' => s' = t15 → (V1 ⟨[.no, .bp 0 0, .no, .row 0, .no, .no, .no, .no, .no, .no, .no, .no, .no, .no, .no, .no, .no, .no, .no, .no, .no, .no, .no, .no, .no, .no, .no, .no, .c (cL eR_Node a1.Kids), qi (a1.Kids.length : Int), qi v4], [some [qi a1.Kind, qi a1.N, qs a1.S, .c (cL eS a1.Keys), .c (cL eR_Node a1.Kids)]], [rr 1 eS v5 true]⟩)) ?_ _ _ _ ht15 rfl)
      intro l0 IH1 v4 v5 s' H1 e
      subst e
      refine hV1 _ ?_
      refine W_seq (W_region ?_)
      refine WO_op rfl rfl rfl ?_; simp only [putT,st,ev,gt,hp,ofV,constT,intT,lm]
      refine WO_nil (W_seq ?_)
      refine W_cond rfl (fun hc => ?_) (fun hc => ?_)
      ·
       replace H1 := tr hc H1
       refine W_skip ?_
       refine W_seq ?_
       refine W_block ?_
       refine W_seq (W_region ?_)
       refine WO_op rfl rfl rfl ?_; simp only [putT,st,ev,gt,hp,ofV,constT,intT,lm]
       obtain ⟨x6, hx6, H1⟩ := bnd H1
       obtain ⟨y7, hy7, H1⟩ := bnd H1
       rw [dN_Node_some hy7] at hx6
       refine WO_op rfl rfl (ev_ix (en := eR_Node) hx6 rfl rfl rfl rfl rfl rfl rfl) ?_; simp only [putT,st,ev,gt,hp,ofV,constT,intT,lm]
       refine WO_op (x := .ag [qi y7.Kind, qi y7.N, qs y7.S, .c (cL eS y7.Keys), .c (cL eR_Node y7.Kids)]) rfl rfl rfl ?_
       refine WO_op (x := .bp 1 0) (σ' := ⟨[], [some [qi a1.Kind, qi a1.N, qs a1.S, .c (cL eS a1.Keys), .c (cL eR_Node a1.Kids)], some [qi 0, qi 0, qs [], .nil, .nil]], [rr 1 eS v5 true]⟩) rfl rfl rfl ?_
       refine WO_op rfl rfl rfl ?_
       refine WO_op (x := .no) (σ' := ⟨[], [some [qi a1.Kind, qi a1.N, qs a1.S, .c (cL eS a1.Keys), .c (cL eR_Node a1.Kids)], some [qi y7.Kind, qi y7.N, qs y7.S, .c (cL eS y7.Keys), .c (cL eR_Node y7.Kids)]], [rr 1 eS v5 true]⟩) rfl rfl rfl ?_; simp only [putT,st,ev,gt,hp,ofV,constT,intT,lm]
       refine WO_nil (W_seq (W_region ?_))
       refine WO_op (x := .ag [qi y7.Kind, qi y7.N, qs y7.S, .c (cL eS y7.Keys), .c (cL eR_Node y7.Kids)]) rfl rfl rfl ?_; simp only [putT,st,ev,gt,hp,ofV,constT,intT,lm]
       obtain ⟨x8, hx8, H1⟩ := bnd H1
       refine WO_op (x := qs x8) (σ' := ⟨[], [some [qi a1.Kind, qi a1.N, qs a1.S, .c (cL eS a1.Keys), .c (cL eR_Node a1.Kids)], some [qi y7.Kind, qi y7.N, qs y7.S, .c (cL eS y7.Keys), .c (cL eR_Node y7.Kids)]], [rr 1 eS v5 true]⟩) rfl rfl (ev_callG (al := [.ag [qi y7.Kind, qi y7.N, qs y7.S, .c (cL eS y7.Keys), .c (cL eR_Node y7.Kids)]]) (ls := []) (hrc39 hx8) rfl rfl rfl rfl rfl (by decide) rfl rfl rfl rfl rfl rfl) ?_; simp only [putT,st,ev,gt,hp,ofV,constT,intT,lm]
       refine WO_op rfl rfl rfl ?_; simp only [putT,st,ev,gt,hp,ofV,constT,intT,lm]
       refine WO_nil (W_seq (W_seq (W_region ?_)))
       refine WO_op (x := .bp 0 0) rfl rfl rfl ?_
       refine WO_op (x := qi a1.Kind) rfl rfl rfl ?_
       refine WO_op rfl rfl rfl ?_; simp only [putT,st,ev,gt,hp,ofV,constT,intT,lm]
       refine WO_nil ?_
       refine W_cond rfl (fun hc => ?_) (fun hc => ?_)
       ·
        replace H1 := tr hc H1
        refine W_region ?_
        refine WO_op (x := .bp 0 3) rfl rfl rfl ?_
        refine WO_op (x := .c (cL eS a1.Keys)) rfl rfl rfl ?_
        refine WO_op rfl rfl rfl ?_; simp only [putT,st,ev,gt,hp,ofV,constT,intT,lm]
        obtain ⟨x9, hx9, H1⟩ := bnd H1
        refine WO_op rfl rfl (ev_ix (en := eS) hx9 rfl rfl rfl rfl rfl rfl rfl) ?_; simp only [putT,st,ev,gt,hp,ofV,constT,intT,lm]
        refine WO_op (x := qs x9) rfl rfl rfl ?_; simp only [putT,st,ev,gt,hp,ofV,constT,intT,lm]
        obtain ⟨x10, hx10, H1⟩ := bnd H1
        refine WO_op (x := qs x10) (σ' := ⟨[], [some [qi a1.Kind, qi a1.N, qs a1.S, .c (cL eS a1.Keys), .c (cL eR_Node a1.Kids)], some [qi y7.Kind, qi y7.N, qs y7.S, .c (cL eS y7.Keys), .c (cL eR_Node y7.Kids)]], [rr 1 eS v5 true]⟩) rfl rfl (ev_callG (al := [qs x9]) (ls := []) (impl_Quote_ok hx10) rfl rfl rfl rfl rfl (by decide) rfl rfl rfl rfl rfl rfl) ?_; simp only [putT,st,ev,gt,hp,ofV,constT,intT,lm]
        obtain ⟨s11, hs11, H1⟩ := bnd H1
        refine WO_op rfl rfl (ev_cat hs11 rfl rfl rfl) ?_; simp only [putT,st,ev,gt,hp,ofV,constT,intT,lm]
        refine WO_op rfl rfl rfl ?_; simp only [putT,st,ev,gt,hp,ofV,constT,intT,lm]
        obtain ⟨s12, hs12, H1⟩ := bnd H1
        refine WO_op rfl rfl (ev_cat hs12 rfl rfl rfl) ?_; simp only [putT,st,ev,gt,hp,ofV,constT,intT,lm]
        refine WO_op rfl rfl rfl ?_; simp only [putT,st,ev,gt,hp,ofV,constT,intT,lm]
        refine WO_nil (W_region ?_)
        iterate 2 (refine WO_op rfl rfl rfl ?_; simp only [putT,st,ev,gt,hp,ofV,constT,intT,lm])
        refine WO_op (x := .row 1) (σ' := ⟨[], [some [qi a1.Kind, qi a1.N, qs a1.S, .c (cL eS a1.Keys), .c (cL eR_Node a1.Kids)], some [qi y7.Kind, qi y7.N, qs y7.S, .c (cL eS y7.Keys), .c (cL eR_Node y7.Kids)]], [rr 1 eS v5 true, rr 1 eS ([s12] : List Str) true]⟩) rfl rfl (ev_bs ([s12] : List Str) eS rfl rfl rfl rfl) ?_; simp only [putT,st,ev,gt,hp,ofV,constT,intT,lm]
        obtain ⟨m13, hm13, H1⟩ := bnd H1
        refine WO_op (x := .row 2) (σ' := ⟨[], [some [qi a1.Kind, qi a1.N, qs a1.S, .c (cL eS a1.Keys), .c (cL eR_Node a1.Kids)], some [qi y7.Kind, qi y7.N, qs y7.S, .c (cL eS y7.Keys), .c (cL eR_Node y7.Kids)]], [none, rr 1 eS ([s12] : List Str) true, rr 1 eS m13 true]⟩) rfl rfl (ev_app (en := eS) hm13 rfl rfl rfl rfl (Or.inl rfl) rfl rfl rfl rfl rfl rfl rfl rfl rfl rfl rfl (fun _ => rfl) rfl (Or.inr rfl) rfl) ?_; simp only [putT,st,ev,gt,hp,ofV,constT,intT,lm]
        refine WO_op rfl rfl rfl ?_; simp only [putT,st,ev,gt,hp,ofV,constT,intT,lm]
        refine WO_nil (W_region ?_)
        iterate 2 (refine WO_op rfl rfl rfl ?_; simp only [putT,st,ev,gt,hp,ofV,constT,intT,lm])
        refine WO_nil ?_
        exact hW1 _ _ ((IH1 _ _ _ H1 rfl)) (le_intro [0] [2] (by decide) (by decide) rfl (by simp [leS, leT, leA, gt]) (by simp [leB, leT, leA]) (by simp [leR]))
       ·
        replace H1 := fl hc H1
        refine W_skip ?_
        refine W_region ?_
        iterate 2 (refine WO_op rfl rfl rfl ?_; simp only [putT,st,ev,gt,hp,ofV,constT,intT,lm])
        refine WO_op (x := .row 1) (σ' := ⟨[], [some [qi a1.Kind, qi a1.N, qs a1.S, .c (cL eS a1.Keys), .c (cL eR_Node a1.Kids)], some [qi y7.Kind, qi y7.N, qs y7.S, .c (cL eS y7.Keys), .c (cL eR_Node y7.Kids)]], [rr 1 eS v5 true, rr 1 eS ([x8] : List Str) true]⟩) rfl rfl (ev_bs ([x8] : List Str) eS rfl rfl rfl rfl) ?_; simp only [putT,st,ev,gt,hp,ofV,constT,intT,lm]
        obtain ⟨m14, hm14, H1⟩ := bnd H1
        refine WO_op (x := .row 2) (σ' := ⟨[], [some [qi a1.Kind, qi a1.N, qs a1.S, .c (cL eS a1.Keys), .c (cL eR_Node a1.Kids)], some [qi y7.Kind, qi y7.N, qs y7.S, .c (cL eS y7.Keys), .c (cL eR_Node y7.Kids)]], [none, rr 1 eS ([x8] : List Str) true, rr 1 eS m14 true]⟩) rfl rfl (ev_app (en := eS) hm14 rfl rfl rfl rfl (Or.inl rfl) rfl rfl rfl rfl rfl rfl rfl rfl rfl rfl rfl (fun _ => rfl) rfl (Or.inr rfl) rfl) ?_; simp only [putT,st,ev,gt,hp,ofV,constT,intT,lm]
        refine WO_op rfl rfl rfl ?_; simp only [putT,st,ev,gt,hp,ofV,constT,intT,lm]
        refine WO_nil (W_region ?_)
        iterate 2 (refine WO_op rfl rfl rfl ?_; simp only [putT,st,ev,gt,hp,ofV,constT,intT,lm])
        refine WO_nil ?_
        exact hW1 _ _ ((IH1 _ _ _ H1 rfl)) (le_intro [0] [2] (by decide) (by decide) rfl (by simp [leS, leT, leA, gt]) (by simp [leB, leT, leA]) (by simp [leR]))
      ·
       replace H1 := fl hc H1
       refine W_exit ?_
       obtain rfl := Option.some.inj H1
       exact hX1 v5 _ rfl (le_intro [0] [0] (by decide) (by decide) rfl (by simp [leS, leT, leA, gt]) (by simp [leB, leT, leA]) (by simp [leR]))
theorem impl_braced_n_ok : ∀ (k : Nat) {a1 : Node} {r : Str}, impl_braced_n k a1 = some r → R 25 [.ag [(cI .i64 a1.Kind, none), (cI .i64 a1.N, none), (cS a1.S, none), (cL eS a1.Keys, none), (cL eR_Node a1.Kids, none)]] = some (.c (cS r) none, [])
  | 0, _, _, h => by simp [impl_braced_n] at h
  | k + 1, _, _, h => impl_braced_F_ok (fun h => impl_braced_n_ok k h) h
theorem impl_braced_ok {a1 : Node} {r : Str} (H : impl_braced a1 = some r) : R 25 [.ag [(cI .i64 a1.Kind, none), (cI .i64 a1.N, none), (cS a1.S, none), (cL eS a1.Keys, none), (cL eR_Node a1.Kids, none)]] = some (.c (cS r) none, []) := by
  obtain ⟨k, hk⟩ := Nt.lim_ex H
  exact impl_braced_n_ok k (hk k (Nat.le_refl k))
theorem impl_Braced_ok  {a1 : Node} {r : Str} (H : impl_Braced a1 = some r) : R 15 [.ag [(cI .i64 a1.Kind, none), (cI .i64 a1.N, none), (cS a1.S, none), (cL eS a1.Keys, none), (cL eR_Node a1.Kids, none)]] = some (.c (cS r) none, []) := by
 unfold impl_Braced at H
 refine Fz_walk 8 rfl rfl Try.func15 rfl (by kernel_rfl) rfl rfl rfl rfl ?_
 simp only [tellVs, tellV, tells, tell, st0, padT, SX.newRow, SX.newBox, List.length_cons, List.length_nil, Nat.reduceAdd, Nat.reduceSub, List.replicate, List.cons_append, List.nil_append, List.foldl_cons, List.foldl_nil]
 refine W_seq (W_region ?_)
 refine WO_op (x := .bp 0 0) (σ' := ⟨[], [some [qi a1.Kind, qi a1.N, qs a1.S, .c (cL eS a1.Keys), .c (cL eR_Node a1.Kids)]], []⟩) rfl rfl rfl ?_
 refine WO_op rfl rfl rfl ?_; simp only [putT,st,ev,gt,hp,ofV,constT,intT,lm]
 refine WO_nil (W_seq (W_seq (W_region ?_)))
 refine WO_op (x := .ag [qi a1.Kind, qi a1.N, qs a1.S, .c (cL eS a1.Keys), .c (cL eR_Node a1.Kids)]) rfl rfl rfl ?_; simp only [putT,st,ev,gt,hp,ofV,constT,intT,lm]
 obtain ⟨x2, hx2, H⟩ := bnd H
 refine WO_op (x := qb x2) (σ' := ⟨[], [some [qi a1.Kind, qi a1.N, qs a1.S, .c (cL eS a1.Keys), .c (cL eR_Node a1.Kids)]], []⟩) rfl rfl (ev_callG (al := [.ag [qi a1.Kind, qi a1.N, qs a1.S, .c (cL eS a1.Keys), .c (cL eR_Node a1.Kids)]]) (ls := []) (impl_TreeOk_ok hx2) rfl rfl rfl rfl rfl (by decide) rfl rfl rfl rfl rfl rfl) ?_; simp only [putT,st,ev,gt,hp,ofV,constT,intT,lm]
 refine WO_op rfl rfl rfl ?_; simp only [putT,st,ev,gt,hp,ofV,constT,intT,lm]
 refine WO_nil ?_
 refine W_cond rfl (fun hc => ?_) (fun hc => ?_)
 ·
  replace H := tr hc H
  refine W_seq (W_region ?_)
  refine WO_op rfl rfl rfl ?_; simp only [putT,st,ev,gt,hp,ofV,constT,intT,lm]
  refine WO_nil ?_
  refine W_ret ?_
  obtain rfl := Option.some.inj H
  exact told3 rfl
 ·
  replace H := fl hc H
  refine W_skip ?_
  refine W_seq (W_region ?_)
  refine WO_op (x := .ag [qi a1.Kind, qi a1.N, qs a1.S, .c (cL eS a1.Keys), .c (cL eR_Node a1.Kids)]) rfl rfl rfl ?_; simp only [putT,st,ev,gt,hp,ofV,constT,intT,lm]
  obtain ⟨x3, hx3, H⟩ := bnd H
  refine WO_op (x := qs x3) (σ' := ⟨[], [some [qi a1.Kind, qi a1.N, qs a1.S, .c (cL eS a1.Keys), .c (cL eR_Node a1.Kids)]], []⟩) rfl rfl (ev_callG (al := [.ag [qi a1.Kind, qi a1.N, qs a1.S, .c (cL eS a1.Keys), .c (cL eR_Node a1.Kids)]]) (ls := []) (impl_braced_ok hx3) rfl rfl rfl rfl rfl (by decide) rfl rfl rfl rfl rfl rfl) ?_; simp only [putT,st,ev,gt,hp,ofV,constT,intT,lm]
  refine WO_op rfl rfl rfl ?_; simp only [putT,st,ev,gt,hp,ofV,constT,intT,lm]
  refine WO_nil ?_
  refine W_ret ?_
  obtain rfl := Option.some.inj H
  exact told3 rfl
theorem impl_isLetter_ok  {a1 : Int} {r : Bool} (H : impl_isLetter a1 = some r) : R 57 [.c (cI .u8 a1) none] = some (.c (cB r) none, []) := by
 unfold impl_isLetter at H
 refine Fz_walk 17 rfl rfl Try.func57 rfl (by kernel_rfl) rfl rfl rfl rfl ?_
 simp only [tellVs, tellV, tells, tell, st0, padT, SX.newRow, SX.newBox, List.length_cons, List.length_nil, Nat.reduceAdd, Nat.reduceSub, List.replicate, List.cons_append, List.nil_append, List.foldl_cons, List.foldl_nil]
 refine W_seq (W_region ?_)
 refine WO_op rfl rfl rfl ?_; simp only [putT,st,ev,gt,hp,ofV,constT,intT,lm]
 refine WO_nil (W_seq (W_region ?_))
 iterate 3 (refine WO_op rfl rfl rfl ?_; simp only [putT,st,ev,gt,hp,ofV,constT,intT,lm])
 refine WO_if rfl rfl rfl (fun hc => ?_) (fun hc => ?_)
 ·
  replace H := tr hc H
  simp only [putT,st,ev,gt,hp,ofV,constT,intT,lm]
  iterate 2 (refine WO_want rfl rfl rfl ?_; simp only [putT,st,ev,gt,hp,ofV,constT,intT,lm])
  refine WO_op (x := qb (decide (a1 ≤ 122))) rfl rfl rfl ?_
  refine WO_op rfl rfl rfl ?_; simp only [putT,st,ev,gt,hp,ofV,constT,intT,lm]
  refine WO_if rfl rfl rfl (fun hc => ?_) (fun hc => ?_)
  ·
   replace H := tr hc H
   simp only [putT,st,ev,gt,hp,ofV,constT,intT,lm]
   iterate 6 refine WO_skip rfl rfl ?_
   refine WO_op (x := qb true) rfl rfl rfl ?_
   refine WO_op rfl rfl rfl ?_; simp only [putT,st,ev,gt,hp,ofV,constT,intT,lm]
   refine WO_nil ?_
   refine W_ret ?_
   obtain rfl := Option.some.inj H
   exact told3 rfl
  ·
   replace H := fl hc H
   simp only [putT,st,ev,gt,hp,ofV,constT,intT,lm]
   iterate 3 (refine WO_want rfl rfl rfl ?_; simp only [putT,st,ev,gt,hp,ofV,constT,intT,lm])
   refine WO_if rfl rfl rfl (fun hc => ?_) (fun hc => ?_)
   ·
    replace H := tr hc H
    simp only [putT,st,ev,gt,hp,ofV,constT,intT,lm]
    iterate 2 (refine WO_want rfl rfl rfl ?_; simp only [putT,st,ev,gt,hp,ofV,constT,intT,lm])
    refine WO_want (x := qb (decide (a1 ≤ 90))) rfl rfl rfl ?_
    refine WO_op (x := qb (decide (a1 ≤ 90))) rfl rfl rfl ?_
    refine WO_op rfl rfl rfl ?_; simp only [putT,st,ev,gt,hp,ofV,constT,intT,lm]
    refine WO_nil ?_
    refine W_ret ?_
    obtain rfl := Option.some.inj H
    exact told3 rfl
   ·
    replace H := fl hc H
    simp only [putT,st,ev,gt,hp,ofV,constT,intT,lm]
    iterate 2 refine WO_skip rfl rfl ?_
    refine WO_want (x := qb false) rfl rfl rfl ?_
    refine WO_op (x := qb false) rfl rfl rfl ?_
    refine WO_op rfl rfl rfl ?_; simp only [putT,st,ev,gt,hp,ofV,constT,intT,lm]
    refine WO_nil ?_
    refine W_ret ?_
    obtain rfl := Option.some.inj H
    exact told3 rfl
 ·
  replace H := fl hc H
  simp only [putT,st,ev,gt,hp,ofV,constT,intT,lm]
  iterate 2 refine WO_skip rfl rfl ?_
  refine WO_op (x := qb false) rfl rfl rfl ?_
  refine WO_op rfl rfl rfl ?_; simp only [putT,st,ev,gt,hp,ofV,constT,intT,lm]
  iterate 3 (refine WO_want rfl rfl rfl ?_; simp only [putT,st,ev,gt,hp,ofV,constT,intT,lm])
  refine WO_if rfl rfl rfl (fun hc => ?_) (fun hc => ?_)
  ·
   replace H := tr hc H
   simp only [putT,st,ev,gt,hp,ofV,constT,intT,lm]
   iterate 2 (refine WO_want rfl rfl rfl ?_; simp only [putT,st,ev,gt,hp,ofV,constT,intT,lm])
   refine WO_want (x := qb (decide (a1 ≤ 90))) rfl rfl rfl ?_
   refine WO_op (x := qb (decide (a1 ≤ 90))) rfl rfl rfl ?_
   refine WO_op rfl rfl rfl ?_; simp only [putT,st,ev,gt,hp,ofV,constT,intT,lm]
   refine WO_nil ?_
   refine W_ret ?_
   obtain rfl := Option.some.inj H
   exact told3 rfl
  ·
   replace H := fl hc H
   simp only [putT,st,ev,gt,hp,ofV,constT,intT,lm]
   iterate 2 refine WO_skip rfl rfl ?_
   refine WO_want (x := qb false) rfl rfl rfl ?_
   refine WO_op (x := qb false) rfl rfl rfl ?_
   refine WO_op rfl rfl rfl ?_; simp only [putT,st,ev,gt,hp,ofV,constT,intT,lm]
   refine WO_nil ?_
   refine W_ret ?_
   obtain rfl := Option.some.inj H
   exact told3 rfl
theorem impl_isDigit_ok  {a1 : Int} {r : Bool} (H : impl_isDigit a1 = some r) : R 58 [.c (cI .u8 a1) none] = some (.c (cB r) none, []) := by
 unfold impl_isDigit at H
 refine Fz_walk 9 rfl rfl Try.func58 rfl (by kernel_rfl) rfl rfl rfl rfl ?_
 simp only [tellVs, tellV, tells, tell, st0, padT, SX.newRow, SX.newBox, List.length_cons, List.length_nil, Nat.reduceAdd, Nat.reduceSub, List.replicate, List.cons_append, List.nil_append, List.foldl_cons, List.foldl_nil]
 refine W_seq (W_region ?_)
 refine WO_op rfl rfl rfl ?_; simp only [putT,st,ev,gt,hp,ofV,constT,intT,lm]
 refine WO_nil (W_seq (W_region ?_))
 iterate 3 (refine WO_op rfl rfl rfl ?_; simp only [putT,st,ev,gt,hp,ofV,constT,intT,lm])
 refine WO_if rfl rfl rfl (fun hc => ?_) (fun hc => ?_)
 ·
  replace H := tr hc H
  simp only [putT,st,ev,gt,hp,ofV,constT,intT,lm]
  iterate 2 (refine WO_want rfl rfl rfl ?_; simp only [putT,st,ev,gt,hp,ofV,constT,intT,lm])
  refine WO_op (x := qb (decide (a1 ≤ 57))) rfl rfl rfl ?_
  refine WO_op rfl rfl rfl ?_; simp only [putT,st,ev,gt,hp,ofV,constT,intT,lm]
  refine WO_nil ?_
  refine W_ret ?_
  obtain rfl := Option.some.inj H
  exact told3 rfl
 ·
  replace H := fl hc H
  simp only [putT,st,ev,gt,hp,ofV,constT,intT,lm]
  iterate 2 refine WO_skip rfl rfl ?_
  refine WO_op (x := qb false) rfl rfl rfl ?_
  refine WO_op rfl rfl rfl ?_; simp only [putT,st,ev,gt,hp,ofV,constT,intT,lm]
  refine WO_nil ?_
  refine W_ret ?_
  obtain rfl := Option.some.inj H
  exact told3 rfl
theorem internal_bytealg_IndexByteString_ok {a1 : Str} {a2 r : Int} (H : internal_bytealg_IndexByteString a1 a2 = some r) : R 70 [.c (cS a1) none, .c (cI .u8 a2) none] = some (.c (cI .i64 r) none, []) := by
  obtain rfl := Option.some.inj H
  exact Fz_pr rfl (by simp only [indexByteF, indexByte_lib])
theorem internal_stringslite_IndexByte_ok  {a1 : Str} {a2 : Int} {r : Int} (H : internal_stringslite_IndexByte a1 a2 = some r) : R 67 [.c (cS a1) none, .c (cI .u8 a2) none] = some (.c (cI .i64 r) none, []) := by
 unfold internal_stringslite_IndexByte at H
 refine Fz_walk 8 rfl rfl Try.func67 rfl (by kernel_rfl) rfl rfl rfl rfl ?_
 simp only [tellVs, tellV, tells, tell, st0, padT, SX.newRow, SX.newBox, List.length_cons, List.length_nil, Nat.reduceAdd, Nat.reduceSub, List.replicate, List.cons_append, List.nil_append, List.foldl_cons, List.foldl_nil]
 refine W_seq (W_region ?_)
 refine WO_op rfl rfl rfl ?_; simp only [putT,st,ev,gt,hp,ofV,constT,intT,lm]
 refine WO_nil (W_seq (W_region ?_))
 iterate 2 (refine WO_op rfl rfl rfl ?_; simp only [putT,st,ev,gt,hp,ofV,constT,intT,lm])
 obtain ⟨x3, hx3, H⟩ := bnd H
 refine WO_op (x := qi x3) (σ' := ⟨[], [], []⟩) rfl rfl (ev_callG (al := [qs a1, .c (cI .u8 a2)]) (ls := []) (internal_bytealg_IndexByteString_ok hx3) rfl rfl rfl rfl rfl (by decide) rfl rfl rfl rfl rfl rfl) ?_; simp only [putT,st,ev,gt,hp,ofV,constT,intT,lm]
 refine WO_op rfl rfl rfl ?_; simp only [putT,st,ev,gt,hp,ofV,constT,intT,lm]
 refine WO_nil ?_
 refine W_ret ?_
 obtain rfl := Option.some.inj H
 exact told3 rfl
theorem strings_IndexByte_ok  {a1 : Str} {a2 : Int} {r : Int} (H : strings_IndexByte a1 a2 = some r) : R 59 [.c (cS a1) none, .c (cI .u8 a2) none] = some (.c (cI .i64 r) none, []) := by
 unfold strings_IndexByte at H
 refine Fz_walk 8 rfl rfl Try.func59 rfl (by kernel_rfl) rfl rfl rfl rfl ?_
 simp only [tellVs, tellV, tells, tell, st0, padT, SX.newRow, SX.newBox, List.length_cons, List.length_nil, Nat.reduceAdd, Nat.reduceSub, List.replicate, List.cons_append, List.nil_append, List.foldl_cons, List.foldl_nil]
 refine W_seq (W_region ?_)
 refine WO_op rfl rfl rfl ?_; simp only [putT,st,ev,gt,hp,ofV,constT,intT,lm]
 refine WO_nil (W_seq (W_region ?_))
 iterate 2 (refine WO_op rfl rfl rfl ?_; simp only [putT,st,ev,gt,hp,ofV,constT,intT,lm])
 obtain ⟨x3, hx3, H⟩ := bnd H
 refine WO_op (x := qi x3) (σ' := ⟨[], [], []⟩) rfl rfl (ev_callG (al := [qs a1, .c (cI .u8 a2)]) (ls := []) (internal_stringslite_IndexByte_ok hx3) rfl rfl rfl rfl rfl (by decide) rfl rfl rfl rfl rfl rfl) ?_; simp only [putT,st,ev,gt,hp,ofV,constT,intT,lm]
 refine WO_op rfl rfl rfl ?_; simp only [putT,st,ev,gt,hp,ofV,constT,intT,lm]
 refine WO_nil ?_
 refine W_ret ?_
 obtain rfl := Option.some.inj H
 exact told3 rfl
theorem impl_PlainOk_ok  {a1 : Str} {r : Bool} (H : impl_PlainOk a1 = some r) : R 40 [.c (cS a1) none] = some (.c (cB r) none, []) := by
 unfold impl_PlainOk at H
 refine Fz_walk 48 rfl rfl Try.func40 rfl (by kernel_rfl) rfl rfl rfl rfl ?_
 simp only [tellVs, tellV, tells, tell, st0, padT, SX.newRow, SX.newBox, List.length_cons, List.length_nil, Nat.reduceAdd, Nat.reduceSub, List.replicate, List.cons_append, List.nil_append, List.foldl_cons, List.foldl_nil]
 refine W_seq (W_region ?_)
 refine WO_op rfl rfl rfl ?_; simp only [putT,st,ev,gt,hp,ofV,constT,intT,lm]
 refine WO_nil (W_seq (W_seq (W_region ?_)))
 refine WO_op rfl rfl rfl ?_
 refine WO_op (x := qi (a1.length : Int)) rfl rfl rfl ?_
 refine WO_op rfl rfl rfl ?_; simp only [putT,st,ev,gt,hp,ofV,constT,intT,lm]
 refine WO_nil ?_
 refine W_block ?_
 obtain ⟨s11, hs11, H⟩ := bnd H
 refine loop_rule (ls := []) 0 (fun t9 : Unit => ⟨[qs a1], [], []⟩) (fun t => s11 = .inr t) ⟨[qs a1, .no, .no, .no, .no, qi (a1.length : Int), qi 0], [], []⟩ (by repeat (first | exact mono_told | refine mono_seq ?_ | refine mono_blk ?_ | refine mono_lp ?_)) (le_intro [] [] (by decide) (by decide) rfl (by simp [leS, leT, leA, gt]) (by simp [leB, leT, leA]) (by simp [leR])) ?_ ?_
 ·
  rintro t9 rfl
  refine W_seq (W_region ?_)
  refine WO_op rfl rfl rfl ?_
  refine WO_op (x := qi (a1.length : Int)) rfl rfl rfl ?_; simp only [putT,st,ev,gt,hp,ofV,constT,intT,lm]
  obtain ⟨x10, hx10, H⟩ := bnd H
  refine WO_op (x := qb x10) (σ' := ⟨[], [], []⟩) rfl rfl (ev_callG (al := [qi (a1.length : Int), qi 1, qi 60]) (ls := []) (impl_from_ok hx10) rfl rfl rfl rfl rfl (by decide) rfl rfl rfl rfl rfl rfl) ?_; simp only [putT,st,ev,gt,hp,ofV,constT,intT,lm]
  refine WO_op rfl rfl rfl ?_; simp only [putT,st,ev,gt,hp,ofV,constT,intT,lm]
  refine WO_if rfl rfl rfl (fun hc => ?_) (fun hc => ?_)
  ·
   replace H := tr hc H
   refine WO_want rfl rfl rfl ?_; simp only [putT,st,ev,gt,hp,ofV,constT,intT,lm]
   refine WO_want rfl rfl (ev_neq_s rfl rfl rfl) ?_; simp only [putT,st,ev,gt,hp,ofV,constT,intT,lm]
   refine WO_op (x := qb (!(a1 == [110, 117, 108, 108]))) rfl rfl rfl ?_
   refine WO_op rfl rfl rfl ?_; simp only [putT,st,ev,gt,hp,ofV,constT,intT,lm]
   refine WO_if rfl rfl rfl (fun hc => ?_) (fun hc => ?_)
   ·
    replace H := tr hc H
    refine WO_want rfl rfl rfl ?_; simp only [putT,st,ev,gt,hp,ofV,constT,intT,lm]
    refine WO_want rfl rfl (ev_neq_s rfl rfl rfl) ?_; simp only [putT,st,ev,gt,hp,ofV,constT,intT,lm]
    refine WO_op (x := qb (!(a1 == [116, 114, 117, 101]))) rfl rfl rfl ?_
    refine WO_op rfl rfl rfl ?_; simp only [putT,st,ev,gt,hp,ofV,constT,intT,lm]
    refine WO_if rfl rfl rfl (fun hc => ?_) (fun hc => ?_)
    ·
     replace H := tr hc H
     refine WO_want rfl rfl rfl ?_; simp only [putT,st,ev,gt,hp,ofV,constT,intT,lm]
     refine WO_want rfl rfl (ev_neq_s rfl rfl rfl) ?_; simp only [putT,st,ev,gt,hp,ofV,constT,intT,lm]
     refine WO_op (x := qb (!(a1 == [102, 97, 108, 115, 101]))) rfl rfl rfl ?_
     refine WO_op rfl rfl rfl ?_; simp only [putT,st,ev,gt,hp,ofV,constT,intT,lm]
     refine WO_nil ?_
     refine W_ret ?_
     obtain rfl := Option.some.inj H
     exact told3 rfl
    ·
     replace H := fl hc H
     simp only [putT,st,ev,gt,hp,ofV,constT,intT,lm]
     iterate 2 refine WO_skip rfl rfl ?_
     refine WO_op (x := qb false) rfl rfl rfl ?_
     refine WO_op rfl rfl rfl ?_; simp only [putT,st,ev,gt,hp,ofV,constT,intT,lm]
     refine WO_nil ?_
     refine W_ret ?_
     obtain rfl := Option.some.inj H
     exact told3 rfl
   ·
    replace H := fl hc H
    simp only [putT,st,ev,gt,hp,ofV,constT,intT,lm]
    iterate 2 refine WO_skip rfl rfl ?_
    refine WO_op (x := qb false) rfl rfl rfl ?_
    refine WO_op rfl rfl rfl ?_; simp only [putT,st,ev,gt,hp,ofV,constT,intT,lm]
    iterate 2 refine WO_skip rfl rfl ?_
    refine WO_op (x := qb false) rfl rfl rfl ?_
    refine WO_op rfl rfl rfl ?_; simp only [putT,st,ev,gt,hp,ofV,constT,intT,lm]
    refine WO_nil ?_
    refine W_ret ?_
    obtain rfl := Option.some.inj H
    exact told3 rfl
  ·
   replace H := fl hc H
   simp only [putT,st,ev,gt,hp,ofV,constT,intT,lm]
   iterate 2 refine WO_skip rfl rfl ?_
   refine WO_op (x := qb false) rfl rfl rfl ?_
   refine WO_op rfl rfl rfl ?_; simp only [putT,st,ev,gt,hp,ofV,constT,intT,lm]
   iterate 2 refine WO_skip rfl rfl ?_
   refine WO_op (x := qb false) rfl rfl rfl ?_
   refine WO_op rfl rfl rfl ?_; simp only [putT,st,ev,gt,hp,ofV,constT,intT,lm]
   iterate 2 refine WO_skip rfl rfl ?_
   refine WO_op (x := qb false) rfl rfl rfl ?_
   refine WO_op rfl rfl rfl ?_; simp only [putT,st,ev,gt,hp,ofV,constT,intT,lm]
   refine WO_nil ?_
   refine W_ret ?_
   obtain rfl := Option.some.inj H
   exact told3 rfl
 ·
  intro V1 hV1 hW1 hX1
  refine (impl_PlainOk.l0.partial_correctness a1 (fun v2 s' => s' = s11 → (V1 ⟨[qs a1, .no, .no, .no, .no, qi (a1.length : Int), qi v2], [], []⟩)) ?_ _ _ hs11 rfl)
  intro l0 IH1 v2 s' H1 e
  subst e
  refine hV1 _ ?_
  refine W_seq (W_region ?_)
  refine WO_op rfl rfl rfl ?_; simp only [putT,st,ev,gt,hp,ofV,constT,intT,lm]
  refine WO_nil (W_seq ?_)
  refine W_cond rfl (fun hc => ?_) (fun hc => ?_)
  ·
   replace H1 := tr hc H1
   refine W_skip ?_
   refine W_seq ?_
   refine W_block ?_
   refine W_seq (W_region ?_)
   iterate 2 (refine WO_op rfl rfl rfl ?_; simp only [putT,st,ev,gt,hp,ofV,constT,intT,lm])
   refine WO_nil (W_seq (W_region ?_))
   iterate 2 (refine WO_op rfl rfl rfl ?_; simp only [putT,st,ev,gt,hp,ofV,constT,intT,lm])
   obtain ⟨c3, hc3, H1⟩ := bnd H1
   refine WO_op rfl rfl (ev_sx hc3 rfl rfl rfl rfl) ?_; simp only [putT,st,ev,gt,hp,ofV,constT,intT,lm]
   obtain ⟨x4, hx4, H1⟩ := bnd H1
   refine WO_op (x := qb x4) (σ' := ⟨[], [], []⟩) rfl rfl (ev_callG (al := [.c (cI .u8 (byte c3))]) (ls := []) (impl_isLetter_ok hx4) rfl rfl rfl rfl rfl (by decide) rfl rfl rfl rfl rfl rfl) ?_; simp only [putT,st,ev,gt,hp,ofV,constT,intT,lm]
   iterate 2 (refine WO_op rfl rfl rfl ?_; simp only [putT,st,ev,gt,hp,ofV,constT,intT,lm])
   refine WO_if rfl rfl rfl (fun hc => ?_) (fun hc => ?_)
   ·
    replace H1 := tr hc H1
    simp only [putT,st,ev,gt,hp,ofV,constT,intT,lm]
    iterate 3 (refine WO_want rfl rfl rfl ?_; simp only [putT,st,ev,gt,hp,ofV,constT,intT,lm])
    refine WO_if rfl rfl rfl (fun hc => ?_) (fun hc => ?_)
    ·
     replace H1 := tr hc H1
     simp only [putT,st,ev,gt,hp,ofV,constT,intT,lm]
     iterate 12 refine WO_skip rfl rfl ?_
     refine WO_want (x := qb true) rfl rfl rfl ?_
     refine WO_op (x := qb true) rfl rfl rfl ?_; simp only [putT,st,ev,gt,hp,ofV,constT,intT,lm]
     refine WO_nil ?_
     refine W_cond (t := true) rfl (fun _ => ?_) (fun h => by cases h)
     refine W_seq (W_region ?_)
     refine WO_op rfl rfl rfl ?_; simp only [putT,st,ev,gt,hp,ofV,constT,intT,lm]
     refine WO_nil ?_
     refine W_ret ?_
     obtain rfl := Option.some.inj H1
     obtain rfl := Option.some.inj H
     exact told3 rfl
    ·
     replace H1 := fl hc H1
     simp only [putT,st,ev,gt,hp,ofV,constT,intT,lm]
     iterate 2 (refine WO_want rfl rfl rfl ?_; simp only [putT,st,ev,gt,hp,ofV,constT,intT,lm])
     obtain ⟨c5, hc5, H1⟩ := bnd H1
     refine WO_want rfl rfl (ev_sx hc5 rfl rfl rfl rfl) ?_; simp only [putT,st,ev,gt,hp,ofV,constT,intT,lm]
     obtain ⟨x6, hx6, H1⟩ := bnd H1
     refine WO_want (x := qb x6) (σ' := ⟨[], [], []⟩) rfl rfl (ev_callG (al := [.c (cI .u8 (byte c5))]) (ls := []) (impl_isDigit_ok hx6) rfl rfl rfl rfl rfl (by decide) rfl rfl rfl rfl rfl rfl) ?_; simp only [putT,st,ev,gt,hp,ofV,constT,intT,lm]
     iterate 2 (refine WO_want rfl rfl rfl ?_; simp only [putT,st,ev,gt,hp,ofV,constT,intT,lm])
     refine WO_if rfl rfl rfl (fun hc => ?_) (fun hc => ?_)
     ·
      replace H1 := tr hc H1
      simp only [putT,st,ev,gt,hp,ofV,constT,intT,lm]
      iterate 2 (refine WO_want rfl rfl rfl ?_; simp only [putT,st,ev,gt,hp,ofV,constT,intT,lm])
      obtain ⟨c7, hc7, H1⟩ := bnd H1
      refine WO_want rfl rfl (ev_sx hc7 rfl rfl rfl rfl) ?_; simp only [putT,st,ev,gt,hp,ofV,constT,intT,lm]
      obtain ⟨x8, hx8, H1⟩ := bnd H1
      refine WO_want (x := qi x8) (σ' := ⟨[], [], []⟩) rfl rfl (ev_callG (al := [qs [95, 46, 47, 45], .c (cI .u8 (byte c7))]) (ls := []) (strings_IndexByte_ok hx8) rfl rfl rfl rfl rfl (by decide) rfl rfl rfl rfl rfl rfl) ?_; simp only [putT,st,ev,gt,hp,ofV,constT,intT,lm]
      refine WO_want rfl rfl rfl ?_; simp only [putT,st,ev,gt,hp,ofV,constT,intT,lm]
      iterate 2 (refine WO_want (x := qb (decide (x8 < 0))) rfl rfl rfl ?_; simp only [putT,st,ev,gt,hp,ofV,constT,intT,lm])
      refine WO_op (x := qb (decide (x8 < 0))) rfl rfl rfl ?_; simp only [putT,st,ev,gt,hp,ofV,constT,intT,lm]
      refine WO_nil ?_
      refine W_cond rfl (fun hc => ?_) (fun hc => ?_)
      ·
       replace H1 := tr hc H1
       refine W_seq (W_region ?_)
       refine WO_op rfl rfl rfl ?_; simp only [putT,st,ev,gt,hp,ofV,constT,intT,lm]
       refine WO_nil ?_
       refine W_ret ?_
       obtain rfl := Option.some.inj H1
       obtain rfl := Option.some.inj H
       exact told3 rfl
      ·
       replace H1 := fl hc H1
       refine W_skip ?_
       refine W_region ?_
       iterate 2 (refine WO_op rfl rfl rfl ?_; simp only [putT,st,ev,gt,hp,ofV,constT,intT,lm])
       refine WO_nil ?_
       exact hW1 _ _ ((IH1 _ _ H1 rfl)) (le_intro [] [] (by decide) (by decide) rfl (by simp [leS, leT, leA, gt]) (by simp [leB, leT, leA]) (by simp [leR]))
     ·
      replace H1 := fl hc H1
      simp only [putT,st,ev,gt,hp,ofV,constT,intT,lm]
      iterate 5 refine WO_skip rfl rfl ?_
      simp only [putT,st,ev,gt,hp,ofV,constT,intT,lm]
      iterate 2 (refine WO_want (x := qb false) rfl rfl rfl ?_; simp only [putT,st,ev,gt,hp,ofV,constT,intT,lm])
      refine WO_op (x := qb false) rfl rfl rfl ?_; simp only [putT,st,ev,gt,hp,ofV,constT,intT,lm]
      refine WO_nil ?_
      refine W_cond (t := false) rfl (fun h => by cases h) (fun _ => ?_)
      refine W_skip ?_
      refine W_region ?_
      iterate 2 (refine WO_op rfl rfl rfl ?_; simp only [putT,st,ev,gt,hp,ofV,constT,intT,lm])
      refine WO_nil ?_
      exact hW1 _ _ ((IH1 _ _ H1 rfl)) (le_intro [] [] (by decide) (by decide) rfl (by simp [leS, leT, leA, gt]) (by simp [leB, leT, leA]) (by simp [leR]))
   ·
    replace H1 := fl hc H1
    simp only [putT,st,ev,gt,hp,ofV,constT,intT,lm]
    iterate 16 refine WO_skip rfl rfl ?_
    refine WO_op (x := qb false) rfl rfl rfl ?_; simp only [putT,st,ev,gt,hp,ofV,constT,intT,lm]
    refine WO_nil ?_
    refine W_cond (t := false) rfl (fun h => by cases h) (fun _ => ?_)
    refine W_skip ?_
    refine W_region ?_
    iterate 2 (refine WO_op rfl rfl rfl ?_; simp only [putT,st,ev,gt,hp,ofV,constT,intT,lm])
    refine WO_nil ?_
    exact hW1 _ _ ((IH1 _ _ H1 rfl)) (le_intro [] [] (by decide) (by decide) rfl (by simp [leS, leT, leA, gt]) (by simp [leB, leT, leA]) (by simp [leR]))
  ·
   replace H1 := fl hc H1
   refine W_exit ?_
   obtain rfl := Option.some.inj H1
   exact hX1 () _ rfl (le_intro [] [] (by decide) (by decide) rfl (by simp [leS, leT, leA, gt]) (by simp [leB, leT, leA]) (by simp [leR]))
theorem impl_Inline_ok  {a1 : Node} {r : Str} (H : impl_Inline a1 = some r) : R 38 [.ag [(cI .i64 a1.Kind, none), (cI .i64 a1.N, none), (cS a1.S, none), (cL eS a1.Keys, none), (cL eR_Node a1.Kids, none)]] = some (.c (cS r) none, []) := by
 unfold impl_Inline at H
 refine Fz_walk 19 rfl rfl Try.func38 rfl (by kernel_rfl) rfl rfl rfl rfl ?_
 simp only [tellVs, tellV, tells, tell, st0, padT, SX.newRow, SX.newBox, List.length_cons, List.length_nil, Nat.reduceAdd, Nat.reduceSub, List.replicate, List.cons_append, List.nil_append, List.foldl_cons, List.foldl_nil]
 refine W_seq (W_region ?_)
 refine WO_op (x := .bp 0 0) (σ' := ⟨[], [some [qi a1.Kind, qi a1.N, qs a1.S, .c (cL eS a1.Keys), .c (cL eR_Node a1.Kids)]], []⟩) rfl rfl rfl ?_
 refine WO_op rfl rfl rfl ?_; simp only [putT,st,ev,gt,hp,ofV,constT,intT,lm]
 refine WO_nil (W_seq (W_seq (W_region ?_)))
 refine WO_op (x := .bp 0 0) rfl rfl rfl ?_
 refine WO_op (x := qi a1.Kind) rfl rfl rfl ?_; simp only [putT,st,ev,gt,hp,ofV,constT,intT,lm]
 iterate 2 (refine WO_op rfl rfl rfl ?_; simp only [putT,st,ev,gt,hp,ofV,constT,intT,lm])
 refine WO_if rfl rfl rfl (fun hc => ?_) (fun hc => ?_)
 ·
  replace H := tr hc H
  refine WO_want (x := .bp 0 2) rfl rfl rfl ?_
  refine WO_want (x := qs a1.S) rfl rfl rfl ?_; simp only [putT,st,ev,gt,hp,ofV,constT,intT,lm]
  obtain ⟨x2, hx2, H⟩ := bnd H
  refine WO_want (x := qb x2) (σ' := ⟨[], [some [qi a1.Kind, qi a1.N, qs a1.S, .c (cL eS a1.Keys), .c (cL eR_Node a1.Kids)]], []⟩) rfl rfl (ev_callG (al := [qs a1.S]) (ls := []) (impl_PlainOk_ok hx2) rfl rfl rfl rfl rfl (by decide) rfl rfl rfl rfl rfl rfl) ?_; simp only [putT,st,ev,gt,hp,ofV,constT,intT,lm]
  refine WO_op (x := qb x2) rfl rfl rfl ?_
  refine WO_op rfl rfl rfl ?_; simp only [putT,st,ev,gt,hp,ofV,constT,intT,lm]
  refine WO_if rfl rfl rfl (fun hc => ?_) (fun hc => ?_)
  ·
   replace H := tr hc H
   refine WO_want (x := .ag [qi a1.Kind, qi a1.N, qs a1.S, .c (cL eS a1.Keys), .c (cL eR_Node a1.Kids)]) rfl rfl rfl ?_; simp only [putT,st,ev,gt,hp,ofV,constT,intT,lm]
   obtain ⟨x3, hx3, H⟩ := bnd H
   refine WO_want (x := qb x3) (σ' := ⟨[], [some [qi a1.Kind, qi a1.N, qs a1.S, .c (cL eS a1.Keys), .c (cL eR_Node a1.Kids)]], []⟩) rfl rfl (ev_callG (al := [.ag [qi a1.Kind, qi a1.N, qs a1.S, .c (cL eS a1.Keys), .c (cL eR_Node a1.Kids)]]) (ls := []) (impl_TreeOk_ok hx3) rfl rfl rfl rfl rfl (by decide) rfl rfl rfl rfl rfl rfl) ?_; simp only [putT,st,ev,gt,hp,ofV,constT,intT,lm]
   refine WO_op (x := qb x3) rfl rfl rfl ?_; simp only [putT,st,ev,gt,hp,ofV,constT,intT,lm]
   refine WO_nil ?_
   refine W_cond rfl (fun hc => ?_) (fun hc => ?_)
   ·
    replace H := tr hc H
    refine W_seq (W_region ?_)
    refine WO_op (x := .bp 0 2) rfl rfl rfl ?_
    refine WO_op (x := qs a1.S) rfl rfl rfl ?_
    refine WO_op rfl rfl rfl ?_; simp only [putT,st,ev,gt,hp,ofV,constT,intT,lm]
    refine WO_nil ?_
    refine W_ret ?_
    obtain rfl := Option.some.inj H
    exact told3 rfl
   ·
    replace H := fl hc H
    refine W_skip ?_
    refine W_seq (W_region ?_)
    refine WO_op (x := .ag [qi a1.Kind, qi a1.N, qs a1.S, .c (cL eS a1.Keys), .c (cL eR_Node a1.Kids)]) rfl rfl rfl ?_; simp only [putT,st,ev,gt,hp,ofV,constT,intT,lm]
    obtain ⟨x4, hx4, H⟩ := bnd H
    refine WO_op (x := qs x4) (σ' := ⟨[], [some [qi a1.Kind, qi a1.N, qs a1.S, .c (cL eS a1.Keys), .c (cL eR_Node a1.Kids)]], []⟩) rfl rfl (ev_callG (al := [.ag [qi a1.Kind, qi a1.N, qs a1.S, .c (cL eS a1.Keys), .c (cL eR_Node a1.Kids)]]) (ls := []) (impl_Braced_ok hx4) rfl rfl rfl rfl rfl (by decide) rfl rfl rfl rfl rfl rfl) ?_; simp only [putT,st,ev,gt,hp,ofV,constT,intT,lm]
    refine WO_op rfl rfl rfl ?_; simp only [putT,st,ev,gt,hp,ofV,constT,intT,lm]
    refine WO_nil ?_
    refine W_ret ?_
    obtain rfl := Option.some.inj H
    exact told3 rfl
  ·
   replace H := fl hc H
   simp only [putT,st,ev,gt,hp,ofV,constT,intT,lm]
   iterate 2 refine WO_skip rfl rfl ?_
   refine WO_op (x := qb false) rfl rfl rfl ?_; simp only [putT,st,ev,gt,hp,ofV,constT,intT,lm]
   refine WO_nil ?_
   refine W_cond (t := false) rfl (fun h => by cases h) (fun _ => ?_)
   refine W_skip ?_
   refine W_seq (W_region ?_)
   refine WO_op (x := .ag [qi a1.Kind, qi a1.N, qs a1.S, .c (cL eS a1.Keys), .c (cL eR_Node a1.Kids)]) rfl rfl rfl ?_; simp only [putT,st,ev,gt,hp,ofV,constT,intT,lm]
   obtain ⟨x5, hx5, H⟩ := bnd H
   refine WO_op (x := qs x5) (σ' := ⟨[], [some [qi a1.Kind, qi a1.N, qs a1.S, .c (cL eS a1.Keys), .c (cL eR_Node a1.Kids)]], []⟩) rfl rfl (ev_callG (al := [.ag [qi a1.Kind, qi a1.N, qs a1.S, .c (cL eS a1.Keys), .c (cL eR_Node a1.Kids)]]) (ls := []) (impl_Braced_ok hx5) rfl rfl rfl rfl rfl (by decide) rfl rfl rfl rfl rfl rfl) ?_; simp only [putT,st,ev,gt,hp,ofV,constT,intT,lm]
   refine WO_op rfl rfl rfl ?_; simp only [putT,st,ev,gt,hp,ofV,constT,intT,lm]
   refine WO_nil ?_
   refine W_ret ?_
   obtain rfl := Option.some.inj H
   exact told3 rfl
 ·
  replace H := fl hc H
  simp only [putT,st,ev,gt,hp,ofV,constT,intT,lm]
  iterate 3 refine WO_skip rfl rfl ?_
  refine WO_op (x := qb false) rfl rfl rfl ?_
  refine WO_op rfl rfl rfl ?_; simp only [putT,st,ev,gt,hp,ofV,constT,intT,lm]
  iterate 2 refine WO_skip rfl rfl ?_
  refine WO_op (x := qb false) rfl rfl rfl ?_; simp only [putT,st,ev,gt,hp,ofV,constT,intT,lm]
  refine WO_nil ?_
  refine W_cond (t := false) rfl (fun h => by cases h) (fun _ => ?_)
  refine W_skip ?_
  refine W_seq (W_region ?_)
  refine WO_op (x := .ag [qi a1.Kind, qi a1.N, qs a1.S, .c (cL eS a1.Keys), .c (cL eR_Node a1.Kids)]) rfl rfl rfl ?_; simp only [putT,st,ev,gt,hp,ofV,constT,intT,lm]
  obtain ⟨x6, hx6, H⟩ := bnd H
  refine WO_op (x := qs x6) (σ' := ⟨[], [some [qi a1.Kind, qi a1.N, qs a1.S, .c (cL eS a1.Keys), .c (cL eR_Node a1.Kids)]], []⟩) rfl rfl (ev_callG (al := [.ag [qi a1.Kind, qi a1.N, qs a1.S, .c (cL eS a1.Keys), .c (cL eR_Node a1.Kids)]]) (ls := []) (impl_Braced_ok hx6) rfl rfl rfl rfl rfl (by decide) rfl rfl rfl rfl rfl rfl) ?_; simp only [putT,st,ev,gt,hp,ofV,constT,intT,lm]
  refine WO_op rfl rfl rfl ?_; simp only [putT,st,ev,gt,hp,ofV,constT,intT,lm]
  refine WO_nil ?_
  refine W_ret ?_
  obtain rfl := Option.some.inj H
  exact told3 rfl
theorem strings_Repeat_ok {a1 : Str} {a2 : Int} {r : Str} (H : strings_Repeat a1 a2 = some r) : R 39 [.c (cS a1) none, .c (cI .i64 a2) none] = some (.c (cS r) none, []) :=
  Fz_pr rfl (repeatF_of H)
theorem impl_indented_F_ok {rc43 : Node → Int → Option (Str)} (hrc43 : ∀ {a1 : Node} {a2 : Int} {r : Str}, rc43 a1 a2 = some r → R 26 [.ag [(cI .i64 a1.Kind, none), (cI .i64 a1.N, none), (cS a1.S, none), (cL eS a1.Keys, none), (cL eR_Node a1.Kids, none)], .c (cI .i64 a2) none] = some (.c (cS r) none, [])) {a1 : Node} {a2 : Int} {r : Str} (H : impl_indented_F rc43 a1 a2 = some r) : R 26 [.ag [(cI .i64 a1.Kind, none), (cI .i64 a1.N, none), (cS a1.S, none), (cL eS a1.Keys, none), (cL eR_Node a1.Kids, none)], .c (cI .i64 a2) none] = some (.c (cS r) none, []) := by
 unfold impl_indented_F at H
 refine Fz_walk 76 rfl rfl Try.func26 rfl (by kernel_rfl) rfl rfl rfl rfl ?_
 simp only [tellVs, tellV, tells, tell, st0, padT, SX.newRow, SX.newBox, List.length_cons, List.length_nil, Nat.reduceAdd, Nat.reduceSub, List.replicate, List.cons_append, List.nil_append, List.foldl_cons, List.foldl_nil]
 refine W_seq (W_region ?_)
 refine WO_op (x := .bp 0 0) (σ' := ⟨[], [some [qi a1.Kind, qi a1.N, qs a1.S, .c (cL eS a1.Keys), .c (cL eR_Node a1.Kids)]], []⟩) rfl rfl rfl ?_
 refine WO_op rfl rfl rfl ?_; simp only [putT,st,ev,gt,hp,ofV,constT,intT,lm]
 refine WO_nil (W_seq (W_seq (W_region ?_)))
 refine WO_op (x := .bp 0 4) rfl rfl rfl ?_
 refine WO_op (x := .c (cL eR_Node a1.Kids)) rfl rfl rfl ?_; simp only [putT,st,ev,gt,hp,ofV,constT,intT,lm]
 iterate 2 (refine WO_op rfl rfl rfl ?_; simp only [putT,st,ev,gt,hp,ofV,constT,intT,lm])
 refine WO_nil ?_
 refine W_cond rfl (fun hc => ?_) (fun hc => ?_)
 ·
  replace H := tr hc H
  refine W_seq (W_region ?_)
  refine WO_op (x := .ag [qi a1.Kind, qi a1.N, qs a1.S, .c (cL eS a1.Keys), .c (cL eR_Node a1.Kids)]) rfl rfl rfl ?_; simp only [putT,st,ev,gt,hp,ofV,constT,intT,lm]
  obtain ⟨x3, hx3, H⟩ := bnd H
  refine WO_op (x := qs x3) (σ' := ⟨[], [some [qi a1.Kind, qi a1.N, qs a1.S, .c (cL eS a1.Keys), .c (cL eR_Node a1.Kids)]], []⟩) rfl rfl (ev_callG (al := [.ag [qi a1.Kind, qi a1.N, qs a1.S, .c (cL eS a1.Keys), .c (cL eR_Node a1.Kids)]]) (ls := []) (impl_Inline_ok hx3) rfl rfl rfl rfl rfl (by decide) rfl rfl rfl rfl rfl rfl) ?_; simp only [putT,st,ev,gt,hp,ofV,constT,intT,lm]
  obtain ⟨s4, hs4, H⟩ := bnd H
  refine WO_op rfl rfl (ev_cat hs4 rfl rfl rfl) ?_; simp only [putT,st,ev,gt,hp,ofV,constT,intT,lm]
  refine WO_op rfl rfl rfl ?_; simp only [putT,st,ev,gt,hp,ofV,constT,intT,lm]
  refine WO_nil ?_
  refine W_ret ?_
  obtain rfl := Option.some.inj H
  exact told3 rfl
 ·
  replace H := fl hc H
  refine W_skip ?_
  refine W_seq (W_region ?_)
  refine WO_op rfl rfl rfl ?_; simp only [putT,st,ev,gt,hp,ofV,constT,intT,lm]
  refine WO_nil (W_seq (W_seq (W_region ?_)))
  refine WO_op (x := .bp 0 4) rfl rfl rfl ?_
  refine WO_op (x := .c (cL eR_Node a1.Kids)) rfl rfl rfl ?_; simp only [putT,st,ev,gt,hp,ofV,constT,intT,lm]
  iterate 2 (refine WO_op rfl rfl rfl ?_; simp only [putT,st,ev,gt,hp,ofV,constT,intT,lm])
  refine WO_nil ?_
  refine W_block ?_
  obtain ⟨t42, ht42, H⟩ := bnd H
  refine loop_rule (ls := []) 0 (fun t42 : Str => ⟨[.no, .no, .no, .no, .no, qs t42], [], []⟩) (fun t => t42 = t) ⟨[.no, qi a2, .bp 0 0, .no, .no, qs [], .no, .no, .no, .no, .no, .no, .no, .no, .no, .no, .c (cL eR_Node a1.Kids), qi (a1.Kids.length : Int), qi 0], [some [qi a1.Kind, qi a1.N, qs a1.S, .c (cL eS a1.Keys), .c (cL eR_Node a1.Kids)]], []⟩ (by repeat (first | exact mono_told | refine mono_seq ?_ | refine mono_blk ?_ | refine mono_lp ?_)) (le_intro [0] [] (by decide) (by decide) rfl (by simp [leS, leT, leA, gt]) (by simp [leB, leT, leA]) (by simp [leR])) ?_ ?_
  ·
   rintro t1 rfl
   refine W_seq (W_region ?_)
   iterate 2 (refine WO_op rfl rfl rfl ?_; simp only [putT,st,ev,gt,hp,ofV,constT,intT,lm])
   refine WO_nil ?_
   refine W_ret ?_
   obtain rfl := Option.some.inj H
   exact told3 rfl
  ·
   intro V1 hV1 hW1 hX1
   refine (impl_indented.l0.partial_correctness rc43 a1 a2 (fun v5 v6 s' => s' = t42 → (V1 ⟨[.no, qi a2, .bp 0 0, .no, .no, qs v5, .no, .no, .no, .no, .no, .no, .no, .no, .no, .no, .c (cL eR_Node a1.Kids), qi (a1.Kids.length : Int), qi v6], [some [qi a1.Kind, qi a1.N, qs a1.S, .c (cL eS a1.Keys), .c (cL eR_Node a1.Kids)]], []⟩)) ?_ _ _ _ ht42 rfl)
   intro l0 IH1 v5 v6 s' H1 e
   subst e
   refine hV1 _ ?_
   refine W_seq (W_region ?_)
   refine WO_op rfl rfl rfl ?_; simp only [putT,st,ev,gt,hp,ofV,constT,intT,lm]
   refine WO_nil (W_seq ?_)
   refine W_cond rfl (fun hc => ?_) (fun hc => ?_)
   ·
    replace H1 := tr hc H1
    refine W_skip ?_
    refine W_seq ?_
    refine W_block ?_
    refine W_seq (W_region ?_)
    refine WO_op rfl rfl rfl ?_; simp only [putT,st,ev,gt,hp,ofV,constT,intT,lm]
    obtain ⟨x7, hx7, H1⟩ := bnd H1
    obtain ⟨y8, hy8, H1⟩ := bnd H1
    rw [dN_Node_some hy8] at hx7
    refine WO_op rfl rfl (ev_ix (en := eR_Node) hx7 rfl rfl rfl rfl rfl rfl rfl) ?_; simp only [putT,st,ev,gt,hp,ofV,constT,intT,lm]
    refine WO_op (x := .ag [qi y8.Kind, qi y8.N, qs y8.S, .c (cL eS y8.Keys), .c (cL eR_Node y8.Kids)]) rfl rfl rfl ?_
    refine WO_op (x := .bp 1 0) (σ' := ⟨[], [some [qi a1.Kind, qi a1.N, qs a1.S, .c (cL eS a1.Keys), .c (cL eR_Node a1.Kids)], some [qi 0, qi 0, qs [], .nil, .nil]], []⟩) rfl rfl rfl ?_
    refine WO_op rfl rfl rfl ?_
    refine WO_op (x := .no) (σ' := ⟨[], [some [qi a1.Kind, qi a1.N, qs a1.S, .c (cL eS a1.Keys), .c (cL eR_Node a1.Kids)], some [qi y8.Kind, qi y8.N, qs y8.S, .c (cL eS y8.Keys), .c (cL eR_Node y8.Kids)]], []⟩) rfl rfl rfl ?_; simp only [putT,st,ev,gt,hp,ofV,constT,intT,lm]
    refine WO_nil (W_seq (W_region ?_))
    iterate 2 (refine WO_op rfl rfl rfl ?_; simp only [putT,st,ev,gt,hp,ofV,constT,intT,lm])
    obtain ⟨x9, hx9, H1⟩ := bnd H1
    refine WO_op (x := qs x9) (σ' := ⟨[], [some [qi a1.Kind, qi a1.N, qs a1.S, .c (cL eS a1.Keys), .c (cL eR_Node a1.Kids)], some [qi y8.Kind, qi y8.N, qs y8.S, .c (cL eS y8.Keys), .c (cL eR_Node y8.Kids)]], []⟩) rfl rfl (ev_callG (al := [qs [32], qi a2]) (ls := []) (strings_Repeat_ok hx9) rfl rfl rfl rfl rfl (by decide) rfl rfl rfl rfl rfl rfl) ?_; simp only [putT,st,ev,gt,hp,ofV,constT,intT,lm]
    obtain ⟨s10, hs10, H1⟩ := bnd H1
    refine WO_op rfl rfl (ev_cat hs10 rfl rfl rfl) ?_; simp only [putT,st,ev,gt,hp,ofV,constT,intT,lm]
    refine WO_op rfl rfl rfl ?_; simp only [putT,st,ev,gt,hp,ofV,constT,intT,lm]
    refine WO_nil (W_seq ?_)
    refine W_block ?_
    refine W_seq (W_region ?_)
    refine WO_op (x := .bp 0 0) rfl rfl rfl ?_
    refine WO_op (x := qi a1.Kind) rfl rfl rfl ?_; simp only [putT,st,ev,gt,hp,ofV,constT,intT,lm]
    iterate 2 (refine WO_op rfl rfl rfl ?_; simp only [putT,st,ev,gt,hp,ofV,constT,intT,lm])
    refine WO_nil ?_
    refine W_cond rfl (fun hc => ?_) (fun hc => ?_)
    ·
     replace H1 := tr hc H1
     refine W_region ?_
     refine WO_op rfl rfl rfl ?_; simp only [putT,st,ev,gt,hp,ofV,constT,intT,lm]
     obtain ⟨s11, hs11, H1⟩ := bnd H1
     refine WO_op rfl rfl (ev_cat hs11 rfl rfl rfl) ?_; simp only [putT,st,ev,gt,hp,ofV,constT,intT,lm]
     refine WO_op rfl rfl rfl ?_; simp only [putT,st,ev,gt,hp,ofV,constT,intT,lm]
     refine WO_nil (W_seq (W_region ?_))
     refine WO_op (x := .bp 1 4) rfl rfl rfl ?_
     refine WO_op (x := .c (cL eR_Node y8.Kids)) rfl rfl rfl ?_; simp only [putT,st,ev,gt,hp,ofV,constT,intT,lm]
     iterate 2 (refine WO_op rfl rfl rfl ?_; simp only [putT,st,ev,gt,hp,ofV,constT,intT,lm])
     refine WO_nil ?_
     refine W_cond rfl (fun hc => ?_) (fun hc => ?_)
     ·
      replace H1 := tr hc H1
      refine W_region ?_
      refine WO_op rfl rfl rfl ?_
      refine WO_op (x := .ag [qi y8.Kind, qi y8.N, qs y8.S, .c (cL eS y8.Keys), .c (cL eR_Node y8.Kids)]) rfl rfl rfl ?_; simp only [putT,st,ev,gt,hp,ofV,constT,intT,lm]
      iterate 2 (refine WO_op rfl rfl rfl ?_; simp only [putT,st,ev,gt,hp,ofV,constT,intT,lm])
      obtain ⟨x12, hx12, H1⟩ := bnd H1
      refine WO_op (x := qs x12) (σ' := ⟨[], [some [qi a1.Kind, qi a1.N, qs a1.S, .c (cL eS a1.Keys), .c (cL eR_Node a1.Kids)], some [qi y8.Kind, qi y8.N, qs y8.S, .c (cL eS y8.Keys), .c (cL eR_Node y8.Kids)]], []⟩) rfl rfl (ev_callG (al := [.ag [qi y8.Kind, qi y8.N, qs y8.S, .c (cL eS y8.Keys), .c (cL eR_Node y8.Kids)], qi (IntKind.i64.wrap (a2 + 2))]) (ls := []) (hrc43 hx12) rfl rfl rfl rfl rfl (by decide) rfl rfl rfl rfl rfl rfl) ?_; simp only [putT,st,ev,gt,hp,ofV,constT,intT,lm]
      obtain ⟨s13, hs13, H1⟩ := bnd H1
      refine WO_op rfl rfl (ev_cat hs13 rfl rfl rfl) ?_; simp only [putT,st,ev,gt,hp,ofV,constT,intT,lm]
      obtain ⟨s14, hs14, H1⟩ := bnd H1
      refine WO_op rfl rfl (ev_cat hs14 rfl rfl rfl) ?_; simp only [putT,st,ev,gt,hp,ofV,constT,intT,lm]
      refine WO_op rfl rfl rfl ?_; simp only [putT,st,ev,gt,hp,ofV,constT,intT,lm]
      refine WO_nil (W_region ?_)
      iterate 2 (refine WO_op rfl rfl rfl ?_; simp only [putT,st,ev,gt,hp,ofV,constT,intT,lm])
      refine WO_nil ?_
      exact hW1 _ _ ((IH1 _ _ _ H1 rfl)) (le_intro [0] [] (by decide) (by decide) rfl (by simp [leS, leT, leA, gt]) (by simp [leB, leT, leA]) (by simp [leR]))
     ·
      replace H1 := fl hc H1
      refine W_region ?_
      refine WO_op rfl rfl rfl ?_
      refine WO_op (x := .ag [qi y8.Kind, qi y8.N, qs y8.S, .c (cL eS y8.Keys), .c (cL eR_Node y8.Kids)]) rfl rfl rfl ?_; simp only [putT,st,ev,gt,hp,ofV,constT,intT,lm]
      obtain ⟨x15, hx15, H1⟩ := bnd H1
      refine WO_op (x := qs x15) (σ' := ⟨[], [some [qi a1.Kind, qi a1.N, qs a1.S, .c (cL eS a1.Keys), .c (cL eR_Node a1.Kids)], some [qi y8.Kind, qi y8.N, qs y8.S, .c (cL eS y8.Keys), .c (cL eR_Node y8.Kids)]], []⟩) rfl rfl (ev_callG (al := [.ag [qi y8.Kind, qi y8.N, qs y8.S, .c (cL eS y8.Keys), .c (cL eR_Node y8.Kids)]]) (ls := []) (impl_Inline_ok hx15) rfl rfl rfl rfl rfl (by decide) rfl rfl rfl rfl rfl rfl) ?_; simp only [putT,st,ev,gt,hp,ofV,constT,intT,lm]
      obtain ⟨s16, hs16, H1⟩ := bnd H1
      refine WO_op rfl rfl (ev_cat hs16 rfl rfl rfl) ?_; simp only [putT,st,ev,gt,hp,ofV,constT,intT,lm]
      obtain ⟨s17, hs17, H1⟩ := bnd H1
      refine WO_op rfl rfl (ev_cat hs17 rfl rfl rfl) ?_; simp only [putT,st,ev,gt,hp,ofV,constT,intT,lm]
      obtain ⟨s18, hs18, H1⟩ := bnd H1
      refine WO_op rfl rfl (ev_cat hs18 rfl rfl rfl) ?_; simp only [putT,st,ev,gt,hp,ofV,constT,intT,lm]
      refine WO_op rfl rfl rfl ?_; simp only [putT,st,ev,gt,hp,ofV,constT,intT,lm]
      refine WO_nil (W_region ?_)
      iterate 2 (refine WO_op rfl rfl rfl ?_; simp only [putT,st,ev,gt,hp,ofV,constT,intT,lm])
      refine WO_nil ?_
      exact hW1 _ _ ((IH1 _ _ _ H1 rfl)) (le_intro [0] [] (by decide) (by decide) rfl (by simp [leS, leT, leA, gt]) (by simp [leB, leT, leA]) (by simp [leR]))
    ·
     replace H1 := fl hc H1
     refine W_seq (W_region ?_)
     refine WO_op (x := .bp 0 3) rfl rfl rfl ?_
     refine WO_op (x := .c (cL eS a1.Keys)) rfl rfl rfl ?_
     refine WO_op rfl rfl rfl ?_; simp only [putT,st,ev,gt,hp,ofV,constT,intT,lm]
     obtain ⟨x19, hx19, H1⟩ := bnd H1
     refine WO_op rfl rfl (ev_ix (en := eS) hx19 rfl rfl rfl rfl rfl rfl rfl) ?_; simp only [putT,st,ev,gt,hp,ofV,constT,intT,lm]
     refine WO_op (x := qs x19) rfl rfl rfl ?_; simp only [putT,st,ev,gt,hp,ofV,constT,intT,lm]
     obtain ⟨x20, hx20, H1⟩ := bnd H1
     refine WO_op (x := qb x20) (σ' := ⟨[], [some [qi a1.Kind, qi a1.N, qs a1.S, .c (cL eS a1.Keys), .c (cL eR_Node a1.Kids)], some [qi y8.Kind, qi y8.N, qs y8.S, .c (cL eS y8.Keys), .c (cL eR_Node y8.Kids)]], []⟩) rfl rfl (ev_callG (al := [qs x19]) (ls := []) (impl_PlainOk_ok hx20) rfl rfl rfl rfl rfl (by decide) rfl rfl rfl rfl rfl rfl) ?_; simp only [putT,st,ev,gt,hp,ofV,constT,intT,lm]
     refine WO_op rfl rfl rfl ?_; simp only [putT,st,ev,gt,hp,ofV,constT,intT,lm]
     refine WO_nil ?_
     refine W_cond rfl (fun hc => ?_) (fun hc => ?_)
     ·
      replace H1 := tr hc H1
      refine W_region ?_
      refine WO_op rfl rfl rfl ?_
      refine WO_op (x := .bp 0 3) rfl rfl rfl ?_
      refine WO_op (x := .c (cL eS a1.Keys)) rfl rfl rfl ?_
      refine WO_op rfl rfl rfl ?_; simp only [putT,st,ev,gt,hp,ofV,constT,intT,lm]
      obtain ⟨x21, hx21, H1⟩ := bnd H1
      refine WO_op rfl rfl (ev_ix (en := eS) hx21 rfl rfl rfl rfl rfl rfl rfl) ?_; simp only [putT,st,ev,gt,hp,ofV,constT,intT,lm]
      refine WO_op (x := qs x21) rfl rfl rfl ?_; simp only [putT,st,ev,gt,hp,ofV,constT,intT,lm]
      obtain ⟨s22, hs22, H1⟩ := bnd H1
      refine WO_op rfl rfl (ev_cat hs22 rfl rfl rfl) ?_; simp only [putT,st,ev,gt,hp,ofV,constT,intT,lm]
      obtain ⟨s23, hs23, H1⟩ := bnd H1
      refine WO_op rfl rfl (ev_cat hs23 rfl rfl rfl) ?_; simp only [putT,st,ev,gt,hp,ofV,constT,intT,lm]
      refine WO_op rfl rfl rfl ?_; simp only [putT,st,ev,gt,hp,ofV,constT,intT,lm]
      refine WO_nil (W_seq (W_region ?_))
      refine WO_op (x := .bp 1 4) rfl rfl rfl ?_
      refine WO_op (x := .c (cL eR_Node y8.Kids)) rfl rfl rfl ?_; simp only [putT,st,ev,gt,hp,ofV,constT,intT,lm]
      iterate 2 (refine WO_op rfl rfl rfl ?_; simp only [putT,st,ev,gt,hp,ofV,constT,intT,lm])
      refine WO_nil ?_
      refine W_cond rfl (fun hc => ?_) (fun hc => ?_)
      ·
       replace H1 := tr hc H1
       refine W_region ?_
       refine WO_op rfl rfl rfl ?_
       refine WO_op (x := .ag [qi y8.Kind, qi y8.N, qs y8.S, .c (cL eS y8.Keys), .c (cL eR_Node y8.Kids)]) rfl rfl rfl ?_; simp only [putT,st,ev,gt,hp,ofV,constT,intT,lm]
       iterate 2 (refine WO_op rfl rfl rfl ?_; simp only [putT,st,ev,gt,hp,ofV,constT,intT,lm])
       obtain ⟨x24, hx24, H1⟩ := bnd H1
       refine WO_op (x := qs x24) (σ' := ⟨[], [some [qi a1.Kind, qi a1.N, qs a1.S, .c (cL eS a1.Keys), .c (cL eR_Node a1.Kids)], some [qi y8.Kind, qi y8.N, qs y8.S, .c (cL eS y8.Keys), .c (cL eR_Node y8.Kids)]], []⟩) rfl rfl (ev_callG (al := [.ag [qi y8.Kind, qi y8.N, qs y8.S, .c (cL eS y8.Keys), .c (cL eR_Node y8.Kids)], qi (IntKind.i64.wrap (a2 + 2))]) (ls := []) (hrc43 hx24) rfl rfl rfl rfl rfl (by decide) rfl rfl rfl rfl rfl rfl) ?_; simp only [putT,st,ev,gt,hp,ofV,constT,intT,lm]
       obtain ⟨s25, hs25, H1⟩ := bnd H1
       refine WO_op rfl rfl (ev_cat hs25 rfl rfl rfl) ?_; simp only [putT,st,ev,gt,hp,ofV,constT,intT,lm]
       obtain ⟨s26, hs26, H1⟩ := bnd H1
       refine WO_op rfl rfl (ev_cat hs26 rfl rfl rfl) ?_; simp only [putT,st,ev,gt,hp,ofV,constT,intT,lm]
       refine WO_op rfl rfl rfl ?_; simp only [putT,st,ev,gt,hp,ofV,constT,intT,lm]
       refine WO_nil (W_region ?_)
       iterate 2 (refine WO_op rfl rfl rfl ?_; simp only [putT,st,ev,gt,hp,ofV,constT,intT,lm])
       refine WO_nil ?_
       exact hW1 _ _ ((IH1 _ _ _ H1 rfl)) (le_intro [0] [] (by decide) (by decide) rfl (by simp [leS, leT, leA, gt]) (by simp [leB, leT, leA]) (by simp [leR]))
      ·
       replace H1 := fl hc H1
       refine W_region ?_
       refine WO_op rfl rfl rfl ?_
       refine WO_op (x := .ag [qi y8.Kind, qi y8.N, qs y8.S, .c (cL eS y8.Keys), .c (cL eR_Node y8.Kids)]) rfl rfl rfl ?_; simp only [putT,st,ev,gt,hp,ofV,constT,intT,lm]
       obtain ⟨x27, hx27, H1⟩ := bnd H1
       refine WO_op (x := qs x27) (σ' := ⟨[], [some [qi a1.Kind, qi a1.N, qs a1.S, .c (cL eS a1.Keys), .c (cL eR_Node a1.Kids)], some [qi y8.Kind, qi y8.N, qs y8.S, .c (cL eS y8.Keys), .c (cL eR_Node y8.Kids)]], []⟩) rfl rfl (ev_callG (al := [.ag [qi y8.Kind, qi y8.N, qs y8.S, .c (cL eS y8.Keys), .c (cL eR_Node y8.Kids)]]) (ls := []) (impl_Inline_ok hx27) rfl rfl rfl rfl rfl (by decide) rfl rfl rfl rfl rfl rfl) ?_; simp only [putT,st,ev,gt,hp,ofV,constT,intT,lm]
       obtain ⟨s28, hs28, H1⟩ := bnd H1
       refine WO_op rfl rfl (ev_cat hs28 rfl rfl rfl) ?_; simp only [putT,st,ev,gt,hp,ofV,constT,intT,lm]
       obtain ⟨s29, hs29, H1⟩ := bnd H1
       refine WO_op rfl rfl (ev_cat hs29 rfl rfl rfl) ?_; simp only [putT,st,ev,gt,hp,ofV,constT,intT,lm]
       obtain ⟨s30, hs30, H1⟩ := bnd H1
       refine WO_op rfl rfl (ev_cat hs30 rfl rfl rfl) ?_; simp only [putT,st,ev,gt,hp,ofV,constT,intT,lm]
       refine WO_op rfl rfl rfl ?_; simp only [putT,st,ev,gt,hp,ofV,constT,intT,lm]
       refine WO_nil (W_region ?_)
       iterate 2 (refine WO_op rfl rfl rfl ?_; simp only [putT,st,ev,gt,hp,ofV,constT,intT,lm])
       refine WO_nil ?_
       exact hW1 _ _ ((IH1 _ _ _ H1 rfl)) (le_intro [0] [] (by decide) (by decide) rfl (by simp [leS, leT, leA, gt]) (by simp [leB, leT, leA]) (by simp [leR]))
     ·
      replace H1 := fl hc H1
      refine W_region ?_
      refine WO_op rfl rfl rfl ?_
      refine WO_op (x := .bp 0 3) rfl rfl rfl ?_
      refine WO_op (x := .c (cL eS a1.Keys)) rfl rfl rfl ?_
      refine WO_op rfl rfl rfl ?_; simp only [putT,st,ev,gt,hp,ofV,constT,intT,lm]
      obtain ⟨x31, hx31, H1⟩ := bnd H1
      refine WO_op rfl rfl (ev_ix (en := eS) hx31 rfl rfl rfl rfl rfl rfl rfl) ?_; simp only [putT,st,ev,gt,hp,ofV,constT,intT,lm]
      refine WO_op (x := qs x31) rfl rfl rfl ?_; simp only [putT,st,ev,gt,hp,ofV,constT,intT,lm]
      obtain ⟨x32, hx32, H1⟩ := bnd H1
      refine WO_op (x := qs x32) (σ' := ⟨[], [some [qi a1.Kind, qi a1.N, qs a1.S, .c (cL eS a1.Keys), .c (cL eR_Node a1.Kids)], some [qi y8.Kind, qi y8.N, qs y8.S, .c (cL eS y8.Keys), .c (cL eR_Node y8.Kids)]], []⟩) rfl rfl (ev_callG (al := [qs x31]) (ls := []) (impl_Quote_ok hx32) rfl rfl rfl rfl rfl (by decide) rfl rfl rfl rfl rfl rfl) ?_; simp only [putT,st,ev,gt,hp,ofV,constT,intT,lm]
      obtain ⟨s33, hs33, H1⟩ := bnd H1
      refine WO_op rfl rfl (ev_cat hs33 rfl rfl rfl) ?_; simp only [putT,st,ev,gt,hp,ofV,constT,intT,lm]
      obtain ⟨s34, hs34, H1⟩ := bnd H1
      refine WO_op rfl rfl (ev_cat hs34 rfl rfl rfl) ?_; simp only [putT,st,ev,gt,hp,ofV,constT,intT,lm]
      refine WO_op rfl rfl rfl ?_; simp only [putT,st,ev,gt,hp,ofV,constT,intT,lm]
      refine WO_nil (W_seq (W_region ?_))
      refine WO_op (x := .bp 1 4) rfl rfl rfl ?_
      refine WO_op (x := .c (cL eR_Node y8.Kids)) rfl rfl rfl ?_; simp only [putT,st,ev,gt,hp,ofV,constT,intT,lm]
      iterate 2 (refine WO_op rfl rfl rfl ?_; simp only [putT,st,ev,gt,hp,ofV,constT,intT,lm])
      refine WO_nil ?_
      refine W_cond rfl (fun hc => ?_) (fun hc => ?_)
      ·
       replace H1 := tr hc H1
       refine W_region ?_
       refine WO_op rfl rfl rfl ?_
       refine WO_op (x := .ag [qi y8.Kind, qi y8.N, qs y8.S, .c (cL eS y8.Keys), .c (cL eR_Node y8.Kids)]) rfl rfl rfl ?_; simp only [putT,st,ev,gt,hp,ofV,constT,intT,lm]
       iterate 2 (refine WO_op rfl rfl rfl ?_; simp only [putT,st,ev,gt,hp,ofV,constT,intT,lm])
       obtain ⟨x35, hx35, H1⟩ := bnd H1
       refine WO_op (x := qs x35) (σ' := ⟨[], [some [qi a1.Kind, qi a1.N, qs a1.S, .c (cL eS a1.Keys), .c (cL eR_Node a1.Kids)], some [qi y8.Kind, qi y8.N, qs y8.S, .c (cL eS y8.Keys), .c (cL eR_Node y8.Kids)]], []⟩) rfl rfl (ev_callG (al := [.ag [qi y8.Kind, qi y8.N, qs y8.S, .c (cL eS y8.Keys), .c (cL eR_Node y8.Kids)], qi (IntKind.i64.wrap (a2 + 2))]) (ls := []) (hrc43 hx35) rfl rfl rfl rfl rfl (by decide) rfl rfl rfl rfl rfl rfl) ?_; simp only [putT,st,ev,gt,hp,ofV,constT,intT,lm]
       obtain ⟨s36, hs36, H1⟩ := bnd H1
       refine WO_op rfl rfl (ev_cat hs36 rfl rfl rfl) ?_; simp only [putT,st,ev,gt,hp,ofV,constT,intT,lm]
       obtain ⟨s37, hs37, H1⟩ := bnd H1
       refine WO_op rfl rfl (ev_cat hs37 rfl rfl rfl) ?_; simp only [putT,st,ev,gt,hp,ofV,constT,intT,lm]
       refine WO_op rfl rfl rfl ?_; simp only [putT,st,ev,gt,hp,ofV,constT,intT,lm]
       refine WO_nil (W_region ?_)
       iterate 2 (refine WO_op rfl rfl rfl ?_; simp only [putT,st,ev,gt,hp,ofV,constT,intT,lm])
       refine WO_nil ?_
       exact hW1 _ _ ((IH1 _ _ _ H1 rfl)) (le_intro [0] [] (by decide) (by decide) rfl (by simp [leS, leT, leA, gt]) (by simp [leB, leT, leA]) (by simp [leR]))
      ·
       replace H1 := fl hc H1
       refine W_region ?_
       refine WO_op rfl rfl rfl ?_
       refine WO_op (x := .ag [qi y8.Kind, qi y8.N, qs y8.S, .c (cL eS y8.Keys), .c (cL eR_Node y8.Kids)]) rfl rfl rfl ?_; simp only [putT,st,ev,gt,hp,ofV,constT,intT,lm]
       obtain ⟨x38, hx38, H1⟩ := bnd H1
       refine WO_op (x := qs x38) (σ' := ⟨[], [some [qi a1.Kind, qi a1.N, qs a1.S, .c (cL eS a1.Keys), .c (cL eR_Node a1.Kids)], some [qi y8.Kind, qi y8.N, qs y8.S, .c (cL eS y8.Keys), .c (cL eR_Node y8.Kids)]], []⟩) rfl rfl (ev_callG (al := [.ag [qi y8.Kind, qi y8.N, qs y8.S, .c (cL eS y8.Keys), .c (cL eR_Node y8.Kids)]]) (ls := []) (impl_Inline_ok hx38) rfl rfl rfl rfl rfl (by decide) rfl rfl rfl rfl rfl rfl) ?_; simp only [putT,st,ev,gt,hp,ofV,constT,intT,lm]
       obtain ⟨s39, hs39, H1⟩ := bnd H1
       refine WO_op rfl rfl (ev_cat hs39 rfl rfl rfl) ?_; simp only [putT,st,ev,gt,hp,ofV,constT,intT,lm]
       obtain ⟨s40, hs40, H1⟩ := bnd H1
       refine WO_op rfl rfl (ev_cat hs40 rfl rfl rfl) ?_; simp only [putT,st,ev,gt,hp,ofV,constT,intT,lm]
       obtain ⟨s41, hs41, H1⟩ := bnd H1
       refine WO_op rfl rfl (ev_cat hs41 rfl rfl rfl) ?_; simp only [putT,st,ev,gt,hp,ofV,constT,intT,lm]
       refine WO_op rfl rfl rfl ?_; simp only [putT,st,ev,gt,hp,ofV,constT,intT,lm]
       refine WO_nil (W_region ?_)
       iterate 2 (refine WO_op rfl rfl rfl ?_; simp only [putT,st,ev,gt,hp,ofV,constT,intT,lm])
       refine WO_nil ?_
       exact hW1 _ _ ((IH1 _ _ _ H1 rfl)) (le_intro [0] [] (by decide) (by decide) rfl (by simp [leS, leT, leA, gt]) (by simp [leB, leT, leA]) (by simp [leR]))
   ·
    replace H1 := fl hc H1
    refine W_exit ?_
    obtain rfl := Option.some.inj H1
    exact hX1 v5 _ rfl (le_intro [] [] (by decide) (by decide) rfl (by simp [leS, leT, leA, gt]) (by simp [leB, leT, leA]) (by simp [leR]))
theorem impl_indented_n_ok : ∀ (k : Nat) {a1 : Node} {a2 : Int} {r : Str}, impl_indented_n k a1 a2 = some r → R 26 [.ag [(cI .i64 a1.Kind, none), (cI .i64 a1.N, none), (cS a1.S, none), (cL eS a1.Keys, none), (cL eR_Node a1.Kids, none)], .c (cI .i64 a2) none] = some (.c (cS r) none, [])
  | 0, _, _, _, h => by simp [impl_indented_n] at h
  | k + 1, _, _, _, h => impl_indented_F_ok (fun h => impl_indented_n_ok k h) h
theorem impl_indented_ok {a1 : Node} {a2 : Int} {r : Str} (H : impl_indented a1 a2 = some r) : R 26 [.ag [(cI .i64 a1.Kind, none), (cI .i64 a1.N, none), (cS a1.S, none), (cL eS a1.Keys, none), (cL eR_Node a1.Kids, none)], .c (cI .i64 a2) none] = some (.c (cS r) none, []) := by
  obtain ⟨k, hk⟩ := Nt.lim_ex H
  exact impl_indented_n_ok k (hk k (Nat.le_refl k))
theorem impl_Indented_ok  {a1 : Node} {r : Str} (H : impl_Indented a1 = some r) : R 16 [.ag [(cI .i64 a1.Kind, none), (cI .i64 a1.N, none), (cS a1.S, none), (cL eS a1.Keys, none), (cL eR_Node a1.Kids, none)]] = some (.c (cS r) none, []) := by
 unfold impl_Indented at H
 refine Fz_walk 8 rfl rfl Try.func16 rfl (by kernel_rfl) rfl rfl rfl rfl ?_
 simp only [tellVs, tellV, tells, tell, st0, padT, SX.newRow, SX.newBox, List.length_cons, List.length_nil, Nat.reduceAdd, Nat.reduceSub, List.replicate, List.cons_append, List.nil_append, List.foldl_cons, List.foldl_nil]
 refine W_seq (W_region ?_)
 refine WO_op (x := .bp 0 0) (σ' := ⟨[], [some [qi a1.Kind, qi a1.N, qs a1.S, .c (cL eS a1.Keys), .c (cL eR_Node a1.Kids)]], []⟩) rfl rfl rfl ?_
 refine WO_op rfl rfl rfl ?_; simp only [putT,st,ev,gt,hp,ofV,constT,intT,lm]
 refine WO_nil (W_seq (W_seq (W_region ?_)))
 refine WO_op (x := .ag [qi a1.Kind, qi a1.N, qs a1.S, .c (cL eS a1.Keys), .c (cL eR_Node a1.Kids)]) rfl rfl rfl ?_; simp only [putT,st,ev,gt,hp,ofV,constT,intT,lm]
 obtain ⟨x2, hx2, H⟩ := bnd H
 refine WO_op (x := qb x2) (σ' := ⟨[], [some [qi a1.Kind, qi a1.N, qs a1.S, .c (cL eS a1.Keys), .c (cL eR_Node a1.Kids)]], []⟩) rfl rfl (ev_callG (al := [.ag [qi a1.Kind, qi a1.N, qs a1.S, .c (cL eS a1.Keys), .c (cL eR_Node a1.Kids)]]) (ls := []) (impl_TreeOk_ok hx2) rfl rfl rfl rfl rfl (by decide) rfl rfl rfl rfl rfl rfl) ?_; simp only [putT,st,ev,gt,hp,ofV,constT,intT,lm]
 refine WO_op rfl rfl rfl ?_; simp only [putT,st,ev,gt,hp,ofV,constT,intT,lm]
 refine WO_nil ?_
 refine W_cond rfl (fun hc => ?_) (fun hc => ?_)
 ·
  replace H := tr hc H
  refine W_seq (W_region ?_)
  refine WO_op rfl rfl rfl ?_; simp only [putT,st,ev,gt,hp,ofV,constT,intT,lm]
  refine WO_nil ?_
  refine W_ret ?_
  obtain rfl := Option.some.inj H
  exact told3 rfl
 ·
  replace H := fl hc H
  refine W_skip ?_
  refine W_seq (W_region ?_)
  refine WO_op (x := .ag [qi a1.Kind, qi a1.N, qs a1.S, .c (cL eS a1.Keys), .c (cL eR_Node a1.Kids)]) rfl rfl rfl ?_; simp only [putT,st,ev,gt,hp,ofV,constT,intT,lm]
  obtain ⟨x3, hx3, H⟩ := bnd H
  refine WO_op (x := qs x3) (σ' := ⟨[], [some [qi a1.Kind, qi a1.N, qs a1.S, .c (cL eS a1.Keys), .c (cL eR_Node a1.Kids)]], []⟩) rfl rfl (ev_callG (al := [.ag [qi a1.Kind, qi a1.N, qs a1.S, .c (cL eS a1.Keys), .c (cL eR_Node a1.Kids)], qi 0]) (ls := []) (impl_indented_ok hx3) rfl rfl rfl rfl rfl (by decide) rfl rfl rfl rfl rfl rfl) ?_; simp only [putT,st,ev,gt,hp,ofV,constT,intT,lm]
  refine WO_op rfl rfl rfl ?_; simp only [putT,st,ev,gt,hp,ofV,constT,intT,lm]
  refine WO_nil ?_
  refine W_ret ?_
  obtain rfl := Option.some.inj H
  exact told3 rfl
theorem impl_Said_ok  {a1 : Int} {a2 : Node} {r : Str} (H : impl_Said a1 a2 = some r) : R 7 [.c (cI .i64 a1) none, .ag [(cI .i64 a2.Kind, none), (cI .i64 a2.N, none), (cS a2.S, none), (cL eS a2.Keys, none), (cL eR_Node a2.Kids, none)]] = some (.c (cS r) none, []) := by
 unfold impl_Said at H
 refine Fz_walk 14 rfl rfl Try.func7 rfl (by kernel_rfl) rfl rfl rfl rfl ?_
 simp only [tellVs, tellV, tells, tell, st0, padT, SX.newRow, SX.newBox, List.length_cons, List.length_nil, Nat.reduceAdd, Nat.reduceSub, List.replicate, List.cons_append, List.nil_append, List.foldl_cons, List.foldl_nil]
 refine W_seq (W_region ?_)
 refine WO_op (x := .bp 0 0) (σ' := ⟨[], [some [qi a2.Kind, qi a2.N, qs a2.S, .c (cL eS a2.Keys), .c (cL eR_Node a2.Kids)]], []⟩) rfl rfl rfl ?_
 refine WO_op rfl rfl rfl ?_; simp only [putT,st,ev,gt,hp,ofV,constT,intT,lm]
 refine WO_nil (W_seq (W_seq (W_region ?_)))
 refine WO_op rfl rfl rfl ?_; simp only [putT,st,ev,gt,hp,ofV,constT,intT,lm]
 refine WO_nil ?_
 refine W_block ?_
 refine W_seq (W_region ?_)
 iterate 2 (refine WO_op rfl rfl rfl ?_; simp only [putT,st,ev,gt,hp,ofV,constT,intT,lm])
 refine WO_nil ?_
 refine W_cond rfl (fun hc => ?_) (fun hc => ?_)
 ·
  replace H := tr hc H
  refine W_seq (W_region ?_)
  refine WO_op (x := .ag [qi a2.Kind, qi a2.N, qs a2.S, .c (cL eS a2.Keys), .c (cL eR_Node a2.Kids)]) rfl rfl rfl ?_; simp only [putT,st,ev,gt,hp,ofV,constT,intT,lm]
  obtain ⟨x3, hx3, H⟩ := bnd H
  refine WO_op (x := qs x3) (σ' := ⟨[], [some [qi a2.Kind, qi a2.N, qs a2.S, .c (cL eS a2.Keys), .c (cL eR_Node a2.Kids)]], []⟩) rfl rfl (ev_callG (al := [.ag [qi a2.Kind, qi a2.N, qs a2.S, .c (cL eS a2.Keys), .c (cL eR_Node a2.Kids)]]) (ls := []) (impl_Braced_ok hx3) rfl rfl rfl rfl rfl (by decide) rfl rfl rfl rfl rfl rfl) ?_; simp only [putT,st,ev,gt,hp,ofV,constT,intT,lm]
  refine WO_op rfl rfl rfl ?_; simp only [putT,st,ev,gt,hp,ofV,constT,intT,lm]
  refine WO_nil ?_
  refine W_ret ?_
  obtain rfl := Option.some.inj H
  exact told3 rfl
 ·
  replace H := fl hc H
  refine W_seq (W_region ?_)
  iterate 2 (refine WO_op rfl rfl rfl ?_; simp only [putT,st,ev,gt,hp,ofV,constT,intT,lm])
  refine WO_nil ?_
  refine W_cond rfl (fun hc => ?_) (fun hc => ?_)
  ·
   replace H := tr hc H
   refine W_seq (W_region ?_)
   refine WO_op (x := .ag [qi a2.Kind, qi a2.N, qs a2.S, .c (cL eS a2.Keys), .c (cL eR_Node a2.Kids)]) rfl rfl rfl ?_; simp only [putT,st,ev,gt,hp,ofV,constT,intT,lm]
   obtain ⟨x4, hx4, H⟩ := bnd H
   refine WO_op (x := qs x4) (σ' := ⟨[], [some [qi a2.Kind, qi a2.N, qs a2.S, .c (cL eS a2.Keys), .c (cL eR_Node a2.Kids)]], []⟩) rfl rfl (ev_callG (al := [.ag [qi a2.Kind, qi a2.N, qs a2.S, .c (cL eS a2.Keys), .c (cL eR_Node a2.Kids)]]) (ls := []) (impl_Indented_ok hx4) rfl rfl rfl rfl rfl (by decide) rfl rfl rfl rfl rfl rfl) ?_; simp only [putT,st,ev,gt,hp,ofV,constT,intT,lm]
   refine WO_op rfl rfl rfl ?_; simp only [putT,st,ev,gt,hp,ofV,constT,intT,lm]
   refine WO_nil ?_
   refine W_ret ?_
   obtain rfl := Option.some.inj H
   exact told3 rfl
  ·
   replace H := fl hc H
   refine W_skip ?_
   refine W_seq (W_region ?_)
   refine WO_op rfl rfl rfl ?_; simp only [putT,st,ev,gt,hp,ofV,constT,intT,lm]
   refine WO_nil ?_
   refine W_ret ?_
   obtain rfl := Option.some.inj H
   exact told3 rfl
theorem laws_eqStringS_ok  {a1 : List Str} {a2 : List Str} {r : Bool} (H : laws_eqStringS a1 a2 = some r) : R 17 [.c (cL eS a1) none, .c (cL eS a2) none] = some (.c (cB r) none, []) := by
 unfold laws_eqStringS at H
 refine Fz_walk 26 rfl rfl Try.func17 rfl (by kernel_rfl) rfl rfl rfl rfl ?_
 simp only [tellVs, tellV, tells, tell, st0, padT, SX.newRow, SX.newBox, List.length_cons, List.length_nil, Nat.reduceAdd, Nat.reduceSub, List.replicate, List.cons_append, List.nil_append, List.foldl_cons, List.foldl_nil]
 refine W_seq (W_region ?_)
 refine WO_op rfl rfl rfl ?_; simp only [putT,st,ev,gt,hp,ofV,constT,intT,lm]
 refine WO_nil (W_seq (W_seq (W_region ?_)))
 iterate 5 (refine WO_op rfl rfl rfl ?_; simp only [putT,st,ev,gt,hp,ofV,constT,intT,lm])
 refine WO_nil ?_
 refine W_cond rfl (fun hc => ?_) (fun hc => ?_)
 ·
  replace H := tr hc H
  refine W_seq (W_region ?_)
  refine WO_op rfl rfl rfl ?_; simp only [putT,st,ev,gt,hp,ofV,constT,intT,lm]
  refine WO_nil ?_
  refine W_ret ?_
  obtain rfl := Option.some.inj H
  exact told3 rfl
 ·
  replace H := fl hc H
  refine W_skip ?_
  refine W_seq (W_seq (W_region ?_))
  refine WO_op rfl rfl rfl ?_; simp only [putT,st,ev,gt,hp,ofV,constT,intT,lm]
  refine WO_nil ?_
  refine W_block ?_
  obtain ⟨s7, hs7, H⟩ := bnd H
  refine loop_rule (ls := []) 0 (fun t6 : Unit => ⟨[], [], []⟩) (fun t => s7 = .inr t) ⟨[.c (cL eS a1), .c (cL eS a2), .no, .no, .no, qi 0], [], []⟩ (by repeat (first | exact mono_told | refine mono_seq ?_ | refine mono_blk ?_ | refine mono_lp ?_)) (le_intro [] [] (by decide) (by decide) rfl (by simp [leS, leT, leA, gt]) (by simp [leB, leT, leA]) (by simp [leR])) ?_ ?_
  ·
   rintro t6 rfl
   refine W_seq (W_region ?_)
   refine WO_op rfl rfl rfl ?_; simp only [putT,st,ev,gt,hp,ofV,constT,intT,lm]
   refine WO_nil ?_
   refine W_ret ?_
   obtain rfl := Option.some.inj H
   exact told3 rfl
  ·
   intro V1 hV1 hW1 hX1
   refine (laws_eqStringS.l0.partial_correctness a1 a2 (fun v3 s' => s' = s7 → (V1 ⟨[.c (cL eS a1), .c (cL eS a2), .no, .no, .no, qi v3], [], []⟩)) ?_ _ _ hs7 rfl)
   intro l0 IH1 v3 s' H1 e
   subst e
   refine hV1 _ ?_
   refine W_seq (W_seq (W_region ?_))
   iterate 4 (refine WO_op rfl rfl rfl ?_; simp only [putT,st,ev,gt,hp,ofV,constT,intT,lm])
   refine WO_nil ?_
   refine W_cond rfl (fun hc => ?_) (fun hc => ?_)
   ·
    replace H1 := tr hc H1
    refine W_skip ?_
    refine W_seq ?_
    refine W_block ?_
    refine W_seq ?_
    refine W_draw (by kernel_rfl) (by kernel_rfl) ?_
    iterate 2 (refine WO_op rfl rfl rfl ?_; simp only [putT,st,ev,gt,hp,ofV,constT,intT,lm])
    obtain ⟨x4, hx4, H1⟩ := bnd H1
    refine WO_op rfl rfl (ev_ix (en := eS) hx4 rfl rfl rfl rfl rfl rfl rfl) ?_; simp only [putT,st,ev,gt,hp,ofV,constT,intT,lm]
    refine WO_op (x := qs x4) rfl rfl rfl ?_; simp only [putT,st,ev,gt,hp,ofV,constT,intT,lm]
    iterate 2 (refine WO_op rfl rfl rfl ?_; simp only [putT,st,ev,gt,hp,ofV,constT,intT,lm])
    obtain ⟨x5, hx5, H1⟩ := bnd H1
    refine WO_op rfl rfl (ev_ix (en := eS) hx5 rfl rfl rfl rfl rfl rfl rfl) ?_; simp only [putT,st,ev,gt,hp,ofV,constT,intT,lm]
    refine WO_op (x := qs x5) rfl rfl rfl ?_; simp only [putT,st,ev,gt,hp,ofV,constT,intT,lm]
    refine WO_op rfl rfl (ev_neq_s rfl rfl rfl) ?_; simp only [putT,st,ev,gt,hp,ofV,constT,intT,lm]
    refine WO_nil ?_
    refine W_cond rfl (fun hc => ?_) (fun hc => ?_)
    ·
     replace H1 := tr hc H1
     refine W_seq (W_region ?_)
     refine WO_op rfl rfl rfl ?_; simp only [putT,st,ev,gt,hp,ofV,constT,intT,lm]
     refine WO_nil ?_
     refine W_ret ?_
     obtain rfl := Option.some.inj H1
     obtain rfl := Option.some.inj H
     exact told3 rfl
    ·
     replace H1 := fl hc H1
     refine W_skip ?_
     refine W_region ?_
     iterate 3 (refine WO_op rfl rfl rfl ?_; simp only [putT,st,ev,gt,hp,ofV,constT,intT,lm])
     refine WO_nil ?_
     exact hW1 _ _ ((IH1 _ _ H1 rfl)) (le_intro [] [] (by decide) (by decide) rfl (by simp [leS, leT, leA, gt]) (by simp [leB, leT, leA]) (by simp [leR]))
   ·
    replace H1 := fl hc H1
    refine W_exit ?_
    obtain rfl := Option.some.inj H1
    exact hX1 () _ rfl (le_intro [] [] (by decide) (by decide) rfl (by simp [leS, leT, leA, gt]) (by simp [leB, leT, leA]) (by simp [leR]))
theorem laws_eqNodeS_ok {rc50 : Node → Node → Option (Bool)} (hrc50 : ∀ {a1 : Node} {a2 : Node} {r : Bool}, rc50 a1 a2 = some r → R 8 [.ag [(cI .i64 a1.Kind, none), (cI .i64 a1.N, none), (cS a1.S, none), (cL eS a1.Keys, none), (cL eR_Node a1.Kids, none)], .ag [(cI .i64 a2.Kind, none), (cI .i64 a2.N, none), (cS a2.S, none), (cL eS a2.Keys, none), (cL eR_Node a2.Kids, none)]] = some (.c (cB r) none, [])) {a1 : List RNode} {a2 : List RNode} {r : Bool} (H : laws_eqNodeS rc50 a1 a2 = some r) : R 18 [.c (cL eR_Node a1) none, .c (cL eR_Node a2) none] = some (.c (cB r) none, []) := by
 unfold laws_eqNodeS at H
 refine Fz_walk 27 rfl rfl Try.func18 rfl (by kernel_rfl) rfl rfl rfl rfl ?_
 simp only [tellVs, tellV, tells, tell, st0, padT, SX.newRow, SX.newBox, List.length_cons, List.length_nil, Nat.reduceAdd, Nat.reduceSub, List.replicate, List.cons_append, List.nil_append, List.foldl_cons, List.foldl_nil]
 refine W_seq (W_region ?_)
 refine WO_op rfl rfl rfl ?_; simp only [putT,st,ev,gt,hp,ofV,constT,intT,lm]
 refine WO_nil (W_seq (W_seq (W_region ?_)))
 iterate 5 (refine WO_op rfl rfl rfl ?_; simp only [putT,st,ev,gt,hp,ofV,constT,intT,lm])
 refine WO_nil ?_
 refine W_cond rfl (fun hc => ?_) (fun hc => ?_)
 ·
  replace H := tr hc H
  refine W_seq (W_region ?_)
  refine WO_op rfl rfl rfl ?_; simp only [putT,st,ev,gt,hp,ofV,constT,intT,lm]
  refine WO_nil ?_
  refine W_ret ?_
  obtain rfl := Option.some.inj H
  exact told3 rfl
 ·
  replace H := fl hc H
  refine W_skip ?_
  refine W_seq (W_seq (W_region ?_))
  refine WO_op rfl rfl rfl ?_; simp only [putT,st,ev,gt,hp,ofV,constT,intT,lm]
  refine WO_nil ?_
  refine W_block ?_
  obtain ⟨s10, hs10, H⟩ := bnd H
  refine loop_rule (ls := []) 0 (fun t9 : Unit => ⟨[], [], []⟩) (fun t => s10 = .inr t) ⟨[.c (cL eR_Node a1), .c (cL eR_Node a2), .no, .no, .no, qi 0], [], []⟩ (by repeat (first | exact mono_told | refine mono_seq ?_ | refine mono_blk ?_ | refine mono_lp ?_)) (le_intro [] [] (by decide) (by decide) rfl (by simp [leS, leT, leA, gt]) (by simp [leB, leT, leA]) (by simp [leR])) ?_ ?_
  ·
   rintro t9 rfl
   refine W_seq (W_region ?_)
   refine WO_op rfl rfl rfl ?_; simp only [putT,st,ev,gt,hp,ofV,constT,intT,lm]
   refine WO_nil ?_
   refine W_ret ?_
   obtain rfl := Option.some.inj H
   exact told3 rfl
  ·
   intro V1 hV1 hW1 hX1
   refine (laws_eqNodeS.l0.partial_correctness rc50 a1 a2 (fun v3 s' => s' = s10 → (V1 ⟨[.c (cL eR_Node a1), .c (cL eR_Node a2), .no, .no, .no, qi v3], [], []⟩)) ?_ _ _ hs10 rfl)
   intro l0 IH1 v3 s' H1 e
   subst e
   refine hV1 _ ?_
   refine W_seq (W_seq (W_region ?_))
   iterate 4 (refine WO_op rfl rfl rfl ?_; simp only [putT,st,ev,gt,hp,ofV,constT,intT,lm])
   refine WO_nil ?_
   refine W_cond rfl (fun hc => ?_) (fun hc => ?_)
   ·
    replace H1 := tr hc H1
    refine W_skip ?_
    refine W_seq ?_
    refine W_block ?_
    refine W_seq ?_
    refine W_draw (by kernel_rfl) (by kernel_rfl) ?_
    iterate 2 (refine WO_op rfl rfl rfl ?_; simp only [putT,st,ev,gt,hp,ofV,constT,intT,lm])
    obtain ⟨x4, hx4, H1⟩ := bnd H1
    obtain ⟨y5, hy5, H1⟩ := bnd H1
    rw [dN_Node_some hy5] at hx4
    refine WO_op rfl rfl (ev_ix (en := eR_Node) hx4 rfl rfl rfl rfl rfl rfl rfl) ?_; simp only [putT,st,ev,gt,hp,ofV,constT,intT,lm]
    refine WO_op (x := .ag [qi y5.Kind, qi y5.N, qs y5.S, .c (cL eS y5.Keys), .c (cL eR_Node y5.Kids)]) rfl rfl rfl ?_; simp only [putT,st,ev,gt,hp,ofV,constT,intT,lm]
    iterate 2 (refine WO_op rfl rfl rfl ?_; simp only [putT,st,ev,gt,hp,ofV,constT,intT,lm])
    obtain ⟨x6, hx6, H1⟩ := bnd H1
    obtain ⟨y7, hy7, H1⟩ := bnd H1
    rw [dN_Node_some hy7] at hx6
    refine WO_op rfl rfl (ev_ix (en := eR_Node) hx6 rfl rfl rfl rfl rfl rfl rfl) ?_; simp only [putT,st,ev,gt,hp,ofV,constT,intT,lm]
    refine WO_op (x := .ag [qi y7.Kind, qi y7.N, qs y7.S, .c (cL eS y7.Keys), .c (cL eR_Node y7.Kids)]) rfl rfl rfl ?_; simp only [putT,st,ev,gt,hp,ofV,constT,intT,lm]
    obtain ⟨x8, hx8, H1⟩ := bnd H1
    refine WO_op (x := qb x8) (σ' := ⟨[], [], []⟩) rfl rfl (ev_callG (al := [.ag [qi y5.Kind, qi y5.N, qs y5.S, .c (cL eS y5.Keys), .c (cL eR_Node y5.Kids)], .ag [qi y7.Kind, qi y7.N, qs y7.S, .c (cL eS y7.Keys), .c (cL eR_Node y7.Kids)]]) (ls := []) (hrc50 hx8) rfl rfl rfl rfl rfl (by decide) rfl rfl rfl rfl rfl rfl) ?_; simp only [putT,st,ev,gt,hp,ofV,constT,intT,lm]
    refine WO_op rfl rfl rfl ?_; simp only [putT,st,ev,gt,hp,ofV,constT,intT,lm]
    refine WO_nil ?_
    refine W_cond rfl (fun hc => ?_) (fun hc => ?_)
    ·
     replace H1 := tr hc H1
     refine W_seq (W_region ?_)
     refine WO_op rfl rfl rfl ?_; simp only [putT,st,ev,gt,hp,ofV,constT,intT,lm]
     refine WO_nil ?_
     refine W_ret ?_
     obtain rfl := Option.some.inj H1
     obtain rfl := Option.some.inj H
     exact told3 rfl
    ·
     replace H1 := fl hc H1
     refine W_skip ?_
     refine W_region ?_
     iterate 3 (refine WO_op rfl rfl rfl ?_; simp only [putT,st,ev,gt,hp,ofV,constT,intT,lm])
     refine WO_nil ?_
     exact hW1 _ _ ((IH1 _ _ H1 rfl)) (le_intro [] [] (by decide) (by decide) rfl (by simp [leS, leT, leA, gt]) (by simp [leB, leT, leA]) (by simp [leR]))
   ·
    replace H1 := fl hc H1
    refine W_exit ?_
    obtain rfl := Option.some.inj H1
    exact hX1 () _ rfl (le_intro [] [] (by decide) (by decide) rfl (by simp [leS, leT, leA, gt]) (by simp [leB, leT, leA]) (by simp [leR]))
theorem laws_eqNode_F_ok {rc50 : Node → Node → Option (Bool)} (hrc50 : ∀ {a1 : Node} {a2 : Node} {r : Bool}, rc50 a1 a2 = some r → R 8 [.ag [(cI .i64 a1.Kind, none), (cI .i64 a1.N, none), (cS a1.S, none), (cL eS a1.Keys, none), (cL eR_Node a1.Kids, none)], .ag [(cI .i64 a2.Kind, none), (cI .i64 a2.N, none), (cS a2.S, none), (cL eS a2.Keys, none), (cL eR_Node a2.Kids, none)]] = some (.c (cB r) none, [])) {a1 : Node} {a2 : Node} {r : Bool} (H : laws_eqNode_F rc50 a1 a2 = some r) : R 8 [.ag [(cI .i64 a1.Kind, none), (cI .i64 a1.N, none), (cS a1.S, none), (cL eS a1.Keys, none), (cL eR_Node a1.Kids, none)], .ag [(cI .i64 a2.Kind, none), (cI .i64 a2.N, none), (cS a2.S, none), (cL eS a2.Keys, none), (cL eR_Node a2.Kids, none)]] = some (.c (cB r) none, []) := by
 unfold laws_eqNode_F at H
 refine Fz_walk 32 rfl rfl Try.func8 rfl (by kernel_rfl) rfl rfl rfl rfl ?_
 simp only [tellVs, tellV, tells, tell, st0, padT, SX.newRow, SX.newBox, List.length_cons, List.length_nil, Nat.reduceAdd, Nat.reduceSub, List.replicate, List.cons_append, List.nil_append, List.foldl_cons, List.foldl_nil]
 refine W_seq (W_region ?_)
 refine WO_op (x := .bp 0 0) (σ' := ⟨[], [some [qi a1.Kind, qi a1.N, qs a1.S, .c (cL eS a1.Keys), .c (cL eR_Node a1.Kids)]], []⟩) rfl rfl rfl ?_
 refine WO_op (x := .bp 1 0) (σ' := ⟨[], [some [qi a1.Kind, qi a1.N, qs a1.S, .c (cL eS a1.Keys), .c (cL eR_Node a1.Kids)], some [qi a2.Kind, qi a2.N, qs a2.S, .c (cL eS a2.Keys), .c (cL eR_Node a2.Kids)]], []⟩) rfl rfl rfl ?_
 refine WO_op rfl rfl rfl ?_; simp only [putT,st,ev,gt,hp,ofV,constT,intT,lm]
 refine WO_nil (W_seq (W_seq (W_region ?_)))
 refine WO_op (x := .bp 0 0) rfl rfl rfl ?_
 refine WO_op (x := qi a1.Kind) rfl rfl rfl ?_
 refine WO_op (x := .bp 1 0) rfl rfl rfl ?_
 refine WO_op (x := qi a2.Kind) rfl rfl rfl ?_; simp only [putT,st,ev,gt,hp,ofV,constT,intT,lm]
 refine WO_op rfl rfl rfl ?_; simp only [putT,st,ev,gt,hp,ofV,constT,intT,lm]
 refine WO_nil ?_
 refine W_cond rfl (fun hc => ?_) (fun hc => ?_)
 ·
  replace H := tr hc H
  refine W_seq (W_region ?_)
  refine WO_op rfl rfl rfl ?_; simp only [putT,st,ev,gt,hp,ofV,constT,intT,lm]
  refine WO_nil ?_
  refine W_ret ?_
  obtain rfl := Option.some.inj H
  exact told3 rfl
 ·
  replace H := fl hc H
  refine W_skip ?_
  refine W_seq (W_seq (W_region ?_))
  refine WO_op (x := .bp 0 1) rfl rfl rfl ?_
  refine WO_op (x := qi a1.N) rfl rfl rfl ?_
  refine WO_op (x := .bp 1 1) rfl rfl rfl ?_
  refine WO_op (x := qi a2.N) rfl rfl rfl ?_; simp only [putT,st,ev,gt,hp,ofV,constT,intT,lm]
  refine WO_op rfl rfl rfl ?_; simp only [putT,st,ev,gt,hp,ofV,constT,intT,lm]
  refine WO_nil ?_
  refine W_cond rfl (fun hc => ?_) (fun hc => ?_)
  ·
   replace H := tr hc H
   refine W_seq (W_region ?_)
   refine WO_op rfl rfl rfl ?_; simp only [putT,st,ev,gt,hp,ofV,constT,intT,lm]
   refine WO_nil ?_
   refine W_ret ?_
   obtain rfl := Option.some.inj H
   exact told3 rfl
  ·
   replace H := fl hc H
   refine W_skip ?_
   refine W_seq (W_seq (W_region ?_))
   refine WO_op (x := .bp 0 2) rfl rfl rfl ?_
   refine WO_op (x := qs a1.S) rfl rfl rfl ?_
   refine WO_op (x := .bp 1 2) rfl rfl rfl ?_
   refine WO_op (x := qs a2.S) rfl rfl rfl ?_; simp only [putT,st,ev,gt,hp,ofV,constT,intT,lm]
   refine WO_op rfl rfl (ev_neq_s rfl rfl rfl) ?_; simp only [putT,st,ev,gt,hp,ofV,constT,intT,lm]
   refine WO_nil ?_
   refine W_cond rfl (fun hc => ?_) (fun hc => ?_)
   ·
    replace H := tr hc H
    refine W_seq (W_region ?_)
    refine WO_op rfl rfl rfl ?_; simp only [putT,st,ev,gt,hp,ofV,constT,intT,lm]
    refine WO_nil ?_
    refine W_ret ?_
    obtain rfl := Option.some.inj H
    exact told3 rfl
   ·
    replace H := fl hc H
    refine W_skip ?_
    refine W_seq (W_seq (W_region ?_))
    refine WO_op (x := .bp 0 3) rfl rfl rfl ?_
    refine WO_op (x := .c (cL eS a1.Keys)) rfl rfl rfl ?_
    refine WO_op (x := .bp 1 3) rfl rfl rfl ?_
    refine WO_op (x := .c (cL eS a2.Keys)) rfl rfl rfl ?_; simp only [putT,st,ev,gt,hp,ofV,constT,intT,lm]
    obtain ⟨x3, hx3, H⟩ := bnd H
    refine WO_op (x := qb x3) (σ' := ⟨[], [some [qi a1.Kind, qi a1.N, qs a1.S, .c (cL eS a1.Keys), .c (cL eR_Node a1.Kids)], some [qi a2.Kind, qi a2.N, qs a2.S, .c (cL eS a2.Keys), .c (cL eR_Node a2.Kids)]], []⟩) rfl rfl (ev_callG (al := [.c (cL eS a1.Keys), .c (cL eS a2.Keys)]) (ls := []) (laws_eqStringS_ok hx3) rfl rfl rfl rfl rfl (by decide) rfl rfl rfl rfl rfl rfl) ?_; simp only [putT,st,ev,gt,hp,ofV,constT,intT,lm]
    refine WO_op rfl rfl rfl ?_; simp only [putT,st,ev,gt,hp,ofV,constT,intT,lm]
    refine WO_nil ?_
    refine W_cond rfl (fun hc => ?_) (fun hc => ?_)
    ·
     replace H := tr hc H
     refine W_seq (W_region ?_)
     refine WO_op rfl rfl rfl ?_; simp only [putT,st,ev,gt,hp,ofV,constT,intT,lm]
     refine WO_nil ?_
     refine W_ret ?_
     obtain rfl := Option.some.inj H
     exact told3 rfl
    ·
     replace H := fl hc H
     refine W_skip ?_
     refine W_seq (W_seq (W_region ?_))
     refine WO_op (x := .bp 0 4) rfl rfl rfl ?_
     refine WO_op (x := .c (cL eR_Node a1.Kids)) rfl rfl rfl ?_
     refine WO_op (x := .bp 1 4) rfl rfl rfl ?_
     refine WO_op (x := .c (cL eR_Node a2.Kids)) rfl rfl rfl ?_; simp only [putT,st,ev,gt,hp,ofV,constT,intT,lm]
     obtain ⟨x4, hx4, H⟩ := bnd H
     refine WO_op (x := qb x4) (σ' := ⟨[], [some [qi a1.Kind, qi a1.N, qs a1.S, .c (cL eS a1.Keys), .c (cL eR_Node a1.Kids)], some [qi a2.Kind, qi a2.N, qs a2.S, .c (cL eS a2.Keys), .c (cL eR_Node a2.Kids)]], []⟩) rfl rfl (ev_callG (al := [.c (cL eR_Node a1.Kids), .c (cL eR_Node a2.Kids)]) (ls := []) (laws_eqNodeS_ok hrc50 hx4) rfl rfl rfl rfl rfl (by decide) rfl rfl rfl rfl rfl rfl) ?_; simp only [putT,st,ev,gt,hp,ofV,constT,intT,lm]
     refine WO_op rfl rfl rfl ?_; simp only [putT,st,ev,gt,hp,ofV,constT,intT,lm]
     refine WO_nil ?_
     refine W_cond rfl (fun hc => ?_) (fun hc => ?_)
     ·
      replace H := tr hc H
      refine W_seq (W_region ?_)
      refine WO_op rfl rfl rfl ?_; simp only [putT,st,ev,gt,hp,ofV,constT,intT,lm]
      refine WO_nil ?_
      refine W_ret ?_
      obtain rfl := Option.some.inj H
      exact told3 rfl
     ·
      replace H := fl hc H
      refine W_skip ?_
      refine W_seq (W_region ?_)
      refine WO_op rfl rfl rfl ?_; simp only [putT,st,ev,gt,hp,ofV,constT,intT,lm]
      refine WO_nil ?_
      refine W_ret ?_
      obtain rfl := Option.some.inj H
      exact told3 rfl
theorem laws_eqNode_n_ok : ∀ (k : Nat) {a1 : Node} {a2 : Node} {r : Bool}, laws_eqNode_n k a1 a2 = some r → R 8 [.ag [(cI .i64 a1.Kind, none), (cI .i64 a1.N, none), (cS a1.S, none), (cL eS a1.Keys, none), (cL eR_Node a1.Kids, none)], .ag [(cI .i64 a2.Kind, none), (cI .i64 a2.N, none), (cS a2.S, none), (cL eS a2.Keys, none), (cL eR_Node a2.Kids, none)]] = some (.c (cB r) none, [])
  | 0, _, _, _, h => by simp [laws_eqNode_n] at h
  | k + 1, _, _, _, h => laws_eqNode_F_ok (fun h => laws_eqNode_n_ok k h) h
theorem laws_eqNode_ok {a1 : Node} {a2 : Node} {r : Bool} (H : laws_eqNode a1 a2 = some r) : R 8 [.ag [(cI .i64 a1.Kind, none), (cI .i64 a1.N, none), (cS a1.S, none), (cL eS a1.Keys, none), (cL eR_Node a1.Kids, none)], .ag [(cI .i64 a2.Kind, none), (cI .i64 a2.N, none), (cS a2.S, none), (cL eS a2.Keys, none), (cL eR_Node a2.Kids, none)]] = some (.c (cB r) none, []) := by
  obtain ⟨k, hk⟩ := Nt.lim_ex H
  exact laws_eqNode_n_ok k (hk k (Nat.le_refl k))
theorem laws_FnExactSaid_ok  {a1 : Int} {a2 : Node} {r : Bool} (H : laws_FnExactSaid a1 a2 = some r) : R 3 [.c (cI .i64 a1) none, .ag [(cI .i64 a2.Kind, none), (cI .i64 a2.N, none), (cS a2.S, none), (cL eS a2.Keys, none), (cL eR_Node a2.Kids, none)]] = some (.c (cB r) none, []) := by
 unfold laws_FnExactSaid at H
 refine Fz_walk 31 rfl rfl Try.func3 rfl (by kernel_rfl) rfl rfl rfl rfl ?_
 simp only [tellVs, tellV, tells, tell, st0, padT, SX.newRow, SX.newBox, List.length_cons, List.length_nil, Nat.reduceAdd, Nat.reduceSub, List.replicate, List.cons_append, List.nil_append, List.foldl_cons, List.foldl_nil]
 refine W_seq (W_region ?_)
 refine WO_op (x := .bp 0 0) (σ' := ⟨[], [some [qi a2.Kind, qi a2.N, qs a2.S, .c (cL eS a2.Keys), .c (cL eR_Node a2.Kids)]], []⟩) rfl rfl rfl ?_
 refine WO_op rfl rfl rfl ?_; simp only [putT,st,ev,gt,hp,ofV,constT,intT,lm]
 refine WO_nil (W_seq (W_region ?_))
 refine WO_op rfl rfl rfl ?_; simp only [putT,st,ev,gt,hp,ofV,constT,intT,lm]
 refine WO_nil (W_seq (W_region ?_))
 refine WO_op (x := .ag [qi a2.Kind, qi a2.N, qs a2.S, .c (cL eS a2.Keys), .c (cL eR_Node a2.Kids)]) rfl rfl rfl ?_
 refine WO_op rfl rfl rfl ?_; simp only [putT,st,ev,gt,hp,ofV,constT,intT,lm]
 obtain ⟨x3, hx3, H⟩ := bnd H
 refine WO_op (x := qi x3) (σ' := ⟨[], [some [qi a2.Kind, qi a2.N, qs a2.S, .c (cL eS a2.Keys), .c (cL eR_Node a2.Kids)]], []⟩) rfl rfl (ev_callG (al := [.ag [qi a2.Kind, qi a2.N, qs a2.S, .c (cL eS a2.Keys), .c (cL eR_Node a2.Kids)], qi 1048576]) (ls := []) (laws_szNode_ok hx3) rfl rfl rfl rfl rfl (by decide) rfl rfl rfl rfl rfl rfl) ?_; simp only [putT,st,ev,gt,hp,ofV,constT,intT,lm]
 refine WO_op rfl rfl rfl ?_; simp only [putT,st,ev,gt,hp,ofV,constT,intT,lm]
 refine WO_nil (W_seq (W_seq (W_region ?_)))
 iterate 2 (refine WO_op rfl rfl rfl ?_; simp only [putT,st,ev,gt,hp,ofV,constT,intT,lm])
 refine WO_nil ?_
 refine W_cond rfl (fun hc => ?_) (fun hc => ?_)
 ·
  replace H := tr hc H
  refine W_seq (W_region ?_)
  refine WO_op rfl rfl rfl ?_; simp only [putT,st,ev,gt,hp,ofV,constT,intT,lm]
  refine WO_nil ?_
  refine W_ret ?_
  obtain rfl := Option.some.inj H
  exact told3 rfl
 ·
  replace H := fl hc H
  refine W_skip ?_
  refine W_seq (W_region ?_)
  refine WO_op rfl rfl rfl ?_
  refine WO_op (x := .ag [qi a2.Kind, qi a2.N, qs a2.S, .c (cL eS a2.Keys), .c (cL eR_Node a2.Kids)]) rfl rfl rfl ?_; simp only [putT,st,ev,gt,hp,ofV,constT,intT,lm]
  obtain ⟨x4, hx4, H⟩ := bnd H
  refine WO_op (x := .ag [qi x4.Kind, qi x4.N, qs x4.S, .row 0, .row 1]) (σ' := ⟨[], [some [qi a2.Kind, qi a2.N, qs a2.S, .c (cL eS a2.Keys), .c (cL eR_Node a2.Kids)]], [rr 1 eS x4.Keys true, rr 5 eR_Node x4.Kids true]⟩) rfl rfl (ev_callG (al := [.ag [qi a2.Kind, qi a2.N, qs a2.S, .c (cL eS a2.Keys), .c (cL eR_Node a2.Kids)]]) (ls := []) (laws_toNode_ok hx4) rfl rfl rfl rfl rfl (by decide) rfl rfl rfl rfl rfl rfl) ?_; simp only [putT,st,ev,gt,hp,ofV,constT,intT,lm]
  obtain ⟨x5, hx5, H⟩ := bnd H
  refine WO_op (x := qs x5) (σ' := ⟨[], [some [qi a2.Kind, qi a2.N, qs a2.S, .c (cL eS a2.Keys), .c (cL eR_Node a2.Kids)]], [rr 1 eS x4.Keys true, rr 5 eR_Node x4.Kids true]⟩) rfl rfl (ev_callG (al := [qi a1, .ag [qi x4.Kind, qi x4.N, qs x4.S, .row 0, .row 1]]) (ls := []) (spec_Said_ok hx5) rfl rfl rfl rfl rfl (by decide) rfl rfl rfl rfl rfl rfl) ?_; simp only [putT,st,ev,gt,hp,ofV,constT,intT,lm]
  refine WO_op rfl rfl rfl ?_; simp only [putT,st,ev,gt,hp,ofV,constT,intT,lm]
  refine WO_nil (W_seq (W_region ?_))
  refine WO_op (x := .ag [qi a2.Kind, qi a2.N, qs a2.S, .c (cL eS a2.Keys), .c (cL eR_Node a2.Kids)]) rfl rfl rfl ?_; simp only [putT,st,ev,gt,hp,ofV,constT,intT,lm]
  obtain ⟨x6, hx6, H⟩ := bnd H
  refine WO_op (x := .ag [qi x6.Kind, qi x6.N, qs x6.S, .row 2, .row 3]) (σ' := ⟨[], [some [qi a2.Kind, qi a2.N, qs a2.S, .c (cL eS a2.Keys), .c (cL eR_Node a2.Kids)]], [rr 1 eS x4.Keys true, rr 5 eR_Node x4.Kids true, rr 1 eS x6.Keys true, rr 5 eR_Node x6.Kids true]⟩) rfl rfl (ev_callG (al := [.ag [qi a2.Kind, qi a2.N, qs a2.S, .c (cL eS a2.Keys), .c (cL eR_Node a2.Kids)]]) (ls := []) (laws_toNode_ok hx6) rfl rfl rfl rfl rfl (by decide) rfl rfl rfl rfl rfl rfl) ?_; simp only [putT,st,ev,gt,hp,ofV,constT,intT,lm]
  refine WO_op (x := .bp 1 0) (σ' := ⟨[], [some [qi a2.Kind, qi a2.N, qs a2.S, .c (cL eS a2.Keys), .c (cL eR_Node a2.Kids)], some [qi 0, qi 0, qs [], .nil, .nil]], [rr 1 eS x4.Keys true, rr 5 eR_Node x4.Kids true, rr 1 eS x6.Keys true, rr 5 eR_Node x6.Kids true]⟩) rfl rfl rfl ?_
  refine WO_op (x := .no) (σ' := ⟨[], [some [qi a2.Kind, qi a2.N, qs a2.S, .c (cL eS a2.Keys), .c (cL eR_Node a2.Kids)], some [qi x6.Kind, qi x6.N, qs x6.S, .row 2, .row 3]], [rr 1 eS x4.Keys true, rr 5 eR_Node x4.Kids true, rr 1 eS x6.Keys true, rr 5 eR_Node x6.Kids true]⟩) rfl rfl rfl ?_; simp only [putT,st,ev,gt,hp,ofV,constT,intT,lm]
  refine WO_nil (W_seq (W_region ?_))
  refine WO_op rfl rfl rfl ?_
  refine WO_op (x := .ag [qi x6.Kind, qi x6.N, qs x6.S, .row 2, .row 3]) rfl rfl rfl ?_; simp only [putT,st,ev,gt,hp,ofV,constT,intT,lm]
  obtain ⟨x7, hx7, H⟩ := bnd H
  refine WO_op (x := qs x7) (σ' := ⟨[], [some [qi a2.Kind, qi a2.N, qs a2.S, .c (cL eS a2.Keys), .c (cL eR_Node a2.Kids)], some [qi x6.Kind, qi x6.N, qs x6.S, .row 2, .row 3]], [rr 1 eS x4.Keys true, rr 5 eR_Node x4.Kids true, rr 1 eS x6.Keys true, rr 5 eR_Node x6.Kids true]⟩) rfl rfl (ev_callG (al := [qi a1, .ag [qi x6.Kind, qi x6.N, qs x6.S, .row 2, .row 3]]) (ls := []) (impl_Said_ok hx7) rfl rfl rfl rfl rfl (by decide) rfl rfl rfl rfl rfl rfl) ?_; simp only [putT,st,ev,gt,hp,ofV,constT,intT,lm]
  refine WO_op rfl rfl rfl ?_; simp only [putT,st,ev,gt,hp,ofV,constT,intT,lm]
  refine WO_nil (W_seq (W_seq (W_region ?_)))
  iterate 2 (refine WO_op rfl rfl rfl ?_; simp only [putT,st,ev,gt,hp,ofV,constT,intT,lm])
  refine WO_op rfl rfl (ev_neq_s rfl rfl rfl) ?_; simp only [putT,st,ev,gt,hp,ofV,constT,intT,lm]
  refine WO_nil ?_
  refine W_cond rfl (fun hc => ?_) (fun hc => ?_)
  ·
   replace H := tr hc H
   refine W_seq (W_region ?_)
   refine WO_op rfl rfl rfl ?_; simp only [putT,st,ev,gt,hp,ofV,constT,intT,lm]
   refine WO_nil ?_
   refine W_ret ?_
   obtain rfl := Option.some.inj H
   exact told3 rfl
  ·
   replace H := fl hc H
   refine W_skip ?_
   refine W_seq (W_seq ?_)
   refine W_drawL (by kernel_rfl) (by decide +kernel) ?_
   refine WL_op (x := .ag [qi x6.Kind, qi x6.N, qs x6.S, .row 2, .row 3]) rfl rfl rfl rfl ?_
   refine WL_op (x := .ag [qi a2.Kind, qi a2.N, qs a2.S, .c (cL eS a2.Keys), .c (cL eR_Node a2.Kids)]) rfl rfl rfl rfl ?_; simp only [putT,st,ev,gt,hp,ofV,constT,intT,lm]
   obtain ⟨x8, hx8, H⟩ := bnd H
   refine WL_op (x := .ag [qi x8.Kind, qi x8.N, qs x8.S, .row 4, .row 5]) (σ' := ⟨[], [some [qi a2.Kind, qi a2.N, qs a2.S, .c (cL eS a2.Keys), .c (cL eR_Node a2.Kids)], some [qi x6.Kind, qi x6.N, qs x6.S, .row 2, .row 3]], [rr 1 eS x4.Keys true, rr 5 eR_Node x4.Kids true, rr 1 eS x6.Keys true, rr 5 eR_Node x6.Kids true, rr 1 eS x8.Keys true, rr 5 eR_Node x8.Kids true]⟩) rfl rfl rfl (ev_callG (al := [.ag [qi a2.Kind, qi a2.N, qs a2.S, .c (cL eS a2.Keys), .c (cL eR_Node a2.Kids)]]) (ls := []) (laws_toNode_ok hx8) rfl rfl rfl rfl rfl (by decide) rfl rfl rfl rfl rfl rfl) ?_; simp only [putT,st,ev,gt,hp,ofV,constT,intT,lm]
   obtain ⟨x9, hx9, H⟩ := bnd H
   refine WL_op (x := qb x9) (σ' := ⟨[], [some [qi a2.Kind, qi a2.N, qs a2.S, .c (cL eS a2.Keys), .c (cL eR_Node a2.Kids)], some [qi x6.Kind, qi x6.N, qs x6.S, .row 2, .row 3]], [rr 1 eS x4.Keys true, rr 5 eR_Node x4.Kids true, rr 1 eS x6.Keys true, rr 5 eR_Node x6.Kids true, rr 1 eS x8.Keys true, rr 5 eR_Node x8.Kids true]⟩) rfl rfl rfl (ev_callG (al := [.ag [qi x6.Kind, qi x6.N, qs x6.S, .row 2, .row 3], .ag [qi x8.Kind, qi x8.N, qs x8.S, .row 4, .row 5]]) (ls := []) (laws_eqNode_ok hx9) rfl rfl rfl rfl rfl (by decide) rfl rfl rfl rfl rfl rfl) ?_; simp only [putT,st,ev,gt,hp,ofV,constT,intT,lm]
   refine WL_op rfl rfl rfl rfl ?_; simp only [putT,st,ev,gt,hp,ofV,constT,intT,lm]
   refine WL_nil (by kernel_rfl) ?_
   refine W_cond rfl (fun hc => ?_) (fun hc => ?_)
   ·
    replace H := tr hc H
    refine W_seq (W_region ?_)
    refine WO_op rfl rfl rfl ?_; simp only [putT,st,ev,gt,hp,ofV,constT,intT,lm]
    refine WO_nil ?_
    refine W_ret ?_
    obtain rfl := Option.some.inj H
    exact told3 rfl
   ·
    replace H := fl hc H
    refine W_skip ?_
    refine W_seq (W_region ?_)
    refine WO_op rfl rfl rfl ?_; simp only [putT,st,ev,gt,hp,ofV,constT,intT,lm]
    refine WO_nil ?_
    refine W_ret ?_
    obtain rfl := Option.some.inj H
    exact told3 rfl
end Go.Pu
