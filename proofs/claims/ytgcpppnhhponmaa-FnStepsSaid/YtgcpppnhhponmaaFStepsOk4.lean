import Derived.Test.YtgcpppnhhponmaaFStepsOk0
import Derived.Test.YtgcpppnhhponmaaFStepsOk1
import Derived.Test.YtgcpppnhhponmaaFStepsOk2
import Derived.Test.YtgcpppnhhponmaaFStepsOk3
set_option linter.unusedVariables false
set_option linter.unusedSimpArgs false
set_option synthInstance.maxSize 1000000000
set_option maxRecDepth 20000
set_option maxHeartbeats 20000000
namespace Go.Pu
open Go Go.SX Go.Nt Go.Proofs
theorem laws_FnSteps_ok {a1 : List Int} {r : Bool} (H : laws_FnSteps a1 = some r) : R 7 [.c (cL eU a1) none] = some (.c (cB r) none, []) := by
 unfold laws_FnSteps at H
 refine Fz_walk 195 rfl rfl Try.func7 rfl (by kernel_rfl) rfl rfl rfl rfl ?_
 simp only [tellVs, tellV, tells, tell, st0, padT, SX.newRow, SX.newBox, List.length_cons, List.length_nil, Nat.reduceAdd, Nat.reduceSub, List.replicate, List.cons_append, List.nil_append, List.foldl_cons, List.foldl_nil]
 refine W_seq (W_region ?_)
 refine WO_op rfl rfl rfl ?_; simp only [putT,st,ev,gt,hp,ofV,constT,intT,lm]
 refine WO_nil (W_seq (W_seq (W_region ?_)))
 refine WO_op rfl rfl rfl ?_; simp only [putT,st,ev,gt,hp,ofV,constT,intT,lm]
 obtain ⟨x2, hx2, H⟩ := bnd H
 refine WO_op (x := qb x2) (σ' := ⟨[], [], []⟩) rfl rfl (ev_callG (al := [.c (cL eU a1)]) (ls := []) (laws_big_ok hx2) rfl rfl rfl rfl rfl (by decide) rfl rfl rfl rfl rfl rfl) ?_; simp only [putT,st,ev,gt,hp,ofV,constT,intT,lm]
 refine WO_nil ?_
 refine W_cond rfl (fun hc => ?_) (fun hc => ?_)
 ·
  replace H := tr hc H
  refine W_seq (W_region ?_)
  refine WO_op rfl rfl rfl ?_; simp only [putT,st,ev,gt,hp,ofV,constT,intT,lm]
  refine WO_nil ?_
  refine W_ret ?_
  obtain rfl := Option.some.inj H
  exact told3 rfl
 ·
  replace H := fl hc H
  refine W_skip ?_
  refine W_seq (W_region ?_)
  refine WO_op rfl rfl rfl ?_; simp only [putT,st,ev,gt,hp,ofV,constT,intT,lm]
  obtain ⟨x3, hx3, H⟩ := bnd H
  refine WO_op (x := .tu [.ag [qs x3.1.Name, qs x3.1.Target, qi x3.1.Low, qi x3.1.High, .c (cL enc_Metric x3.1.Metrics), qi x3.1.Pace.Up, qi x3.1.Pace.Down, qi x3.1.Pace.UpSpan, qi x3.1.Pace.DownSpan, .c (cL enc_Note x3.1.Notes)], .ag [qs x3.2.1.Name, qi x3.2.1.Now, .row 0], qi x3.2.2.1, .row 1]) (σ' := ⟨[], [], [rr 2 enc_Rec x3.2.1.Recs true, rr 2 enc_Sample x3.2.2.2 true]⟩) rfl rfl (ev_callG (al := [.c (cL eU a1)]) (ls := []) (spec_DrawStep_ok hx3) rfl rfl rfl rfl rfl (by decide) rfl rfl rfl rfl rfl rfl) ?_; simp only [putT,st,ev,gt,hp,ofV,constT,intT,lm]
  refine WO_op rfl rfl rfl ?_
  refine WO_op (x := .ag [qs x3.1.Name, qs x3.1.Target, qi x3.1.Low, qi x3.1.High, .c (cL enc_Metric x3.1.Metrics), qi x3.1.Pace.Up, qi x3.1.Pace.Down, qi x3.1.Pace.UpSpan, qi x3.1.Pace.DownSpan, .c (cL enc_Note x3.1.Notes)]) rfl rfl rfl ?_
  refine WO_op (x := .ag [qs x3.2.1.Name, qi x3.2.1.Now, .row 0]) rfl rfl rfl ?_
  refine WO_op (x := qi x3.2.2.1) rfl rfl rfl ?_; simp only [putT,st,ev,gt,hp,ofV,constT,intT,lm]
  refine WO_op (x := .row 1) rfl rfl rfl ?_
  refine WO_op (x := .bp 0 0) (σ' := ⟨[], [some [qs [], qs [], qi 0, qi 0, .nil, qi 0, qi 0, qi 0, qi 0, .nil]], [rr 2 enc_Rec x3.2.1.Recs true, rr 2 enc_Sample x3.2.2.2 true]⟩) rfl rfl rfl ?_
  refine WO_op (x := .bp 1 0) (σ' := ⟨[], [some [qs [], qs [], qi 0, qi 0, .nil, qi 0, qi 0, qi 0, qi 0, .nil], some [qs [], qi 0, .nil]], [rr 2 enc_Rec x3.2.1.Recs true, rr 2 enc_Sample x3.2.2.2 true]⟩) rfl rfl rfl ?_
  refine WO_op (x := .no) (σ' := ⟨[], [some [qs x3.1.Name, qs x3.1.Target, qi x3.1.Low, qi x3.1.High, .c (cL enc_Metric x3.1.Metrics), qi x3.1.Pace.Up, qi x3.1.Pace.Down, qi x3.1.Pace.UpSpan, qi x3.1.Pace.DownSpan, .c (cL enc_Note x3.1.Notes)], some [qs [], qi 0, .nil]], [rr 2 enc_Rec x3.2.1.Recs true, rr 2 enc_Sample x3.2.2.2 true]⟩) rfl rfl rfl ?_; simp only [putT,st,ev,gt,hp,ofV,constT,intT,lm]
  refine WO_op (x := .no) (σ' := ⟨[], [some [qs x3.1.Name, qs x3.1.Target, qi x3.1.Low, qi x3.1.High, .c (cL enc_Metric x3.1.Metrics), qi x3.1.Pace.Up, qi x3.1.Pace.Down, qi x3.1.Pace.UpSpan, qi x3.1.Pace.DownSpan, .c (cL enc_Note x3.1.Notes)], some [qs x3.2.1.Name, qi x3.2.1.Now, .row 0]], [rr 2 enc_Rec x3.2.1.Recs true, rr 2 enc_Sample x3.2.2.2 true]⟩) rfl rfl rfl ?_; simp only [putT,st,ev,gt,hp,ofV,constT,intT,lm]
  iterate 2 (refine WO_op rfl rfl rfl ?_; simp only [putT,st,ev,gt,hp,ofV,constT,intT,lm])
  refine WO_nil (W_seq (W_region ?_))
  refine WO_op (x := .ag [qs x3.1.Name, qs x3.1.Target, qi x3.1.Low, qi x3.1.High, .c (cL enc_Metric x3.1.Metrics), qi x3.1.Pace.Up, qi x3.1.Pace.Down, qi x3.1.Pace.UpSpan, qi x3.1.Pace.DownSpan, .c (cL enc_Note x3.1.Notes)]) rfl rfl rfl ?_
  refine WO_op (x := .ag [qs x3.2.1.Name, qi x3.2.1.Now, .row 0]) rfl rfl rfl ?_; simp only [putT,st,ev,gt,hp,ofV,constT,intT,lm]
  iterate 2 (refine WO_op rfl rfl rfl ?_; simp only [putT,st,ev,gt,hp,ofV,constT,intT,lm])
  obtain ⟨x4, hx4, H⟩ := bnd H
  refine WO_op (x := .tu [.ag [qs x4.1.Name, qi x4.1.Now, .row 2], qi x4.2]) (σ' := ⟨[], [some [qs x3.1.Name, qs x3.1.Target, qi x3.1.Low, qi x3.1.High, .c (cL enc_Metric x3.1.Metrics), qi x3.1.Pace.Up, qi x3.1.Pace.Down, qi x3.1.Pace.UpSpan, qi x3.1.Pace.DownSpan, .c (cL enc_Note x3.1.Notes)], some [qs x3.2.1.Name, qi x3.2.1.Now, .row 0]], [rr 2 enc_Rec x3.2.1.Recs true, rr 2 enc_Sample x3.2.2.2 true, rr 2 enc_Rec x4.1.Recs true]⟩) rfl rfl (ev_callG (al := [.ag [qs x3.1.Name, qs x3.1.Target, qi x3.1.Low, qi x3.1.High, .c (cL enc_Metric x3.1.Metrics), qi x3.1.Pace.Up, qi x3.1.Pace.Down, qi x3.1.Pace.UpSpan, qi x3.1.Pace.DownSpan, .c (cL enc_Note x3.1.Notes)], .ag [qs x3.2.1.Name, qi x3.2.1.Now, .row 0], qi x3.2.2.1, .row 1]) (ls := []) (impl_Step_ok hx4) rfl rfl rfl rfl rfl (by decide) rfl rfl (by simp only [flatA, flatV, flatC, List.all_cons, List.all_nil, Option.all_some, Bool.and_self, Bool.or_true, fl_Rec]) rfl rfl rfl) ?_; simp only [putT,st,ev,gt,hp,ofV,constT,intT,lm]
  refine WO_op rfl rfl rfl ?_
  refine WO_op (x := .ag [qs x4.1.Name, qi x4.1.Now, .row 2]) rfl rfl rfl ?_
  refine WO_op (x := qi x4.2) rfl rfl rfl ?_
  refine WO_op (x := .bp 2 0) (σ' := ⟨[], [some [qs x3.1.Name, qs x3.1.Target, qi x3.1.Low, qi x3.1.High, .c (cL enc_Metric x3.1.Metrics), qi x3.1.Pace.Up, qi x3.1.Pace.Down, qi x3.1.Pace.UpSpan, qi x3.1.Pace.DownSpan, .c (cL enc_Note x3.1.Notes)], some [qs x3.2.1.Name, qi x3.2.1.Now, .row 0], some [qs [], qi 0, .nil]], [rr 2 enc_Rec x3.2.1.Recs true, rr 2 enc_Sample x3.2.2.2 true, rr 2 enc_Rec x4.1.Recs true]⟩) rfl rfl rfl ?_; simp only [putT,st,ev,gt,hp,ofV,constT,intT,lm]
  refine WO_op (x := .no) (σ' := ⟨[], [some [qs x3.1.Name, qs x3.1.Target, qi x3.1.Low, qi x3.1.High, .c (cL enc_Metric x3.1.Metrics), qi x3.1.Pace.Up, qi x3.1.Pace.Down, qi x3.1.Pace.UpSpan, qi x3.1.Pace.DownSpan, .c (cL enc_Note x3.1.Notes)], some [qs x3.2.1.Name, qi x3.2.1.Now, .row 0], some [qs x4.1.Name, qi x4.1.Now, .row 2]], [rr 2 enc_Rec x3.2.1.Recs true, rr 2 enc_Sample x3.2.2.2 true, rr 2 enc_Rec x4.1.Recs true]⟩) rfl rfl rfl ?_
  refine WO_op rfl rfl rfl ?_; simp only [putT,st,ev,gt,hp,ofV,constT,intT,lm]
  refine WO_nil (W_seq (W_region ?_))
  refine WO_op (x := .ag [qs x3.1.Name, qs x3.1.Target, qi x3.1.Low, qi x3.1.High, .c (cL enc_Metric x3.1.Metrics), qi x3.1.Pace.Up, qi x3.1.Pace.Down, qi x3.1.Pace.UpSpan, qi x3.1.Pace.DownSpan, .c (cL enc_Note x3.1.Notes)]) rfl rfl rfl ?_
  refine WO_op (x := .ag [qs x3.2.1.Name, qi x3.2.1.Now, .row 0]) rfl rfl rfl ?_; simp only [putT,st,ev,gt,hp,ofV,constT,intT,lm]
  iterate 2 (refine WO_op rfl rfl rfl ?_; simp only [putT,st,ev,gt,hp,ofV,constT,intT,lm])
  obtain ⟨x5, hx5, H⟩ := bnd H
  refine WO_op (x := .tu [.ag [qs x5.1.Name, qi x5.1.Now, .row 3], qi x5.2]) (σ' := ⟨[], [some [qs x3.1.Name, qs x3.1.Target, qi x3.1.Low, qi x3.1.High, .c (cL enc_Metric x3.1.Metrics), qi x3.1.Pace.Up, qi x3.1.Pace.Down, qi x3.1.Pace.UpSpan, qi x3.1.Pace.DownSpan, .c (cL enc_Note x3.1.Notes)], some [qs x3.2.1.Name, qi x3.2.1.Now, .row 0], some [qs x4.1.Name, qi x4.1.Now, .row 2]], [rr 2 enc_Rec x3.2.1.Recs true, rr 2 enc_Sample x3.2.2.2 true, rr 2 enc_Rec x4.1.Recs true, rr 2 enc_Rec x5.1.Recs true]⟩) rfl rfl (ev_callG (al := [.ag [qs x3.1.Name, qs x3.1.Target, qi x3.1.Low, qi x3.1.High, .c (cL enc_Metric x3.1.Metrics), qi x3.1.Pace.Up, qi x3.1.Pace.Down, qi x3.1.Pace.UpSpan, qi x3.1.Pace.DownSpan, .c (cL enc_Note x3.1.Notes)], .ag [qs x3.2.1.Name, qi x3.2.1.Now, .row 0], qi x3.2.2.1, .row 1]) (ls := []) (spec_Step_ok hx5) rfl rfl rfl rfl rfl (by decide) rfl rfl (by simp only [flatA, flatV, flatC, List.all_cons, List.all_nil, Option.all_some, Bool.and_self, Bool.or_true, fl_Rec]) rfl rfl rfl) ?_; simp only [putT,st,ev,gt,hp,ofV,constT,intT,lm]
  refine WO_op rfl rfl rfl ?_
  refine WO_op (x := .ag [qs x5.1.Name, qi x5.1.Now, .row 3]) rfl rfl rfl ?_
  refine WO_op (x := qi x5.2) rfl rfl rfl ?_
  refine WO_op (x := .bp 3 0) (σ' := ⟨[], [some [qs x3.1.Name, qs x3.1.Target, qi x3.1.Low, qi x3.1.High, .c (cL enc_Metric x3.1.Metrics), qi x3.1.Pace.Up, qi x3.1.Pace.Down, qi x3.1.Pace.UpSpan, qi x3.1.Pace.DownSpan, .c (cL enc_Note x3.1.Notes)], some [qs x3.2.1.Name, qi x3.2.1.Now, .row 0], some [qs x4.1.Name, qi x4.1.Now, .row 2], some [qs [], qi 0, .nil]], [rr 2 enc_Rec x3.2.1.Recs true, rr 2 enc_Sample x3.2.2.2 true, rr 2 enc_Rec x4.1.Recs true, rr 2 enc_Rec x5.1.Recs true]⟩) rfl rfl rfl ?_; simp only [putT,st,ev,gt,hp,ofV,constT,intT,lm]
  refine WO_op (x := .no) (σ' := ⟨[], [some [qs x3.1.Name, qs x3.1.Target, qi x3.1.Low, qi x3.1.High, .c (cL enc_Metric x3.1.Metrics), qi x3.1.Pace.Up, qi x3.1.Pace.Down, qi x3.1.Pace.UpSpan, qi x3.1.Pace.DownSpan, .c (cL enc_Note x3.1.Notes)], some [qs x3.2.1.Name, qi x3.2.1.Now, .row 0], some [qs x4.1.Name, qi x4.1.Now, .row 2], some [qs x5.1.Name, qi x5.1.Now, .row 3]], [rr 2 enc_Rec x3.2.1.Recs true, rr 2 enc_Sample x3.2.2.2 true, rr 2 enc_Rec x4.1.Recs true, rr 2 enc_Rec x5.1.Recs true]⟩) rfl rfl rfl ?_
  refine WO_op rfl rfl rfl ?_; simp only [putT,st,ev,gt,hp,ofV,constT,intT,lm]
  refine WO_nil (W_seq (W_seq ?_))
  refine W_drawL (by kernel_rfl) (by decide +kernel) ?_
  iterate 4 (refine WL_op rfl rfl rfl rfl ?_; simp only [putT,st,ev,gt,hp,ofV,constT,intT,lm])
  refine WL_if rfl rfl rfl (fun hc => ?_) (fun hc => ?_)
  ·
   replace H := tr hc H
   simp only [putT,st,ev,gt,hp,ofV,constT,intT,lm]
   iterate 5 refine WL_skip rfl rfl ?_
   refine WL_op (x := qb true) rfl rfl rfl rfl ?_
   refine WL_op rfl rfl rfl rfl ?_; simp only [putT,st,ev,gt,hp,ofV,constT,intT,lm]
   iterate 5 refine WL_skip rfl rfl ?_
   refine WL_op (x := qb true) rfl rfl rfl rfl ?_
   refine WL_op rfl rfl rfl rfl ?_; simp only [putT,st,ev,gt,hp,ofV,constT,intT,lm]
   iterate 6 refine WL_skip rfl rfl ?_
   refine WL_op (x := qb true) rfl rfl rfl rfl ?_
   refine WL_op rfl rfl rfl rfl ?_; simp only [putT,st,ev,gt,hp,ofV,constT,intT,lm]
   iterate 5 refine WL_skip rfl rfl ?_
   refine WL_op (x := qb true) rfl rfl rfl rfl ?_
   refine WL_op rfl rfl rfl rfl ?_; simp only [putT,st,ev,gt,hp,ofV,constT,intT,lm]
   iterate 4 refine WL_skip rfl rfl ?_
   refine WL_op (x := qb true) rfl rfl rfl rfl ?_; simp only [putT,st,ev,gt,hp,ofV,constT,intT,lm]
   refine WL_nil (by kernel_rfl) ?_
   refine W_cond (t := true) rfl (fun _ => ?_) (fun h => by cases h)
   refine W_seq (W_region ?_)
   refine WO_op rfl rfl rfl ?_; simp only [putT,st,ev,gt,hp,ofV,constT,intT,lm]
   refine WO_nil ?_
   refine W_ret ?_
   obtain rfl := Option.some.inj H
   exact told3 rfl
  ·
   replace H := fl hc H
   refine WL_want (x := .bp 2 1) rfl rfl rfl rfl ?_
   refine WL_want (x := qi x4.1.Now) rfl rfl rfl rfl ?_
   refine WL_want (x := .bp 3 1) rfl rfl rfl rfl ?_; simp only [putT,st,ev,gt,hp,ofV,constT,intT,lm]
   refine WL_want (x := qi x5.1.Now) rfl rfl rfl rfl ?_
   refine WL_want rfl rfl rfl rfl ?_
   refine WL_op (x := qb (x4.1.Now != x5.1.Now)) rfl rfl rfl rfl ?_
   refine WL_op rfl rfl rfl rfl ?_; simp only [putT,st,ev,gt,hp,ofV,constT,intT,lm]
   refine WL_if rfl rfl rfl (fun hc => ?_) (fun hc => ?_)
   ·
    replace H := tr hc H
    simp only [putT,st,ev,gt,hp,ofV,constT,intT,lm]
    iterate 5 refine WL_skip rfl rfl ?_
    refine WL_op (x := qb true) rfl rfl rfl rfl ?_
    refine WL_op rfl rfl rfl rfl ?_; simp only [putT,st,ev,gt,hp,ofV,constT,intT,lm]
    iterate 6 refine WL_skip rfl rfl ?_
    refine WL_op (x := qb true) rfl rfl rfl rfl ?_
    refine WL_op rfl rfl rfl rfl ?_; simp only [putT,st,ev,gt,hp,ofV,constT,intT,lm]
    iterate 5 refine WL_skip rfl rfl ?_
    refine WL_op (x := qb true) rfl rfl rfl rfl ?_
    refine WL_op rfl rfl rfl rfl ?_; simp only [putT,st,ev,gt,hp,ofV,constT,intT,lm]
    iterate 4 refine WL_skip rfl rfl ?_
    refine WL_op (x := qb true) rfl rfl rfl rfl ?_; simp only [putT,st,ev,gt,hp,ofV,constT,intT,lm]
    refine WL_nil (by kernel_rfl) ?_
    refine W_cond (t := true) rfl (fun _ => ?_) (fun h => by cases h)
    refine W_seq (W_region ?_)
    refine WO_op rfl rfl rfl ?_; simp only [putT,st,ev,gt,hp,ofV,constT,intT,lm]
    refine WO_nil ?_
    refine W_ret ?_
    obtain rfl := Option.some.inj H
    exact told3 rfl
   ·
    replace H := fl hc H
    refine WL_want (x := .bp 2 0) rfl rfl rfl rfl ?_
    refine WL_want (x := qs x4.1.Name) rfl rfl rfl rfl ?_
    refine WL_want (x := .bp 3 0) rfl rfl rfl rfl ?_; simp only [putT,st,ev,gt,hp,ofV,constT,intT,lm]
    refine WL_want (x := qs x5.1.Name) rfl rfl rfl rfl ?_; simp only [putT,st,ev,gt,hp,ofV,constT,intT,lm]
    refine WL_want rfl rfl rfl (ev_neq_s rfl rfl rfl) ?_; simp only [putT,st,ev,gt,hp,ofV,constT,intT,lm]
    refine WL_op (x := qb (!(x4.1.Name == x5.1.Name))) rfl rfl rfl rfl ?_
    refine WL_op rfl rfl rfl rfl ?_; simp only [putT,st,ev,gt,hp,ofV,constT,intT,lm]
    refine WL_if rfl rfl rfl (fun hc => ?_) (fun hc => ?_)
    ·
     replace H := tr hc H
     simp only [putT,st,ev,gt,hp,ofV,constT,intT,lm]
     iterate 6 refine WL_skip rfl rfl ?_
     refine WL_op (x := qb true) rfl rfl rfl rfl ?_
     refine WL_op rfl rfl rfl rfl ?_; simp only [putT,st,ev,gt,hp,ofV,constT,intT,lm]
     iterate 5 refine WL_skip rfl rfl ?_
     refine WL_op (x := qb true) rfl rfl rfl rfl ?_
     refine WL_op rfl rfl rfl rfl ?_; simp only [putT,st,ev,gt,hp,ofV,constT,intT,lm]
     iterate 4 refine WL_skip rfl rfl ?_
     refine WL_op (x := qb true) rfl rfl rfl rfl ?_; simp only [putT,st,ev,gt,hp,ofV,constT,intT,lm]
     refine WL_nil (by kernel_rfl) ?_
     refine W_cond (t := true) rfl (fun _ => ?_) (fun h => by cases h)
     refine W_seq (W_region ?_)
     refine WO_op rfl rfl rfl ?_; simp only [putT,st,ev,gt,hp,ofV,constT,intT,lm]
     refine WO_nil ?_
     refine W_ret ?_
     obtain rfl := Option.some.inj H
     exact told3 rfl
    ·
     replace H := fl hc H
     refine WL_want (x := .bp 2 2) rfl rfl rfl rfl ?_
     refine WL_want (x := .row 2) rfl rfl rfl rfl ?_
     refine WL_want (x := .bp 3 2) rfl rfl rfl rfl ?_; simp only [putT,st,ev,gt,hp,ofV,constT,intT,lm]
     refine WL_want (x := .row 3) rfl rfl rfl rfl ?_; simp only [putT,st,ev,gt,hp,ofV,constT,intT,lm]
     obtain ⟨x6, hx6, H⟩ := bnd H
     refine WL_want (x := qb x6) (σ' := ⟨[], [some [qs x3.1.Name, qs x3.1.Target, qi x3.1.Low, qi x3.1.High, .c (cL enc_Metric x3.1.Metrics), qi x3.1.Pace.Up, qi x3.1.Pace.Down, qi x3.1.Pace.UpSpan, qi x3.1.Pace.DownSpan, .c (cL enc_Note x3.1.Notes)], some [qs x3.2.1.Name, qi x3.2.1.Now, .row 0], some [qs x4.1.Name, qi x4.1.Now, .row 2], some [qs x5.1.Name, qi x5.1.Now, .row 3]], [rr 2 enc_Rec x3.2.1.Recs true, rr 2 enc_Sample x3.2.2.2 true, rr 2 enc_Rec x4.1.Recs true, rr 2 enc_Rec x5.1.Recs true]⟩) rfl rfl rfl (ev_callG (al := [.row 2, .row 3]) (ls := []) (laws_sameRecs_ok hx6) rfl rfl rfl rfl rfl (by decide) rfl rfl rfl rfl rfl rfl) ?_; simp only [putT,st,ev,gt,hp,ofV,constT,intT,lm]
     refine WL_want rfl rfl rfl rfl ?_
     refine WL_op (x := qb (!x6)) rfl rfl rfl rfl ?_
     refine WL_op rfl rfl rfl rfl ?_; simp only [putT,st,ev,gt,hp,ofV,constT,intT,lm]
     refine WL_if rfl rfl rfl (fun hc => ?_) (fun hc => ?_)
     ·
      replace H := tr hc H
      simp only [putT,st,ev,gt,hp,ofV,constT,intT,lm]
      iterate 5 refine WL_skip rfl rfl ?_
      refine WL_op (x := qb true) rfl rfl rfl rfl ?_
      refine WL_op rfl rfl rfl rfl ?_; simp only [putT,st,ev,gt,hp,ofV,constT,intT,lm]
      iterate 4 refine WL_skip rfl rfl ?_
      refine WL_op (x := qb true) rfl rfl rfl rfl ?_; simp only [putT,st,ev,gt,hp,ofV,constT,intT,lm]
      refine WL_nil (by kernel_rfl) ?_
      refine W_cond (t := true) rfl (fun _ => ?_) (fun h => by cases h)
      refine W_seq (W_region ?_)
      refine WO_op rfl rfl rfl ?_; simp only [putT,st,ev,gt,hp,ofV,constT,intT,lm]
      refine WO_nil ?_
      refine W_ret ?_
      obtain rfl := Option.some.inj H
      exact told3 rfl
     ·
      replace H := fl hc H
      refine WL_want (x := .ag [qs x3.2.1.Name, qi x3.2.1.Now, .row 0]) rfl rfl rfl rfl ?_; simp only [putT,st,ev,gt,hp,ofV,constT,intT,lm]
      obtain ⟨x7, hx7, H⟩ := bnd H
      refine WL_want (x := qb x7) (σ' := ⟨[], [some [qs x3.1.Name, qs x3.1.Target, qi x3.1.Low, qi x3.1.High, .c (cL enc_Metric x3.1.Metrics), qi x3.1.Pace.Up, qi x3.1.Pace.Down, qi x3.1.Pace.UpSpan, qi x3.1.Pace.DownSpan, .c (cL enc_Note x3.1.Notes)], some [qs x3.2.1.Name, qi x3.2.1.Now, .row 0], some [qs x4.1.Name, qi x4.1.Now, .row 2], some [qs x5.1.Name, qi x5.1.Now, .row 3]], [rr 2 enc_Rec x3.2.1.Recs true, rr 2 enc_Sample x3.2.2.2 true, rr 2 enc_Rec x4.1.Recs true, rr 2 enc_Rec x5.1.Recs true]⟩) rfl rfl rfl (ev_callG (al := [.ag [qs x3.2.1.Name, qi x3.2.1.Now, .row 0]]) (ls := []) (impl_ScaleOk_ok hx7) rfl rfl rfl rfl rfl (by decide) rfl rfl rfl rfl rfl rfl) ?_; simp only [putT,st,ev,gt,hp,ofV,constT,intT,lm]
      refine WL_want (x := .ag [qs x3.2.1.Name, qi x3.2.1.Now, .row 0]) rfl rfl rfl rfl ?_; simp only [putT,st,ev,gt,hp,ofV,constT,intT,lm]
      obtain ⟨x8, hx8, H⟩ := bnd H
      refine WL_want (x := qb x8) (σ' := ⟨[], [some [qs x3.1.Name, qs x3.1.Target, qi x3.1.Low, qi x3.1.High, .c (cL enc_Metric x3.1.Metrics), qi x3.1.Pace.Up, qi x3.1.Pace.Down, qi x3.1.Pace.UpSpan, qi x3.1.Pace.DownSpan, .c (cL enc_Note x3.1.Notes)], some [qs x3.2.1.Name, qi x3.2.1.Now, .row 0], some [qs x4.1.Name, qi x4.1.Now, .row 2], some [qs x5.1.Name, qi x5.1.Now, .row 3]], [rr 2 enc_Rec x3.2.1.Recs true, rr 2 enc_Sample x3.2.2.2 true, rr 2 enc_Rec x4.1.Recs true, rr 2 enc_Rec x5.1.Recs true]⟩) rfl rfl rfl (ev_callG (al := [.ag [qs x3.2.1.Name, qi x3.2.1.Now, .row 0]]) (ls := []) (spec_ScaleOk_ok hx8) rfl rfl rfl rfl rfl (by decide) rfl rfl rfl rfl rfl rfl) ?_; simp only [putT,st,ev,gt,hp,ofV,constT,intT,lm]
      refine WL_want rfl rfl rfl rfl ?_
      refine WL_op (x := qb (x7 != x8)) rfl rfl rfl rfl ?_
      refine WL_op rfl rfl rfl rfl ?_; simp only [putT,st,ev,gt,hp,ofV,constT,intT,lm]
      refine WL_if rfl rfl rfl (fun hc => ?_) (fun hc => ?_)
      ·
       replace H := tr hc H
       simp only [putT,st,ev,gt,hp,ofV,constT,intT,lm]
       iterate 4 refine WL_skip rfl rfl ?_
       refine WL_op (x := qb true) rfl rfl rfl rfl ?_; simp only [putT,st,ev,gt,hp,ofV,constT,intT,lm]
       refine WL_nil (by kernel_rfl) ?_
       refine W_cond (t := true) rfl (fun _ => ?_) (fun h => by cases h)
       refine W_seq (W_region ?_)
       refine WO_op rfl rfl rfl ?_; simp only [putT,st,ev,gt,hp,ofV,constT,intT,lm]
       refine WO_nil ?_
       refine W_ret ?_
       obtain rfl := Option.some.inj H
       exact told3 rfl
      ·
       replace H := fl hc H
       refine WL_want (x := .bp 2 1) rfl rfl rfl rfl ?_
       refine WL_want (x := qi x4.1.Now) rfl rfl rfl rfl ?_; simp only [putT,st,ev,gt,hp,ofV,constT,intT,lm]
       iterate 2 (refine WL_want rfl rfl rfl rfl ?_; simp only [putT,st,ev,gt,hp,ofV,constT,intT,lm])
       refine WL_op (x := qb (x4.1.Now != x4.2)) rfl rfl rfl rfl ?_; simp only [putT,st,ev,gt,hp,ofV,constT,intT,lm]
       refine WL_nil (by kernel_rfl) ?_
       refine W_cond rfl (fun hc => ?_) (fun hc => ?_)
       ·
        replace H := tr hc H
        refine W_seq (W_region ?_)
        refine WO_op rfl rfl rfl ?_; simp only [putT,st,ev,gt,hp,ofV,constT,intT,lm]
        refine WO_nil ?_
        refine W_ret ?_
        obtain rfl := Option.some.inj H
        exact told3 rfl
       ·
        replace H := fl hc H
        refine W_skip ?_
        refine W_seq (W_region ?_)
        refine WO_op (x := .bp 1 2) rfl rfl rfl ?_
        refine WO_op (x := .row 0) rfl rfl rfl ?_; simp only [putT,st,ev,gt,hp,ofV,constT,intT,lm]
        iterate 2 (refine WO_op rfl rfl rfl ?_; simp only [putT,st,ev,gt,hp,ofV,constT,intT,lm])
        refine WO_nil (W_seq (W_seq (W_region ?_)))
        refine WO_op (x := .ag [qs x3.1.Name, qs x3.1.Target, qi x3.1.Low, qi x3.1.High, .c (cL enc_Metric x3.1.Metrics), qi x3.1.Pace.Up, qi x3.1.Pace.Down, qi x3.1.Pace.UpSpan, qi x3.1.Pace.DownSpan, .c (cL enc_Note x3.1.Notes)]) rfl rfl rfl ?_; simp only [putT,st,ev,gt,hp,ofV,constT,intT,lm]
        obtain ⟨x9, hx9, H⟩ := bnd H
        refine WO_op (x := qb x9) (σ' := ⟨[], [some [qs x3.1.Name, qs x3.1.Target, qi x3.1.Low, qi x3.1.High, .c (cL enc_Metric x3.1.Metrics), qi x3.1.Pace.Up, qi x3.1.Pace.Down, qi x3.1.Pace.UpSpan, qi x3.1.Pace.DownSpan, .c (cL enc_Note x3.1.Notes)], some [qs x3.2.1.Name, qi x3.2.1.Now, .row 0], some [qs x4.1.Name, qi x4.1.Now, .row 2], some [qs x5.1.Name, qi x5.1.Now, .row 3]], [rr 2 enc_Rec x3.2.1.Recs true, rr 2 enc_Sample x3.2.2.2 true, rr 2 enc_Rec x4.1.Recs true, rr 2 enc_Rec x5.1.Recs true]⟩) rfl rfl (ev_callG (al := [.ag [qs x3.1.Name, qs x3.1.Target, qi x3.1.Low, qi x3.1.High, .c (cL enc_Metric x3.1.Metrics), qi x3.1.Pace.Up, qi x3.1.Pace.Down, qi x3.1.Pace.UpSpan, qi x3.1.Pace.DownSpan, .c (cL enc_Note x3.1.Notes)]]) (ls := []) (impl_OrderOk_ok hx9) rfl rfl rfl rfl rfl (by decide) rfl rfl rfl rfl rfl rfl) ?_; simp only [putT,st,ev,gt,hp,ofV,constT,intT,lm]
        iterate 2 (refine WO_op rfl rfl rfl ?_; simp only [putT,st,ev,gt,hp,ofV,constT,intT,lm])
        refine WO_if rfl rfl rfl (fun hc => ?_) (fun hc => ?_)
        ·
         replace H := tr hc H
         simp only [putT,st,ev,gt,hp,ofV,constT,intT,lm]
         iterate 3 refine WO_skip rfl rfl ?_
         refine WO_op (x := qb true) rfl rfl rfl ?_
         refine WO_op rfl rfl rfl ?_; simp only [putT,st,ev,gt,hp,ofV,constT,intT,lm]
         iterate 5 refine WO_skip rfl rfl ?_
         refine WO_op (x := qb true) rfl rfl rfl ?_
         refine WO_op rfl rfl rfl ?_; simp only [putT,st,ev,gt,hp,ofV,constT,intT,lm]
         iterate 3 refine WO_skip rfl rfl ?_
         refine WO_op (x := qb true) rfl rfl rfl ?_
         refine WO_op rfl rfl rfl ?_; simp only [putT,st,ev,gt,hp,ofV,constT,intT,lm]
         iterate 2 refine WO_skip rfl rfl ?_
         refine WO_op (x := qb true) rfl rfl rfl ?_
         refine WO_op rfl rfl rfl ?_; simp only [putT,st,ev,gt,hp,ofV,constT,intT,lm]
         iterate 2 refine WO_skip rfl rfl ?_
         refine WO_op (x := qb true) rfl rfl rfl ?_
         refine WO_op rfl rfl rfl ?_; simp only [putT,st,ev,gt,hp,ofV,constT,intT,lm]
         iterate 13 refine WO_skip rfl rfl ?_
         refine WO_op (x := qb true) rfl rfl rfl ?_; simp only [putT,st,ev,gt,hp,ofV,constT,intT,lm]
         refine WO_nil ?_
         refine W_cond (t := true) rfl (fun _ => ?_) (fun h => by cases h)
         refine W_seq (W_region ?_)
         refine WO_op (x := .bp 2 1) rfl rfl rfl ?_
         refine WO_op (x := qi x4.1.Now) rfl rfl rfl ?_
         refine WO_op (x := .bp 1 1) rfl rfl rfl ?_
         refine WO_op (x := qi x3.2.1.Now) rfl rfl rfl ?_; simp only [putT,st,ev,gt,hp,ofV,constT,intT,lm]
         iterate 2 (refine WO_op rfl rfl rfl ?_; simp only [putT,st,ev,gt,hp,ofV,constT,intT,lm])
         refine WO_if rfl rfl rfl (fun hc => ?_) (fun hc => ?_)
         ·
          replace H := tr hc H
          refine WO_want (x := .bp 2 2) rfl rfl rfl ?_
          refine WO_want (x := .row 2) rfl rfl rfl ?_
          refine WO_want (x := .bp 1 2) rfl rfl rfl ?_; simp only [putT,st,ev,gt,hp,ofV,constT,intT,lm]
          refine WO_want (x := .row 0) rfl rfl rfl ?_; simp only [putT,st,ev,gt,hp,ofV,constT,intT,lm]
          obtain ⟨x10, hx10, H⟩ := bnd H
          refine WO_want (x := qb x10) (σ' := ⟨[], [some [qs x3.1.Name, qs x3.1.Target, qi x3.1.Low, qi x3.1.High, .c (cL enc_Metric x3.1.Metrics), qi x3.1.Pace.Up, qi x3.1.Pace.Down, qi x3.1.Pace.UpSpan, qi x3.1.Pace.DownSpan, .c (cL enc_Note x3.1.Notes)], some [qs x3.2.1.Name, qi x3.2.1.Now, .row 0], some [qs x4.1.Name, qi x4.1.Now, .row 2], some [qs x5.1.Name, qi x5.1.Now, .row 3]], [rr 2 enc_Rec x3.2.1.Recs true, rr 2 enc_Sample x3.2.2.2 true, rr 2 enc_Rec x4.1.Recs true, rr 2 enc_Rec x5.1.Recs true]⟩) rfl rfl (ev_callG (al := [.row 2, .row 0]) (ls := []) (laws_sameRecs_ok hx10) rfl rfl rfl rfl rfl (by decide) rfl rfl rfl rfl rfl rfl) ?_; simp only [putT,st,ev,gt,hp,ofV,constT,intT,lm]
          refine WO_op (x := qb x10) rfl rfl rfl ?_
          refine WO_op rfl rfl rfl ?_; simp only [putT,st,ev,gt,hp,ofV,constT,intT,lm]
          refine WO_nil ?_
          refine W_ret ?_
          obtain rfl := Option.some.inj H
          exact told3 rfl
         ·
          replace H := fl hc H
          simp only [putT,st,ev,gt,hp,ofV,constT,intT,lm]
          iterate 5 refine WO_skip rfl rfl ?_
          refine WO_op (x := qb false) rfl rfl rfl ?_
          refine WO_op rfl rfl rfl ?_; simp only [putT,st,ev,gt,hp,ofV,constT,intT,lm]
          refine WO_nil ?_
          refine W_ret ?_
          obtain rfl := Option.some.inj H
          exact told3 rfl
        ·
         replace H := fl hc H
         refine WO_want (x := .ag [qs x3.2.1.Name, qi x3.2.1.Now, .row 0]) rfl rfl rfl ?_; simp only [putT,st,ev,gt,hp,ofV,constT,intT,lm]
         obtain ⟨x11, hx11, H⟩ := bnd H
         refine WO_want (x := qb x11) (σ' := ⟨[], [some [qs x3.1.Name, qs x3.1.Target, qi x3.1.Low, qi x3.1.High, .c (cL enc_Metric x3.1.Metrics), qi x3.1.Pace.Up, qi x3.1.Pace.Down, qi x3.1.Pace.UpSpan, qi x3.1.Pace.DownSpan, .c (cL enc_Note x3.1.Notes)], some [qs x3.2.1.Name, qi x3.2.1.Now, .row 0], some [qs x4.1.Name, qi x4.1.Now, .row 2], some [qs x5.1.Name, qi x5.1.Now, .row 3]], [rr 2 enc_Rec x3.2.1.Recs true, rr 2 enc_Sample x3.2.2.2 true, rr 2 enc_Rec x4.1.Recs true, rr 2 enc_Rec x5.1.Recs true]⟩) rfl rfl (ev_callG (al := [.ag [qs x3.2.1.Name, qi x3.2.1.Now, .row 0]]) (ls := []) (impl_ScaleOk_ok hx11) rfl rfl rfl rfl rfl (by decide) rfl rfl rfl rfl rfl rfl) ?_; simp only [putT,st,ev,gt,hp,ofV,constT,intT,lm]
         refine WO_want rfl rfl rfl ?_
         refine WO_op (x := qb (!x11)) rfl rfl rfl ?_
         refine WO_op rfl rfl rfl ?_; simp only [putT,st,ev,gt,hp,ofV,constT,intT,lm]
         refine WO_if rfl rfl rfl (fun hc => ?_) (fun hc => ?_)
         ·
          replace H := tr hc H
          simp only [putT,st,ev,gt,hp,ofV,constT,intT,lm]
          iterate 5 refine WO_skip rfl rfl ?_
          refine WO_op (x := qb true) rfl rfl rfl ?_
          refine WO_op rfl rfl rfl ?_; simp only [putT,st,ev,gt,hp,ofV,constT,intT,lm]
          iterate 3 refine WO_skip rfl rfl ?_
          refine WO_op (x := qb true) rfl rfl rfl ?_
          refine WO_op rfl rfl rfl ?_; simp only [putT,st,ev,gt,hp,ofV,constT,intT,lm]
          iterate 2 refine WO_skip rfl rfl ?_
          refine WO_op (x := qb true) rfl rfl rfl ?_
          refine WO_op rfl rfl rfl ?_; simp only [putT,st,ev,gt,hp,ofV,constT,intT,lm]
          iterate 2 refine WO_skip rfl rfl ?_
          refine WO_op (x := qb true) rfl rfl rfl ?_
          refine WO_op rfl rfl rfl ?_; simp only [putT,st,ev,gt,hp,ofV,constT,intT,lm]
          iterate 13 refine WO_skip rfl rfl ?_
          refine WO_op (x := qb true) rfl rfl rfl ?_; simp only [putT,st,ev,gt,hp,ofV,constT,intT,lm]
          refine WO_nil ?_
          refine W_cond (t := true) rfl (fun _ => ?_) (fun h => by cases h)
          refine W_seq (W_region ?_)
          refine WO_op (x := .bp 2 1) rfl rfl rfl ?_
          refine WO_op (x := qi x4.1.Now) rfl rfl rfl ?_
          refine WO_op (x := .bp 1 1) rfl rfl rfl ?_
          refine WO_op (x := qi x3.2.1.Now) rfl rfl rfl ?_; simp only [putT,st,ev,gt,hp,ofV,constT,intT,lm]
          iterate 2 (refine WO_op rfl rfl rfl ?_; simp only [putT,st,ev,gt,hp,ofV,constT,intT,lm])
          refine WO_if rfl rfl rfl (fun hc => ?_) (fun hc => ?_)
          ·
           replace H := tr hc H
           refine WO_want (x := .bp 2 2) rfl rfl rfl ?_
           refine WO_want (x := .row 2) rfl rfl rfl ?_
           refine WO_want (x := .bp 1 2) rfl rfl rfl ?_; simp only [putT,st,ev,gt,hp,ofV,constT,intT,lm]
           refine WO_want (x := .row 0) rfl rfl rfl ?_; simp only [putT,st,ev,gt,hp,ofV,constT,intT,lm]
           obtain ⟨x12, hx12, H⟩ := bnd H
           refine WO_want (x := qb x12) (σ' := ⟨[], [some [qs x3.1.Name, qs x3.1.Target, qi x3.1.Low, qi x3.1.High, .c (cL enc_Metric x3.1.Metrics), qi x3.1.Pace.Up, qi x3.1.Pace.Down, qi x3.1.Pace.UpSpan, qi x3.1.Pace.DownSpan, .c (cL enc_Note x3.1.Notes)], some [qs x3.2.1.Name, qi x3.2.1.Now, .row 0], some [qs x4.1.Name, qi x4.1.Now, .row 2], some [qs x5.1.Name, qi x5.1.Now, .row 3]], [rr 2 enc_Rec x3.2.1.Recs true, rr 2 enc_Sample x3.2.2.2 true, rr 2 enc_Rec x4.1.Recs true, rr 2 enc_Rec x5.1.Recs true]⟩) rfl rfl (ev_callG (al := [.row 2, .row 0]) (ls := []) (laws_sameRecs_ok hx12) rfl rfl rfl rfl rfl (by decide) rfl rfl rfl rfl rfl rfl) ?_; simp only [putT,st,ev,gt,hp,ofV,constT,intT,lm]
           refine WO_op (x := qb x12) rfl rfl rfl ?_
           refine WO_op rfl rfl rfl ?_; simp only [putT,st,ev,gt,hp,ofV,constT,intT,lm]
           refine WO_nil ?_
           refine W_ret ?_
           obtain rfl := Option.some.inj H
           exact told3 rfl
          ·
           replace H := fl hc H
           simp only [putT,st,ev,gt,hp,ofV,constT,intT,lm]
           iterate 5 refine WO_skip rfl rfl ?_
           refine WO_op (x := qb false) rfl rfl rfl ?_
           refine WO_op rfl rfl rfl ?_; simp only [putT,st,ev,gt,hp,ofV,constT,intT,lm]
           refine WO_nil ?_
           refine W_ret ?_
           obtain rfl := Option.some.inj H
           exact told3 rfl
         ·
          replace H := fl hc H
          refine WO_want (x := .bp 1 0) rfl rfl rfl ?_
          refine WO_want (x := qs x3.2.1.Name) rfl rfl rfl ?_
          refine WO_want (x := .bp 0 0) rfl rfl rfl ?_; simp only [putT,st,ev,gt,hp,ofV,constT,intT,lm]
          refine WO_want (x := qs x3.1.Name) rfl rfl rfl ?_; simp only [putT,st,ev,gt,hp,ofV,constT,intT,lm]
          refine WO_want rfl rfl (ev_neq_s rfl rfl rfl) ?_; simp only [putT,st,ev,gt,hp,ofV,constT,intT,lm]
          refine WO_op (x := qb (!(x3.2.1.Name == x3.1.Name))) rfl rfl rfl ?_
          refine WO_op rfl rfl rfl ?_; simp only [putT,st,ev,gt,hp,ofV,constT,intT,lm]
          refine WO_if rfl rfl rfl (fun hc => ?_) (fun hc => ?_)
          ·
           replace H := tr hc H
           simp only [putT,st,ev,gt,hp,ofV,constT,intT,lm]
           iterate 3 refine WO_skip rfl rfl ?_
           refine WO_op (x := qb true) rfl rfl rfl ?_
           refine WO_op rfl rfl rfl ?_; simp only [putT,st,ev,gt,hp,ofV,constT,intT,lm]
           iterate 2 refine WO_skip rfl rfl ?_
           refine WO_op (x := qb true) rfl rfl rfl ?_
           refine WO_op rfl rfl rfl ?_; simp only [putT,st,ev,gt,hp,ofV,constT,intT,lm]
           iterate 2 refine WO_skip rfl rfl ?_
           refine WO_op (x := qb true) rfl rfl rfl ?_
           refine WO_op rfl rfl rfl ?_; simp only [putT,st,ev,gt,hp,ofV,constT,intT,lm]
           iterate 13 refine WO_skip rfl rfl ?_
           refine WO_op (x := qb true) rfl rfl rfl ?_; simp only [putT,st,ev,gt,hp,ofV,constT,intT,lm]
           refine WO_nil ?_
           refine W_cond (t := true) rfl (fun _ => ?_) (fun h => by cases h)
           refine W_seq (W_region ?_)
           refine WO_op (x := .bp 2 1) rfl rfl rfl ?_
           refine WO_op (x := qi x4.1.Now) rfl rfl rfl ?_
           refine WO_op (x := .bp 1 1) rfl rfl rfl ?_
           refine WO_op (x := qi x3.2.1.Now) rfl rfl rfl ?_; simp only [putT,st,ev,gt,hp,ofV,constT,intT,lm]
           iterate 2 (refine WO_op rfl rfl rfl ?_; simp only [putT,st,ev,gt,hp,ofV,constT,intT,lm])
           refine WO_if rfl rfl rfl (fun hc => ?_) (fun hc => ?_)
           ·
            replace H := tr hc H
            refine WO_want (x := .bp 2 2) rfl rfl rfl ?_
            refine WO_want (x := .row 2) rfl rfl rfl ?_
            refine WO_want (x := .bp 1 2) rfl rfl rfl ?_; simp only [putT,st,ev,gt,hp,ofV,constT,intT,lm]
            refine WO_want (x := .row 0) rfl rfl rfl ?_; simp only [putT,st,ev,gt,hp,ofV,constT,intT,lm]
            obtain ⟨x13, hx13, H⟩ := bnd H
            refine WO_want (x := qb x13) (σ' := ⟨[], [some [qs x3.1.Name, qs x3.1.Target, qi x3.1.Low, qi x3.1.High, .c (cL enc_Metric x3.1.Metrics), qi x3.1.Pace.Up, qi x3.1.Pace.Down, qi x3.1.Pace.UpSpan, qi x3.1.Pace.DownSpan, .c (cL enc_Note x3.1.Notes)], some [qs x3.2.1.Name, qi x3.2.1.Now, .row 0], some [qs x4.1.Name, qi x4.1.Now, .row 2], some [qs x5.1.Name, qi x5.1.Now, .row 3]], [rr 2 enc_Rec x3.2.1.Recs true, rr 2 enc_Sample x3.2.2.2 true, rr 2 enc_Rec x4.1.Recs true, rr 2 enc_Rec x5.1.Recs true]⟩) rfl rfl (ev_callG (al := [.row 2, .row 0]) (ls := []) (laws_sameRecs_ok hx13) rfl rfl rfl rfl rfl (by decide) rfl rfl rfl rfl rfl rfl) ?_; simp only [putT,st,ev,gt,hp,ofV,constT,intT,lm]
            refine WO_op (x := qb x13) rfl rfl rfl ?_
            refine WO_op rfl rfl rfl ?_; simp only [putT,st,ev,gt,hp,ofV,constT,intT,lm]
            refine WO_nil ?_
            refine W_ret ?_
            obtain rfl := Option.some.inj H
            exact told3 rfl
           ·
            replace H := fl hc H
            simp only [putT,st,ev,gt,hp,ofV,constT,intT,lm]
            iterate 5 refine WO_skip rfl rfl ?_
            refine WO_op (x := qb false) rfl rfl rfl ?_
            refine WO_op rfl rfl rfl ?_; simp only [putT,st,ev,gt,hp,ofV,constT,intT,lm]
            refine WO_nil ?_
            refine W_ret ?_
            obtain rfl := Option.some.inj H
            exact told3 rfl
          ·
           replace H := fl hc H
           refine WO_want rfl rfl rfl ?_; simp only [putT,st,ev,gt,hp,ofV,constT,intT,lm]
           obtain ⟨x14, hx14, H⟩ := bnd H
           refine WO_want (x := qb x14) (σ' := ⟨[], [some [qs x3.1.Name, qs x3.1.Target, qi x3.1.Low, qi x3.1.High, .c (cL enc_Metric x3.1.Metrics), qi x3.1.Pace.Up, qi x3.1.Pace.Down, qi x3.1.Pace.UpSpan, qi x3.1.Pace.DownSpan, .c (cL enc_Note x3.1.Notes)], some [qs x3.2.1.Name, qi x3.2.1.Now, .row 0], some [qs x4.1.Name, qi x4.1.Now, .row 2], some [qs x5.1.Name, qi x5.1.Now, .row 3]], [rr 2 enc_Rec x3.2.1.Recs true, rr 2 enc_Sample x3.2.2.2 true, rr 2 enc_Rec x4.1.Recs true, rr 2 enc_Rec x5.1.Recs true]⟩) rfl rfl (ev_callG (al := [.row 1]) (ls := []) (impl_SamplesOk_ok hx14) rfl rfl rfl rfl rfl (by decide) rfl rfl rfl rfl rfl rfl) ?_; simp only [putT,st,ev,gt,hp,ofV,constT,intT,lm]
           refine WO_want rfl rfl rfl ?_
           refine WO_op (x := qb (!x14)) rfl rfl rfl ?_
           refine WO_op rfl rfl rfl ?_; simp only [putT,st,ev,gt,hp,ofV,constT,intT,lm]
           refine WO_if rfl rfl rfl (fun hc => ?_) (fun hc => ?_)
           ·
            replace H := tr hc H
            simp only [putT,st,ev,gt,hp,ofV,constT,intT,lm]
            iterate 2 refine WO_skip rfl rfl ?_
            refine WO_op (x := qb true) rfl rfl rfl ?_
            refine WO_op rfl rfl rfl ?_; simp only [putT,st,ev,gt,hp,ofV,constT,intT,lm]
            iterate 2 refine WO_skip rfl rfl ?_
            refine WO_op (x := qb true) rfl rfl rfl ?_
            refine WO_op rfl rfl rfl ?_; simp only [putT,st,ev,gt,hp,ofV,constT,intT,lm]
            iterate 13 refine WO_skip rfl rfl ?_
            refine WO_op (x := qb true) rfl rfl rfl ?_; simp only [putT,st,ev,gt,hp,ofV,constT,intT,lm]
            refine WO_nil ?_
            refine W_cond (t := true) rfl (fun _ => ?_) (fun h => by cases h)
            refine W_seq (W_region ?_)
            refine WO_op (x := .bp 2 1) rfl rfl rfl ?_
            refine WO_op (x := qi x4.1.Now) rfl rfl rfl ?_
            refine WO_op (x := .bp 1 1) rfl rfl rfl ?_
            refine WO_op (x := qi x3.2.1.Now) rfl rfl rfl ?_; simp only [putT,st,ev,gt,hp,ofV,constT,intT,lm]
            iterate 2 (refine WO_op rfl rfl rfl ?_; simp only [putT,st,ev,gt,hp,ofV,constT,intT,lm])
            refine WO_if rfl rfl rfl (fun hc => ?_) (fun hc => ?_)
            ·
             replace H := tr hc H
             refine WO_want (x := .bp 2 2) rfl rfl rfl ?_
             refine WO_want (x := .row 2) rfl rfl rfl ?_
             refine WO_want (x := .bp 1 2) rfl rfl rfl ?_; simp only [putT,st,ev,gt,hp,ofV,constT,intT,lm]
             refine WO_want (x := .row 0) rfl rfl rfl ?_; simp only [putT,st,ev,gt,hp,ofV,constT,intT,lm]
             obtain ⟨x15, hx15, H⟩ := bnd H
             refine WO_want (x := qb x15) (σ' := ⟨[], [some [qs x3.1.Name, qs x3.1.Target, qi x3.1.Low, qi x3.1.High, .c (cL enc_Metric x3.1.Metrics), qi x3.1.Pace.Up, qi x3.1.Pace.Down, qi x3.1.Pace.UpSpan, qi x3.1.Pace.DownSpan, .c (cL enc_Note x3.1.Notes)], some [qs x3.2.1.Name, qi x3.2.1.Now, .row 0], some [qs x4.1.Name, qi x4.1.Now, .row 2], some [qs x5.1.Name, qi x5.1.Now, .row 3]], [rr 2 enc_Rec x3.2.1.Recs true, rr 2 enc_Sample x3.2.2.2 true, rr 2 enc_Rec x4.1.Recs true, rr 2 enc_Rec x5.1.Recs true]⟩) rfl rfl (ev_callG (al := [.row 2, .row 0]) (ls := []) (laws_sameRecs_ok hx15) rfl rfl rfl rfl rfl (by decide) rfl rfl rfl rfl rfl rfl) ?_; simp only [putT,st,ev,gt,hp,ofV,constT,intT,lm]
             refine WO_op (x := qb x15) rfl rfl rfl ?_
             refine WO_op rfl rfl rfl ?_; simp only [putT,st,ev,gt,hp,ofV,constT,intT,lm]
             refine WO_nil ?_
             refine W_ret ?_
             obtain rfl := Option.some.inj H
             exact told3 rfl
            ·
             replace H := fl hc H
             simp only [putT,st,ev,gt,hp,ofV,constT,intT,lm]
             iterate 5 refine WO_skip rfl rfl ?_
             refine WO_op (x := qb false) rfl rfl rfl ?_
             refine WO_op rfl rfl rfl ?_; simp only [putT,st,ev,gt,hp,ofV,constT,intT,lm]
             refine WO_nil ?_
             refine W_ret ?_
             obtain rfl := Option.some.inj H
             exact told3 rfl
           ·
            replace H := fl hc H
            simp only [putT,st,ev,gt,hp,ofV,constT,intT,lm]
            iterate 2 (refine WO_want rfl rfl rfl ?_; simp only [putT,st,ev,gt,hp,ofV,constT,intT,lm])
            refine WO_op (x := qb (decide (x3.2.2.1 < 0))) rfl rfl rfl ?_
            refine WO_op rfl rfl rfl ?_; simp only [putT,st,ev,gt,hp,ofV,constT,intT,lm]
            refine WO_if rfl rfl rfl (fun hc => ?_) (fun hc => ?_)
            ·
             replace H := tr hc H
             simp only [putT,st,ev,gt,hp,ofV,constT,intT,lm]
             iterate 2 refine WO_skip rfl rfl ?_
             refine WO_op (x := qb true) rfl rfl rfl ?_
             refine WO_op rfl rfl rfl ?_; simp only [putT,st,ev,gt,hp,ofV,constT,intT,lm]
             iterate 13 refine WO_skip rfl rfl ?_
             refine WO_op (x := qb true) rfl rfl rfl ?_; simp only [putT,st,ev,gt,hp,ofV,constT,intT,lm]
             refine WO_nil ?_
             refine W_cond (t := true) rfl (fun _ => ?_) (fun h => by cases h)
             refine W_seq (W_region ?_)
             refine WO_op (x := .bp 2 1) rfl rfl rfl ?_
             refine WO_op (x := qi x4.1.Now) rfl rfl rfl ?_
             refine WO_op (x := .bp 1 1) rfl rfl rfl ?_
             refine WO_op (x := qi x3.2.1.Now) rfl rfl rfl ?_; simp only [putT,st,ev,gt,hp,ofV,constT,intT,lm]
             iterate 2 (refine WO_op rfl rfl rfl ?_; simp only [putT,st,ev,gt,hp,ofV,constT,intT,lm])
             refine WO_if rfl rfl rfl (fun hc => ?_) (fun hc => ?_)
             ·
              replace H := tr hc H
              refine WO_want (x := .bp 2 2) rfl rfl rfl ?_
              refine WO_want (x := .row 2) rfl rfl rfl ?_
              refine WO_want (x := .bp 1 2) rfl rfl rfl ?_; simp only [putT,st,ev,gt,hp,ofV,constT,intT,lm]
              refine WO_want (x := .row 0) rfl rfl rfl ?_; simp only [putT,st,ev,gt,hp,ofV,constT,intT,lm]
              obtain ⟨x16, hx16, H⟩ := bnd H
              refine WO_want (x := qb x16) (σ' := ⟨[], [some [qs x3.1.Name, qs x3.1.Target, qi x3.1.Low, qi x3.1.High, .c (cL enc_Metric x3.1.Metrics), qi x3.1.Pace.Up, qi x3.1.Pace.Down, qi x3.1.Pace.UpSpan, qi x3.1.Pace.DownSpan, .c (cL enc_Note x3.1.Notes)], some [qs x3.2.1.Name, qi x3.2.1.Now, .row 0], some [qs x4.1.Name, qi x4.1.Now, .row 2], some [qs x5.1.Name, qi x5.1.Now, .row 3]], [rr 2 enc_Rec x3.2.1.Recs true, rr 2 enc_Sample x3.2.2.2 true, rr 2 enc_Rec x4.1.Recs true, rr 2 enc_Rec x5.1.Recs true]⟩) rfl rfl (ev_callG (al := [.row 2, .row 0]) (ls := []) (laws_sameRecs_ok hx16) rfl rfl rfl rfl rfl (by decide) rfl rfl rfl rfl rfl rfl) ?_; simp only [putT,st,ev,gt,hp,ofV,constT,intT,lm]
              refine WO_op (x := qb x16) rfl rfl rfl ?_
              refine WO_op rfl rfl rfl ?_; simp only [putT,st,ev,gt,hp,ofV,constT,intT,lm]
              refine WO_nil ?_
              refine W_ret ?_
              obtain rfl := Option.some.inj H
              exact told3 rfl
             ·
              replace H := fl hc H
              simp only [putT,st,ev,gt,hp,ofV,constT,intT,lm]
              iterate 5 refine WO_skip rfl rfl ?_
              refine WO_op (x := qb false) rfl rfl rfl ?_
              refine WO_op rfl rfl rfl ?_; simp only [putT,st,ev,gt,hp,ofV,constT,intT,lm]
              refine WO_nil ?_
              refine W_ret ?_
              obtain rfl := Option.some.inj H
              exact told3 rfl
            ·
             replace H := fl hc H
             simp only [putT,st,ev,gt,hp,ofV,constT,intT,lm]
             iterate 2 (refine WO_want rfl rfl rfl ?_; simp only [putT,st,ev,gt,hp,ofV,constT,intT,lm])
             refine WO_op (x := qb (decide (x3.2.2.1 > 1000000))) rfl rfl rfl ?_
             refine WO_op rfl rfl rfl ?_; simp only [putT,st,ev,gt,hp,ofV,constT,intT,lm]
             refine WO_if rfl rfl rfl (fun hc => ?_) (fun hc => ?_)
             ·
              replace H := tr hc H
              simp only [putT,st,ev,gt,hp,ofV,constT,intT,lm]
              iterate 13 refine WO_skip rfl rfl ?_
              refine WO_op (x := qb true) rfl rfl rfl ?_; simp only [putT,st,ev,gt,hp,ofV,constT,intT,lm]
              refine WO_nil ?_
              refine W_cond (t := true) rfl (fun _ => ?_) (fun h => by cases h)
              refine W_seq (W_region ?_)
              refine WO_op (x := .bp 2 1) rfl rfl rfl ?_
              refine WO_op (x := qi x4.1.Now) rfl rfl rfl ?_
              refine WO_op (x := .bp 1 1) rfl rfl rfl ?_
              refine WO_op (x := qi x3.2.1.Now) rfl rfl rfl ?_; simp only [putT,st,ev,gt,hp,ofV,constT,intT,lm]
              iterate 2 (refine WO_op rfl rfl rfl ?_; simp only [putT,st,ev,gt,hp,ofV,constT,intT,lm])
              refine WO_if rfl rfl rfl (fun hc => ?_) (fun hc => ?_)
              ·
               replace H := tr hc H
               refine WO_want (x := .bp 2 2) rfl rfl rfl ?_
               refine WO_want (x := .row 2) rfl rfl rfl ?_
               refine WO_want (x := .bp 1 2) rfl rfl rfl ?_; simp only [putT,st,ev,gt,hp,ofV,constT,intT,lm]
               refine WO_want (x := .row 0) rfl rfl rfl ?_; simp only [putT,st,ev,gt,hp,ofV,constT,intT,lm]
               obtain ⟨x17, hx17, H⟩ := bnd H
               refine WO_want (x := qb x17) (σ' := ⟨[], [some [qs x3.1.Name, qs x3.1.Target, qi x3.1.Low, qi x3.1.High, .c (cL enc_Metric x3.1.Metrics), qi x3.1.Pace.Up, qi x3.1.Pace.Down, qi x3.1.Pace.UpSpan, qi x3.1.Pace.DownSpan, .c (cL enc_Note x3.1.Notes)], some [qs x3.2.1.Name, qi x3.2.1.Now, .row 0], some [qs x4.1.Name, qi x4.1.Now, .row 2], some [qs x5.1.Name, qi x5.1.Now, .row 3]], [rr 2 enc_Rec x3.2.1.Recs true, rr 2 enc_Sample x3.2.2.2 true, rr 2 enc_Rec x4.1.Recs true, rr 2 enc_Rec x5.1.Recs true]⟩) rfl rfl (ev_callG (al := [.row 2, .row 0]) (ls := []) (laws_sameRecs_ok hx17) rfl rfl rfl rfl rfl (by decide) rfl rfl rfl rfl rfl rfl) ?_; simp only [putT,st,ev,gt,hp,ofV,constT,intT,lm]
               refine WO_op (x := qb x17) rfl rfl rfl ?_
               refine WO_op rfl rfl rfl ?_; simp only [putT,st,ev,gt,hp,ofV,constT,intT,lm]
               refine WO_nil ?_
               refine W_ret ?_
               obtain rfl := Option.some.inj H
               exact told3 rfl
              ·
               replace H := fl hc H
               simp only [putT,st,ev,gt,hp,ofV,constT,intT,lm]
               iterate 5 refine WO_skip rfl rfl ?_
               refine WO_op (x := qb false) rfl rfl rfl ?_
               refine WO_op rfl rfl rfl ?_; simp only [putT,st,ev,gt,hp,ofV,constT,intT,lm]
               refine WO_nil ?_
               refine W_ret ?_
               obtain rfl := Option.some.inj H
               exact told3 rfl
             ·
              replace H := fl hc H
              simp only [putT,st,ev,gt,hp,ofV,constT,intT,lm]
              iterate 3 (refine WO_want rfl rfl rfl ?_; simp only [putT,st,ev,gt,hp,ofV,constT,intT,lm])
              refine WO_if rfl rfl rfl (fun hc => ?_) (fun hc => ?_)
              ·
               replace H := tr hc H
               refine WO_want (x := .bp 1 2) rfl rfl rfl ?_
               refine WO_want (x := .row 0) rfl rfl rfl ?_; simp only [putT,st,ev,gt,hp,ofV,constT,intT,lm]
               iterate 2 (refine WO_want rfl rfl rfl ?_; simp only [putT,st,ev,gt,hp,ofV,constT,intT,lm])
               obtain ⟨x18, hx18, H⟩ := bnd H
               refine WO_want rfl rfl (ev_ixR (en := enc_Rec) hx18 rfl rfl rfl rfl rfl rfl rfl) ?_; simp only [putT,st,ev,gt,hp,ofV,constT,intT,lm]
               refine WO_want (x := .rp 0 (IntKind.i64.wrap ((x3.2.1.Recs.length : Int) - 1) : Int).toNat 0) rfl rfl rfl ?_; simp only [putT,st,ev,gt,hp,ofV,constT,intT,lm]
               refine WO_want (x := qi x18.Time) rfl rfl (ev_ldR (en := enc_Rec) hx18 rfl rfl rfl rfl) ?_; simp only [putT,st,ev,gt,hp,ofV,constT,intT,lm]
               iterate 2 (refine WO_want rfl rfl rfl ?_; simp only [putT,st,ev,gt,hp,ofV,constT,intT,lm])
               refine WO_want (x := qb (decide (x18.Time > x3.2.2.1))) rfl rfl rfl ?_
               refine WO_op (x := qb (decide (x18.Time > x3.2.2.1))) rfl rfl rfl ?_; simp only [putT,st,ev,gt,hp,ofV,constT,intT,lm]
               refine WO_nil ?_
               refine W_cond rfl (fun hc => ?_) (fun hc => ?_)
               ·
                replace H := tr hc H
                refine W_seq (W_region ?_)
                refine WO_op (x := .bp 2 1) rfl rfl rfl ?_
                refine WO_op (x := qi x4.1.Now) rfl rfl rfl ?_
                refine WO_op (x := .bp 1 1) rfl rfl rfl ?_
                refine WO_op (x := qi x3.2.1.Now) rfl rfl rfl ?_; simp only [putT,st,ev,gt,hp,ofV,constT,intT,lm]
                iterate 2 (refine WO_op rfl rfl rfl ?_; simp only [putT,st,ev,gt,hp,ofV,constT,intT,lm])
                refine WO_if rfl rfl rfl (fun hc => ?_) (fun hc => ?_)
                ·
                 replace H := tr hc H
                 refine WO_want (x := .bp 2 2) rfl rfl rfl ?_
                 refine WO_want (x := .row 2) rfl rfl rfl ?_
                 refine WO_want (x := .bp 1 2) rfl rfl rfl ?_; simp only [putT,st,ev,gt,hp,ofV,constT,intT,lm]
                 refine WO_want (x := .row 0) rfl rfl rfl ?_; simp only [putT,st,ev,gt,hp,ofV,constT,intT,lm]
                 obtain ⟨x19, hx19, H⟩ := bnd H
                 refine WO_want (x := qb x19) (σ' := ⟨[], [some [qs x3.1.Name, qs x3.1.Target, qi x3.1.Low, qi x3.1.High, .c (cL enc_Metric x3.1.Metrics), qi x3.1.Pace.Up, qi x3.1.Pace.Down, qi x3.1.Pace.UpSpan, qi x3.1.Pace.DownSpan, .c (cL enc_Note x3.1.Notes)], some [qs x3.2.1.Name, qi x3.2.1.Now, .row 0], some [qs x4.1.Name, qi x4.1.Now, .row 2], some [qs x5.1.Name, qi x5.1.Now, .row 3]], [rr 2 enc_Rec x3.2.1.Recs true, rr 2 enc_Sample x3.2.2.2 true, rr 2 enc_Rec x4.1.Recs true, rr 2 enc_Rec x5.1.Recs true]⟩) rfl rfl (ev_callG (al := [.row 2, .row 0]) (ls := []) (laws_sameRecs_ok hx19) rfl rfl rfl rfl rfl (by decide) rfl rfl rfl rfl rfl rfl) ?_; simp only [putT,st,ev,gt,hp,ofV,constT,intT,lm]
                 refine WO_op (x := qb x19) rfl rfl rfl ?_
                 refine WO_op rfl rfl rfl ?_; simp only [putT,st,ev,gt,hp,ofV,constT,intT,lm]
                 refine WO_nil ?_
                 refine W_ret ?_
                 obtain rfl := Option.some.inj H
                 exact told3 rfl
                ·
                 replace H := fl hc H
                 simp only [putT,st,ev,gt,hp,ofV,constT,intT,lm]
                 iterate 5 refine WO_skip rfl rfl ?_
                 refine WO_op (x := qb false) rfl rfl rfl ?_
                 refine WO_op rfl rfl rfl ?_; simp only [putT,st,ev,gt,hp,ofV,constT,intT,lm]
                 refine WO_nil ?_
                 refine W_ret ?_
                 obtain rfl := Option.some.inj H
                 exact told3 rfl
               ·
                replace H := fl hc H
                refine W_skip ?_
                refine W_seq (W_seq (W_region ?_))
                refine WO_op rfl rfl rfl ?_
                refine WO_op (x := .bp 0 2) rfl rfl rfl ?_
                refine WO_op (x := qi x3.1.Low) rfl rfl rfl ?_; simp only [putT,st,ev,gt,hp,ofV,constT,intT,lm]
                iterate 2 (refine WO_op rfl rfl rfl ?_; simp only [putT,st,ev,gt,hp,ofV,constT,intT,lm])
                refine WO_if rfl rfl rfl (fun hc => ?_) (fun hc => ?_)
                ·
                 replace H := tr hc H
                 simp only [putT,st,ev,gt,hp,ofV,constT,intT,lm]
                 iterate 4 refine WO_skip rfl rfl ?_
                 refine WO_op (x := qb true) rfl rfl rfl ?_
                 refine WO_op rfl rfl rfl ?_; simp only [putT,st,ev,gt,hp,ofV,constT,intT,lm]
                 iterate 3 refine WO_skip rfl rfl ?_
                 refine WO_op (x := qb true) rfl rfl rfl ?_; simp only [putT,st,ev,gt,hp,ofV,constT,intT,lm]
                 refine WO_nil ?_
                 refine W_cond (t := true) rfl (fun _ => ?_) (fun h => by cases h)
                 refine W_seq (W_region ?_)
                 refine WO_op rfl rfl rfl ?_; simp only [putT,st,ev,gt,hp,ofV,constT,intT,lm]
                 refine WO_nil ?_
                 refine W_ret ?_
                 obtain rfl := Option.some.inj H
                 exact told3 rfl
                ·
                 replace H := fl hc H
                 refine WO_want rfl rfl rfl ?_
                 refine WO_want (x := .bp 0 3) rfl rfl rfl ?_
                 refine WO_want (x := qi x3.1.High) rfl rfl rfl ?_; simp only [putT,st,ev,gt,hp,ofV,constT,intT,lm]
                 refine WO_want rfl rfl rfl ?_
                 refine WO_op (x := qb (decide (x4.2 > x3.1.High))) rfl rfl rfl ?_
                 refine WO_op rfl rfl rfl ?_; simp only [putT,st,ev,gt,hp,ofV,constT,intT,lm]
                 refine WO_if rfl rfl rfl (fun hc => ?_) (fun hc => ?_)
                 ·
                  replace H := tr hc H
                  simp only [putT,st,ev,gt,hp,ofV,constT,intT,lm]
                  iterate 3 refine WO_skip rfl rfl ?_
                  refine WO_op (x := qb true) rfl rfl rfl ?_; simp only [putT,st,ev,gt,hp,ofV,constT,intT,lm]
                  refine WO_nil ?_
                  refine W_cond (t := true) rfl (fun _ => ?_) (fun h => by cases h)
                  refine W_seq (W_region ?_)
                  refine WO_op rfl rfl rfl ?_; simp only [putT,st,ev,gt,hp,ofV,constT,intT,lm]
                  refine WO_nil ?_
                  refine W_ret ?_
                  obtain rfl := Option.some.inj H
                  exact told3 rfl
                 ·
                  replace H := fl hc H
                  refine WO_want (x := .ag [qs x4.1.Name, qi x4.1.Now, .row 2]) rfl rfl rfl ?_; simp only [putT,st,ev,gt,hp,ofV,constT,intT,lm]
                  obtain ⟨x20, hx20, H⟩ := bnd H
                  refine WO_want (x := qb x20) (σ' := ⟨[], [some [qs x3.1.Name, qs x3.1.Target, qi x3.1.Low, qi x3.1.High, .c (cL enc_Metric x3.1.Metrics), qi x3.1.Pace.Up, qi x3.1.Pace.Down, qi x3.1.Pace.UpSpan, qi x3.1.Pace.DownSpan, .c (cL enc_Note x3.1.Notes)], some [qs x3.2.1.Name, qi x3.2.1.Now, .row 0], some [qs x4.1.Name, qi x4.1.Now, .row 2], some [qs x5.1.Name, qi x5.1.Now, .row 3]], [rr 2 enc_Rec x3.2.1.Recs true, rr 2 enc_Sample x3.2.2.2 true, rr 2 enc_Rec x4.1.Recs true, rr 2 enc_Rec x5.1.Recs true]⟩) rfl rfl (ev_callG (al := [.ag [qs x4.1.Name, qi x4.1.Now, .row 2]]) (ls := []) (impl_ScaleOk_ok hx20) rfl rfl rfl rfl rfl (by decide) rfl rfl rfl rfl rfl rfl) ?_; simp only [putT,st,ev,gt,hp,ofV,constT,intT,lm]
                  refine WO_want rfl rfl rfl ?_
                  refine WO_op (x := qb (!x20)) rfl rfl rfl ?_; simp only [putT,st,ev,gt,hp,ofV,constT,intT,lm]
                  refine WO_nil ?_
                  refine W_cond rfl (fun hc => ?_) (fun hc => ?_)
                  ·
                   replace H := tr hc H
                   refine W_seq (W_region ?_)
                   refine WO_op rfl rfl rfl ?_; simp only [putT,st,ev,gt,hp,ofV,constT,intT,lm]
                   refine WO_nil ?_
                   refine W_ret ?_
                   obtain rfl := Option.some.inj H
                   exact told3 rfl
                  ·
                   replace H := fl hc H
                   refine W_skip ?_
                   refine W_seq (W_region ?_)
                   refine WO_op (x := .bp 1 1) rfl rfl rfl ?_
                   refine WO_op (x := qi x3.2.1.Now) rfl rfl rfl ?_
                   refine WO_op (x := .bp 0 2) rfl rfl rfl ?_
                   refine WO_op (x := qi x3.1.Low) rfl rfl rfl ?_; simp only [putT,st,ev,gt,hp,ofV,constT,intT,lm]
                   iterate 2 (refine WO_op rfl rfl rfl ?_; simp only [putT,st,ev,gt,hp,ofV,constT,intT,lm])
                   refine WO_if rfl rfl rfl (fun hc => ?_) (fun hc => ?_)
                   ·
                    replace H := tr hc H
                    refine WO_want (x := .bp 1 1) rfl rfl rfl ?_
                    refine WO_want (x := qi x3.2.1.Now) rfl rfl rfl ?_
                    refine WO_want (x := .bp 0 3) rfl rfl rfl ?_; simp only [putT,st,ev,gt,hp,ofV,constT,intT,lm]
                    refine WO_want (x := qi x3.1.High) rfl rfl rfl ?_
                    refine WO_want rfl rfl rfl ?_
                    refine WO_op (x := qb (decide (x3.2.1.Now ≤ x3.1.High))) rfl rfl rfl ?_
                    refine WO_op rfl rfl rfl ?_; simp only [putT,st,ev,gt,hp,ofV,constT,intT,lm]
                    refine WO_nil (W_seq (W_region ?_))
                    iterate 3 (refine WO_op rfl rfl rfl ?_; simp only [putT,st,ev,gt,hp,ofV,constT,intT,lm])
                    refine WO_if rfl rfl rfl (fun hc => ?_) (fun hc => ?_)
                    ·
                     replace H := tr hc H
                     simp only [putT,st,ev,gt,hp,ofV,constT,intT,lm]
                     iterate 30 refine WO_skip rfl rfl ?_
                     refine WO_op (x := qb true) rfl rfl rfl ?_
                     refine WO_op rfl rfl rfl ?_; simp only [putT,st,ev,gt,hp,ofV,constT,intT,lm]
                     refine WO_nil ?_
                     refine W_ret ?_
                     obtain rfl := Option.some.inj H
                     exact told3 rfl
                    ·
                     replace H := fl hc H
                     simp only [putT,st,ev,gt,hp,ofV,constT,intT,lm]
                     iterate 2 (refine WO_want (x := .bp 0 5) rfl rfl rfl ?_; simp only [putT,st,ev,gt,hp,ofV,constT,intT,lm])
                     refine WO_want (x := qi x3.1.Pace.Up) rfl rfl rfl ?_; simp only [putT,st,ev,gt,hp,ofV,constT,intT,lm]
                     iterate 2 (refine WO_want rfl rfl rfl ?_; simp only [putT,st,ev,gt,hp,ofV,constT,intT,lm])
                     refine WO_if rfl rfl rfl (fun hc => ?_) (fun hc => ?_)
                     ·
                      replace H := tr hc H
                      simp only [putT,st,ev,gt,hp,ofV,constT,intT,lm]
                      iterate 8 refine WO_skip rfl rfl ?_
                      refine WO_want (x := qb true) rfl rfl rfl ?_
                      refine WO_want rfl rfl rfl ?_
                      refine WO_want (x := .bp 0 5) rfl rfl rfl ?_; simp only [putT,st,ev,gt,hp,ofV,constT,intT,lm]
                      refine WO_want (x := .bp 0 6) rfl rfl rfl ?_
                      refine WO_want (x := qi x3.1.Pace.Down) rfl rfl rfl ?_; simp only [putT,st,ev,gt,hp,ofV,constT,intT,lm]
                      iterate 2 (refine WO_want rfl rfl rfl ?_; simp only [putT,st,ev,gt,hp,ofV,constT,intT,lm])
                      refine WO_if rfl rfl rfl (fun hc => ?_) (fun hc => ?_)
                      ·
                       replace H := tr hc H
                       simp only [putT,st,ev,gt,hp,ofV,constT,intT,lm]
                       iterate 8 refine WO_skip rfl rfl ?_
                       simp only [putT,st,ev,gt,hp,ofV,constT,intT,lm]
                       iterate 2 (refine WO_want (x := qb true) rfl rfl rfl ?_; simp only [putT,st,ev,gt,hp,ofV,constT,intT,lm])
                       refine WO_op (x := qb true) rfl rfl rfl ?_
                       refine WO_op rfl rfl rfl ?_; simp only [putT,st,ev,gt,hp,ofV,constT,intT,lm]
                       refine WO_nil ?_
                       refine W_ret ?_
                       obtain rfl := Option.some.inj H
                       exact told3 rfl
                      ·
                       replace H := fl hc H
                       refine WO_want rfl rfl rfl ?_
                       refine WO_want (x := .bp 1 1) rfl rfl rfl ?_
                       refine WO_want (x := qi x3.2.1.Now) rfl rfl rfl ?_; simp only [putT,st,ev,gt,hp,ofV,constT,intT,lm]
                       refine WO_want (x := .bp 0 5) rfl rfl rfl ?_
                       refine WO_want (x := .bp 0 6) rfl rfl rfl ?_
                       refine WO_want (x := qi x3.1.Pace.Down) rfl rfl rfl ?_; simp only [putT,st,ev,gt,hp,ofV,constT,intT,lm]
                       iterate 2 (refine WO_want rfl rfl rfl ?_; simp only [putT,st,ev,gt,hp,ofV,constT,intT,lm])
                       iterate 2 (refine WO_want (x := qb (decide (x4.2 ≥ (IntKind.i64.wrap (x3.2.1.Now - x3.1.Pace.Down))))) rfl rfl rfl ?_; simp only [putT,st,ev,gt,hp,ofV,constT,intT,lm])
                       refine WO_op (x := qb (decide (x4.2 ≥ (IntKind.i64.wrap (x3.2.1.Now - x3.1.Pace.Down))))) rfl rfl rfl ?_
                       refine WO_op rfl rfl rfl ?_; simp only [putT,st,ev,gt,hp,ofV,constT,intT,lm]
                       refine WO_nil ?_
                       refine W_ret ?_
                       obtain rfl := Option.some.inj H
                       exact told3 rfl
                     ·
                      replace H := fl hc H
                      refine WO_want rfl rfl rfl ?_
                      refine WO_want (x := .bp 1 1) rfl rfl rfl ?_
                      refine WO_want (x := qi x3.2.1.Now) rfl rfl rfl ?_; simp only [putT,st,ev,gt,hp,ofV,constT,intT,lm]
                      iterate 2 (refine WO_want (x := .bp 0 5) rfl rfl rfl ?_; simp only [putT,st,ev,gt,hp,ofV,constT,intT,lm])
                      refine WO_want (x := qi x3.1.Pace.Up) rfl rfl rfl ?_; simp only [putT,st,ev,gt,hp,ofV,constT,intT,lm]
                      iterate 2 (refine WO_want rfl rfl rfl ?_; simp only [putT,st,ev,gt,hp,ofV,constT,intT,lm])
                      refine WO_want (x := qb (decide (x4.2 ≤ (IntKind.i64.wrap (x3.2.1.Now + x3.1.Pace.Up))))) rfl rfl rfl ?_
                      refine WO_want rfl rfl rfl ?_; simp only [putT,st,ev,gt,hp,ofV,constT,intT,lm]
                      refine WO_if rfl rfl rfl (fun hc => ?_) (fun hc => ?_)
                      ·
                       replace H := tr hc H
                       refine WO_want (x := .bp 0 5) rfl rfl rfl ?_
                       refine WO_want (x := .bp 0 6) rfl rfl rfl ?_
                       refine WO_want (x := qi x3.1.Pace.Down) rfl rfl rfl ?_; simp only [putT,st,ev,gt,hp,ofV,constT,intT,lm]
                       iterate 2 (refine WO_want rfl rfl rfl ?_; simp only [putT,st,ev,gt,hp,ofV,constT,intT,lm])
                       refine WO_if rfl rfl rfl (fun hc => ?_) (fun hc => ?_)
                       ·
                        replace H := tr hc H
                        simp only [putT,st,ev,gt,hp,ofV,constT,intT,lm]
                        iterate 8 refine WO_skip rfl rfl ?_
                        simp only [putT,st,ev,gt,hp,ofV,constT,intT,lm]
                        iterate 2 (refine WO_want (x := qb true) rfl rfl rfl ?_; simp only [putT,st,ev,gt,hp,ofV,constT,intT,lm])
                        refine WO_op (x := qb true) rfl rfl rfl ?_
                        refine WO_op rfl rfl rfl ?_; simp only [putT,st,ev,gt,hp,ofV,constT,intT,lm]
                        refine WO_nil ?_
                        refine W_ret ?_
                        obtain rfl := Option.some.inj H
                        exact told3 rfl
                       ·
                        replace H := fl hc H
                        refine WO_want rfl rfl rfl ?_
                        refine WO_want (x := .bp 1 1) rfl rfl rfl ?_
                        refine WO_want (x := qi x3.2.1.Now) rfl rfl rfl ?_; simp only [putT,st,ev,gt,hp,ofV,constT,intT,lm]
                        refine WO_want (x := .bp 0 5) rfl rfl rfl ?_
                        refine WO_want (x := .bp 0 6) rfl rfl rfl ?_
                        refine WO_want (x := qi x3.1.Pace.Down) rfl rfl rfl ?_; simp only [putT,st,ev,gt,hp,ofV,constT,intT,lm]
                        iterate 2 (refine WO_want rfl rfl rfl ?_; simp only [putT,st,ev,gt,hp,ofV,constT,intT,lm])
                        iterate 2 (refine WO_want (x := qb (decide (x4.2 ≥ (IntKind.i64.wrap (x3.2.1.Now - x3.1.Pace.Down))))) rfl rfl rfl ?_; simp only [putT,st,ev,gt,hp,ofV,constT,intT,lm])
                        refine WO_op (x := qb (decide (x4.2 ≥ (IntKind.i64.wrap (x3.2.1.Now - x3.1.Pace.Down))))) rfl rfl rfl ?_
                        refine WO_op rfl rfl rfl ?_; simp only [putT,st,ev,gt,hp,ofV,constT,intT,lm]
                        refine WO_nil ?_
                        refine W_ret ?_
                        obtain rfl := Option.some.inj H
                        exact told3 rfl
                      ·
                       replace H := fl hc H
                       simp only [putT,st,ev,gt,hp,ofV,constT,intT,lm]
                       iterate 14 refine WO_skip rfl rfl ?_
                       refine WO_want (x := qb false) rfl rfl rfl ?_
                       refine WO_op (x := qb false) rfl rfl rfl ?_
                       refine WO_op rfl rfl rfl ?_; simp only [putT,st,ev,gt,hp,ofV,constT,intT,lm]
                       refine WO_nil ?_
                       refine W_ret ?_
                       obtain rfl := Option.some.inj H
                       exact told3 rfl
                   ·
                    replace H := fl hc H
                    simp only [putT,st,ev,gt,hp,ofV,constT,intT,lm]
                    iterate 5 refine WO_skip rfl rfl ?_
                    refine WO_op (x := qb false) rfl rfl rfl ?_
                    refine WO_op rfl rfl rfl ?_; simp only [putT,st,ev,gt,hp,ofV,constT,intT,lm]
                    refine WO_nil (W_seq (W_region ?_))
                    iterate 3 (refine WO_op rfl rfl rfl ?_; simp only [putT,st,ev,gt,hp,ofV,constT,intT,lm])
                    refine WO_if rfl rfl rfl (fun hc => ?_) (fun hc => ?_)
                    ·
                     replace H := tr hc H
                     simp only [putT,st,ev,gt,hp,ofV,constT,intT,lm]
                     iterate 30 refine WO_skip rfl rfl ?_
                     refine WO_op (x := qb true) rfl rfl rfl ?_
                     refine WO_op rfl rfl rfl ?_; simp only [putT,st,ev,gt,hp,ofV,constT,intT,lm]
                     refine WO_nil ?_
                     refine W_ret ?_
                     obtain rfl := Option.some.inj H
                     exact told3 rfl
                    ·
                     replace H := fl hc H
                     simp only [putT,st,ev,gt,hp,ofV,constT,intT,lm]
                     iterate 2 (refine WO_want (x := .bp 0 5) rfl rfl rfl ?_; simp only [putT,st,ev,gt,hp,ofV,constT,intT,lm])
                     refine WO_want (x := qi x3.1.Pace.Up) rfl rfl rfl ?_; simp only [putT,st,ev,gt,hp,ofV,constT,intT,lm]
                     iterate 2 (refine WO_want rfl rfl rfl ?_; simp only [putT,st,ev,gt,hp,ofV,constT,intT,lm])
                     refine WO_if rfl rfl rfl (fun hc => ?_) (fun hc => ?_)
                     ·
                      replace H := tr hc H
                      simp only [putT,st,ev,gt,hp,ofV,constT,intT,lm]
                      iterate 8 refine WO_skip rfl rfl ?_
                      refine WO_want (x := qb true) rfl rfl rfl ?_
                      refine WO_want rfl rfl rfl ?_
                      refine WO_want (x := .bp 0 5) rfl rfl rfl ?_; simp only [putT,st,ev,gt,hp,ofV,constT,intT,lm]
                      refine WO_want (x := .bp 0 6) rfl rfl rfl ?_
                      refine WO_want (x := qi x3.1.Pace.Down) rfl rfl rfl ?_; simp only [putT,st,ev,gt,hp,ofV,constT,intT,lm]
                      iterate 2 (refine WO_want rfl rfl rfl ?_; simp only [putT,st,ev,gt,hp,ofV,constT,intT,lm])
                      refine WO_if rfl rfl rfl (fun hc => ?_) (fun hc => ?_)
                      ·
                       replace H := tr hc H
                       simp only [putT,st,ev,gt,hp,ofV,constT,intT,lm]
                       iterate 8 refine WO_skip rfl rfl ?_
                       simp only [putT,st,ev,gt,hp,ofV,constT,intT,lm]
                       iterate 2 (refine WO_want (x := qb true) rfl rfl rfl ?_; simp only [putT,st,ev,gt,hp,ofV,constT,intT,lm])
                       refine WO_op (x := qb true) rfl rfl rfl ?_
                       refine WO_op rfl rfl rfl ?_; simp only [putT,st,ev,gt,hp,ofV,constT,intT,lm]
                       refine WO_nil ?_
                       refine W_ret ?_
                       obtain rfl := Option.some.inj H
                       exact told3 rfl
                      ·
                       replace H := fl hc H
                       refine WO_want rfl rfl rfl ?_
                       refine WO_want (x := .bp 1 1) rfl rfl rfl ?_
                       refine WO_want (x := qi x3.2.1.Now) rfl rfl rfl ?_; simp only [putT,st,ev,gt,hp,ofV,constT,intT,lm]
                       refine WO_want (x := .bp 0 5) rfl rfl rfl ?_
                       refine WO_want (x := .bp 0 6) rfl rfl rfl ?_
                       refine WO_want (x := qi x3.1.Pace.Down) rfl rfl rfl ?_; simp only [putT,st,ev,gt,hp,ofV,constT,intT,lm]
                       iterate 2 (refine WO_want rfl rfl rfl ?_; simp only [putT,st,ev,gt,hp,ofV,constT,intT,lm])
                       iterate 2 (refine WO_want (x := qb (decide (x4.2 ≥ (IntKind.i64.wrap (x3.2.1.Now - x3.1.Pace.Down))))) rfl rfl rfl ?_; simp only [putT,st,ev,gt,hp,ofV,constT,intT,lm])
                       refine WO_op (x := qb (decide (x4.2 ≥ (IntKind.i64.wrap (x3.2.1.Now - x3.1.Pace.Down))))) rfl rfl rfl ?_
                       refine WO_op rfl rfl rfl ?_; simp only [putT,st,ev,gt,hp,ofV,constT,intT,lm]
                       refine WO_nil ?_
                       refine W_ret ?_
                       obtain rfl := Option.some.inj H
                       exact told3 rfl
                     ·
                      replace H := fl hc H
                      refine WO_want rfl rfl rfl ?_
                      refine WO_want (x := .bp 1 1) rfl rfl rfl ?_
                      refine WO_want (x := qi x3.2.1.Now) rfl rfl rfl ?_; simp only [putT,st,ev,gt,hp,ofV,constT,intT,lm]
                      iterate 2 (refine WO_want (x := .bp 0 5) rfl rfl rfl ?_; simp only [putT,st,ev,gt,hp,ofV,constT,intT,lm])
                      refine WO_want (x := qi x3.1.Pace.Up) rfl rfl rfl ?_; simp only [putT,st,ev,gt,hp,ofV,constT,intT,lm]
                      iterate 2 (refine WO_want rfl rfl rfl ?_; simp only [putT,st,ev,gt,hp,ofV,constT,intT,lm])
                      refine WO_want (x := qb (decide (x4.2 ≤ (IntKind.i64.wrap (x3.2.1.Now + x3.1.Pace.Up))))) rfl rfl rfl ?_
                      refine WO_want rfl rfl rfl ?_; simp only [putT,st,ev,gt,hp,ofV,constT,intT,lm]
                      refine WO_if rfl rfl rfl (fun hc => ?_) (fun hc => ?_)
                      ·
                       replace H := tr hc H
                       refine WO_want (x := .bp 0 5) rfl rfl rfl ?_
                       refine WO_want (x := .bp 0 6) rfl rfl rfl ?_
                       refine WO_want (x := qi x3.1.Pace.Down) rfl rfl rfl ?_; simp only [putT,st,ev,gt,hp,ofV,constT,intT,lm]
                       iterate 2 (refine WO_want rfl rfl rfl ?_; simp only [putT,st,ev,gt,hp,ofV,constT,intT,lm])
                       refine WO_if rfl rfl rfl (fun hc => ?_) (fun hc => ?_)
                       ·
                        replace H := tr hc H
                        simp only [putT,st,ev,gt,hp,ofV,constT,intT,lm]
                        iterate 8 refine WO_skip rfl rfl ?_
                        simp only [putT,st,ev,gt,hp,ofV,constT,intT,lm]
                        iterate 2 (refine WO_want (x := qb true) rfl rfl rfl ?_; simp only [putT,st,ev,gt,hp,ofV,constT,intT,lm])
                        refine WO_op (x := qb true) rfl rfl rfl ?_
                        refine WO_op rfl rfl rfl ?_; simp only [putT,st,ev,gt,hp,ofV,constT,intT,lm]
                        refine WO_nil ?_
                        refine W_ret ?_
                        obtain rfl := Option.some.inj H
                        exact told3 rfl
                       ·
                        replace H := fl hc H
                        refine WO_want rfl rfl rfl ?_
                        refine WO_want (x := .bp 1 1) rfl rfl rfl ?_
                        refine WO_want (x := qi x3.2.1.Now) rfl rfl rfl ?_; simp only [putT,st,ev,gt,hp,ofV,constT,intT,lm]
                        refine WO_want (x := .bp 0 5) rfl rfl rfl ?_
                        refine WO_want (x := .bp 0 6) rfl rfl rfl ?_
                        refine WO_want (x := qi x3.1.Pace.Down) rfl rfl rfl ?_; simp only [putT,st,ev,gt,hp,ofV,constT,intT,lm]
                        iterate 2 (refine WO_want rfl rfl rfl ?_; simp only [putT,st,ev,gt,hp,ofV,constT,intT,lm])
                        iterate 2 (refine WO_want (x := qb (decide (x4.2 ≥ (IntKind.i64.wrap (x3.2.1.Now - x3.1.Pace.Down))))) rfl rfl rfl ?_; simp only [putT,st,ev,gt,hp,ofV,constT,intT,lm])
                        refine WO_op (x := qb (decide (x4.2 ≥ (IntKind.i64.wrap (x3.2.1.Now - x3.1.Pace.Down))))) rfl rfl rfl ?_
                        refine WO_op rfl rfl rfl ?_; simp only [putT,st,ev,gt,hp,ofV,constT,intT,lm]
                        refine WO_nil ?_
                        refine W_ret ?_
                        obtain rfl := Option.some.inj H
                        exact told3 rfl
                      ·
                       replace H := fl hc H
                       simp only [putT,st,ev,gt,hp,ofV,constT,intT,lm]
                       iterate 14 refine WO_skip rfl rfl ?_
                       refine WO_want (x := qb false) rfl rfl rfl ?_
                       refine WO_op (x := qb false) rfl rfl rfl ?_
                       refine WO_op rfl rfl rfl ?_; simp only [putT,st,ev,gt,hp,ofV,constT,intT,lm]
                       refine WO_nil ?_
                       refine W_ret ?_
                       obtain rfl := Option.some.inj H
                       exact told3 rfl
              ·
               replace H := fl hc H
               simp only [putT,st,ev,gt,hp,ofV,constT,intT,lm]
               iterate 9 refine WO_skip rfl rfl ?_
               refine WO_want (x := qb false) rfl rfl rfl ?_
               refine WO_op (x := qb false) rfl rfl rfl ?_; simp only [putT,st,ev,gt,hp,ofV,constT,intT,lm]
               refine WO_nil ?_
               refine W_cond (t := false) rfl (fun h => by cases h) (fun _ => ?_)
               refine W_skip ?_
               refine W_seq (W_seq (W_region ?_))
               refine WO_op rfl rfl rfl ?_
               refine WO_op (x := .bp 0 2) rfl rfl rfl ?_
               refine WO_op (x := qi x3.1.Low) rfl rfl rfl ?_; simp only [putT,st,ev,gt,hp,ofV,constT,intT,lm]
               iterate 2 (refine WO_op rfl rfl rfl ?_; simp only [putT,st,ev,gt,hp,ofV,constT,intT,lm])
               refine WO_if rfl rfl rfl (fun hc => ?_) (fun hc => ?_)
               ·
                replace H := tr hc H
                simp only [putT,st,ev,gt,hp,ofV,constT,intT,lm]
                iterate 4 refine WO_skip rfl rfl ?_
                refine WO_op (x := qb true) rfl rfl rfl ?_
                refine WO_op rfl rfl rfl ?_; simp only [putT,st,ev,gt,hp,ofV,constT,intT,lm]
                iterate 3 refine WO_skip rfl rfl ?_
                refine WO_op (x := qb true) rfl rfl rfl ?_; simp only [putT,st,ev,gt,hp,ofV,constT,intT,lm]
                refine WO_nil ?_
                refine W_cond (t := true) rfl (fun _ => ?_) (fun h => by cases h)
                refine W_seq (W_region ?_)
                refine WO_op rfl rfl rfl ?_; simp only [putT,st,ev,gt,hp,ofV,constT,intT,lm]
                refine WO_nil ?_
                refine W_ret ?_
                obtain rfl := Option.some.inj H
                exact told3 rfl
               ·
                replace H := fl hc H
                refine WO_want rfl rfl rfl ?_
                refine WO_want (x := .bp 0 3) rfl rfl rfl ?_
                refine WO_want (x := qi x3.1.High) rfl rfl rfl ?_; simp only [putT,st,ev,gt,hp,ofV,constT,intT,lm]
                refine WO_want rfl rfl rfl ?_
                refine WO_op (x := qb (decide (x4.2 > x3.1.High))) rfl rfl rfl ?_
                refine WO_op rfl rfl rfl ?_; simp only [putT,st,ev,gt,hp,ofV,constT,intT,lm]
                refine WO_if rfl rfl rfl (fun hc => ?_) (fun hc => ?_)
                ·
                 replace H := tr hc H
                 simp only [putT,st,ev,gt,hp,ofV,constT,intT,lm]
                 iterate 3 refine WO_skip rfl rfl ?_
                 refine WO_op (x := qb true) rfl rfl rfl ?_; simp only [putT,st,ev,gt,hp,ofV,constT,intT,lm]
                 refine WO_nil ?_
                 refine W_cond (t := true) rfl (fun _ => ?_) (fun h => by cases h)
                 refine W_seq (W_region ?_)
                 refine WO_op rfl rfl rfl ?_; simp only [putT,st,ev,gt,hp,ofV,constT,intT,lm]
                 refine WO_nil ?_
                 refine W_ret ?_
                 obtain rfl := Option.some.inj H
                 exact told3 rfl
                ·
                 replace H := fl hc H
                 refine WO_want (x := .ag [qs x4.1.Name, qi x4.1.Now, .row 2]) rfl rfl rfl ?_; simp only [putT,st,ev,gt,hp,ofV,constT,intT,lm]
                 obtain ⟨x21, hx21, H⟩ := bnd H
                 refine WO_want (x := qb x21) (σ' := ⟨[], [some [qs x3.1.Name, qs x3.1.Target, qi x3.1.Low, qi x3.1.High, .c (cL enc_Metric x3.1.Metrics), qi x3.1.Pace.Up, qi x3.1.Pace.Down, qi x3.1.Pace.UpSpan, qi x3.1.Pace.DownSpan, .c (cL enc_Note x3.1.Notes)], some [qs x3.2.1.Name, qi x3.2.1.Now, .row 0], some [qs x4.1.Name, qi x4.1.Now, .row 2], some [qs x5.1.Name, qi x5.1.Now, .row 3]], [rr 2 enc_Rec x3.2.1.Recs true, rr 2 enc_Sample x3.2.2.2 true, rr 2 enc_Rec x4.1.Recs true, rr 2 enc_Rec x5.1.Recs true]⟩) rfl rfl (ev_callG (al := [.ag [qs x4.1.Name, qi x4.1.Now, .row 2]]) (ls := []) (impl_ScaleOk_ok hx21) rfl rfl rfl rfl rfl (by decide) rfl rfl rfl rfl rfl rfl) ?_; simp only [putT,st,ev,gt,hp,ofV,constT,intT,lm]
                 refine WO_want rfl rfl rfl ?_
                 refine WO_op (x := qb (!x21)) rfl rfl rfl ?_; simp only [putT,st,ev,gt,hp,ofV,constT,intT,lm]
                 refine WO_nil ?_
                 refine W_cond rfl (fun hc => ?_) (fun hc => ?_)
                 ·
                  replace H := tr hc H
                  refine W_seq (W_region ?_)
                  refine WO_op rfl rfl rfl ?_; simp only [putT,st,ev,gt,hp,ofV,constT,intT,lm]
                  refine WO_nil ?_
                  refine W_ret ?_
                  obtain rfl := Option.some.inj H
                  exact told3 rfl
                 ·
                  replace H := fl hc H
                  refine W_skip ?_
                  refine W_seq (W_region ?_)
                  refine WO_op (x := .bp 1 1) rfl rfl rfl ?_
                  refine WO_op (x := qi x3.2.1.Now) rfl rfl rfl ?_
                  refine WO_op (x := .bp 0 2) rfl rfl rfl ?_
                  refine WO_op (x := qi x3.1.Low) rfl rfl rfl ?_; simp only [putT,st,ev,gt,hp,ofV,constT,intT,lm]
                  iterate 2 (refine WO_op rfl rfl rfl ?_; simp only [putT,st,ev,gt,hp,ofV,constT,intT,lm])
                  refine WO_if rfl rfl rfl (fun hc => ?_) (fun hc => ?_)
                  ·
                   replace H := tr hc H
                   refine WO_want (x := .bp 1 1) rfl rfl rfl ?_
                   refine WO_want (x := qi x3.2.1.Now) rfl rfl rfl ?_
                   refine WO_want (x := .bp 0 3) rfl rfl rfl ?_; simp only [putT,st,ev,gt,hp,ofV,constT,intT,lm]
                   refine WO_want (x := qi x3.1.High) rfl rfl rfl ?_
                   refine WO_want rfl rfl rfl ?_
                   refine WO_op (x := qb (decide (x3.2.1.Now ≤ x3.1.High))) rfl rfl rfl ?_
                   refine WO_op rfl rfl rfl ?_; simp only [putT,st,ev,gt,hp,ofV,constT,intT,lm]
                   refine WO_nil (W_seq (W_region ?_))
                   iterate 3 (refine WO_op rfl rfl rfl ?_; simp only [putT,st,ev,gt,hp,ofV,constT,intT,lm])
                   refine WO_if rfl rfl rfl (fun hc => ?_) (fun hc => ?_)
                   ·
                    replace H := tr hc H
                    simp only [putT,st,ev,gt,hp,ofV,constT,intT,lm]
                    iterate 30 refine WO_skip rfl rfl ?_
                    refine WO_op (x := qb true) rfl rfl rfl ?_
                    refine WO_op rfl rfl rfl ?_; simp only [putT,st,ev,gt,hp,ofV,constT,intT,lm]
                    refine WO_nil ?_
                    refine W_ret ?_
                    obtain rfl := Option.some.inj H
                    exact told3 rfl
                   ·
                    replace H := fl hc H
                    simp only [putT,st,ev,gt,hp,ofV,constT,intT,lm]
                    iterate 2 (refine WO_want (x := .bp 0 5) rfl rfl rfl ?_; simp only [putT,st,ev,gt,hp,ofV,constT,intT,lm])
                    refine WO_want (x := qi x3.1.Pace.Up) rfl rfl rfl ?_; simp only [putT,st,ev,gt,hp,ofV,constT,intT,lm]
                    iterate 2 (refine WO_want rfl rfl rfl ?_; simp only [putT,st,ev,gt,hp,ofV,constT,intT,lm])
                    refine WO_if rfl rfl rfl (fun hc => ?_) (fun hc => ?_)
                    ·
                     replace H := tr hc H
                     simp only [putT,st,ev,gt,hp,ofV,constT,intT,lm]
                     iterate 8 refine WO_skip rfl rfl ?_
                     refine WO_want (x := qb true) rfl rfl rfl ?_
                     refine WO_want rfl rfl rfl ?_
                     refine WO_want (x := .bp 0 5) rfl rfl rfl ?_; simp only [putT,st,ev,gt,hp,ofV,constT,intT,lm]
                     refine WO_want (x := .bp 0 6) rfl rfl rfl ?_
                     refine WO_want (x := qi x3.1.Pace.Down) rfl rfl rfl ?_; simp only [putT,st,ev,gt,hp,ofV,constT,intT,lm]
                     iterate 2 (refine WO_want rfl rfl rfl ?_; simp only [putT,st,ev,gt,hp,ofV,constT,intT,lm])
                     refine WO_if rfl rfl rfl (fun hc => ?_) (fun hc => ?_)
                     ·
                      replace H := tr hc H
                      simp only [putT,st,ev,gt,hp,ofV,constT,intT,lm]
                      iterate 8 refine WO_skip rfl rfl ?_
                      simp only [putT,st,ev,gt,hp,ofV,constT,intT,lm]
                      iterate 2 (refine WO_want (x := qb true) rfl rfl rfl ?_; simp only [putT,st,ev,gt,hp,ofV,constT,intT,lm])
                      refine WO_op (x := qb true) rfl rfl rfl ?_
                      refine WO_op rfl rfl rfl ?_; simp only [putT,st,ev,gt,hp,ofV,constT,intT,lm]
                      refine WO_nil ?_
                      refine W_ret ?_
                      obtain rfl := Option.some.inj H
                      exact told3 rfl
                     ·
                      replace H := fl hc H
                      refine WO_want rfl rfl rfl ?_
                      refine WO_want (x := .bp 1 1) rfl rfl rfl ?_
                      refine WO_want (x := qi x3.2.1.Now) rfl rfl rfl ?_; simp only [putT,st,ev,gt,hp,ofV,constT,intT,lm]
                      refine WO_want (x := .bp 0 5) rfl rfl rfl ?_
                      refine WO_want (x := .bp 0 6) rfl rfl rfl ?_
                      refine WO_want (x := qi x3.1.Pace.Down) rfl rfl rfl ?_; simp only [putT,st,ev,gt,hp,ofV,constT,intT,lm]
                      iterate 2 (refine WO_want rfl rfl rfl ?_; simp only [putT,st,ev,gt,hp,ofV,constT,intT,lm])
                      iterate 2 (refine WO_want (x := qb (decide (x4.2 ≥ (IntKind.i64.wrap (x3.2.1.Now - x3.1.Pace.Down))))) rfl rfl rfl ?_; simp only [putT,st,ev,gt,hp,ofV,constT,intT,lm])
                      refine WO_op (x := qb (decide (x4.2 ≥ (IntKind.i64.wrap (x3.2.1.Now - x3.1.Pace.Down))))) rfl rfl rfl ?_
                      refine WO_op rfl rfl rfl ?_; simp only [putT,st,ev,gt,hp,ofV,constT,intT,lm]
                      refine WO_nil ?_
                      refine W_ret ?_
                      obtain rfl := Option.some.inj H
                      exact told3 rfl
                    ·
                     replace H := fl hc H
                     refine WO_want rfl rfl rfl ?_
                     refine WO_want (x := .bp 1 1) rfl rfl rfl ?_
                     refine WO_want (x := qi x3.2.1.Now) rfl rfl rfl ?_; simp only [putT,st,ev,gt,hp,ofV,constT,intT,lm]
                     iterate 2 (refine WO_want (x := .bp 0 5) rfl rfl rfl ?_; simp only [putT,st,ev,gt,hp,ofV,constT,intT,lm])
                     refine WO_want (x := qi x3.1.Pace.Up) rfl rfl rfl ?_; simp only [putT,st,ev,gt,hp,ofV,constT,intT,lm]
                     iterate 2 (refine WO_want rfl rfl rfl ?_; simp only [putT,st,ev,gt,hp,ofV,constT,intT,lm])
                     refine WO_want (x := qb (decide (x4.2 ≤ (IntKind.i64.wrap (x3.2.1.Now + x3.1.Pace.Up))))) rfl rfl rfl ?_
                     refine WO_want rfl rfl rfl ?_; simp only [putT,st,ev,gt,hp,ofV,constT,intT,lm]
                     refine WO_if rfl rfl rfl (fun hc => ?_) (fun hc => ?_)
                     ·
                      replace H := tr hc H
                      refine WO_want (x := .bp 0 5) rfl rfl rfl ?_
                      refine WO_want (x := .bp 0 6) rfl rfl rfl ?_
                      refine WO_want (x := qi x3.1.Pace.Down) rfl rfl rfl ?_; simp only [putT,st,ev,gt,hp,ofV,constT,intT,lm]
                      iterate 2 (refine WO_want rfl rfl rfl ?_; simp only [putT,st,ev,gt,hp,ofV,constT,intT,lm])
                      refine WO_if rfl rfl rfl (fun hc => ?_) (fun hc => ?_)
                      ·
                       replace H := tr hc H
                       simp only [putT,st,ev,gt,hp,ofV,constT,intT,lm]
                       iterate 8 refine WO_skip rfl rfl ?_
                       simp only [putT,st,ev,gt,hp,ofV,constT,intT,lm]
                       iterate 2 (refine WO_want (x := qb true) rfl rfl rfl ?_; simp only [putT,st,ev,gt,hp,ofV,constT,intT,lm])
                       refine WO_op (x := qb true) rfl rfl rfl ?_
                       refine WO_op rfl rfl rfl ?_; simp only [putT,st,ev,gt,hp,ofV,constT,intT,lm]
                       refine WO_nil ?_
                       refine W_ret ?_
                       obtain rfl := Option.some.inj H
                       exact told3 rfl
                      ·
                       replace H := fl hc H
                       refine WO_want rfl rfl rfl ?_
                       refine WO_want (x := .bp 1 1) rfl rfl rfl ?_
                       refine WO_want (x := qi x3.2.1.Now) rfl rfl rfl ?_; simp only [putT,st,ev,gt,hp,ofV,constT,intT,lm]
                       refine WO_want (x := .bp 0 5) rfl rfl rfl ?_
                       refine WO_want (x := .bp 0 6) rfl rfl rfl ?_
                       refine WO_want (x := qi x3.1.Pace.Down) rfl rfl rfl ?_; simp only [putT,st,ev,gt,hp,ofV,constT,intT,lm]
                       iterate 2 (refine WO_want rfl rfl rfl ?_; simp only [putT,st,ev,gt,hp,ofV,constT,intT,lm])
                       iterate 2 (refine WO_want (x := qb (decide (x4.2 ≥ (IntKind.i64.wrap (x3.2.1.Now - x3.1.Pace.Down))))) rfl rfl rfl ?_; simp only [putT,st,ev,gt,hp,ofV,constT,intT,lm])
                       refine WO_op (x := qb (decide (x4.2 ≥ (IntKind.i64.wrap (x3.2.1.Now - x3.1.Pace.Down))))) rfl rfl rfl ?_
                       refine WO_op rfl rfl rfl ?_; simp only [putT,st,ev,gt,hp,ofV,constT,intT,lm]
                       refine WO_nil ?_
                       refine W_ret ?_
                       obtain rfl := Option.some.inj H
                       exact told3 rfl
                     ·
                      replace H := fl hc H
                      simp only [putT,st,ev,gt,hp,ofV,constT,intT,lm]
                      iterate 14 refine WO_skip rfl rfl ?_
                      refine WO_want (x := qb false) rfl rfl rfl ?_
                      refine WO_op (x := qb false) rfl rfl rfl ?_
                      refine WO_op rfl rfl rfl ?_; simp only [putT,st,ev,gt,hp,ofV,constT,intT,lm]
                      refine WO_nil ?_
                      refine W_ret ?_
                      obtain rfl := Option.some.inj H
                      exact told3 rfl
                  ·
                   replace H := fl hc H
                   simp only [putT,st,ev,gt,hp,ofV,constT,intT,lm]
                   iterate 5 refine WO_skip rfl rfl ?_
                   refine WO_op (x := qb false) rfl rfl rfl ?_
                   refine WO_op rfl rfl rfl ?_; simp only [putT,st,ev,gt,hp,ofV,constT,intT,lm]
                   refine WO_nil (W_seq (W_region ?_))
                   iterate 3 (refine WO_op rfl rfl rfl ?_; simp only [putT,st,ev,gt,hp,ofV,constT,intT,lm])
                   refine WO_if rfl rfl rfl (fun hc => ?_) (fun hc => ?_)
                   ·
                    replace H := tr hc H
                    simp only [putT,st,ev,gt,hp,ofV,constT,intT,lm]
                    iterate 30 refine WO_skip rfl rfl ?_
                    refine WO_op (x := qb true) rfl rfl rfl ?_
                    refine WO_op rfl rfl rfl ?_; simp only [putT,st,ev,gt,hp,ofV,constT,intT,lm]
                    refine WO_nil ?_
                    refine W_ret ?_
                    obtain rfl := Option.some.inj H
                    exact told3 rfl
                   ·
                    replace H := fl hc H
                    simp only [putT,st,ev,gt,hp,ofV,constT,intT,lm]
                    iterate 2 (refine WO_want (x := .bp 0 5) rfl rfl rfl ?_; simp only [putT,st,ev,gt,hp,ofV,constT,intT,lm])
                    refine WO_want (x := qi x3.1.Pace.Up) rfl rfl rfl ?_; simp only [putT,st,ev,gt,hp,ofV,constT,intT,lm]
                    iterate 2 (refine WO_want rfl rfl rfl ?_; simp only [putT,st,ev,gt,hp,ofV,constT,intT,lm])
                    refine WO_if rfl rfl rfl (fun hc => ?_) (fun hc => ?_)
                    ·
                     replace H := tr hc H
                     simp only [putT,st,ev,gt,hp,ofV,constT,intT,lm]
                     iterate 8 refine WO_skip rfl rfl ?_
                     refine WO_want (x := qb true) rfl rfl rfl ?_
                     refine WO_want rfl rfl rfl ?_
                     refine WO_want (x := .bp 0 5) rfl rfl rfl ?_; simp only [putT,st,ev,gt,hp,ofV,constT,intT,lm]
                     refine WO_want (x := .bp 0 6) rfl rfl rfl ?_
                     refine WO_want (x := qi x3.1.Pace.Down) rfl rfl rfl ?_; simp only [putT,st,ev,gt,hp,ofV,constT,intT,lm]
                     iterate 2 (refine WO_want rfl rfl rfl ?_; simp only [putT,st,ev,gt,hp,ofV,constT,intT,lm])
                     refine WO_if rfl rfl rfl (fun hc => ?_) (fun hc => ?_)
                     ·
                      replace H := tr hc H
                      simp only [putT,st,ev,gt,hp,ofV,constT,intT,lm]
                      iterate 8 refine WO_skip rfl rfl ?_
                      simp only [putT,st,ev,gt,hp,ofV,constT,intT,lm]
                      iterate 2 (refine WO_want (x := qb true) rfl rfl rfl ?_; simp only [putT,st,ev,gt,hp,ofV,constT,intT,lm])
                      refine WO_op (x := qb true) rfl rfl rfl ?_
                      refine WO_op rfl rfl rfl ?_; simp only [putT,st,ev,gt,hp,ofV,constT,intT,lm]
                      refine WO_nil ?_
                      refine W_ret ?_
                      obtain rfl := Option.some.inj H
                      exact told3 rfl
                     ·
                      replace H := fl hc H
                      refine WO_want rfl rfl rfl ?_
                      refine WO_want (x := .bp 1 1) rfl rfl rfl ?_
                      refine WO_want (x := qi x3.2.1.Now) rfl rfl rfl ?_; simp only [putT,st,ev,gt,hp,ofV,constT,intT,lm]
                      refine WO_want (x := .bp 0 5) rfl rfl rfl ?_
                      refine WO_want (x := .bp 0 6) rfl rfl rfl ?_
                      refine WO_want (x := qi x3.1.Pace.Down) rfl rfl rfl ?_; simp only [putT,st,ev,gt,hp,ofV,constT,intT,lm]
                      iterate 2 (refine WO_want rfl rfl rfl ?_; simp only [putT,st,ev,gt,hp,ofV,constT,intT,lm])
                      iterate 2 (refine WO_want (x := qb (decide (x4.2 ≥ (IntKind.i64.wrap (x3.2.1.Now - x3.1.Pace.Down))))) rfl rfl rfl ?_; simp only [putT,st,ev,gt,hp,ofV,constT,intT,lm])
                      refine WO_op (x := qb (decide (x4.2 ≥ (IntKind.i64.wrap (x3.2.1.Now - x3.1.Pace.Down))))) rfl rfl rfl ?_
                      refine WO_op rfl rfl rfl ?_; simp only [putT,st,ev,gt,hp,ofV,constT,intT,lm]
                      refine WO_nil ?_
                      refine W_ret ?_
                      obtain rfl := Option.some.inj H
                      exact told3 rfl
                    ·
                     replace H := fl hc H
                     refine WO_want rfl rfl rfl ?_
                     refine WO_want (x := .bp 1 1) rfl rfl rfl ?_
                     refine WO_want (x := qi x3.2.1.Now) rfl rfl rfl ?_; simp only [putT,st,ev,gt,hp,ofV,constT,intT,lm]
                     iterate 2 (refine WO_want (x := .bp 0 5) rfl rfl rfl ?_; simp only [putT,st,ev,gt,hp,ofV,constT,intT,lm])
                     refine WO_want (x := qi x3.1.Pace.Up) rfl rfl rfl ?_; simp only [putT,st,ev,gt,hp,ofV,constT,intT,lm]
                     iterate 2 (refine WO_want rfl rfl rfl ?_; simp only [putT,st,ev,gt,hp,ofV,constT,intT,lm])
                     refine WO_want (x := qb (decide (x4.2 ≤ (IntKind.i64.wrap (x3.2.1.Now + x3.1.Pace.Up))))) rfl rfl rfl ?_
                     refine WO_want rfl rfl rfl ?_; simp only [putT,st,ev,gt,hp,ofV,constT,intT,lm]
                     refine WO_if rfl rfl rfl (fun hc => ?_) (fun hc => ?_)
                     ·
                      replace H := tr hc H
                      refine WO_want (x := .bp 0 5) rfl rfl rfl ?_
                      refine WO_want (x := .bp 0 6) rfl rfl rfl ?_
                      refine WO_want (x := qi x3.1.Pace.Down) rfl rfl rfl ?_; simp only [putT,st,ev,gt,hp,ofV,constT,intT,lm]
                      iterate 2 (refine WO_want rfl rfl rfl ?_; simp only [putT,st,ev,gt,hp,ofV,constT,intT,lm])
                      refine WO_if rfl rfl rfl (fun hc => ?_) (fun hc => ?_)
                      ·
                       replace H := tr hc H
                       simp only [putT,st,ev,gt,hp,ofV,constT,intT,lm]
                       iterate 8 refine WO_skip rfl rfl ?_
                       simp only [putT,st,ev,gt,hp,ofV,constT,intT,lm]
                       iterate 2 (refine WO_want (x := qb true) rfl rfl rfl ?_; simp only [putT,st,ev,gt,hp,ofV,constT,intT,lm])
                       refine WO_op (x := qb true) rfl rfl rfl ?_
                       refine WO_op rfl rfl rfl ?_; simp only [putT,st,ev,gt,hp,ofV,constT,intT,lm]
                       refine WO_nil ?_
                       refine W_ret ?_
                       obtain rfl := Option.some.inj H
                       exact told3 rfl
                      ·
                       replace H := fl hc H
                       refine WO_want rfl rfl rfl ?_
                       refine WO_want (x := .bp 1 1) rfl rfl rfl ?_
                       refine WO_want (x := qi x3.2.1.Now) rfl rfl rfl ?_; simp only [putT,st,ev,gt,hp,ofV,constT,intT,lm]
                       refine WO_want (x := .bp 0 5) rfl rfl rfl ?_
                       refine WO_want (x := .bp 0 6) rfl rfl rfl ?_
                       refine WO_want (x := qi x3.1.Pace.Down) rfl rfl rfl ?_; simp only [putT,st,ev,gt,hp,ofV,constT,intT,lm]
                       iterate 2 (refine WO_want rfl rfl rfl ?_; simp only [putT,st,ev,gt,hp,ofV,constT,intT,lm])
                       iterate 2 (refine WO_want (x := qb (decide (x4.2 ≥ (IntKind.i64.wrap (x3.2.1.Now - x3.1.Pace.Down))))) rfl rfl rfl ?_; simp only [putT,st,ev,gt,hp,ofV,constT,intT,lm])
                       refine WO_op (x := qb (decide (x4.2 ≥ (IntKind.i64.wrap (x3.2.1.Now - x3.1.Pace.Down))))) rfl rfl rfl ?_
                       refine WO_op rfl rfl rfl ?_; simp only [putT,st,ev,gt,hp,ofV,constT,intT,lm]
                       refine WO_nil ?_
                       refine W_ret ?_
                       obtain rfl := Option.some.inj H
                       exact told3 rfl
                     ·
                      replace H := fl hc H
                      simp only [putT,st,ev,gt,hp,ofV,constT,intT,lm]
                      iterate 14 refine WO_skip rfl rfl ?_
                      refine WO_want (x := qb false) rfl rfl rfl ?_
                      refine WO_op (x := qb false) rfl rfl rfl ?_
                      refine WO_op rfl rfl rfl ?_; simp only [putT,st,ev,gt,hp,ofV,constT,intT,lm]
                      refine WO_nil ?_
                      refine W_ret ?_
                      obtain rfl := Option.some.inj H
                      exact told3 rfl
end Go.Pu
