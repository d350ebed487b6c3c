import Derived.Test.YtgcpppnhhponmaaFStaysOk0
import Derived.Test.YtgcpppnhhponmaaFStaysOk1
import Derived.Test.YtgcpppnhhponmaaFStaysOk2
set_option linter.unusedVariables false
set_option linter.unusedSimpArgs false
set_option synthInstance.maxSize 1000000000
set_option maxRecDepth 20000
set_option maxHeartbeats 1000000
namespace Go.Pu
open Go Go.SX Go.Nt Go.Proofs
theorem laws_FnStays_ok {a1 : List Int} {r : Bool} (H : laws_FnStays a1 = some r) : R 6 [.c (cL eU a1) none] = some (.c (cB r) none, []) := by
 unfold laws_FnStays at H
 refine Fz_walk 119 rfl rfl Try.func6 rfl (by kernel_rfl) rfl rfl rfl rfl ?_
 simp only [tellVs, tellV, tells, tell, st0, padT, SX.newRow, SX.newBox, List.length_cons, List.length_nil, Nat.reduceAdd, Nat.reduceSub, List.replicate, List.cons_append, List.nil_append, List.foldl_cons, List.foldl_nil]
 refine W_seq (W_region ?_)
 refine WO_op rfl rfl rfl ?_; simp only [putT,st,ev,gt,hp,ofV,constT,intT,lm]
 refine WO_nil (W_seq (W_seq (W_region ?_)))
 refine WO_op rfl rfl rfl ?_; simp only [putT,st,ev,gt,hp,ofV,constT,intT,lm]
 obtain ⟨x2, hx2, H⟩ := bnd H
 refine WO_op (x := qb x2) (σ' := ⟨[], [], []⟩) rfl rfl (ev_callG (al := [.c (cL eU a1)]) (ls := []) (laws_big_ok hx2) rfl rfl rfl rfl rfl (by decide) rfl rfl rfl rfl rfl rfl) ?_; simp only [putT,st,ev,gt,hp,ofV,constT,intT,lm]
 refine WO_nil ?_
 refine W_cond rfl (fun hc => ?_) (fun hc => ?_)
 ·
  replace H := tr hc H
  refine W_seq (W_region ?_)
  refine WO_op rfl rfl rfl ?_; simp only [putT,st,ev,gt,hp,ofV,constT,intT,lm]
  refine WO_nil ?_
  refine W_ret ?_
  obtain rfl := Option.some.inj H
  exact told3 rfl
 ·
  replace H := fl hc H
  refine W_skip ?_
  refine W_seq (W_region ?_)
  refine WO_op rfl rfl rfl ?_; simp only [putT,st,ev,gt,hp,ofV,constT,intT,lm]
  obtain ⟨x3, hx3, H⟩ := bnd H
  refine WO_op (x := .tu [.ag [qs x3.1.Name, qs x3.1.Target, qi x3.1.Low, qi x3.1.High, .c (cL enc_Metric x3.1.Metrics), qi x3.1.Pace.Up, qi x3.1.Pace.Down, qi x3.1.Pace.UpSpan, qi x3.1.Pace.DownSpan, .c (cL enc_Note x3.1.Notes)], .ag [qs x3.2.1.Name, qi x3.2.1.Now, .row 0], qi x3.2.2.1, .row 1]) (σ' := ⟨[], [], [rr 2 enc_Rec x3.2.1.Recs true, rr 2 enc_Sample x3.2.2.2 true]⟩) rfl rfl (ev_callG (al := [.c (cL eU a1)]) (ls := []) (spec_DrawStep_ok hx3) rfl rfl rfl rfl rfl (by decide) rfl rfl rfl rfl rfl rfl) ?_; simp only [putT,st,ev,gt,hp,ofV,constT,intT,lm]
  refine WO_op rfl rfl rfl ?_
  refine WO_op (x := .ag [qs x3.1.Name, qs x3.1.Target, qi x3.1.Low, qi x3.1.High, .c (cL enc_Metric x3.1.Metrics), qi x3.1.Pace.Up, qi x3.1.Pace.Down, qi x3.1.Pace.UpSpan, qi x3.1.Pace.DownSpan, .c (cL enc_Note x3.1.Notes)]) rfl rfl rfl ?_
  refine WO_op (x := .ag [qs x3.2.1.Name, qi x3.2.1.Now, .row 0]) rfl rfl rfl ?_
  refine WO_op (x := qi x3.2.2.1) rfl rfl rfl ?_; simp only [putT,st,ev,gt,hp,ofV,constT,intT,lm]
  refine WO_op (x := .row 1) rfl rfl rfl ?_
  refine WO_op (x := .bp 0 0) (σ' := ⟨[], [some [qs [], qs [], qi 0, qi 0, .nil, qi 0, qi 0, qi 0, qi 0, .nil]], [rr 2 enc_Rec x3.2.1.Recs true, rr 2 enc_Sample x3.2.2.2 true]⟩) rfl rfl rfl ?_
  refine WO_op (x := .bp 1 0) (σ' := ⟨[], [some [qs [], qs [], qi 0, qi 0, .nil, qi 0, qi 0, qi 0, qi 0, .nil], some [qs [], qi 0, .nil]], [rr 2 enc_Rec x3.2.1.Recs true, rr 2 enc_Sample x3.2.2.2 true]⟩) rfl rfl rfl ?_
  refine WO_op (x := .no) (σ' := ⟨[], [some [qs x3.1.Name, qs x3.1.Target, qi x3.1.Low, qi x3.1.High, .c (cL enc_Metric x3.1.Metrics), qi x3.1.Pace.Up, qi x3.1.Pace.Down, qi x3.1.Pace.UpSpan, qi x3.1.Pace.DownSpan, .c (cL enc_Note x3.1.Notes)], some [qs [], qi 0, .nil]], [rr 2 enc_Rec x3.2.1.Recs true, rr 2 enc_Sample x3.2.2.2 true]⟩) rfl rfl rfl ?_; simp only [putT,st,ev,gt,hp,ofV,constT,intT,lm]
  refine WO_op (x := .no) (σ' := ⟨[], [some [qs x3.1.Name, qs x3.1.Target, qi x3.1.Low, qi x3.1.High, .c (cL enc_Metric x3.1.Metrics), qi x3.1.Pace.Up, qi x3.1.Pace.Down, qi x3.1.Pace.UpSpan, qi x3.1.Pace.DownSpan, .c (cL enc_Note x3.1.Notes)], some [qs x3.2.1.Name, qi x3.2.1.Now, .row 0]], [rr 2 enc_Rec x3.2.1.Recs true, rr 2 enc_Sample x3.2.2.2 true]⟩) rfl rfl rfl ?_; simp only [putT,st,ev,gt,hp,ofV,constT,intT,lm]
  iterate 2 (refine WO_op rfl rfl rfl ?_; simp only [putT,st,ev,gt,hp,ofV,constT,intT,lm])
  refine WO_nil (W_seq (W_region ?_))
  refine WO_op (x := .row 2) (σ' := ⟨[], [some [qs x3.1.Name, qs x3.1.Target, qi x3.1.Low, qi x3.1.High, .c (cL enc_Metric x3.1.Metrics), qi x3.1.Pace.Up, qi x3.1.Pace.Down, qi x3.1.Pace.UpSpan, qi x3.1.Pace.DownSpan, .c (cL enc_Note x3.1.Notes)], some [qs x3.2.1.Name, qi x3.2.1.Now, .row 0]], [rr 2 enc_Rec x3.2.1.Recs true, rr 2 enc_Sample x3.2.2.2 true, rr 2 enc_Sample ([] : List Sample) true]⟩) rfl rfl (ev_bs ([] : List Sample) enc_Sample rfl rfl rfl rfl) ?_; simp only [putT,st,ev,gt,hp,ofV,constT,intT,lm]
  refine WO_op rfl rfl rfl ?_; simp only [putT,st,ev,gt,hp,ofV,constT,intT,lm]
  refine WO_nil (W_seq (W_seq (W_region ?_)))
  refine WO_op rfl rfl rfl ?_; simp only [putT,st,ev,gt,hp,ofV,constT,intT,lm]
  refine WO_nil ?_
  refine W_block ?_
  obtain ⟨t10, ht10, H⟩ := bnd H
  refine loop_rule (ls := []) 0 (fun t10 : List Sample => ⟨[.no, .no, .no, .bp 0 0, .bp 1 0, qi x3.2.2.1, .no, .row 0], [some [qs x3.1.Name, qs x3.1.Target, qi x3.1.Low, qi x3.1.High, .c (cL enc_Metric x3.1.Metrics), qi x3.1.Pace.Up, qi x3.1.Pace.Down, qi x3.1.Pace.UpSpan, qi x3.1.Pace.DownSpan, .c (cL enc_Note x3.1.Notes)], some [qs x3.2.1.Name, qi x3.2.1.Now, .row 1]], [rr 2 enc_Sample t10 true, rr 2 enc_Rec x3.2.1.Recs true]⟩) (fun t => t10 = t) ⟨[.no, .no, .no, .bp 0 0, .bp 1 0, qi x3.2.2.1, .no, .row 0, qi 0], [some [qs x3.1.Name, qs x3.1.Target, qi x3.1.Low, qi x3.1.High, .c (cL enc_Metric x3.1.Metrics), qi x3.1.Pace.Up, qi x3.1.Pace.Down, qi x3.1.Pace.UpSpan, qi x3.1.Pace.DownSpan, .c (cL enc_Note x3.1.Notes)], some [qs x3.2.1.Name, qi x3.2.1.Now, .row 1]], [rr 2 enc_Sample ([] : List Sample) true, rr 2 enc_Rec x3.2.1.Recs true]⟩ (by repeat (first | exact mono_told | refine mono_seq ?_ | refine mono_blk ?_ | refine mono_lp ?_)) (le_intro [0, 1] [2, 0] (by decide) (by decide) rfl (by simp [leS, leT, leA, gt]) (by simp [leB, leT, leA]) (by simp [leR])) ?_ ?_
  ·
   rintro t1 rfl
   refine W_seq (W_seq (W_region ?_))
   refine WO_op (x := .ag [qs x3.1.Name, qs x3.1.Target, qi x3.1.Low, qi x3.1.High, .c (cL enc_Metric x3.1.Metrics), qi x3.1.Pace.Up, qi x3.1.Pace.Down, qi x3.1.Pace.UpSpan, qi x3.1.Pace.DownSpan, .c (cL enc_Note x3.1.Notes)]) rfl rfl rfl ?_; simp only [putT,st,ev,gt,hp,ofV,constT,intT,lm]
   obtain ⟨x11, hx11, H⟩ := bnd H
   refine WO_op (x := qb x11) (σ' := ⟨[], [some [qs x3.1.Name, qs x3.1.Target, qi x3.1.Low, qi x3.1.High, .c (cL enc_Metric x3.1.Metrics), qi x3.1.Pace.Up, qi x3.1.Pace.Down, qi x3.1.Pace.UpSpan, qi x3.1.Pace.DownSpan, .c (cL enc_Note x3.1.Notes)], some [qs x3.2.1.Name, qi x3.2.1.Now, .row 1]], [rr 2 enc_Sample t10 true, rr 2 enc_Rec x3.2.1.Recs true]⟩) rfl rfl (ev_callG (al := [.ag [qs x3.1.Name, qs x3.1.Target, qi x3.1.Low, qi x3.1.High, .c (cL enc_Metric x3.1.Metrics), qi x3.1.Pace.Up, qi x3.1.Pace.Down, qi x3.1.Pace.UpSpan, qi x3.1.Pace.DownSpan, .c (cL enc_Note x3.1.Notes)]]) (ls := []) (impl_OrderOk_ok hx11) rfl rfl rfl rfl rfl (by decide) rfl rfl rfl rfl rfl rfl) ?_; simp only [putT,st,ev,gt,hp,ofV,constT,intT,lm]
   iterate 2 (refine WO_op rfl rfl rfl ?_; simp only [putT,st,ev,gt,hp,ofV,constT,intT,lm])
   refine WO_if rfl rfl rfl (fun hc => ?_) (fun hc => ?_)
   ·
    replace H := tr hc H
    simp only [putT,st,ev,gt,hp,ofV,constT,intT,lm]
    iterate 5 refine WO_skip rfl rfl ?_
    refine WO_op (x := qb true) rfl rfl rfl ?_
    refine WO_op rfl rfl rfl ?_; simp only [putT,st,ev,gt,hp,ofV,constT,intT,lm]
    iterate 5 refine WO_skip rfl rfl ?_
    refine WO_op (x := qb true) rfl rfl rfl ?_; simp only [putT,st,ev,gt,hp,ofV,constT,intT,lm]
    refine WO_nil ?_
    refine W_cond (t := true) rfl (fun _ => ?_) (fun h => by cases h)
    refine W_seq ?_
    refine W_drawL (by kernel_rfl) (by decide +kernel) ?_
    refine WL_op (x := .ag [qs x3.1.Name, qs x3.1.Target, qi x3.1.Low, qi x3.1.High, .c (cL enc_Metric x3.1.Metrics), qi x3.1.Pace.Up, qi x3.1.Pace.Down, qi x3.1.Pace.UpSpan, qi x3.1.Pace.DownSpan, .c (cL enc_Note x3.1.Notes)]) rfl rfl rfl rfl ?_; simp only [putT,st,ev,gt,hp,ofV,constT,intT,lm]
    obtain ⟨x12, hx12, H⟩ := bnd H
    refine WL_op (x := qb x12) (σ' := ⟨[], [some [qs x3.1.Name, qs x3.1.Target, qi x3.1.Low, qi x3.1.High, .c (cL enc_Metric x3.1.Metrics), qi x3.1.Pace.Up, qi x3.1.Pace.Down, qi x3.1.Pace.UpSpan, qi x3.1.Pace.DownSpan, .c (cL enc_Note x3.1.Notes)], some [qs x3.2.1.Name, qi x3.2.1.Now, .row 1]], [rr 2 enc_Sample t10 true, rr 2 enc_Rec x3.2.1.Recs true]⟩) rfl rfl rfl (ev_callG (al := [.ag [qs x3.1.Name, qs x3.1.Target, qi x3.1.Low, qi x3.1.High, .c (cL enc_Metric x3.1.Metrics), qi x3.1.Pace.Up, qi x3.1.Pace.Down, qi x3.1.Pace.UpSpan, qi x3.1.Pace.DownSpan, .c (cL enc_Note x3.1.Notes)]]) (ls := []) (impl_OrderOk_ok hx12) rfl rfl rfl rfl rfl (by decide) rfl rfl rfl rfl rfl rfl) ?_; simp only [putT,st,ev,gt,hp,ofV,constT,intT,lm]
    refine WL_op (x := .ag [qs x3.1.Name, qs x3.1.Target, qi x3.1.Low, qi x3.1.High, .c (cL enc_Metric x3.1.Metrics), qi x3.1.Pace.Up, qi x3.1.Pace.Down, qi x3.1.Pace.UpSpan, qi x3.1.Pace.DownSpan, .c (cL enc_Note x3.1.Notes)]) rfl rfl rfl rfl ?_; simp only [putT,st,ev,gt,hp,ofV,constT,intT,lm]
    obtain ⟨x13, hx13, H⟩ := bnd H
    refine WL_op (x := qb x13) (σ' := ⟨[], [some [qs x3.1.Name, qs x3.1.Target, qi x3.1.Low, qi x3.1.High, .c (cL enc_Metric x3.1.Metrics), qi x3.1.Pace.Up, qi x3.1.Pace.Down, qi x3.1.Pace.UpSpan, qi x3.1.Pace.DownSpan, .c (cL enc_Note x3.1.Notes)], some [qs x3.2.1.Name, qi x3.2.1.Now, .row 1]], [rr 2 enc_Sample t10 true, rr 2 enc_Rec x3.2.1.Recs true]⟩) rfl rfl rfl (ev_callG (al := [.ag [qs x3.1.Name, qs x3.1.Target, qi x3.1.Low, qi x3.1.High, .c (cL enc_Metric x3.1.Metrics), qi x3.1.Pace.Up, qi x3.1.Pace.Down, qi x3.1.Pace.UpSpan, qi x3.1.Pace.DownSpan, .c (cL enc_Note x3.1.Notes)]]) (ls := []) (spec_OrderOk_ok hx13) rfl rfl rfl rfl rfl (by decide) rfl rfl rfl rfl rfl rfl) ?_; simp only [putT,st,ev,gt,hp,ofV,constT,intT,lm]
    iterate 2 (refine WL_op rfl rfl rfl rfl ?_; simp only [putT,st,ev,gt,hp,ofV,constT,intT,lm])
    refine WL_nil (by kernel_rfl) ?_
    refine W_ret ?_
    obtain rfl := Option.some.inj H
    exact told3 rfl
   ·
    replace H := fl hc H
    refine WO_want (x := .bp 1 1) rfl rfl rfl ?_
    refine WO_want (x := qi x3.2.1.Now) rfl rfl rfl ?_
    refine WO_want (x := .bp 0 2) rfl rfl rfl ?_; simp only [putT,st,ev,gt,hp,ofV,constT,intT,lm]
    refine WO_want (x := qi x3.1.Low) rfl rfl rfl ?_
    refine WO_want rfl rfl rfl ?_
    refine WO_op (x := qb (decide (x3.2.1.Now < x3.1.Low))) rfl rfl rfl ?_
    refine WO_op rfl rfl rfl ?_; simp only [putT,st,ev,gt,hp,ofV,constT,intT,lm]
    refine WO_if rfl rfl rfl (fun hc => ?_) (fun hc => ?_)
    ·
     replace H := tr hc H
     simp only [putT,st,ev,gt,hp,ofV,constT,intT,lm]
     iterate 5 refine WO_skip rfl rfl ?_
     refine WO_op (x := qb true) rfl rfl rfl ?_; simp only [putT,st,ev,gt,hp,ofV,constT,intT,lm]
     refine WO_nil ?_
     refine W_cond (t := true) rfl (fun _ => ?_) (fun h => by cases h)
     refine W_seq ?_
     refine W_drawL (by kernel_rfl) (by decide +kernel) ?_
     refine WL_op (x := .ag [qs x3.1.Name, qs x3.1.Target, qi x3.1.Low, qi x3.1.High, .c (cL enc_Metric x3.1.Metrics), qi x3.1.Pace.Up, qi x3.1.Pace.Down, qi x3.1.Pace.UpSpan, qi x3.1.Pace.DownSpan, .c (cL enc_Note x3.1.Notes)]) rfl rfl rfl rfl ?_; simp only [putT,st,ev,gt,hp,ofV,constT,intT,lm]
     obtain ⟨x14, hx14, H⟩ := bnd H
     refine WL_op (x := qb x14) (σ' := ⟨[], [some [qs x3.1.Name, qs x3.1.Target, qi x3.1.Low, qi x3.1.High, .c (cL enc_Metric x3.1.Metrics), qi x3.1.Pace.Up, qi x3.1.Pace.Down, qi x3.1.Pace.UpSpan, qi x3.1.Pace.DownSpan, .c (cL enc_Note x3.1.Notes)], some [qs x3.2.1.Name, qi x3.2.1.Now, .row 1]], [rr 2 enc_Sample t10 true, rr 2 enc_Rec x3.2.1.Recs true]⟩) rfl rfl rfl (ev_callG (al := [.ag [qs x3.1.Name, qs x3.1.Target, qi x3.1.Low, qi x3.1.High, .c (cL enc_Metric x3.1.Metrics), qi x3.1.Pace.Up, qi x3.1.Pace.Down, qi x3.1.Pace.UpSpan, qi x3.1.Pace.DownSpan, .c (cL enc_Note x3.1.Notes)]]) (ls := []) (impl_OrderOk_ok hx14) rfl rfl rfl rfl rfl (by decide) rfl rfl rfl rfl rfl rfl) ?_; simp only [putT,st,ev,gt,hp,ofV,constT,intT,lm]
     refine WL_op (x := .ag [qs x3.1.Name, qs x3.1.Target, qi x3.1.Low, qi x3.1.High, .c (cL enc_Metric x3.1.Metrics), qi x3.1.Pace.Up, qi x3.1.Pace.Down, qi x3.1.Pace.UpSpan, qi x3.1.Pace.DownSpan, .c (cL enc_Note x3.1.Notes)]) rfl rfl rfl rfl ?_; simp only [putT,st,ev,gt,hp,ofV,constT,intT,lm]
     obtain ⟨x15, hx15, H⟩ := bnd H
     refine WL_op (x := qb x15) (σ' := ⟨[], [some [qs x3.1.Name, qs x3.1.Target, qi x3.1.Low, qi x3.1.High, .c (cL enc_Metric x3.1.Metrics), qi x3.1.Pace.Up, qi x3.1.Pace.Down, qi x3.1.Pace.UpSpan, qi x3.1.Pace.DownSpan, .c (cL enc_Note x3.1.Notes)], some [qs x3.2.1.Name, qi x3.2.1.Now, .row 1]], [rr 2 enc_Sample t10 true, rr 2 enc_Rec x3.2.1.Recs true]⟩) rfl rfl rfl (ev_callG (al := [.ag [qs x3.1.Name, qs x3.1.Target, qi x3.1.Low, qi x3.1.High, .c (cL enc_Metric x3.1.Metrics), qi x3.1.Pace.Up, qi x3.1.Pace.Down, qi x3.1.Pace.UpSpan, qi x3.1.Pace.DownSpan, .c (cL enc_Note x3.1.Notes)]]) (ls := []) (spec_OrderOk_ok hx15) rfl rfl rfl rfl rfl (by decide) rfl rfl rfl rfl rfl rfl) ?_; simp only [putT,st,ev,gt,hp,ofV,constT,intT,lm]
     iterate 2 (refine WL_op rfl rfl rfl rfl ?_; simp only [putT,st,ev,gt,hp,ofV,constT,intT,lm])
     refine WL_nil (by kernel_rfl) ?_
     refine W_ret ?_
     obtain rfl := Option.some.inj H
     exact told3 rfl
    ·
     replace H := fl hc H
     refine WO_want (x := .bp 1 1) rfl rfl rfl ?_
     refine WO_want (x := qi x3.2.1.Now) rfl rfl rfl ?_
     refine WO_want (x := .bp 0 3) rfl rfl rfl ?_; simp only [putT,st,ev,gt,hp,ofV,constT,intT,lm]
     refine WO_want (x := qi x3.1.High) rfl rfl rfl ?_
     refine WO_want rfl rfl rfl ?_
     refine WO_op (x := qb (decide (x3.2.1.Now > x3.1.High))) rfl rfl rfl ?_; simp only [putT,st,ev,gt,hp,ofV,constT,intT,lm]
     refine WO_nil ?_
     refine W_cond rfl (fun hc => ?_) (fun hc => ?_)
     ·
      replace H := tr hc H
      refine W_seq ?_
      refine W_drawL (by kernel_rfl) (by decide +kernel) ?_
      refine WL_op (x := .ag [qs x3.1.Name, qs x3.1.Target, qi x3.1.Low, qi x3.1.High, .c (cL enc_Metric x3.1.Metrics), qi x3.1.Pace.Up, qi x3.1.Pace.Down, qi x3.1.Pace.UpSpan, qi x3.1.Pace.DownSpan, .c (cL enc_Note x3.1.Notes)]) rfl rfl rfl rfl ?_; simp only [putT,st,ev,gt,hp,ofV,constT,intT,lm]
      obtain ⟨x16, hx16, H⟩ := bnd H
      refine WL_op (x := qb x16) (σ' := ⟨[], [some [qs x3.1.Name, qs x3.1.Target, qi x3.1.Low, qi x3.1.High, .c (cL enc_Metric x3.1.Metrics), qi x3.1.Pace.Up, qi x3.1.Pace.Down, qi x3.1.Pace.UpSpan, qi x3.1.Pace.DownSpan, .c (cL enc_Note x3.1.Notes)], some [qs x3.2.1.Name, qi x3.2.1.Now, .row 1]], [rr 2 enc_Sample t10 true, rr 2 enc_Rec x3.2.1.Recs true]⟩) rfl rfl rfl (ev_callG (al := [.ag [qs x3.1.Name, qs x3.1.Target, qi x3.1.Low, qi x3.1.High, .c (cL enc_Metric x3.1.Metrics), qi x3.1.Pace.Up, qi x3.1.Pace.Down, qi x3.1.Pace.UpSpan, qi x3.1.Pace.DownSpan, .c (cL enc_Note x3.1.Notes)]]) (ls := []) (impl_OrderOk_ok hx16) rfl rfl rfl rfl rfl (by decide) rfl rfl rfl rfl rfl rfl) ?_; simp only [putT,st,ev,gt,hp,ofV,constT,intT,lm]
      refine WL_op (x := .ag [qs x3.1.Name, qs x3.1.Target, qi x3.1.Low, qi x3.1.High, .c (cL enc_Metric x3.1.Metrics), qi x3.1.Pace.Up, qi x3.1.Pace.Down, qi x3.1.Pace.UpSpan, qi x3.1.Pace.DownSpan, .c (cL enc_Note x3.1.Notes)]) rfl rfl rfl rfl ?_; simp only [putT,st,ev,gt,hp,ofV,constT,intT,lm]
      obtain ⟨x17, hx17, H⟩ := bnd H
      refine WL_op (x := qb x17) (σ' := ⟨[], [some [qs x3.1.Name, qs x3.1.Target, qi x3.1.Low, qi x3.1.High, .c (cL enc_Metric x3.1.Metrics), qi x3.1.Pace.Up, qi x3.1.Pace.Down, qi x3.1.Pace.UpSpan, qi x3.1.Pace.DownSpan, .c (cL enc_Note x3.1.Notes)], some [qs x3.2.1.Name, qi x3.2.1.Now, .row 1]], [rr 2 enc_Sample t10 true, rr 2 enc_Rec x3.2.1.Recs true]⟩) rfl rfl rfl (ev_callG (al := [.ag [qs x3.1.Name, qs x3.1.Target, qi x3.1.Low, qi x3.1.High, .c (cL enc_Metric x3.1.Metrics), qi x3.1.Pace.Up, qi x3.1.Pace.Down, qi x3.1.Pace.UpSpan, qi x3.1.Pace.DownSpan, .c (cL enc_Note x3.1.Notes)]]) (ls := []) (spec_OrderOk_ok hx17) rfl rfl rfl rfl rfl (by decide) rfl rfl rfl rfl rfl rfl) ?_; simp only [putT,st,ev,gt,hp,ofV,constT,intT,lm]
      iterate 2 (refine WL_op rfl rfl rfl rfl ?_; simp only [putT,st,ev,gt,hp,ofV,constT,intT,lm])
      refine WL_nil (by kernel_rfl) ?_
      refine W_ret ?_
      obtain rfl := Option.some.inj H
      exact told3 rfl
     ·
      replace H := fl hc H
      refine W_skip ?_
      refine W_seq (W_region ?_)
      refine WO_op (x := .ag [qs x3.1.Name, qs x3.1.Target, qi x3.1.Low, qi x3.1.High, .c (cL enc_Metric x3.1.Metrics), qi x3.1.Pace.Up, qi x3.1.Pace.Down, qi x3.1.Pace.UpSpan, qi x3.1.Pace.DownSpan, .c (cL enc_Note x3.1.Notes)]) rfl rfl rfl ?_
      refine WO_op (x := .ag [qs x3.2.1.Name, qi x3.2.1.Now, .row 1]) rfl rfl rfl ?_; simp only [putT,st,ev,gt,hp,ofV,constT,intT,lm]
      iterate 2 (refine WO_op rfl rfl rfl ?_; simp only [putT,st,ev,gt,hp,ofV,constT,intT,lm])
      obtain ⟨x18, hx18, H⟩ := bnd H
      refine WO_op (x := .tu [.ag [qs x18.1.Name, qi x18.1.Now, .row 2], qi x18.2]) (σ' := ⟨[], [some [qs x3.1.Name, qs x3.1.Target, qi x3.1.Low, qi x3.1.High, .c (cL enc_Metric x3.1.Metrics), qi x3.1.Pace.Up, qi x3.1.Pace.Down, qi x3.1.Pace.UpSpan, qi x3.1.Pace.DownSpan, .c (cL enc_Note x3.1.Notes)], some [qs x3.2.1.Name, qi x3.2.1.Now, .row 1]], [rr 2 enc_Sample t10 true, rr 2 enc_Rec x3.2.1.Recs true, rr 2 enc_Rec x18.1.Recs true]⟩) rfl rfl (ev_callG (al := [.ag [qs x3.1.Name, qs x3.1.Target, qi x3.1.Low, qi x3.1.High, .c (cL enc_Metric x3.1.Metrics), qi x3.1.Pace.Up, qi x3.1.Pace.Down, qi x3.1.Pace.UpSpan, qi x3.1.Pace.DownSpan, .c (cL enc_Note x3.1.Notes)], .ag [qs x3.2.1.Name, qi x3.2.1.Now, .row 1], qi x3.2.2.1, .row 0]) (ls := []) (impl_Step_ok hx18) rfl rfl rfl rfl rfl (by decide) rfl rfl (by simp only [flatA, flatV, flatC, List.all_cons, List.all_nil, Option.all_some, Bool.and_self, Bool.or_true, fl_Rec]) rfl rfl rfl) ?_; simp only [putT,st,ev,gt,hp,ofV,constT,intT,lm]
      refine WO_op rfl rfl rfl ?_
      refine WO_op (x := .ag [qs x18.1.Name, qi x18.1.Now, .row 2]) rfl rfl rfl ?_
      refine WO_op (x := qi x18.2) rfl rfl rfl ?_
      refine WO_op (x := .bp 2 0) (σ' := ⟨[], [some [qs x3.1.Name, qs x3.1.Target, qi x3.1.Low, qi x3.1.High, .c (cL enc_Metric x3.1.Metrics), qi x3.1.Pace.Up, qi x3.1.Pace.Down, qi x3.1.Pace.UpSpan, qi x3.1.Pace.DownSpan, .c (cL enc_Note x3.1.Notes)], some [qs x3.2.1.Name, qi x3.2.1.Now, .row 1], some [qs [], qi 0, .nil]], [rr 2 enc_Sample t10 true, rr 2 enc_Rec x3.2.1.Recs true, rr 2 enc_Rec x18.1.Recs true]⟩) rfl rfl rfl ?_; simp only [putT,st,ev,gt,hp,ofV,constT,intT,lm]
      refine WO_op (x := .no) (σ' := ⟨[], [some [qs x3.1.Name, qs x3.1.Target, qi x3.1.Low, qi x3.1.High, .c (cL enc_Metric x3.1.Metrics), qi x3.1.Pace.Up, qi x3.1.Pace.Down, qi x3.1.Pace.UpSpan, qi x3.1.Pace.DownSpan, .c (cL enc_Note x3.1.Notes)], some [qs x3.2.1.Name, qi x3.2.1.Now, .row 1], some [qs x18.1.Name, qi x18.1.Now, .row 2]], [rr 2 enc_Sample t10 true, rr 2 enc_Rec x3.2.1.Recs true, rr 2 enc_Rec x18.1.Recs true]⟩) rfl rfl rfl ?_
      refine WO_op rfl rfl rfl ?_; simp only [putT,st,ev,gt,hp,ofV,constT,intT,lm]
      refine WO_nil (W_seq (W_region ?_))
      refine WO_op (x := .ag [qs x3.1.Name, qs x3.1.Target, qi x3.1.Low, qi x3.1.High, .c (cL enc_Metric x3.1.Metrics), qi x3.1.Pace.Up, qi x3.1.Pace.Down, qi x3.1.Pace.UpSpan, qi x3.1.Pace.DownSpan, .c (cL enc_Note x3.1.Notes)]) rfl rfl rfl ?_
      refine WO_op (x := .ag [qs x3.2.1.Name, qi x3.2.1.Now, .row 1]) rfl rfl rfl ?_
      refine WO_op rfl rfl rfl ?_; simp only [putT,st,ev,gt,hp,ofV,constT,intT,lm]
      obtain ⟨x19, hx19, H⟩ := bnd H
      refine WO_op (x := .tu [.ag [qs x19.1.Name, qi x19.1.Now, .row 3], qi x19.2]) (σ' := ⟨[], [some [qs x3.1.Name, qs x3.1.Target, qi x3.1.Low, qi x3.1.High, .c (cL enc_Metric x3.1.Metrics), qi x3.1.Pace.Up, qi x3.1.Pace.Down, qi x3.1.Pace.UpSpan, qi x3.1.Pace.DownSpan, .c (cL enc_Note x3.1.Notes)], some [qs x3.2.1.Name, qi x3.2.1.Now, .row 1], some [qs x18.1.Name, qi x18.1.Now, .row 2]], [rr 2 enc_Sample t10 true, rr 2 enc_Rec x3.2.1.Recs true, rr 2 enc_Rec x18.1.Recs true, rr 2 enc_Rec x19.1.Recs true]⟩) rfl rfl (ev_callG (al := [.ag [qs x3.1.Name, qs x3.1.Target, qi x3.1.Low, qi x3.1.High, .c (cL enc_Metric x3.1.Metrics), qi x3.1.Pace.Up, qi x3.1.Pace.Down, qi x3.1.Pace.UpSpan, qi x3.1.Pace.DownSpan, .c (cL enc_Note x3.1.Notes)], .ag [qs x3.2.1.Name, qi x3.2.1.Now, .row 1], qi x3.2.2.1, .nil]) (ls := []) (impl_Step_ok hx19) rfl rfl rfl rfl rfl (by decide) rfl rfl (by simp only [flatA, flatV, flatC, List.all_cons, List.all_nil, Option.all_some, Bool.and_self, Bool.or_true, fl_Rec]) rfl rfl rfl) ?_; simp only [putT,st,ev,gt,hp,ofV,constT,intT,lm]
      refine WO_op rfl rfl rfl ?_
      refine WO_op (x := .ag [qs x19.1.Name, qi x19.1.Now, .row 3]) rfl rfl rfl ?_
      refine WO_op (x := qi x19.2) rfl rfl rfl ?_
      refine WO_op (x := .bp 3 0) (σ' := ⟨[], [some [qs x3.1.Name, qs x3.1.Target, qi x3.1.Low, qi x3.1.High, .c (cL enc_Metric x3.1.Metrics), qi x3.1.Pace.Up, qi x3.1.Pace.Down, qi x3.1.Pace.UpSpan, qi x3.1.Pace.DownSpan, .c (cL enc_Note x3.1.Notes)], some [qs x3.2.1.Name, qi x3.2.1.Now, .row 1], some [qs x18.1.Name, qi x18.1.Now, .row 2], some [qs [], qi 0, .nil]], [rr 2 enc_Sample t10 true, rr 2 enc_Rec x3.2.1.Recs true, rr 2 enc_Rec x18.1.Recs true, rr 2 enc_Rec x19.1.Recs true]⟩) rfl rfl rfl ?_; simp only [putT,st,ev,gt,hp,ofV,constT,intT,lm]
      refine WO_op (x := .no) (σ' := ⟨[], [some [qs x3.1.Name, qs x3.1.Target, qi x3.1.Low, qi x3.1.High, .c (cL enc_Metric x3.1.Metrics), qi x3.1.Pace.Up, qi x3.1.Pace.Down, qi x3.1.Pace.UpSpan, qi x3.1.Pace.DownSpan, .c (cL enc_Note x3.1.Notes)], some [qs x3.2.1.Name, qi x3.2.1.Now, .row 1], some [qs x18.1.Name, qi x18.1.Now, .row 2], some [qs x19.1.Name, qi x19.1.Now, .row 3]], [rr 2 enc_Sample t10 true, rr 2 enc_Rec x3.2.1.Recs true, rr 2 enc_Rec x18.1.Recs true, rr 2 enc_Rec x19.1.Recs true]⟩) rfl rfl rfl ?_
      refine WO_op rfl rfl rfl ?_; simp only [putT,st,ev,gt,hp,ofV,constT,intT,lm]
      refine WO_nil (W_seq (W_region ?_))
      refine WO_op rfl rfl rfl ?_
      refine WO_op (x := .bp 1 1) rfl rfl rfl ?_
      refine WO_op (x := qi x3.2.1.Now) rfl rfl rfl ?_; simp only [putT,st,ev,gt,hp,ofV,constT,intT,lm]
      iterate 2 (refine WO_op rfl rfl rfl ?_; simp only [putT,st,ev,gt,hp,ofV,constT,intT,lm])
      refine WO_if rfl rfl rfl (fun hc => ?_) (fun hc => ?_)
      ·
       replace H := tr hc H
       refine WO_want rfl rfl rfl ?_
       refine WO_want (x := .bp 1 1) rfl rfl rfl ?_
       refine WO_want (x := qi x3.2.1.Now) rfl rfl rfl ?_; simp only [putT,st,ev,gt,hp,ofV,constT,intT,lm]
       refine WO_want rfl rfl rfl ?_
       refine WO_op (x := qb (x19.2 == x3.2.1.Now)) rfl rfl rfl ?_
       refine WO_op rfl rfl rfl ?_; simp only [putT,st,ev,gt,hp,ofV,constT,intT,lm]
       refine WO_if rfl rfl rfl (fun hc => ?_) (fun hc => ?_)
       ·
        replace H := tr hc H
        refine WO_want (x := .bp 2 1) rfl rfl rfl ?_
        refine WO_want (x := qi x18.1.Now) rfl rfl rfl ?_; simp only [putT,st,ev,gt,hp,ofV,constT,intT,lm]
        iterate 2 (refine WO_want rfl rfl rfl ?_; simp only [putT,st,ev,gt,hp,ofV,constT,intT,lm])
        refine WO_op (x := qb (x18.1.Now == x18.2)) rfl rfl rfl ?_
        refine WO_op rfl rfl rfl ?_; simp only [putT,st,ev,gt,hp,ofV,constT,intT,lm]
        refine WO_if rfl rfl rfl (fun hc => ?_) (fun hc => ?_)
        ·
         replace H := tr hc H
         refine WO_want (x := .bp 3 1) rfl rfl rfl ?_
         refine WO_want (x := qi x19.1.Now) rfl rfl rfl ?_; simp only [putT,st,ev,gt,hp,ofV,constT,intT,lm]
         iterate 2 (refine WO_want rfl rfl rfl ?_; simp only [putT,st,ev,gt,hp,ofV,constT,intT,lm])
         refine WO_op (x := qb (x19.1.Now == x19.2)) rfl rfl rfl ?_
         refine WO_op rfl rfl rfl ?_; simp only [putT,st,ev,gt,hp,ofV,constT,intT,lm]
         refine WO_if rfl rfl rfl (fun hc => ?_) (fun hc => ?_)
         ·
          replace H := tr hc H
          refine WO_want (x := .bp 3 2) rfl rfl rfl ?_
          refine WO_want (x := .row 3) rfl rfl rfl ?_
          refine WO_want (x := .bp 1 2) rfl rfl rfl ?_; simp only [putT,st,ev,gt,hp,ofV,constT,intT,lm]
          refine WO_want (x := .row 1) rfl rfl rfl ?_; simp only [putT,st,ev,gt,hp,ofV,constT,intT,lm]
          obtain ⟨x20, hx20, H⟩ := bnd H
          refine WO_want (x := qb x20) (σ' := ⟨[], [some [qs x3.1.Name, qs x3.1.Target, qi x3.1.Low, qi x3.1.High, .c (cL enc_Metric x3.1.Metrics), qi x3.1.Pace.Up, qi x3.1.Pace.Down, qi x3.1.Pace.UpSpan, qi x3.1.Pace.DownSpan, .c (cL enc_Note x3.1.Notes)], some [qs x3.2.1.Name, qi x3.2.1.Now, .row 1], some [qs x18.1.Name, qi x18.1.Now, .row 2], some [qs x19.1.Name, qi x19.1.Now, .row 3]], [rr 2 enc_Sample t10 true, rr 2 enc_Rec x3.2.1.Recs true, rr 2 enc_Rec x18.1.Recs true, rr 2 enc_Rec x19.1.Recs true]⟩) rfl rfl (ev_callG (al := [.row 3, .row 1]) (ls := []) (laws_sameRecs_ok hx20) rfl rfl rfl rfl rfl (by decide) rfl rfl rfl rfl rfl rfl) ?_; simp only [putT,st,ev,gt,hp,ofV,constT,intT,lm]
          refine WO_op (x := qb x20) rfl rfl rfl ?_
          refine WO_op rfl rfl rfl ?_; simp only [putT,st,ev,gt,hp,ofV,constT,intT,lm]
          refine WO_nil ?_
          refine W_ret ?_
          obtain rfl := Option.some.inj H
          exact told3 rfl
         ·
          replace H := fl hc H
          simp only [putT,st,ev,gt,hp,ofV,constT,intT,lm]
          iterate 5 refine WO_skip rfl rfl ?_
          refine WO_op (x := qb false) rfl rfl rfl ?_
          refine WO_op rfl rfl rfl ?_; simp only [putT,st,ev,gt,hp,ofV,constT,intT,lm]
          refine WO_nil ?_
          refine W_ret ?_
          obtain rfl := Option.some.inj H
          exact told3 rfl
        ·
         replace H := fl hc H
         simp only [putT,st,ev,gt,hp,ofV,constT,intT,lm]
         iterate 4 refine WO_skip rfl rfl ?_
         refine WO_op (x := qb false) rfl rfl rfl ?_
         refine WO_op rfl rfl rfl ?_; simp only [putT,st,ev,gt,hp,ofV,constT,intT,lm]
         iterate 5 refine WO_skip rfl rfl ?_
         refine WO_op (x := qb false) rfl rfl rfl ?_
         refine WO_op rfl rfl rfl ?_; simp only [putT,st,ev,gt,hp,ofV,constT,intT,lm]
         refine WO_nil ?_
         refine W_ret ?_
         obtain rfl := Option.some.inj H
         exact told3 rfl
       ·
        replace H := fl hc H
        simp only [putT,st,ev,gt,hp,ofV,constT,intT,lm]
        iterate 4 refine WO_skip rfl rfl ?_
        refine WO_op (x := qb false) rfl rfl rfl ?_
        refine WO_op rfl rfl rfl ?_; simp only [putT,st,ev,gt,hp,ofV,constT,intT,lm]
        iterate 4 refine WO_skip rfl rfl ?_
        refine WO_op (x := qb false) rfl rfl rfl ?_
        refine WO_op rfl rfl rfl ?_; simp only [putT,st,ev,gt,hp,ofV,constT,intT,lm]
        iterate 5 refine WO_skip rfl rfl ?_
        refine WO_op (x := qb false) rfl rfl rfl ?_
        refine WO_op rfl rfl rfl ?_; simp only [putT,st,ev,gt,hp,ofV,constT,intT,lm]
        refine WO_nil ?_
        refine W_ret ?_
        obtain rfl := Option.some.inj H
        exact told3 rfl
      ·
       replace H := fl hc H
       simp only [putT,st,ev,gt,hp,ofV,constT,intT,lm]
       iterate 4 refine WO_skip rfl rfl ?_
       refine WO_op (x := qb false) rfl rfl rfl ?_
       refine WO_op rfl rfl rfl ?_; simp only [putT,st,ev,gt,hp,ofV,constT,intT,lm]
       iterate 4 refine WO_skip rfl rfl ?_
       refine WO_op (x := qb false) rfl rfl rfl ?_
       refine WO_op rfl rfl rfl ?_; simp only [putT,st,ev,gt,hp,ofV,constT,intT,lm]
       iterate 4 refine WO_skip rfl rfl ?_
       refine WO_op (x := qb false) rfl rfl rfl ?_
       refine WO_op rfl rfl rfl ?_; simp only [putT,st,ev,gt,hp,ofV,constT,intT,lm]
       iterate 5 refine WO_skip rfl rfl ?_
       refine WO_op (x := qb false) rfl rfl rfl ?_
       refine WO_op rfl rfl rfl ?_; simp only [putT,st,ev,gt,hp,ofV,constT,intT,lm]
       refine WO_nil ?_
       refine W_ret ?_
       obtain rfl := Option.some.inj H
       exact told3 rfl
  ·
   intro V1 hV1 hW1 hX1
   refine (laws_FnStays.l0.partial_correctness x3 (fun v4 v5 s' => s' = t10 → (V1 ⟨[.no, .no, .no, .bp 0 0, .bp 1 0, qi x3.2.2.1, .no, .row 0, qi v4], [some [qs x3.1.Name, qs x3.1.Target, qi x3.1.Low, qi x3.1.High, .c (cL enc_Metric x3.1.Metrics), qi x3.1.Pace.Up, qi x3.1.Pace.Down, qi x3.1.Pace.UpSpan, qi x3.1.Pace.DownSpan, .c (cL enc_Note x3.1.Notes)], some [qs x3.2.1.Name, qi x3.2.1.Now, .row 1]], [rr 2 enc_Sample v5 true, rr 2 enc_Rec x3.2.1.Recs true]⟩)) ?_ _ _ _ ht10 rfl)
   intro l0 IH1 v4 v5 s' H1 e
   subst e
   refine hV1 _ ?_
   refine W_seq (W_seq (W_region ?_))
   refine WO_op rfl rfl rfl ?_
   refine WO_op (x := .bp 0 4) rfl rfl rfl ?_
   refine WO_op (x := .c (cL enc_Metric x3.1.Metrics)) rfl rfl rfl ?_; simp only [putT,st,ev,gt,hp,ofV,constT,intT,lm]
   iterate 2 (refine WO_op rfl rfl rfl ?_; simp only [putT,st,ev,gt,hp,ofV,constT,intT,lm])
   refine WO_nil ?_
   refine W_cond rfl (fun hc => ?_) (fun hc => ?_)
   ·
    replace H1 := tr hc H1
    refine W_skip ?_
    refine W_seq ?_
    refine W_block ?_
    refine W_seq (W_region ?_)
    refine WO_op (x := .bp 0 4) rfl rfl rfl ?_
    refine WO_op (x := .c (cL enc_Metric x3.1.Metrics)) rfl rfl rfl ?_
    refine WO_op rfl rfl rfl ?_; simp only [putT,st,ev,gt,hp,ofV,constT,intT,lm]
    obtain ⟨x6, hx6, H1⟩ := bnd H1
    refine WO_op rfl rfl (ev_ix (en := enc_Metric) hx6 rfl rfl rfl rfl rfl rfl rfl) ?_; simp only [putT,st,ev,gt,hp,ofV,constT,intT,lm]
    refine WO_op (x := .cp (enc_Metric x6) 1) rfl rfl rfl ?_
    refine WO_op (x := qi x6.Kind) rfl rfl rfl ?_
    refine WO_op rfl rfl rfl ?_; simp only [putT,st,ev,gt,hp,ofV,constT,intT,lm]
    refine WO_nil ?_
    refine W_cond rfl (fun hc => ?_) (fun hc => ?_)
    ·
     replace H1 := tr hc H1
     refine W_draw (by kernel_rfl) (by kernel_rfl) ?_
     refine WO_op rfl rfl rfl ?_
     refine WO_op (x := .bp 0 4) rfl rfl rfl ?_
     refine WO_op (x := .c (cL enc_Metric x3.1.Metrics)) rfl rfl rfl ?_
     refine WO_op rfl rfl rfl ?_; simp only [putT,st,ev,gt,hp,ofV,constT,intT,lm]
     obtain ⟨x7, hx7, H1⟩ := bnd H1
     refine WO_op rfl rfl (ev_ix (en := enc_Metric) hx7 rfl rfl rfl rfl rfl rfl rfl) ?_; simp only [putT,st,ev,gt,hp,ofV,constT,intT,lm]
     refine WO_op (x := .cp (enc_Metric x7) 0) rfl rfl rfl ?_
     refine WO_op (x := qs x7.Name) rfl rfl rfl ?_
     refine WO_op (x := .bp 0 4) rfl rfl rfl ?_
     refine WO_op (x := .c (cL enc_Metric x3.1.Metrics)) rfl rfl rfl ?_; simp only [putT,st,ev,gt,hp,ofV,constT,intT,lm]
     refine WO_op rfl rfl rfl ?_; simp only [putT,st,ev,gt,hp,ofV,constT,intT,lm]
     obtain ⟨x8, hx8, H1⟩ := bnd H1
     refine WO_op rfl rfl (ev_ix (en := enc_Metric) hx8 rfl rfl rfl rfl rfl rfl rfl) ?_; simp only [putT,st,ev,gt,hp,ofV,constT,intT,lm]
     refine WO_op (x := .cp (enc_Metric x8) 2) rfl rfl rfl ?_
     refine WO_op (x := qi x8.Goal) rfl rfl rfl ?_
     refine WO_op (x := .ag [qs x7.Name, qi x8.Goal]) rfl rfl rfl ?_; simp only [putT,st,ev,gt,hp,ofV,constT,intT,lm]
     refine WO_op (x := .row 2) (σ' := ⟨[], [some [qs x3.1.Name, qs x3.1.Target, qi x3.1.Low, qi x3.1.High, .c (cL enc_Metric x3.1.Metrics), qi x3.1.Pace.Up, qi x3.1.Pace.Down, qi x3.1.Pace.UpSpan, qi x3.1.Pace.DownSpan, .c (cL enc_Note x3.1.Notes)], some [qs x3.2.1.Name, qi x3.2.1.Now, .row 1]], [rr 2 enc_Sample v5 true, rr 2 enc_Rec x3.2.1.Recs true, rr 2 enc_Sample ([(Sample.mk x7.Name x8.Goal)] : List Sample) true]⟩) rfl rfl (ev_bs ([(Sample.mk x7.Name x8.Goal)] : List Sample) enc_Sample rfl rfl rfl rfl) ?_; simp only [putT,st,ev,gt,hp,ofV,constT,intT,lm]
     obtain ⟨m9, hm9, H1⟩ := bnd H1
     refine WO_op (x := .row 3) (σ' := ⟨[], [some [qs x3.1.Name, qs x3.1.Target, qi x3.1.Low, qi x3.1.High, .c (cL enc_Metric x3.1.Metrics), qi x3.1.Pace.Up, qi x3.1.Pace.Down, qi x3.1.Pace.UpSpan, qi x3.1.Pace.DownSpan, .c (cL enc_Note x3.1.Notes)], some [qs x3.2.1.Name, qi x3.2.1.Now, .row 1]], [none, rr 2 enc_Rec x3.2.1.Recs true, rr 2 enc_Sample ([(Sample.mk x7.Name x8.Goal)] : List Sample) true, rr 2 enc_Sample m9 true]⟩) rfl rfl (ev_app (en := enc_Sample) hm9 rfl rfl rfl rfl (Or.inl rfl) rfl rfl rfl rfl rfl rfl rfl rfl rfl rfl rfl (fun _ => rfl) rfl (Or.inr rfl) rfl) ?_; simp only [putT,st,ev,gt,hp,ofV,constT,intT,lm]
     refine WO_op rfl rfl rfl ?_; simp only [putT,st,ev,gt,hp,ofV,constT,intT,lm]
     refine WO_nil (W_region ?_)
     iterate 3 (refine WO_op rfl rfl rfl ?_; simp only [putT,st,ev,gt,hp,ofV,constT,intT,lm])
     refine WO_nil ?_
     exact hW1 _ _ ((IH1 _ _ _ H1 rfl)) (le_intro [0, 1] [3, 1] (by decide) (by decide) rfl (by simp [leS, leT, leA, gt]) (by simp [leB, leT, leA]) (by simp [leR]))
    ·
     replace H1 := fl hc H1
     refine W_skip ?_
     refine W_region ?_
     iterate 3 (refine WO_op rfl rfl rfl ?_; simp only [putT,st,ev,gt,hp,ofV,constT,intT,lm])
     refine WO_nil ?_
     exact hW1 _ _ ((IH1 _ _ _ H1 rfl)) (le_intro [0, 1] [0, 1] (by decide) (by decide) rfl (by simp [leS, leT, leA, gt]) (by simp [leB, leT, leA]) (by simp [leR]))
   ·
    replace H1 := fl hc H1
    refine W_exit ?_
    obtain rfl := Option.some.inj H1
    exact hX1 v5 _ rfl (le_intro [0, 1] [0, 1] (by decide) (by decide) rfl (by simp [leS, leT, leA, gt]) (by simp [leB, leT, leA]) (by simp [leR]))
end Go.Pu
