import Derived.Test.YtajbkchcdiialaaGreatSettleOk0
import Derived.Test.YtajbkchcdiialaaGreatSettleOk1
import Derived.Test.YtajbkchcdiialaaGreatSettleOk3
set_option linter.unusedVariables false
set_option linter.unusedSimpArgs false
set_option synthInstance.maxSize 1000000000
set_option maxRecDepth 20000
set_option maxHeartbeats 20000000
namespace Go.Pu
open Go Go.SX Go.Nt Go.Proofs
theorem laws_FnExactSettle_ok {a1 : Order} {a2 : Scale} {a3 : Int} {a4 : List Sample} {a5 : Int} {r : Bool} (H : laws_FnExactSettle a1 a2 a3 a4 a5 = some r) : R 4 [.ag [(cS a1.Name, none), (cS a1.Target, none), (cI .i64 a1.Low, none), (cI .i64 a1.High, none), (cL enc_Metric a1.Metrics, none), (cI .i64 a1.Pace.Up, none), (cI .i64 a1.Pace.Down, none), (cI .i64 a1.Pace.UpSpan, none), (cI .i64 a1.Pace.DownSpan, none), (cL enc_Note a1.Notes, none)], .ag [(cS a2.Name, none), (cI .i64 a2.Now, none), (cL enc_Rec a2.Recs, none)], .c (cI .i64 a3) none, .c (cL enc_Sample a4) none, .c (cI .i64 a5) none] = some (.c (cB r) none, []) := by
 unfold laws_FnExactSettle at H
 refine Fz_walk 125 rfl rfl Tryz.func4 rfl (by kernel_rfl) rfl rfl rfl rfl ?_
 simp only [tellVs, tellV, tells, tell, st0, padT, SX.newRow, SX.newBox, List.length_cons, List.length_nil, Nat.reduceAdd, Nat.reduceSub, List.replicate, List.cons_append, List.nil_append, List.foldl_cons, List.foldl_nil]
 refine W_seq (W_region ?_)
 refine WO_op (x := .bp 0 0) (σ' := ⟨[], [some [qs a1.Name, qs a1.Target, qi a1.Low, qi a1.High, .c (cL enc_Metric a1.Metrics), qi a1.Pace.Up, qi a1.Pace.Down, qi a1.Pace.UpSpan, qi a1.Pace.DownSpan, .c (cL enc_Note a1.Notes)]], []⟩) rfl rfl rfl ?_
 refine WO_op (x := .bp 1 0) (σ' := ⟨[], [some [qs a1.Name, qs a1.Target, qi a1.Low, qi a1.High, .c (cL enc_Metric a1.Metrics), qi a1.Pace.Up, qi a1.Pace.Down, qi a1.Pace.UpSpan, qi a1.Pace.DownSpan, .c (cL enc_Note a1.Notes)], some [qs a2.Name, qi a2.Now, .c (cL enc_Rec a2.Recs)]], []⟩) rfl rfl rfl ?_
 refine WO_op rfl rfl rfl ?_; simp only [putT,st,ev,gt,hp,ofV,constT,intT,lm]
 refine WO_nil (W_seq (W_region ?_))
 refine WO_op rfl rfl rfl ?_; simp only [putT,st,ev,gt,hp,ofV,constT,intT,lm]
 refine WO_nil (W_seq (W_region ?_))
 refine WO_op (x := .ag [qs a1.Name, qs a1.Target, qi a1.Low, qi a1.High, .c (cL enc_Metric a1.Metrics), qi a1.Pace.Up, qi a1.Pace.Down, qi a1.Pace.UpSpan, qi a1.Pace.DownSpan, .c (cL enc_Note a1.Notes)]) rfl rfl rfl ?_
 refine WO_op rfl rfl rfl ?_; simp only [putT,st,ev,gt,hp,ofV,constT,intT,lm]
 obtain ⟨x6, hx6, H⟩ := bnd H
 refine WO_op (x := qi x6) (σ' := ⟨[], [some [qs a1.Name, qs a1.Target, qi a1.Low, qi a1.High, .c (cL enc_Metric a1.Metrics), qi a1.Pace.Up, qi a1.Pace.Down, qi a1.Pace.UpSpan, qi a1.Pace.DownSpan, .c (cL enc_Note a1.Notes)], some [qs a2.Name, qi a2.Now, .c (cL enc_Rec a2.Recs)]], []⟩) rfl rfl (ev_callG (al := [.ag [qs a1.Name, qs a1.Target, qi a1.Low, qi a1.High, .c (cL enc_Metric a1.Metrics), qi a1.Pace.Up, qi a1.Pace.Down, qi a1.Pace.UpSpan, qi a1.Pace.DownSpan, .c (cL enc_Note a1.Notes)], qi 1048576]) (ls := []) (laws_szOrder_ok hx6) rfl rfl rfl rfl rfl (by decide) rfl rfl rfl rfl rfl rfl) ?_; simp only [putT,st,ev,gt,hp,ofV,constT,intT,lm]
 refine WO_op rfl rfl rfl ?_; simp only [putT,st,ev,gt,hp,ofV,constT,intT,lm]
 refine WO_nil (W_seq (W_seq (W_region ?_)))
 iterate 2 (refine WO_op rfl rfl rfl ?_; simp only [putT,st,ev,gt,hp,ofV,constT,intT,lm])
 refine WO_nil ?_
 refine W_cond rfl (fun hc => ?_) (fun hc => ?_)
 ·
  replace H := tr hc H
  refine W_seq (W_region ?_)
  refine WO_op rfl rfl rfl ?_; simp only [putT,st,ev,gt,hp,ofV,constT,intT,lm]
  refine WO_nil ?_
  refine W_ret ?_
  obtain rfl := Option.some.inj H
  exact told3 rfl
 ·
  replace H := fl hc H
  refine W_skip ?_
  refine W_seq (W_region ?_)
  refine WO_op (x := .ag [qs a2.Name, qi a2.Now, .c (cL enc_Rec a2.Recs)]) rfl rfl rfl ?_
  refine WO_op rfl rfl rfl ?_; simp only [putT,st,ev,gt,hp,ofV,constT,intT,lm]
  obtain ⟨x7, hx7, H⟩ := bnd H
  refine WO_op (x := qi x7) (σ' := ⟨[], [some [qs a1.Name, qs a1.Target, qi a1.Low, qi a1.High, .c (cL enc_Metric a1.Metrics), qi a1.Pace.Up, qi a1.Pace.Down, qi a1.Pace.UpSpan, qi a1.Pace.DownSpan, .c (cL enc_Note a1.Notes)], some [qs a2.Name, qi a2.Now, .c (cL enc_Rec a2.Recs)]], []⟩) rfl rfl (ev_callG (al := [.ag [qs a2.Name, qi a2.Now, .c (cL enc_Rec a2.Recs)], qi x6]) (ls := []) (laws_szScale_ok hx7) rfl rfl rfl rfl rfl (by decide) rfl rfl rfl rfl rfl rfl) ?_; simp only [putT,st,ev,gt,hp,ofV,constT,intT,lm]
  refine WO_op rfl rfl rfl ?_; simp only [putT,st,ev,gt,hp,ofV,constT,intT,lm]
  refine WO_nil (W_seq (W_seq (W_region ?_)))
  iterate 2 (refine WO_op rfl rfl rfl ?_; simp only [putT,st,ev,gt,hp,ofV,constT,intT,lm])
  refine WO_nil ?_
  refine W_cond rfl (fun hc => ?_) (fun hc => ?_)
  ·
   replace H := tr hc H
   refine W_seq (W_region ?_)
   refine WO_op rfl rfl rfl ?_; simp only [putT,st,ev,gt,hp,ofV,constT,intT,lm]
   refine WO_nil ?_
   refine W_ret ?_
   obtain rfl := Option.some.inj H
   exact told3 rfl
  ·
   replace H := fl hc H
   refine W_skip ?_
   refine W_seq (W_region ?_)
   iterate 2 (refine WO_op rfl rfl rfl ?_; simp only [putT,st,ev,gt,hp,ofV,constT,intT,lm])
   obtain ⟨x8, hx8, H⟩ := bnd H
   refine WO_op (x := qi x8) (σ' := ⟨[], [some [qs a1.Name, qs a1.Target, qi a1.Low, qi a1.High, .c (cL enc_Metric a1.Metrics), qi a1.Pace.Up, qi a1.Pace.Down, qi a1.Pace.UpSpan, qi a1.Pace.DownSpan, .c (cL enc_Note a1.Notes)], some [qs a2.Name, qi a2.Now, .c (cL enc_Rec a2.Recs)]], []⟩) rfl rfl (ev_callG (al := [.c (cL enc_Sample a4), qi x7]) (ls := []) (laws_szSampleS_ok hx8) rfl rfl rfl rfl rfl (by decide) rfl rfl rfl rfl rfl rfl) ?_; simp only [putT,st,ev,gt,hp,ofV,constT,intT,lm]
   refine WO_op rfl rfl rfl ?_; simp only [putT,st,ev,gt,hp,ofV,constT,intT,lm]
   refine WO_nil (W_seq (W_seq (W_region ?_)))
   iterate 2 (refine WO_op rfl rfl rfl ?_; simp only [putT,st,ev,gt,hp,ofV,constT,intT,lm])
   refine WO_nil ?_
   refine W_cond rfl (fun hc => ?_) (fun hc => ?_)
   ·
    replace H := tr hc H
    refine W_seq (W_region ?_)
    refine WO_op rfl rfl rfl ?_; simp only [putT,st,ev,gt,hp,ofV,constT,intT,lm]
    refine WO_nil ?_
    refine W_ret ?_
    obtain rfl := Option.some.inj H
    exact told3 rfl
   ·
    replace H := fl hc H
    refine W_skip ?_
    refine W_seq ?_
    refine W_lateL [12] (by kernel_rfl) (by decide +kernel) rfl ?_; simp only [clr,List.foldl,putT,st,ev,gt,hp,ofV,constT,intT,lm]
    refine WL_op (x := .ag [qs a1.Name, qs a1.Target, qi a1.Low, qi a1.High, .c (cL enc_Metric a1.Metrics), qi a1.Pace.Up, qi a1.Pace.Down, qi a1.Pace.UpSpan, qi a1.Pace.DownSpan, .c (cL enc_Note a1.Notes)]) rfl rfl rfl rfl ?_; simp only [putT,st,ev,gt,hp,ofV,constT,intT,lm]
    obtain ⟨x9, hx9, H⟩ := bnd H
    refine WL_op (x := .ag [qs x9.Name, qs x9.Target, qi x9.Low, qi x9.High, .row 0, qi x9.Pace.Up, qi x9.Pace.Down, qi x9.Pace.UpSpan, qi x9.Pace.DownSpan, .row 1]) (σ' := ⟨[], [some [qs a1.Name, qs a1.Target, qi a1.Low, qi a1.High, .c (cL enc_Metric a1.Metrics), qi a1.Pace.Up, qi a1.Pace.Down, qi a1.Pace.UpSpan, qi a1.Pace.DownSpan, .c (cL enc_Note a1.Notes)], some [qs a2.Name, qi a2.Now, .c (cL enc_Rec a2.Recs)]], [rr 3 enc_Metric x9.Metrics true, rr 2 enc_Note x9.Notes true]⟩) rfl rfl rfl (ev_callG (al := [.ag [qs a1.Name, qs a1.Target, qi a1.Low, qi a1.High, .c (cL enc_Metric a1.Metrics), qi a1.Pace.Up, qi a1.Pace.Down, qi a1.Pace.UpSpan, qi a1.Pace.DownSpan, .c (cL enc_Note a1.Notes)]]) (ls := []) (laws_toOrder_ok hx9) rfl rfl rfl rfl rfl (by decide) rfl rfl (by simp only [flatA, flatV, flatC, List.all_cons, List.all_nil, Option.all_some, Bool.and_self, Bool.or_true, fl_Metric, fl_Note]) rfl rfl rfl) ?_; simp only [putT,st,ev,gt,hp,ofV,constT,intT,lm]
    refine WL_op (x := .ag [qs a2.Name, qi a2.Now, .c (cL enc_Rec a2.Recs)]) rfl rfl rfl rfl ?_; simp only [putT,st,ev,gt,hp,ofV,constT,intT,lm]
    obtain ⟨x10, hx10, H⟩ := bnd H
    refine WL_op (x := .ag [qs x10.Name, qi x10.Now, .row 2]) (σ' := ⟨[], [some [qs a1.Name, qs a1.Target, qi a1.Low, qi a1.High, .c (cL enc_Metric a1.Metrics), qi a1.Pace.Up, qi a1.Pace.Down, qi a1.Pace.UpSpan, qi a1.Pace.DownSpan, .c (cL enc_Note a1.Notes)], some [qs a2.Name, qi a2.Now, .c (cL enc_Rec a2.Recs)]], [rr 3 enc_Metric x9.Metrics true, rr 2 enc_Note x9.Notes true, rr 2 enc_Rec x10.Recs true]⟩) rfl rfl rfl (ev_callG (al := [.ag [qs a2.Name, qi a2.Now, .c (cL enc_Rec a2.Recs)]]) (ls := []) (laws_toScale_ok hx10) rfl rfl rfl rfl rfl (by decide) rfl rfl (by simp only [flatA, flatV, flatC, List.all_cons, List.all_nil, Option.all_some, Bool.and_self, Bool.or_true, fl_Rec]) rfl rfl rfl) ?_; simp only [putT,st,ev,gt,hp,ofV,constT,intT,lm]
    iterate 2 (refine WL_op rfl rfl rfl rfl ?_; simp only [putT,st,ev,gt,hp,ofV,constT,intT,lm])
    obtain ⟨x11, hx11, H⟩ := bnd H
    refine WL_op (x := .row 3) (σ' := ⟨[], [some [qs a1.Name, qs a1.Target, qi a1.Low, qi a1.High, .c (cL enc_Metric a1.Metrics), qi a1.Pace.Up, qi a1.Pace.Down, qi a1.Pace.UpSpan, qi a1.Pace.DownSpan, .c (cL enc_Note a1.Notes)], some [qs a2.Name, qi a2.Now, .c (cL enc_Rec a2.Recs)]], [rr 3 enc_Metric x9.Metrics true, rr 2 enc_Note x9.Notes true, rr 2 enc_Rec x10.Recs true, rr 2 enc_Sample x11 true]⟩) rfl rfl rfl (ev_callG (al := [.c (cL enc_Sample a4)]) (ls := []) (laws_toSampleS_ok hx11) rfl rfl rfl rfl rfl (by decide) rfl rfl (by simp only [flatA, flatV, flatC, List.all_cons, List.all_nil, Option.all_some, Bool.and_self, Bool.or_true, fl_Sample]) rfl rfl rfl) ?_; simp only [putT,st,ev,gt,hp,ofV,constT,intT,lm]
    refine WL_op rfl rfl rfl rfl ?_; simp only [putT,st,ev,gt,hp,ofV,constT,intT,lm]
    obtain ⟨x12, hx12, H⟩ := bnd H
    refine WL_op (x := .ag [qs x12.Name, qi x12.Now, .row 4]) (σ' := ⟨[], [some [qs a1.Name, qs a1.Target, qi a1.Low, qi a1.High, .c (cL enc_Metric a1.Metrics), qi a1.Pace.Up, qi a1.Pace.Down, qi a1.Pace.UpSpan, qi a1.Pace.DownSpan, .c (cL enc_Note a1.Notes)], some [qs a2.Name, qi a2.Now, .c (cL enc_Rec a2.Recs)]], [rr 3 enc_Metric x9.Metrics true, rr 2 enc_Note x9.Notes true, rr 2 enc_Rec x10.Recs true, rr 2 enc_Sample x11 true, rr 2 enc_Rec x12.Recs true]⟩) rfl rfl rfl (ev_callG (al := [.ag [qs x9.Name, qs x9.Target, qi x9.Low, qi x9.High, .row 0, qi x9.Pace.Up, qi x9.Pace.Down, qi x9.Pace.UpSpan, qi x9.Pace.DownSpan, .row 1], .ag [qs x10.Name, qi x10.Now, .row 2], qi a3, .row 3, qi a5]) (ls := []) (spec_Settle_ok hx12) rfl rfl rfl rfl rfl (by decide) rfl rfl (by simp only [flatA, flatV, flatC, List.all_cons, List.all_nil, Option.all_some, Bool.and_self, Bool.or_true, fl_Rec]) rfl rfl rfl) ?_; simp only [putT,st,ev,gt,hp,ofV,constT,intT,lm]
    refine WL_op (x := .bp 2 0) (σ' := ⟨[], [some [qs a1.Name, qs a1.Target, qi a1.Low, qi a1.High, .c (cL enc_Metric a1.Metrics), qi a1.Pace.Up, qi a1.Pace.Down, qi a1.Pace.UpSpan, qi a1.Pace.DownSpan, .c (cL enc_Note a1.Notes)], some [qs a2.Name, qi a2.Now, .c (cL enc_Rec a2.Recs)], some [qs [], qi 0, .nil]], [rr 3 enc_Metric x9.Metrics true, rr 2 enc_Note x9.Notes true, rr 2 enc_Rec x10.Recs true, rr 2 enc_Sample x11 true, rr 2 enc_Rec x12.Recs true]⟩) rfl rfl rfl rfl ?_
    refine WL_op (x := .no) (σ' := ⟨[], [some [qs a1.Name, qs a1.Target, qi a1.Low, qi a1.High, .c (cL enc_Metric a1.Metrics), qi a1.Pace.Up, qi a1.Pace.Down, qi a1.Pace.UpSpan, qi a1.Pace.DownSpan, .c (cL enc_Note a1.Notes)], some [qs a2.Name, qi a2.Now, .c (cL enc_Rec a2.Recs)], some [qs x12.Name, qi x12.Now, .row 4]], [rr 3 enc_Metric x9.Metrics true, rr 2 enc_Note x9.Notes true, rr 2 enc_Rec x10.Recs true, rr 2 enc_Sample x11 true, rr 2 enc_Rec x12.Recs true]⟩) rfl rfl rfl rfl ?_; simp only [putT,st,ev,gt,hp,ofV,constT,intT,lm]
    refine WL_nil (by kernel_rfl) ?_
    refine W_seq (W_region ?_)
    refine WO_op (x := .ag [qs a1.Name, qs a1.Target, qi a1.Low, qi a1.High, .c (cL enc_Metric a1.Metrics), qi a1.Pace.Up, qi a1.Pace.Down, qi a1.Pace.UpSpan, qi a1.Pace.DownSpan, .c (cL enc_Note a1.Notes)]) rfl rfl rfl ?_; simp only [putT,st,ev,gt,hp,ofV,constT,intT,lm]
    obtain ⟨x13, hx13, H⟩ := bnd H
    refine WO_op (x := .ag [qs x13.Name, qs x13.Target, qi x13.Low, qi x13.High, .row 5, qi x13.Pace.Up, qi x13.Pace.Down, qi x13.Pace.UpSpan, qi x13.Pace.DownSpan, .row 6]) (σ' := ⟨[], [some [qs a1.Name, qs a1.Target, qi a1.Low, qi a1.High, .c (cL enc_Metric a1.Metrics), qi a1.Pace.Up, qi a1.Pace.Down, qi a1.Pace.UpSpan, qi a1.Pace.DownSpan, .c (cL enc_Note a1.Notes)], some [qs a2.Name, qi a2.Now, .c (cL enc_Rec a2.Recs)], some [qs x12.Name, qi x12.Now, .row 4]], [rr 3 enc_Metric x9.Metrics true, rr 2 enc_Note x9.Notes true, rr 2 enc_Rec x10.Recs true, rr 2 enc_Sample x11 true, rr 2 enc_Rec x12.Recs true, rr 3 enc_Metric x13.Metrics true, rr 2 enc_Note x13.Notes true]⟩) rfl rfl (ev_callG (al := [.ag [qs a1.Name, qs a1.Target, qi a1.Low, qi a1.High, .c (cL enc_Metric a1.Metrics), qi a1.Pace.Up, qi a1.Pace.Down, qi a1.Pace.UpSpan, qi a1.Pace.DownSpan, .c (cL enc_Note a1.Notes)]]) (ls := []) (laws_toOrder_ok hx13) rfl rfl rfl rfl rfl (by decide) rfl rfl (by simp only [flatA, flatV, flatC, List.all_cons, List.all_nil, Option.all_some, Bool.and_self, Bool.or_true, fl_Metric, fl_Note]) rfl rfl rfl) ?_; simp only [putT,st,ev,gt,hp,ofV,constT,intT,lm]
    refine WO_op (x := .bp 3 0) (σ' := ⟨[], [some [qs a1.Name, qs a1.Target, qi a1.Low, qi a1.High, .c (cL enc_Metric a1.Metrics), qi a1.Pace.Up, qi a1.Pace.Down, qi a1.Pace.UpSpan, qi a1.Pace.DownSpan, .c (cL enc_Note a1.Notes)], some [qs a2.Name, qi a2.Now, .c (cL enc_Rec a2.Recs)], some [qs x12.Name, qi x12.Now, .row 4], some [qs [], qs [], qi 0, qi 0, .nil, qi 0, qi 0, qi 0, qi 0, .nil]], [rr 3 enc_Metric x9.Metrics true, rr 2 enc_Note x9.Notes true, rr 2 enc_Rec x10.Recs true, rr 2 enc_Sample x11 true, rr 2 enc_Rec x12.Recs true, rr 3 enc_Metric x13.Metrics true, rr 2 enc_Note x13.Notes true]⟩) rfl rfl rfl ?_
    refine WO_op (x := .no) (σ' := ⟨[], [some [qs a1.Name, qs a1.Target, qi a1.Low, qi a1.High, .c (cL enc_Metric a1.Metrics), qi a1.Pace.Up, qi a1.Pace.Down, qi a1.Pace.UpSpan, qi a1.Pace.DownSpan, .c (cL enc_Note a1.Notes)], some [qs a2.Name, qi a2.Now, .c (cL enc_Rec a2.Recs)], some [qs x12.Name, qi x12.Now, .row 4], some [qs x13.Name, qs x13.Target, qi x13.Low, qi x13.High, .row 5, qi x13.Pace.Up, qi x13.Pace.Down, qi x13.Pace.UpSpan, qi x13.Pace.DownSpan, .row 6]], [rr 3 enc_Metric x9.Metrics true, rr 2 enc_Note x9.Notes true, rr 2 enc_Rec x10.Recs true, rr 2 enc_Sample x11 true, rr 2 enc_Rec x12.Recs true, rr 3 enc_Metric x13.Metrics true, rr 2 enc_Note x13.Notes true]⟩) rfl rfl rfl ?_; simp only [putT,st,ev,gt,hp,ofV,constT,intT,lm]
    refine WO_nil (W_seq (W_region ?_))
    refine WO_op (x := .ag [qs a2.Name, qi a2.Now, .c (cL enc_Rec a2.Recs)]) rfl rfl rfl ?_; simp only [putT,st,ev,gt,hp,ofV,constT,intT,lm]
    obtain ⟨x14, hx14, H⟩ := bnd H
    refine WO_op (x := .ag [qs x14.Name, qi x14.Now, .row 7]) (σ' := ⟨[], [some [qs a1.Name, qs a1.Target, qi a1.Low, qi a1.High, .c (cL enc_Metric a1.Metrics), qi a1.Pace.Up, qi a1.Pace.Down, qi a1.Pace.UpSpan, qi a1.Pace.DownSpan, .c (cL enc_Note a1.Notes)], some [qs a2.Name, qi a2.Now, .c (cL enc_Rec a2.Recs)], some [qs x12.Name, qi x12.Now, .row 4], some [qs x13.Name, qs x13.Target, qi x13.Low, qi x13.High, .row 5, qi x13.Pace.Up, qi x13.Pace.Down, qi x13.Pace.UpSpan, qi x13.Pace.DownSpan, .row 6]], [rr 3 enc_Metric x9.Metrics true, rr 2 enc_Note x9.Notes true, rr 2 enc_Rec x10.Recs true, rr 2 enc_Sample x11 true, rr 2 enc_Rec x12.Recs true, rr 3 enc_Metric x13.Metrics true, rr 2 enc_Note x13.Notes true, rr 2 enc_Rec x14.Recs true]⟩) rfl rfl (ev_callG (al := [.ag [qs a2.Name, qi a2.Now, .c (cL enc_Rec a2.Recs)]]) (ls := []) (laws_toScale_ok hx14) rfl rfl rfl rfl rfl (by decide) rfl rfl (by simp only [flatA, flatV, flatC, List.all_cons, List.all_nil, Option.all_some, Bool.and_self, Bool.or_true, fl_Rec]) rfl rfl rfl) ?_; simp only [putT,st,ev,gt,hp,ofV,constT,intT,lm]
    refine WO_op (x := .bp 4 0) (σ' := ⟨[], [some [qs a1.Name, qs a1.Target, qi a1.Low, qi a1.High, .c (cL enc_Metric a1.Metrics), qi a1.Pace.Up, qi a1.Pace.Down, qi a1.Pace.UpSpan, qi a1.Pace.DownSpan, .c (cL enc_Note a1.Notes)], some [qs a2.Name, qi a2.Now, .c (cL enc_Rec a2.Recs)], some [qs x12.Name, qi x12.Now, .row 4], some [qs x13.Name, qs x13.Target, qi x13.Low, qi x13.High, .row 5, qi x13.Pace.Up, qi x13.Pace.Down, qi x13.Pace.UpSpan, qi x13.Pace.DownSpan, .row 6], some [qs [], qi 0, .nil]], [rr 3 enc_Metric x9.Metrics true, rr 2 enc_Note x9.Notes true, rr 2 enc_Rec x10.Recs true, rr 2 enc_Sample x11 true, rr 2 enc_Rec x12.Recs true, rr 3 enc_Metric x13.Metrics true, rr 2 enc_Note x13.Notes true, rr 2 enc_Rec x14.Recs true]⟩) rfl rfl rfl ?_
    refine WO_op (x := .no) (σ' := ⟨[], [some [qs a1.Name, qs a1.Target, qi a1.Low, qi a1.High, .c (cL enc_Metric a1.Metrics), qi a1.Pace.Up, qi a1.Pace.Down, qi a1.Pace.UpSpan, qi a1.Pace.DownSpan, .c (cL enc_Note a1.Notes)], some [qs a2.Name, qi a2.Now, .c (cL enc_Rec a2.Recs)], some [qs x12.Name, qi x12.Now, .row 4], some [qs x13.Name, qs x13.Target, qi x13.Low, qi x13.High, .row 5, qi x13.Pace.Up, qi x13.Pace.Down, qi x13.Pace.UpSpan, qi x13.Pace.DownSpan, .row 6], some [qs x14.Name, qi x14.Now, .row 7]], [rr 3 enc_Metric x9.Metrics true, rr 2 enc_Note x9.Notes true, rr 2 enc_Rec x10.Recs true, rr 2 enc_Sample x11 true, rr 2 enc_Rec x12.Recs true, rr 3 enc_Metric x13.Metrics true, rr 2 enc_Note x13.Notes true, rr 2 enc_Rec x14.Recs true]⟩) rfl rfl rfl ?_; simp only [putT,st,ev,gt,hp,ofV,constT,intT,lm]
    refine WO_nil (W_seq (W_region ?_))
    refine WO_op rfl rfl rfl ?_; simp only [putT,st,ev,gt,hp,ofV,constT,intT,lm]
    obtain ⟨x15, hx15, H⟩ := bnd H
    refine WO_op (x := .row 8) (σ' := ⟨[], [some [qs a1.Name, qs a1.Target, qi a1.Low, qi a1.High, .c (cL enc_Metric a1.Metrics), qi a1.Pace.Up, qi a1.Pace.Down, qi a1.Pace.UpSpan, qi a1.Pace.DownSpan, .c (cL enc_Note a1.Notes)], some [qs a2.Name, qi a2.Now, .c (cL enc_Rec a2.Recs)], some [qs x12.Name, qi x12.Now, .row 4], some [qs x13.Name, qs x13.Target, qi x13.Low, qi x13.High, .row 5, qi x13.Pace.Up, qi x13.Pace.Down, qi x13.Pace.UpSpan, qi x13.Pace.DownSpan, .row 6], some [qs x14.Name, qi x14.Now, .row 7]], [rr 3 enc_Metric x9.Metrics true, rr 2 enc_Note x9.Notes true, rr 2 enc_Rec x10.Recs true, rr 2 enc_Sample x11 true, rr 2 enc_Rec x12.Recs true, rr 3 enc_Metric x13.Metrics true, rr 2 enc_Note x13.Notes true, rr 2 enc_Rec x14.Recs true, rr 2 enc_Sample x15 true]⟩) rfl rfl (ev_callG (al := [.c (cL enc_Sample a4)]) (ls := []) (laws_toSampleS_ok hx15) rfl rfl rfl rfl rfl (by decide) rfl rfl (by simp only [flatA, flatV, flatC, List.all_cons, List.all_nil, Option.all_some, Bool.and_self, Bool.or_true, fl_Sample]) rfl rfl rfl) ?_; simp only [putT,st,ev,gt,hp,ofV,constT,intT,lm]
    refine WO_op rfl rfl rfl ?_; simp only [putT,st,ev,gt,hp,ofV,constT,intT,lm]
    refine WO_nil (W_seq (W_region ?_))
    refine WO_op (x := .ag [qs x13.Name, qs x13.Target, qi x13.Low, qi x13.High, .row 5, qi x13.Pace.Up, qi x13.Pace.Down, qi x13.Pace.UpSpan, qi x13.Pace.DownSpan, .row 6]) rfl rfl rfl ?_
    refine WO_op (x := .ag [qs x14.Name, qi x14.Now, .row 7]) rfl rfl rfl ?_; simp only [putT,st,ev,gt,hp,ofV,constT,intT,lm]
    iterate 3 (refine WO_op rfl rfl rfl ?_; simp only [putT,st,ev,gt,hp,ofV,constT,intT,lm])
    obtain ⟨x16, hx16, H⟩ := bnd H
    refine WO_op (x := .ag [qs x16.Name, qi x16.Now, .row 9]) (σ' := ⟨[], [some [qs a1.Name, qs a1.Target, qi a1.Low, qi a1.High, .c (cL enc_Metric a1.Metrics), qi a1.Pace.Up, qi a1.Pace.Down, qi a1.Pace.UpSpan, qi a1.Pace.DownSpan, .c (cL enc_Note a1.Notes)], some [qs a2.Name, qi a2.Now, .c (cL enc_Rec a2.Recs)], some [qs x12.Name, qi x12.Now, .row 4], some [qs x13.Name, qs x13.Target, qi x13.Low, qi x13.High, .row 5, qi x13.Pace.Up, qi x13.Pace.Down, qi x13.Pace.UpSpan, qi x13.Pace.DownSpan, .row 6], some [qs x14.Name, qi x14.Now, .row 7]], [rr 3 enc_Metric x9.Metrics true, rr 2 enc_Note x9.Notes true, rr 2 enc_Rec x10.Recs true, rr 2 enc_Sample x11 true, rr 2 enc_Rec x12.Recs true, rr 3 enc_Metric x13.Metrics true, rr 2 enc_Note x13.Notes true, rr 2 enc_Rec x14.Recs true, rr 2 enc_Sample x15 true, rr 2 enc_Rec x16.Recs true]⟩) rfl rfl (ev_callG (al := [.ag [qs x13.Name, qs x13.Target, qi x13.Low, qi x13.High, .row 5, qi x13.Pace.Up, qi x13.Pace.Down, qi x13.Pace.UpSpan, qi x13.Pace.DownSpan, .row 6], .ag [qs x14.Name, qi x14.Now, .row 7], qi a3, .row 8, qi a5]) (ls := []) (impl_Settle_ok hx16) rfl rfl rfl rfl rfl (by decide) rfl rfl (by simp only [flatA, flatV, flatC, List.all_cons, List.all_nil, Option.all_some, Bool.and_self, Bool.or_true, fl_Rec]) rfl rfl rfl) ?_; simp only [putT,st,ev,gt,hp,ofV,constT,intT,lm]
    refine WO_op (x := .bp 5 0) (σ' := ⟨[], [some [qs a1.Name, qs a1.Target, qi a1.Low, qi a1.High, .c (cL enc_Metric a1.Metrics), qi a1.Pace.Up, qi a1.Pace.Down, qi a1.Pace.UpSpan, qi a1.Pace.DownSpan, .c (cL enc_Note a1.Notes)], some [qs a2.Name, qi a2.Now, .c (cL enc_Rec a2.Recs)], some [qs x12.Name, qi x12.Now, .row 4], some [qs x13.Name, qs x13.Target, qi x13.Low, qi x13.High, .row 5, qi x13.Pace.Up, qi x13.Pace.Down, qi x13.Pace.UpSpan, qi x13.Pace.DownSpan, .row 6], some [qs x14.Name, qi x14.Now, .row 7], some [qs [], qi 0, .nil]], [rr 3 enc_Metric x9.Metrics true, rr 2 enc_Note x9.Notes true, rr 2 enc_Rec x10.Recs true, rr 2 enc_Sample x11 true, rr 2 enc_Rec x12.Recs true, rr 3 enc_Metric x13.Metrics true, rr 2 enc_Note x13.Notes true, rr 2 enc_Rec x14.Recs true, rr 2 enc_Sample x15 true, rr 2 enc_Rec x16.Recs true]⟩) rfl rfl rfl ?_
    refine WO_op (x := .no) (σ' := ⟨[], [some [qs a1.Name, qs a1.Target, qi a1.Low, qi a1.High, .c (cL enc_Metric a1.Metrics), qi a1.Pace.Up, qi a1.Pace.Down, qi a1.Pace.UpSpan, qi a1.Pace.DownSpan, .c (cL enc_Note a1.Notes)], some [qs a2.Name, qi a2.Now, .c (cL enc_Rec a2.Recs)], some [qs x12.Name, qi x12.Now, .row 4], some [qs x13.Name, qs x13.Target, qi x13.Low, qi x13.High, .row 5, qi x13.Pace.Up, qi x13.Pace.Down, qi x13.Pace.UpSpan, qi x13.Pace.DownSpan, .row 6], some [qs x14.Name, qi x14.Now, .row 7], some [qs x16.Name, qi x16.Now, .row 9]], [rr 3 enc_Metric x9.Metrics true, rr 2 enc_Note x9.Notes true, rr 2 enc_Rec x10.Recs true, rr 2 enc_Sample x11 true, rr 2 enc_Rec x12.Recs true, rr 3 enc_Metric x13.Metrics true, rr 2 enc_Note x13.Notes true, rr 2 enc_Rec x14.Recs true, rr 2 enc_Sample x15 true, rr 2 enc_Rec x16.Recs true]⟩) rfl rfl rfl ?_; simp only [putT,st,ev,gt,hp,ofV,constT,intT,lm]
    refine WO_nil (W_seq (W_seq (W_region ?_)))
    refine WO_op (x := .ag [qs x16.Name, qi x16.Now, .row 9]) rfl rfl rfl ?_
    refine WO_op (x := .ag [qs x12.Name, qi x12.Now, .row 4]) rfl rfl rfl ?_; simp only [putT,st,ev,gt,hp,ofV,constT,intT,lm]
    obtain ⟨x17, hx17, H⟩ := bnd H
    refine WO_op (x := qb x17) (σ' := ⟨[], [some [qs a1.Name, qs a1.Target, qi a1.Low, qi a1.High, .c (cL enc_Metric a1.Metrics), qi a1.Pace.Up, qi a1.Pace.Down, qi a1.Pace.UpSpan, qi a1.Pace.DownSpan, .c (cL enc_Note a1.Notes)], some [qs a2.Name, qi a2.Now, .c (cL enc_Rec a2.Recs)], some [qs x12.Name, qi x12.Now, .row 4], some [qs x13.Name, qs x13.Target, qi x13.Low, qi x13.High, .row 5, qi x13.Pace.Up, qi x13.Pace.Down, qi x13.Pace.UpSpan, qi x13.Pace.DownSpan, .row 6], some [qs x14.Name, qi x14.Now, .row 7], some [qs x16.Name, qi x16.Now, .row 9]], [rr 3 enc_Metric x9.Metrics true, rr 2 enc_Note x9.Notes true, rr 2 enc_Rec x10.Recs true, rr 2 enc_Sample x11 true, rr 2 enc_Rec x12.Recs true, rr 3 enc_Metric x13.Metrics true, rr 2 enc_Note x13.Notes true, rr 2 enc_Rec x14.Recs true, rr 2 enc_Sample x15 true, rr 2 enc_Rec x16.Recs true]⟩) rfl rfl (ev_callG (al := [.ag [qs x16.Name, qi x16.Now, .row 9], .ag [qs x12.Name, qi x12.Now, .row 4]]) (ls := []) (laws_eqScale_ok hx17) rfl rfl rfl rfl rfl (by decide) rfl rfl rfl rfl rfl rfl) ?_; simp only [putT,st,ev,gt,hp,ofV,constT,intT,lm]
    refine WO_op rfl rfl rfl ?_; simp only [putT,st,ev,gt,hp,ofV,constT,intT,lm]
    refine WO_nil ?_
    refine W_cond rfl (fun hc => ?_) (fun hc => ?_)
    ·
     replace H := tr hc H
     refine W_seq (W_region ?_)
     refine WO_op rfl rfl rfl ?_; simp only [putT,st,ev,gt,hp,ofV,constT,intT,lm]
     refine WO_nil ?_
     refine W_ret ?_
     obtain rfl := Option.some.inj H
     exact told3 rfl
    ·
     replace H := fl hc H
     refine W_skip ?_
     refine W_seq (W_seq ?_)
     refine W_drawL (by kernel_rfl) (by decide +kernel) ?_
     refine WL_op (x := .ag [qs x13.Name, qs x13.Target, qi x13.Low, qi x13.High, .row 5, qi x13.Pace.Up, qi x13.Pace.Down, qi x13.Pace.UpSpan, qi x13.Pace.DownSpan, .row 6]) rfl rfl rfl rfl ?_
     refine WL_op (x := .ag [qs a1.Name, qs a1.Target, qi a1.Low, qi a1.High, .c (cL enc_Metric a1.Metrics), qi a1.Pace.Up, qi a1.Pace.Down, qi a1.Pace.UpSpan, qi a1.Pace.DownSpan, .c (cL enc_Note a1.Notes)]) rfl rfl rfl rfl ?_; simp only [putT,st,ev,gt,hp,ofV,constT,intT,lm]
     obtain ⟨x18, hx18, H⟩ := bnd H
     refine WL_op (x := .ag [qs x18.Name, qs x18.Target, qi x18.Low, qi x18.High, .row 10, qi x18.Pace.Up, qi x18.Pace.Down, qi x18.Pace.UpSpan, qi x18.Pace.DownSpan, .row 11]) (σ' := ⟨[], [some [qs a1.Name, qs a1.Target, qi a1.Low, qi a1.High, .c (cL enc_Metric a1.Metrics), qi a1.Pace.Up, qi a1.Pace.Down, qi a1.Pace.UpSpan, qi a1.Pace.DownSpan, .c (cL enc_Note a1.Notes)], some [qs a2.Name, qi a2.Now, .c (cL enc_Rec a2.Recs)], some [qs x12.Name, qi x12.Now, .row 4], some [qs x13.Name, qs x13.Target, qi x13.Low, qi x13.High, .row 5, qi x13.Pace.Up, qi x13.Pace.Down, qi x13.Pace.UpSpan, qi x13.Pace.DownSpan, .row 6], some [qs x14.Name, qi x14.Now, .row 7], some [qs x16.Name, qi x16.Now, .row 9]], [rr 3 enc_Metric x9.Metrics true, rr 2 enc_Note x9.Notes true, rr 2 enc_Rec x10.Recs true, rr 2 enc_Sample x11 true, rr 2 enc_Rec x12.Recs true, rr 3 enc_Metric x13.Metrics true, rr 2 enc_Note x13.Notes true, rr 2 enc_Rec x14.Recs true, rr 2 enc_Sample x15 true, rr 2 enc_Rec x16.Recs true, rr 3 enc_Metric x18.Metrics true, rr 2 enc_Note x18.Notes true]⟩) rfl rfl rfl (ev_callG (al := [.ag [qs a1.Name, qs a1.Target, qi a1.Low, qi a1.High, .c (cL enc_Metric a1.Metrics), qi a1.Pace.Up, qi a1.Pace.Down, qi a1.Pace.UpSpan, qi a1.Pace.DownSpan, .c (cL enc_Note a1.Notes)]]) (ls := []) (laws_toOrder_ok hx18) rfl rfl rfl rfl rfl (by decide) rfl rfl (by simp only [flatA, flatV, flatC, List.all_cons, List.all_nil, Option.all_some, Bool.and_self, Bool.or_true, fl_Metric, fl_Note]) rfl rfl rfl) ?_; simp only [putT,st,ev,gt,hp,ofV,constT,intT,lm]
     obtain ⟨x19, hx19, H⟩ := bnd H
     refine WL_op (x := qb x19) (σ' := ⟨[], [some [qs a1.Name, qs a1.Target, qi a1.Low, qi a1.High, .c (cL enc_Metric a1.Metrics), qi a1.Pace.Up, qi a1.Pace.Down, qi a1.Pace.UpSpan, qi a1.Pace.DownSpan, .c (cL enc_Note a1.Notes)], some [qs a2.Name, qi a2.Now, .c (cL enc_Rec a2.Recs)], some [qs x12.Name, qi x12.Now, .row 4], some [qs x13.Name, qs x13.Target, qi x13.Low, qi x13.High, .row 5, qi x13.Pace.Up, qi x13.Pace.Down, qi x13.Pace.UpSpan, qi x13.Pace.DownSpan, .row 6], some [qs x14.Name, qi x14.Now, .row 7], some [qs x16.Name, qi x16.Now, .row 9]], [rr 3 enc_Metric x9.Metrics true, rr 2 enc_Note x9.Notes true, rr 2 enc_Rec x10.Recs true, rr 2 enc_Sample x11 true, rr 2 enc_Rec x12.Recs true, rr 3 enc_Metric x13.Metrics true, rr 2 enc_Note x13.Notes true, rr 2 enc_Rec x14.Recs true, rr 2 enc_Sample x15 true, rr 2 enc_Rec x16.Recs true, rr 3 enc_Metric x18.Metrics true, rr 2 enc_Note x18.Notes true]⟩) rfl rfl rfl (ev_callG (al := [.ag [qs x13.Name, qs x13.Target, qi x13.Low, qi x13.High, .row 5, qi x13.Pace.Up, qi x13.Pace.Down, qi x13.Pace.UpSpan, qi x13.Pace.DownSpan, .row 6], .ag [qs x18.Name, qs x18.Target, qi x18.Low, qi x18.High, .row 10, qi x18.Pace.Up, qi x18.Pace.Down, qi x18.Pace.UpSpan, qi x18.Pace.DownSpan, .row 11]]) (ls := []) (laws_eqOrder_ok hx19) rfl rfl rfl rfl rfl (by decide) rfl rfl rfl rfl rfl rfl) ?_; simp only [putT,st,ev,gt,hp,ofV,constT,intT,lm]
     refine WL_op rfl rfl rfl rfl ?_; simp only [putT,st,ev,gt,hp,ofV,constT,intT,lm]
     refine WL_nil (by kernel_rfl) ?_
     refine W_cond rfl (fun hc => ?_) (fun hc => ?_)
     ·
      replace H := tr hc H
      refine W_seq (W_region ?_)
      refine WO_op rfl rfl rfl ?_; simp only [putT,st,ev,gt,hp,ofV,constT,intT,lm]
      refine WO_nil ?_
      refine W_ret ?_
      obtain rfl := Option.some.inj H
      exact told3 rfl
     ·
      replace H := fl hc H
      refine W_skip ?_
      refine W_seq (W_seq ?_)
      refine W_drawL (by kernel_rfl) (by decide +kernel) ?_
      refine WL_op (x := .ag [qs x14.Name, qi x14.Now, .row 7]) rfl rfl rfl rfl ?_
      refine WL_op (x := .ag [qs a2.Name, qi a2.Now, .c (cL enc_Rec a2.Recs)]) rfl rfl rfl rfl ?_; simp only [putT,st,ev,gt,hp,ofV,constT,intT,lm]
      obtain ⟨x20, hx20, H⟩ := bnd H
      refine WL_op (x := .ag [qs x20.Name, qi x20.Now, .row 12]) (σ' := ⟨[], [some [qs a1.Name, qs a1.Target, qi a1.Low, qi a1.High, .c (cL enc_Metric a1.Metrics), qi a1.Pace.Up, qi a1.Pace.Down, qi a1.Pace.UpSpan, qi a1.Pace.DownSpan, .c (cL enc_Note a1.Notes)], some [qs a2.Name, qi a2.Now, .c (cL enc_Rec a2.Recs)], some [qs x12.Name, qi x12.Now, .row 4], some [qs x13.Name, qs x13.Target, qi x13.Low, qi x13.High, .row 5, qi x13.Pace.Up, qi x13.Pace.Down, qi x13.Pace.UpSpan, qi x13.Pace.DownSpan, .row 6], some [qs x14.Name, qi x14.Now, .row 7], some [qs x16.Name, qi x16.Now, .row 9]], [rr 3 enc_Metric x9.Metrics true, rr 2 enc_Note x9.Notes true, rr 2 enc_Rec x10.Recs true, rr 2 enc_Sample x11 true, rr 2 enc_Rec x12.Recs true, rr 3 enc_Metric x13.Metrics true, rr 2 enc_Note x13.Notes true, rr 2 enc_Rec x14.Recs true, rr 2 enc_Sample x15 true, rr 2 enc_Rec x16.Recs true, rr 3 enc_Metric x18.Metrics true, rr 2 enc_Note x18.Notes true, rr 2 enc_Rec x20.Recs true]⟩) rfl rfl rfl (ev_callG (al := [.ag [qs a2.Name, qi a2.Now, .c (cL enc_Rec a2.Recs)]]) (ls := []) (laws_toScale_ok hx20) rfl rfl rfl rfl rfl (by decide) rfl rfl (by simp only [flatA, flatV, flatC, List.all_cons, List.all_nil, Option.all_some, Bool.and_self, Bool.or_true, fl_Rec]) rfl rfl rfl) ?_; simp only [putT,st,ev,gt,hp,ofV,constT,intT,lm]
      obtain ⟨x21, hx21, H⟩ := bnd H
      refine WL_op (x := qb x21) (σ' := ⟨[], [some [qs a1.Name, qs a1.Target, qi a1.Low, qi a1.High, .c (cL enc_Metric a1.Metrics), qi a1.Pace.Up, qi a1.Pace.Down, qi a1.Pace.UpSpan, qi a1.Pace.DownSpan, .c (cL enc_Note a1.Notes)], some [qs a2.Name, qi a2.Now, .c (cL enc_Rec a2.Recs)], some [qs x12.Name, qi x12.Now, .row 4], some [qs x13.Name, qs x13.Target, qi x13.Low, qi x13.High, .row 5, qi x13.Pace.Up, qi x13.Pace.Down, qi x13.Pace.UpSpan, qi x13.Pace.DownSpan, .row 6], some [qs x14.Name, qi x14.Now, .row 7], some [qs x16.Name, qi x16.Now, .row 9]], [rr 3 enc_Metric x9.Metrics true, rr 2 enc_Note x9.Notes true, rr 2 enc_Rec x10.Recs true, rr 2 enc_Sample x11 true, rr 2 enc_Rec x12.Recs true, rr 3 enc_Metric x13.Metrics true, rr 2 enc_Note x13.Notes true, rr 2 enc_Rec x14.Recs true, rr 2 enc_Sample x15 true, rr 2 enc_Rec x16.Recs true, rr 3 enc_Metric x18.Metrics true, rr 2 enc_Note x18.Notes true, rr 2 enc_Rec x20.Recs true]⟩) rfl rfl rfl (ev_callG (al := [.ag [qs x14.Name, qi x14.Now, .row 7], .ag [qs x20.Name, qi x20.Now, .row 12]]) (ls := []) (laws_eqScale_ok hx21) rfl rfl rfl rfl rfl (by decide) rfl rfl rfl rfl rfl rfl) ?_; simp only [putT,st,ev,gt,hp,ofV,constT,intT,lm]
      refine WL_op rfl rfl rfl rfl ?_; simp only [putT,st,ev,gt,hp,ofV,constT,intT,lm]
      refine WL_nil (by kernel_rfl) ?_
      refine W_cond rfl (fun hc => ?_) (fun hc => ?_)
      ·
       replace H := tr hc H
       refine W_seq (W_region ?_)
       refine WO_op rfl rfl rfl ?_; simp only [putT,st,ev,gt,hp,ofV,constT,intT,lm]
       refine WO_nil ?_
       refine W_ret ?_
       obtain rfl := Option.some.inj H
       exact told3 rfl
      ·
       replace H := fl hc H
       refine W_skip ?_
       refine W_seq (W_seq (W_region ?_))
       iterate 2 (refine WO_op rfl rfl rfl ?_; simp only [putT,st,ev,gt,hp,ofV,constT,intT,lm])
       obtain ⟨x22, hx22, H⟩ := bnd H
       refine WO_op (x := .row 13) (σ' := ⟨[], [some [qs a1.Name, qs a1.Target, qi a1.Low, qi a1.High, .c (cL enc_Metric a1.Metrics), qi a1.Pace.Up, qi a1.Pace.Down, qi a1.Pace.UpSpan, qi a1.Pace.DownSpan, .c (cL enc_Note a1.Notes)], some [qs a2.Name, qi a2.Now, .c (cL enc_Rec a2.Recs)], some [qs x12.Name, qi x12.Now, .row 4], some [qs x13.Name, qs x13.Target, qi x13.Low, qi x13.High, .row 5, qi x13.Pace.Up, qi x13.Pace.Down, qi x13.Pace.UpSpan, qi x13.Pace.DownSpan, .row 6], some [qs x14.Name, qi x14.Now, .row 7], some [qs x16.Name, qi x16.Now, .row 9]], [rr 3 enc_Metric x9.Metrics true, rr 2 enc_Note x9.Notes true, rr 2 enc_Rec x10.Recs true, rr 2 enc_Sample x11 true, rr 2 enc_Rec x12.Recs true, rr 3 enc_Metric x13.Metrics true, rr 2 enc_Note x13.Notes true, rr 2 enc_Rec x14.Recs true, rr 2 enc_Sample x15 true, rr 2 enc_Rec x16.Recs true, rr 3 enc_Metric x18.Metrics true, rr 2 enc_Note x18.Notes true, rr 2 enc_Rec x20.Recs true, rr 2 enc_Sample x22 true]⟩) rfl rfl (ev_callG (al := [.c (cL enc_Sample a4)]) (ls := []) (laws_toSampleS_ok hx22) rfl rfl rfl rfl rfl (by decide) rfl rfl (by simp only [flatA, flatV, flatC, List.all_cons, List.all_nil, Option.all_some, Bool.and_self, Bool.or_true, fl_Sample]) rfl rfl rfl) ?_; simp only [putT,st,ev,gt,hp,ofV,constT,intT,lm]
       obtain ⟨x23, hx23, H⟩ := bnd H
       refine WO_op (x := qb x23) (σ' := ⟨[], [some [qs a1.Name, qs a1.Target, qi a1.Low, qi a1.High, .c (cL enc_Metric a1.Metrics), qi a1.Pace.Up, qi a1.Pace.Down, qi a1.Pace.UpSpan, qi a1.Pace.DownSpan, .c (cL enc_Note a1.Notes)], some [qs a2.Name, qi a2.Now, .c (cL enc_Rec a2.Recs)], some [qs x12.Name, qi x12.Now, .row 4], some [qs x13.Name, qs x13.Target, qi x13.Low, qi x13.High, .row 5, qi x13.Pace.Up, qi x13.Pace.Down, qi x13.Pace.UpSpan, qi x13.Pace.DownSpan, .row 6], some [qs x14.Name, qi x14.Now, .row 7], some [qs x16.Name, qi x16.Now, .row 9]], [rr 3 enc_Metric x9.Metrics true, rr 2 enc_Note x9.Notes true, rr 2 enc_Rec x10.Recs true, rr 2 enc_Sample x11 true, rr 2 enc_Rec x12.Recs true, rr 3 enc_Metric x13.Metrics true, rr 2 enc_Note x13.Notes true, rr 2 enc_Rec x14.Recs true, rr 2 enc_Sample x15 true, rr 2 enc_Rec x16.Recs true, rr 3 enc_Metric x18.Metrics true, rr 2 enc_Note x18.Notes true, rr 2 enc_Rec x20.Recs true, rr 2 enc_Sample x22 true]⟩) rfl rfl (ev_callG (al := [.row 8, .row 13]) (ls := []) (laws_eqSampleS_ok hx23) rfl rfl rfl rfl rfl (by decide) rfl rfl rfl rfl rfl rfl) ?_; simp only [putT,st,ev,gt,hp,ofV,constT,intT,lm]
       refine WO_op rfl rfl rfl ?_; simp only [putT,st,ev,gt,hp,ofV,constT,intT,lm]
       refine WO_nil ?_
       refine W_cond rfl (fun hc => ?_) (fun hc => ?_)
       ·
        replace H := tr hc H
        refine W_seq (W_region ?_)
        refine WO_op rfl rfl rfl ?_; simp only [putT,st,ev,gt,hp,ofV,constT,intT,lm]
        refine WO_nil ?_
        refine W_ret ?_
        obtain rfl := Option.some.inj H
        exact told3 rfl
       ·
        replace H := fl hc H
        refine W_skip ?_
        refine W_seq (W_region ?_)
        refine WO_op rfl rfl rfl ?_; simp only [putT,st,ev,gt,hp,ofV,constT,intT,lm]
        refine WO_nil (W_seq (W_region ?_))
        refine WO_op (x := .ag [qs x13.Name, qs x13.Target, qi x13.Low, qi x13.High, .row 5, qi x13.Pace.Up, qi x13.Pace.Down, qi x13.Pace.UpSpan, qi x13.Pace.DownSpan, .row 6]) rfl rfl rfl ?_
        refine WO_op rfl rfl rfl ?_; simp only [putT,st,ev,gt,hp,ofV,constT,intT,lm]
        obtain ⟨x24, hx24, H⟩ := bnd H
        refine WO_op (x := qi x24.1) (σ' := ⟨[], [some [qs a1.Name, qs a1.Target, qi a1.Low, qi a1.High, .c (cL enc_Metric a1.Metrics), qi a1.Pace.Up, qi a1.Pace.Down, qi a1.Pace.UpSpan, qi a1.Pace.DownSpan, .c (cL enc_Note a1.Notes)], some [qs a2.Name, qi a2.Now, .c (cL enc_Rec a2.Recs)], some [qs x12.Name, qi x12.Now, .row 4], some [qs x13.Name, qs x13.Target, qi x13.Low, qi x13.High, .row 5, qi x13.Pace.Up, qi x13.Pace.Down, qi x13.Pace.UpSpan, qi x13.Pace.DownSpan, .row 6], some [qs x14.Name, qi x14.Now, .row 7], some [qs x16.Name, qi x16.Now, .row 9]], [rr 3 enc_Metric x9.Metrics true, rr 2 enc_Note x9.Notes true, rr 2 enc_Rec x10.Recs true, rr 2 enc_Sample x11 true, rr 2 enc_Rec x12.Recs true, rr 3 enc_Metric x24.2.1 true, rr 2 enc_Note x24.2.2 true, rr 2 enc_Rec x14.Recs true, rr 2 enc_Sample x15 true, rr 2 enc_Rec x16.Recs true, rr 3 enc_Metric x18.Metrics true, rr 2 enc_Note x18.Notes true, rr 2 enc_Rec x20.Recs true, rr 2 enc_Sample x22 true]⟩) rfl rfl (ev_callG (al := [.ag [qs x13.Name, qs x13.Target, qi x13.Low, qi x13.High, .row 5, qi x13.Pace.Up, qi x13.Pace.Down, qi x13.Pace.UpSpan, qi x13.Pace.DownSpan, .row 6], qi 1]) (ls := [.r 5, .r 6]) (laws_markOrder_nnnnonnnno_ok hx24) rfl rfl rfl rfl rfl (by decide) rfl rfl (by simp only [flatA, flatV, flatC, List.all_cons, List.all_nil, Option.all_some, Bool.and_self, Bool.or_true, fl_Metric, fl_Note]) rfl rfl rfl) ?_; simp only [putT,st,ev,gt,hp,ofV,constT,intT,lm]
        refine WO_op rfl rfl rfl ?_; simp only [putT,st,ev,gt,hp,ofV,constT,intT,lm]
        refine WO_nil (W_seq (W_region ?_))
        refine WO_op (x := .ag [qs x14.Name, qi x14.Now, .row 7]) rfl rfl rfl ?_
        refine WO_op rfl rfl rfl ?_; simp only [putT,st,ev,gt,hp,ofV,constT,intT,lm]
        obtain ⟨x25, hx25, H⟩ := bnd H
        refine WO_op (x := qi x25.1) (σ' := ⟨[], [some [qs a1.Name, qs a1.Target, qi a1.Low, qi a1.High, .c (cL enc_Metric a1.Metrics), qi a1.Pace.Up, qi a1.Pace.Down, qi a1.Pace.UpSpan, qi a1.Pace.DownSpan, .c (cL enc_Note a1.Notes)], some [qs a2.Name, qi a2.Now, .c (cL enc_Rec a2.Recs)], some [qs x12.Name, qi x12.Now, .row 4], some [qs x13.Name, qs x13.Target, qi x13.Low, qi x13.High, .row 5, qi x13.Pace.Up, qi x13.Pace.Down, qi x13.Pace.UpSpan, qi x13.Pace.DownSpan, .row 6], some [qs x14.Name, qi x14.Now, .row 7], some [qs x16.Name, qi x16.Now, .row 9]], [rr 3 enc_Metric x9.Metrics true, rr 2 enc_Note x9.Notes true, rr 2 enc_Rec x10.Recs true, rr 2 enc_Sample x11 true, rr 2 enc_Rec x12.Recs true, rr 3 enc_Metric x24.2.1 true, rr 2 enc_Note x24.2.2 true, rr 2 enc_Rec x25.2 true, rr 2 enc_Sample x15 true, rr 2 enc_Rec x16.Recs true, rr 3 enc_Metric x18.Metrics true, rr 2 enc_Note x18.Notes true, rr 2 enc_Rec x20.Recs true, rr 2 enc_Sample x22 true]⟩) rfl rfl (ev_callG (al := [.ag [qs x14.Name, qi x14.Now, .row 7], qi x24.1]) (ls := [.r 7]) (laws_markScale_nno_ok hx25) rfl rfl rfl rfl rfl (by decide) rfl rfl (by simp only [flatA, flatV, flatC, List.all_cons, List.all_nil, Option.all_some, Bool.and_self, Bool.or_true, fl_Rec]) rfl rfl rfl) ?_; simp only [putT,st,ev,gt,hp,ofV,constT,intT,lm]
        refine WO_op rfl rfl rfl ?_; simp only [putT,st,ev,gt,hp,ofV,constT,intT,lm]
        refine WO_nil (W_seq (W_region ?_))
        iterate 2 (refine WO_op rfl rfl rfl ?_; simp only [putT,st,ev,gt,hp,ofV,constT,intT,lm])
        obtain ⟨x26, hx26, H⟩ := bnd H
        refine WO_op (x := qi x26.1) (σ' := ⟨[], [some [qs a1.Name, qs a1.Target, qi a1.Low, qi a1.High, .c (cL enc_Metric a1.Metrics), qi a1.Pace.Up, qi a1.Pace.Down, qi a1.Pace.UpSpan, qi a1.Pace.DownSpan, .c (cL enc_Note a1.Notes)], some [qs a2.Name, qi a2.Now, .c (cL enc_Rec a2.Recs)], some [qs x12.Name, qi x12.Now, .row 4], some [qs x13.Name, qs x13.Target, qi x13.Low, qi x13.High, .row 5, qi x13.Pace.Up, qi x13.Pace.Down, qi x13.Pace.UpSpan, qi x13.Pace.DownSpan, .row 6], some [qs x14.Name, qi x14.Now, .row 7], some [qs x16.Name, qi x16.Now, .row 9]], [rr 3 enc_Metric x9.Metrics true, rr 2 enc_Note x9.Notes true, rr 2 enc_Rec x10.Recs true, rr 2 enc_Sample x11 true, rr 2 enc_Rec x12.Recs true, rr 3 enc_Metric x24.2.1 true, rr 2 enc_Note x24.2.2 true, rr 2 enc_Rec x25.2 true, rr 2 enc_Sample x26.2 true, rr 2 enc_Rec x16.Recs true, rr 3 enc_Metric x18.Metrics true, rr 2 enc_Note x18.Notes true, rr 2 enc_Rec x20.Recs true, rr 2 enc_Sample x22 true]⟩) rfl rfl (ev_callG (al := [.row 8, qi x25.1]) (ls := [.r 8]) (laws_markSampleS_ok hx26) rfl rfl rfl rfl rfl (by decide) rfl rfl (by simp only [flatA, flatV, flatC, List.all_cons, List.all_nil, Option.all_some, Bool.and_self, Bool.or_true, fl_Sample]) rfl rfl rfl) ?_; simp only [putT,st,ev,gt,hp,ofV,constT,intT,lm]
        refine WO_op rfl rfl rfl ?_; simp only [putT,st,ev,gt,hp,ofV,constT,intT,lm]
        refine WO_nil (W_seq (W_seq (W_region ?_)))
        iterate 3 (refine WO_op rfl rfl rfl ?_; simp only [putT,st,ev,gt,hp,ofV,constT,intT,lm])
        refine WO_if rfl rfl rfl (fun hc => ?_) (fun hc => ?_)
        ·
         replace H := tr hc H
         simp only [putT,st,ev,gt,hp,ofV,constT,intT,lm]
         iterate 4 refine WO_skip rfl rfl ?_
         refine WO_op (x := qb true) rfl rfl rfl ?_; simp only [putT,st,ev,gt,hp,ofV,constT,intT,lm]
         refine WO_nil ?_
         refine W_cond (t := true) rfl (fun _ => ?_) (fun h => by cases h)
         refine W_seq (W_region ?_)
         refine WO_op rfl rfl rfl ?_; simp only [putT,st,ev,gt,hp,ofV,constT,intT,lm]
         refine WO_nil ?_
         refine W_ret ?_
         obtain rfl := Option.some.inj H
         exact told3 rfl
        ·
         replace H := fl hc H
         refine WO_want (x := .ag [qs x16.Name, qi x16.Now, .row 9]) rfl rfl rfl ?_
         refine WO_want (x := .ag [qs x12.Name, qi x12.Now, .row 4]) rfl rfl rfl ?_; simp only [putT,st,ev,gt,hp,ofV,constT,intT,lm]
         obtain ⟨x27, hx27, H⟩ := bnd H
         refine WO_want (x := qb x27) (σ' := ⟨[], [some [qs a1.Name, qs a1.Target, qi a1.Low, qi a1.High, .c (cL enc_Metric a1.Metrics), qi a1.Pace.Up, qi a1.Pace.Down, qi a1.Pace.UpSpan, qi a1.Pace.DownSpan, .c (cL enc_Note a1.Notes)], some [qs a2.Name, qi a2.Now, .c (cL enc_Rec a2.Recs)], some [qs x12.Name, qi x12.Now, .row 4], some [qs x13.Name, qs x13.Target, qi x13.Low, qi x13.High, .row 5, qi x13.Pace.Up, qi x13.Pace.Down, qi x13.Pace.UpSpan, qi x13.Pace.DownSpan, .row 6], some [qs x14.Name, qi x14.Now, .row 7], some [qs x16.Name, qi x16.Now, .row 9]], [rr 3 enc_Metric x9.Metrics true, rr 2 enc_Note x9.Notes true, rr 2 enc_Rec x10.Recs true, rr 2 enc_Sample x11 true, rr 2 enc_Rec x12.Recs true, rr 3 enc_Metric x24.2.1 true, rr 2 enc_Note x24.2.2 true, rr 2 enc_Rec x25.2 true, rr 2 enc_Sample x26.2 true, rr 2 enc_Rec x16.Recs true, rr 3 enc_Metric x18.Metrics true, rr 2 enc_Note x18.Notes true, rr 2 enc_Rec x20.Recs true, rr 2 enc_Sample x22 true]⟩) rfl rfl (ev_callG (al := [.ag [qs x16.Name, qi x16.Now, .row 9], .ag [qs x12.Name, qi x12.Now, .row 4]]) (ls := []) (laws_eqScale_ok hx27) rfl rfl rfl rfl rfl (by decide) rfl rfl rfl rfl rfl rfl) ?_; simp only [putT,st,ev,gt,hp,ofV,constT,intT,lm]
         refine WO_want rfl rfl rfl ?_
         refine WO_op (x := qb (!x27)) rfl rfl rfl ?_; simp only [putT,st,ev,gt,hp,ofV,constT,intT,lm]
         refine WO_nil ?_
         refine W_cond rfl (fun hc => ?_) (fun hc => ?_)
         ·
          replace H := tr hc H
          refine W_seq (W_region ?_)
          refine WO_op rfl rfl rfl ?_; simp only [putT,st,ev,gt,hp,ofV,constT,intT,lm]
          refine WO_nil ?_
          refine W_ret ?_
          obtain rfl := Option.some.inj H
          exact told3 rfl
         ·
          replace H := fl hc H
          refine W_skip ?_
          refine W_seq (W_region ?_)
          refine WO_op rfl rfl rfl ?_; simp only [putT,st,ev,gt,hp,ofV,constT,intT,lm]
          refine WO_nil (W_seq (W_region ?_))
          refine WO_op (x := .ag [qs x16.Name, qi x16.Now, .row 9]) rfl rfl rfl ?_
          refine WO_op rfl rfl rfl ?_; simp only [putT,st,ev,gt,hp,ofV,constT,intT,lm]
          obtain ⟨x28, hx28, H⟩ := bnd H
          refine WO_op (x := qi x28.1) (σ' := ⟨[], [some [qs a1.Name, qs a1.Target, qi a1.Low, qi a1.High, .c (cL enc_Metric a1.Metrics), qi a1.Pace.Up, qi a1.Pace.Down, qi a1.Pace.UpSpan, qi a1.Pace.DownSpan, .c (cL enc_Note a1.Notes)], some [qs a2.Name, qi a2.Now, .c (cL enc_Rec a2.Recs)], some [qs x12.Name, qi x12.Now, .row 4], some [qs x13.Name, qs x13.Target, qi x13.Low, qi x13.High, .row 5, qi x13.Pace.Up, qi x13.Pace.Down, qi x13.Pace.UpSpan, qi x13.Pace.DownSpan, .row 6], some [qs x14.Name, qi x14.Now, .row 7], some [qs x16.Name, qi x16.Now, .row 9]], [rr 3 enc_Metric x9.Metrics true, rr 2 enc_Note x9.Notes true, rr 2 enc_Rec x10.Recs true, rr 2 enc_Sample x11 true, rr 2 enc_Rec x12.Recs true, rr 3 enc_Metric x24.2.1 true, rr 2 enc_Note x24.2.2 true, rr 2 enc_Rec x25.2 true, rr 2 enc_Sample x26.2 true, rr 2 enc_Rec x28.2 true, rr 3 enc_Metric x18.Metrics true, rr 2 enc_Note x18.Notes true, rr 2 enc_Rec x20.Recs true, rr 2 enc_Sample x22 true]⟩) rfl rfl (ev_callG (al := [.ag [qs x16.Name, qi x16.Now, .row 9], qi 1]) (ls := [.r 9]) (laws_markScale_nno_ok hx28) rfl rfl rfl rfl rfl (by decide) rfl rfl (by simp only [flatA, flatV, flatC, List.all_cons, List.all_nil, Option.all_some, Bool.and_self, Bool.or_true, fl_Rec]) rfl rfl rfl) ?_; simp only [putT,st,ev,gt,hp,ofV,constT,intT,lm]
          refine WO_op rfl rfl rfl ?_; simp only [putT,st,ev,gt,hp,ofV,constT,intT,lm]
          refine WO_nil (W_seq (W_region ?_))
          refine WO_op rfl rfl rfl ?_; simp only [putT,st,ev,gt,hp,ofV,constT,intT,lm]
          refine WO_nil (W_seq (W_region ?_))
          refine WO_op (x := .ag [qs x16.Name, qi x16.Now, .row 9]) rfl rfl rfl ?_
          refine WO_op rfl rfl rfl ?_; simp only [putT,st,ev,gt,hp,ofV,constT,intT,lm]
          obtain ⟨x29, hx29, H⟩ := bnd H
          refine WO_op (x := qi x29) (σ' := ⟨[], [some [qs a1.Name, qs a1.Target, qi a1.Low, qi a1.High, .c (cL enc_Metric a1.Metrics), qi a1.Pace.Up, qi a1.Pace.Down, qi a1.Pace.UpSpan, qi a1.Pace.DownSpan, .c (cL enc_Note a1.Notes)], some [qs a2.Name, qi a2.Now, .c (cL enc_Rec a2.Recs)], some [qs x12.Name, qi x12.Now, .row 4], some [qs x13.Name, qs x13.Target, qi x13.Low, qi x13.High, .row 5, qi x13.Pace.Up, qi x13.Pace.Down, qi x13.Pace.UpSpan, qi x13.Pace.DownSpan, .row 6], some [qs x14.Name, qi x14.Now, .row 7], some [qs x16.Name, qi x16.Now, .row 9]], [rr 3 enc_Metric x9.Metrics true, rr 2 enc_Note x9.Notes true, rr 2 enc_Rec x10.Recs true, rr 2 enc_Sample x11 true, rr 2 enc_Rec x12.Recs true, rr 3 enc_Metric x24.2.1 true, rr 2 enc_Note x24.2.2 true, rr 2 enc_Rec x25.2 true, rr 2 enc_Sample x26.2 true, rr 2 enc_Rec x28.2 true, rr 3 enc_Metric x18.Metrics true, rr 2 enc_Note x18.Notes true, rr 2 enc_Rec x20.Recs true, rr 2 enc_Sample x22 true]⟩) rfl rfl (ev_callG (al := [.ag [qs x16.Name, qi x16.Now, .row 9], qi 1]) (ls := []) (laws_heldScale_ok hx29) rfl rfl rfl rfl rfl (by decide) rfl rfl rfl rfl rfl rfl) ?_; simp only [putT,st,ev,gt,hp,ofV,constT,intT,lm]
          refine WO_op rfl rfl rfl ?_; simp only [putT,st,ev,gt,hp,ofV,constT,intT,lm]
          refine WO_nil (W_seq (W_seq (W_region ?_)))
          iterate 2 (refine WO_op rfl rfl rfl ?_; simp only [putT,st,ev,gt,hp,ofV,constT,intT,lm])
          refine WO_nil ?_
          refine W_cond rfl (fun hc => ?_) (fun hc => ?_)
          ·
           replace H := tr hc H
           refine W_seq (W_region ?_)
           refine WO_op rfl rfl rfl ?_; simp only [putT,st,ev,gt,hp,ofV,constT,intT,lm]
           refine WO_nil ?_
           refine W_ret ?_
           obtain rfl := Option.some.inj H
           exact told3 rfl
          ·
           replace H := fl hc H
           refine W_skip ?_
           refine W_seq (W_seq (W_region ?_))
           iterate 3 (refine WO_op rfl rfl rfl ?_; simp only [putT,st,ev,gt,hp,ofV,constT,intT,lm])
           refine WO_nil ?_
           refine W_cond rfl (fun hc => ?_) (fun hc => ?_)
           ·
            replace H := tr hc H
            refine W_seq (W_region ?_)
            refine WO_op rfl rfl rfl ?_; simp only [putT,st,ev,gt,hp,ofV,constT,intT,lm]
            refine WO_nil ?_
            refine W_ret ?_
            obtain rfl := Option.some.inj H
            exact told3 rfl
           ·
            replace H := fl hc H
            refine W_skip ?_
            refine W_seq ?_
            refine W_lateL [20] (by kernel_rfl) (by decide +kernel) rfl ?_; simp only [clr,List.foldl,putT,st,ev,gt,hp,ofV,constT,intT,lm]
            refine WL_op (x := .ag [qs a1.Name, qs a1.Target, qi a1.Low, qi a1.High, .c (cL enc_Metric a1.Metrics), qi a1.Pace.Up, qi a1.Pace.Down, qi a1.Pace.UpSpan, qi a1.Pace.DownSpan, .c (cL enc_Note a1.Notes)]) rfl rfl rfl rfl ?_; simp only [putT,st,ev,gt,hp,ofV,constT,intT,lm]
            obtain ⟨x30, hx30, H⟩ := bnd H
            refine WL_op (x := .ag [qs x30.Name, qs x30.Target, qi x30.Low, qi x30.High, .row 14, qi x30.Pace.Up, qi x30.Pace.Down, qi x30.Pace.UpSpan, qi x30.Pace.DownSpan, .row 15]) (σ' := ⟨[], [some [qs a1.Name, qs a1.Target, qi a1.Low, qi a1.High, .c (cL enc_Metric a1.Metrics), qi a1.Pace.Up, qi a1.Pace.Down, qi a1.Pace.UpSpan, qi a1.Pace.DownSpan, .c (cL enc_Note a1.Notes)], some [qs a2.Name, qi a2.Now, .c (cL enc_Rec a2.Recs)], some [qs x12.Name, qi x12.Now, .row 4], some [qs x13.Name, qs x13.Target, qi x13.Low, qi x13.High, .row 5, qi x13.Pace.Up, qi x13.Pace.Down, qi x13.Pace.UpSpan, qi x13.Pace.DownSpan, .row 6], some [qs x14.Name, qi x14.Now, .row 7], some [qs x16.Name, qi x16.Now, .row 9]], [rr 3 enc_Metric x9.Metrics true, rr 2 enc_Note x9.Notes true, rr 2 enc_Rec x10.Recs true, rr 2 enc_Sample x11 true, rr 2 enc_Rec x12.Recs true, rr 3 enc_Metric x24.2.1 true, rr 2 enc_Note x24.2.2 true, rr 2 enc_Rec x25.2 true, rr 2 enc_Sample x26.2 true, rr 2 enc_Rec x28.2 true, rr 3 enc_Metric x18.Metrics true, rr 2 enc_Note x18.Notes true, rr 2 enc_Rec x20.Recs true, rr 2 enc_Sample x22 true, rr 3 enc_Metric x30.Metrics true, rr 2 enc_Note x30.Notes true]⟩) rfl rfl rfl (ev_callG (al := [.ag [qs a1.Name, qs a1.Target, qi a1.Low, qi a1.High, .c (cL enc_Metric a1.Metrics), qi a1.Pace.Up, qi a1.Pace.Down, qi a1.Pace.UpSpan, qi a1.Pace.DownSpan, .c (cL enc_Note a1.Notes)]]) (ls := []) (laws_toOrder_ok hx30) rfl rfl rfl rfl rfl (by decide) rfl rfl (by simp only [flatA, flatV, flatC, List.all_cons, List.all_nil, Option.all_some, Bool.and_self, Bool.or_true, fl_Metric, fl_Note]) rfl rfl rfl) ?_; simp only [putT,st,ev,gt,hp,ofV,constT,intT,lm]
            refine WL_op (x := .ag [qs a2.Name, qi a2.Now, .c (cL enc_Rec a2.Recs)]) rfl rfl rfl rfl ?_; simp only [putT,st,ev,gt,hp,ofV,constT,intT,lm]
            obtain ⟨x31, hx31, H⟩ := bnd H
            refine WL_op (x := .ag [qs x31.Name, qi x31.Now, .row 16]) (σ' := ⟨[], [some [qs a1.Name, qs a1.Target, qi a1.Low, qi a1.High, .c (cL enc_Metric a1.Metrics), qi a1.Pace.Up, qi a1.Pace.Down, qi a1.Pace.UpSpan, qi a1.Pace.DownSpan, .c (cL enc_Note a1.Notes)], some [qs a2.Name, qi a2.Now, .c (cL enc_Rec a2.Recs)], some [qs x12.Name, qi x12.Now, .row 4], some [qs x13.Name, qs x13.Target, qi x13.Low, qi x13.High, .row 5, qi x13.Pace.Up, qi x13.Pace.Down, qi x13.Pace.UpSpan, qi x13.Pace.DownSpan, .row 6], some [qs x14.Name, qi x14.Now, .row 7], some [qs x16.Name, qi x16.Now, .row 9]], [rr 3 enc_Metric x9.Metrics true, rr 2 enc_Note x9.Notes true, rr 2 enc_Rec x10.Recs true, rr 2 enc_Sample x11 true, rr 2 enc_Rec x12.Recs true, rr 3 enc_Metric x24.2.1 true, rr 2 enc_Note x24.2.2 true, rr 2 enc_Rec x25.2 true, rr 2 enc_Sample x26.2 true, rr 2 enc_Rec x28.2 true, rr 3 enc_Metric x18.Metrics true, rr 2 enc_Note x18.Notes true, rr 2 enc_Rec x20.Recs true, rr 2 enc_Sample x22 true, rr 3 enc_Metric x30.Metrics true, rr 2 enc_Note x30.Notes true, rr 2 enc_Rec x31.Recs true]⟩) rfl rfl rfl (ev_callG (al := [.ag [qs a2.Name, qi a2.Now, .c (cL enc_Rec a2.Recs)]]) (ls := []) (laws_toScale_ok hx31) rfl rfl rfl rfl rfl (by decide) rfl rfl (by simp only [flatA, flatV, flatC, List.all_cons, List.all_nil, Option.all_some, Bool.and_self, Bool.or_true, fl_Rec]) rfl rfl rfl) ?_; simp only [putT,st,ev,gt,hp,ofV,constT,intT,lm]
            iterate 2 (refine WL_op rfl rfl rfl rfl ?_; simp only [putT,st,ev,gt,hp,ofV,constT,intT,lm])
            obtain ⟨x32, hx32, H⟩ := bnd H
            refine WL_op (x := .row 17) (σ' := ⟨[], [some [qs a1.Name, qs a1.Target, qi a1.Low, qi a1.High, .c (cL enc_Metric a1.Metrics), qi a1.Pace.Up, qi a1.Pace.Down, qi a1.Pace.UpSpan, qi a1.Pace.DownSpan, .c (cL enc_Note a1.Notes)], some [qs a2.Name, qi a2.Now, .c (cL enc_Rec a2.Recs)], some [qs x12.Name, qi x12.Now, .row 4], some [qs x13.Name, qs x13.Target, qi x13.Low, qi x13.High, .row 5, qi x13.Pace.Up, qi x13.Pace.Down, qi x13.Pace.UpSpan, qi x13.Pace.DownSpan, .row 6], some [qs x14.Name, qi x14.Now, .row 7], some [qs x16.Name, qi x16.Now, .row 9]], [rr 3 enc_Metric x9.Metrics true, rr 2 enc_Note x9.Notes true, rr 2 enc_Rec x10.Recs true, rr 2 enc_Sample x11 true, rr 2 enc_Rec x12.Recs true, rr 3 enc_Metric x24.2.1 true, rr 2 enc_Note x24.2.2 true, rr 2 enc_Rec x25.2 true, rr 2 enc_Sample x26.2 true, rr 2 enc_Rec x28.2 true, rr 3 enc_Metric x18.Metrics true, rr 2 enc_Note x18.Notes true, rr 2 enc_Rec x20.Recs true, rr 2 enc_Sample x22 true, rr 3 enc_Metric x30.Metrics true, rr 2 enc_Note x30.Notes true, rr 2 enc_Rec x31.Recs true, rr 2 enc_Sample x32 true]⟩) rfl rfl rfl (ev_callG (al := [.c (cL enc_Sample a4)]) (ls := []) (laws_toSampleS_ok hx32) rfl rfl rfl rfl rfl (by decide) rfl rfl (by simp only [flatA, flatV, flatC, List.all_cons, List.all_nil, Option.all_some, Bool.and_self, Bool.or_true, fl_Sample]) rfl rfl rfl) ?_; simp only [putT,st,ev,gt,hp,ofV,constT,intT,lm]
            refine WL_op rfl rfl rfl rfl ?_; simp only [putT,st,ev,gt,hp,ofV,constT,intT,lm]
            obtain ⟨x33, hx33, H⟩ := bnd H
            refine WL_op (x := .ag [qs x33.Name, qi x33.Now, .row 18]) (σ' := ⟨[], [some [qs a1.Name, qs a1.Target, qi a1.Low, qi a1.High, .c (cL enc_Metric a1.Metrics), qi a1.Pace.Up, qi a1.Pace.Down, qi a1.Pace.UpSpan, qi a1.Pace.DownSpan, .c (cL enc_Note a1.Notes)], some [qs a2.Name, qi a2.Now, .c (cL enc_Rec a2.Recs)], some [qs x12.Name, qi x12.Now, .row 4], some [qs x13.Name, qs x13.Target, qi x13.Low, qi x13.High, .row 5, qi x13.Pace.Up, qi x13.Pace.Down, qi x13.Pace.UpSpan, qi x13.Pace.DownSpan, .row 6], some [qs x14.Name, qi x14.Now, .row 7], some [qs x16.Name, qi x16.Now, .row 9]], [rr 3 enc_Metric x9.Metrics true, rr 2 enc_Note x9.Notes true, rr 2 enc_Rec x10.Recs true, rr 2 enc_Sample x11 true, rr 2 enc_Rec x12.Recs true, rr 3 enc_Metric x24.2.1 true, rr 2 enc_Note x24.2.2 true, rr 2 enc_Rec x25.2 true, rr 2 enc_Sample x26.2 true, rr 2 enc_Rec x28.2 true, rr 3 enc_Metric x18.Metrics true, rr 2 enc_Note x18.Notes true, rr 2 enc_Rec x20.Recs true, rr 2 enc_Sample x22 true, rr 3 enc_Metric x30.Metrics true, rr 2 enc_Note x30.Notes true, rr 2 enc_Rec x31.Recs true, rr 2 enc_Sample x32 true, rr 2 enc_Rec x33.Recs true]⟩) rfl rfl rfl (ev_callG (al := [.ag [qs x30.Name, qs x30.Target, qi x30.Low, qi x30.High, .row 14, qi x30.Pace.Up, qi x30.Pace.Down, qi x30.Pace.UpSpan, qi x30.Pace.DownSpan, .row 15], .ag [qs x31.Name, qi x31.Now, .row 16], qi a3, .row 17, qi a5]) (ls := []) (impl_Settle_ok hx33) rfl rfl rfl rfl rfl (by decide) rfl rfl (by simp only [flatA, flatV, flatC, List.all_cons, List.all_nil, Option.all_some, Bool.and_self, Bool.or_true, fl_Rec]) rfl rfl rfl) ?_; simp only [putT,st,ev,gt,hp,ofV,constT,intT,lm]
            refine WL_op (x := .bp 6 0) (σ' := ⟨[], [some [qs a1.Name, qs a1.Target, qi a1.Low, qi a1.High, .c (cL enc_Metric a1.Metrics), qi a1.Pace.Up, qi a1.Pace.Down, qi a1.Pace.UpSpan, qi a1.Pace.DownSpan, .c (cL enc_Note a1.Notes)], some [qs a2.Name, qi a2.Now, .c (cL enc_Rec a2.Recs)], some [qs x12.Name, qi x12.Now, .row 4], some [qs x13.Name, qs x13.Target, qi x13.Low, qi x13.High, .row 5, qi x13.Pace.Up, qi x13.Pace.Down, qi x13.Pace.UpSpan, qi x13.Pace.DownSpan, .row 6], some [qs x14.Name, qi x14.Now, .row 7], some [qs x16.Name, qi x16.Now, .row 9], some [qs [], qi 0, .nil]], [rr 3 enc_Metric x9.Metrics true, rr 2 enc_Note x9.Notes true, rr 2 enc_Rec x10.Recs true, rr 2 enc_Sample x11 true, rr 2 enc_Rec x12.Recs true, rr 3 enc_Metric x24.2.1 true, rr 2 enc_Note x24.2.2 true, rr 2 enc_Rec x25.2 true, rr 2 enc_Sample x26.2 true, rr 2 enc_Rec x28.2 true, rr 3 enc_Metric x18.Metrics true, rr 2 enc_Note x18.Notes true, rr 2 enc_Rec x20.Recs true, rr 2 enc_Sample x22 true, rr 3 enc_Metric x30.Metrics true, rr 2 enc_Note x30.Notes true, rr 2 enc_Rec x31.Recs true, rr 2 enc_Sample x32 true, rr 2 enc_Rec x33.Recs true]⟩) rfl rfl rfl rfl ?_
            refine WL_op (x := .no) (σ' := ⟨[], [some [qs a1.Name, qs a1.Target, qi a1.Low, qi a1.High, .c (cL enc_Metric a1.Metrics), qi a1.Pace.Up, qi a1.Pace.Down, qi a1.Pace.UpSpan, qi a1.Pace.DownSpan, .c (cL enc_Note a1.Notes)], some [qs a2.Name, qi a2.Now, .c (cL enc_Rec a2.Recs)], some [qs x12.Name, qi x12.Now, .row 4], some [qs x13.Name, qs x13.Target, qi x13.Low, qi x13.High, .row 5, qi x13.Pace.Up, qi x13.Pace.Down, qi x13.Pace.UpSpan, qi x13.Pace.DownSpan, .row 6], some [qs x14.Name, qi x14.Now, .row 7], some [qs x16.Name, qi x16.Now, .row 9], some [qs x33.Name, qi x33.Now, .row 18]], [rr 3 enc_Metric x9.Metrics true, rr 2 enc_Note x9.Notes true, rr 2 enc_Rec x10.Recs true, rr 2 enc_Sample x11 true, rr 2 enc_Rec x12.Recs true, rr 3 enc_Metric x24.2.1 true, rr 2 enc_Note x24.2.2 true, rr 2 enc_Rec x25.2 true, rr 2 enc_Sample x26.2 true, rr 2 enc_Rec x28.2 true, rr 3 enc_Metric x18.Metrics true, rr 2 enc_Note x18.Notes true, rr 2 enc_Rec x20.Recs true, rr 2 enc_Sample x22 true, rr 3 enc_Metric x30.Metrics true, rr 2 enc_Note x30.Notes true, rr 2 enc_Rec x31.Recs true, rr 2 enc_Sample x32 true, rr 2 enc_Rec x33.Recs true]⟩) rfl rfl rfl rfl ?_; simp only [putT,st,ev,gt,hp,ofV,constT,intT,lm]
            refine WL_nil (by kernel_rfl) ?_
            refine W_seq (W_seq (W_region ?_))
            refine WO_op (x := .ag [qs x33.Name, qi x33.Now, .row 18]) rfl rfl rfl ?_
            refine WO_op (x := .ag [qs x12.Name, qi x12.Now, .row 4]) rfl rfl rfl ?_; simp only [putT,st,ev,gt,hp,ofV,constT,intT,lm]
            obtain ⟨x34, hx34, H⟩ := bnd H
            refine WO_op (x := qb x34) (σ' := ⟨[], [some [qs a1.Name, qs a1.Target, qi a1.Low, qi a1.High, .c (cL enc_Metric a1.Metrics), qi a1.Pace.Up, qi a1.Pace.Down, qi a1.Pace.UpSpan, qi a1.Pace.DownSpan, .c (cL enc_Note a1.Notes)], some [qs a2.Name, qi a2.Now, .c (cL enc_Rec a2.Recs)], some [qs x12.Name, qi x12.Now, .row 4], some [qs x13.Name, qs x13.Target, qi x13.Low, qi x13.High, .row 5, qi x13.Pace.Up, qi x13.Pace.Down, qi x13.Pace.UpSpan, qi x13.Pace.DownSpan, .row 6], some [qs x14.Name, qi x14.Now, .row 7], some [qs x16.Name, qi x16.Now, .row 9], some [qs x33.Name, qi x33.Now, .row 18]], [rr 3 enc_Metric x9.Metrics true, rr 2 enc_Note x9.Notes true, rr 2 enc_Rec x10.Recs true, rr 2 enc_Sample x11 true, rr 2 enc_Rec x12.Recs true, rr 3 enc_Metric x24.2.1 true, rr 2 enc_Note x24.2.2 true, rr 2 enc_Rec x25.2 true, rr 2 enc_Sample x26.2 true, rr 2 enc_Rec x28.2 true, rr 3 enc_Metric x18.Metrics true, rr 2 enc_Note x18.Notes true, rr 2 enc_Rec x20.Recs true, rr 2 enc_Sample x22 true, rr 3 enc_Metric x30.Metrics true, rr 2 enc_Note x30.Notes true, rr 2 enc_Rec x31.Recs true, rr 2 enc_Sample x32 true, rr 2 enc_Rec x33.Recs true]⟩) rfl rfl (ev_callG (al := [.ag [qs x33.Name, qi x33.Now, .row 18], .ag [qs x12.Name, qi x12.Now, .row 4]]) (ls := []) (laws_eqScale_ok hx34) rfl rfl rfl rfl rfl (by decide) rfl rfl rfl rfl rfl rfl) ?_; simp only [putT,st,ev,gt,hp,ofV,constT,intT,lm]
            refine WO_op rfl rfl rfl ?_; simp only [putT,st,ev,gt,hp,ofV,constT,intT,lm]
            refine WO_nil ?_
            refine W_cond rfl (fun hc => ?_) (fun hc => ?_)
            ·
             replace H := tr hc H
             refine W_seq (W_region ?_)
             refine WO_op rfl rfl rfl ?_; simp only [putT,st,ev,gt,hp,ofV,constT,intT,lm]
             refine WO_nil ?_
             refine W_ret ?_
             obtain rfl := Option.some.inj H
             exact told3 rfl
            ·
             replace H := fl hc H
             refine W_skip ?_
             refine W_seq (W_region ?_)
             refine WO_op rfl rfl rfl ?_; simp only [putT,st,ev,gt,hp,ofV,constT,intT,lm]
             refine WO_nil (W_seq (W_region ?_))
             refine WO_op (x := .ag [qs x16.Name, qi x16.Now, .row 9]) rfl rfl rfl ?_
             refine WO_op rfl rfl rfl ?_; simp only [putT,st,ev,gt,hp,ofV,constT,intT,lm]
             obtain ⟨x35, hx35, H⟩ := bnd H
             refine WO_op (x := qi x35) (σ' := ⟨[], [some [qs a1.Name, qs a1.Target, qi a1.Low, qi a1.High, .c (cL enc_Metric a1.Metrics), qi a1.Pace.Up, qi a1.Pace.Down, qi a1.Pace.UpSpan, qi a1.Pace.DownSpan, .c (cL enc_Note a1.Notes)], some [qs a2.Name, qi a2.Now, .c (cL enc_Rec a2.Recs)], some [qs x12.Name, qi x12.Now, .row 4], some [qs x13.Name, qs x13.Target, qi x13.Low, qi x13.High, .row 5, qi x13.Pace.Up, qi x13.Pace.Down, qi x13.Pace.UpSpan, qi x13.Pace.DownSpan, .row 6], some [qs x14.Name, qi x14.Now, .row 7], some [qs x16.Name, qi x16.Now, .row 9], some [qs x33.Name, qi x33.Now, .row 18]], [rr 3 enc_Metric x9.Metrics true, rr 2 enc_Note x9.Notes true, rr 2 enc_Rec x10.Recs true, rr 2 enc_Sample x11 true, rr 2 enc_Rec x12.Recs true, rr 3 enc_Metric x24.2.1 true, rr 2 enc_Note x24.2.2 true, rr 2 enc_Rec x25.2 true, rr 2 enc_Sample x26.2 true, rr 2 enc_Rec x28.2 true, rr 3 enc_Metric x18.Metrics true, rr 2 enc_Note x18.Notes true, rr 2 enc_Rec x20.Recs true, rr 2 enc_Sample x22 true, rr 3 enc_Metric x30.Metrics true, rr 2 enc_Note x30.Notes true, rr 2 enc_Rec x31.Recs true, rr 2 enc_Sample x32 true, rr 2 enc_Rec x33.Recs true]⟩) rfl rfl (ev_callG (al := [.ag [qs x16.Name, qi x16.Now, .row 9], qi 1]) (ls := []) (laws_heldScale_ok hx35) rfl rfl rfl rfl rfl (by decide) rfl rfl rfl rfl rfl rfl) ?_; simp only [putT,st,ev,gt,hp,ofV,constT,intT,lm]
             refine WO_op rfl rfl rfl ?_; simp only [putT,st,ev,gt,hp,ofV,constT,intT,lm]
             refine WO_nil (W_seq (W_seq (W_region ?_)))
             iterate 2 (refine WO_op rfl rfl rfl ?_; simp only [putT,st,ev,gt,hp,ofV,constT,intT,lm])
             refine WO_nil ?_
             refine W_cond rfl (fun hc => ?_) (fun hc => ?_)
             ·
              replace H := tr hc H
              refine W_seq (W_region ?_)
              refine WO_op rfl rfl rfl ?_; simp only [putT,st,ev,gt,hp,ofV,constT,intT,lm]
              refine WO_nil ?_
              refine W_ret ?_
              obtain rfl := Option.some.inj H
              exact told3 rfl
             ·
              replace H := fl hc H
              refine W_skip ?_
              refine W_seq (W_seq (W_region ?_))
              iterate 3 (refine WO_op rfl rfl rfl ?_; simp only [putT,st,ev,gt,hp,ofV,constT,intT,lm])
              refine WO_nil ?_
              refine W_cond rfl (fun hc => ?_) (fun hc => ?_)
              ·
               replace H := tr hc H
               refine W_seq (W_region ?_)
               refine WO_op rfl rfl rfl ?_; simp only [putT,st,ev,gt,hp,ofV,constT,intT,lm]
               refine WO_nil ?_
               refine W_ret ?_
               obtain rfl := Option.some.inj H
               exact told3 rfl
              ·
               replace H := fl hc H
               refine W_skip ?_
               refine W_seq (W_region ?_)
               refine WO_op rfl rfl rfl ?_; simp only [putT,st,ev,gt,hp,ofV,constT,intT,lm]
               refine WO_nil ?_
               refine W_ret ?_
               obtain rfl := Option.some.inj H
               exact told3 rfl
end Go.Pu
