import Derived.Test.YtajbkchcdiialaaGreatSettleOk1
import Derived.Test.YtajbkchcdiialaaGreatSettleOk2
set_option linter.unusedVariables false
set_option linter.unusedSimpArgs false
set_option synthInstance.maxSize 1000000000
set_option maxRecDepth 20000
set_option maxHeartbeats 20000000
namespace Go.Pu
open Go Go.SX Go.Nt Go.Proofs
theorem impl_Step_ok {a1 : Order} {a2 : Scale} {a3 : Int} {a4 : List Sample} {r : Scale × Int} (H : impl_Step a1 a2 a3 a4 = some r) : R 12 [.ag [(cS a1.Name, none), (cS a1.Target, none), (cI .i64 a1.Low, none), (cI .i64 a1.High, none), (cL enc_Metric a1.Metrics, none), (cI .i64 a1.Pace.Up, none), (cI .i64 a1.Pace.Down, none), (cI .i64 a1.Pace.UpSpan, none), (cI .i64 a1.Pace.DownSpan, none), (cL enc_Note a1.Notes, none)], .ag [(cS a2.Name, none), (cI .i64 a2.Now, none), (cL enc_Rec a2.Recs, none)], .c (cI .i64 a3) none, .c (cL enc_Sample a4) none] = some (.tu [.ag [(cS r.1.Name, none), (cI .i64 r.1.Now, none), (cL enc_Rec r.1.Recs, some 2)], .c (cI .i64 r.2) none], []) := by
 unfold impl_Step at H
 refine Fz_walk 123 rfl rfl Tryz.func12 rfl (by kernel_rfl) rfl rfl rfl rfl ?_
 simp only [tellVs, tellV, tells, tell, st0, padT, SX.newRow, SX.newBox, List.length_cons, List.length_nil, Nat.reduceAdd, Nat.reduceSub, List.replicate, List.cons_append, List.nil_append, List.foldl_cons, List.foldl_nil]
 refine W_seq (W_region ?_)
 refine WO_op (x := .bp 0 0) (σ' := ⟨[], [some [qs a1.Name, qs a1.Target, qi a1.Low, qi a1.High, .c (cL enc_Metric a1.Metrics), qi a1.Pace.Up, qi a1.Pace.Down, qi a1.Pace.UpSpan, qi a1.Pace.DownSpan, .c (cL enc_Note a1.Notes)]], []⟩) rfl rfl rfl ?_
 refine WO_op (x := .bp 1 0) (σ' := ⟨[], [some [qs a1.Name, qs a1.Target, qi a1.Low, qi a1.High, .c (cL enc_Metric a1.Metrics), qi a1.Pace.Up, qi a1.Pace.Down, qi a1.Pace.UpSpan, qi a1.Pace.DownSpan, .c (cL enc_Note a1.Notes)], some [qs a2.Name, qi a2.Now, .c (cL enc_Rec a2.Recs)]], []⟩) rfl rfl rfl ?_
 refine WO_op (x := .bp 2 0) (σ' := ⟨[], [some [qs a1.Name, qs a1.Target, qi a1.Low, qi a1.High, .c (cL enc_Metric a1.Metrics), qi a1.Pace.Up, qi a1.Pace.Down, qi a1.Pace.UpSpan, qi a1.Pace.DownSpan, .c (cL enc_Note a1.Notes)], some [qs a2.Name, qi a2.Now, .c (cL enc_Rec a2.Recs)], some [qs [], qi 0, .nil]], []⟩) rfl rfl rfl ?_
 refine WO_op rfl rfl rfl ?_; simp only [putT,st,ev,gt,hp,ofV,constT,intT,lm]
 refine WO_nil (W_seq (W_region ?_))
 refine WO_op (x := .ag [qs a2.Name, qi a2.Now, .c (cL enc_Rec a2.Recs)]) rfl rfl rfl ?_; simp only [putT,st,ev,gt,hp,ofV,constT,intT,lm]
 obtain ⟨x5, hx5, H⟩ := bnd H
 refine WO_op (x := .ag [qs x5.Name, qi x5.Now, .row 0]) (σ' := ⟨[], [some [qs a1.Name, qs a1.Target, qi a1.Low, qi a1.High, .c (cL enc_Metric a1.Metrics), qi a1.Pace.Up, qi a1.Pace.Down, qi a1.Pace.UpSpan, qi a1.Pace.DownSpan, .c (cL enc_Note a1.Notes)], some [qs a2.Name, qi a2.Now, .c (cL enc_Rec a2.Recs)], some [qs [], qi 0, .nil]], [rr 2 enc_Rec x5.Recs true]⟩) rfl rfl (ev_callG (al := [.ag [qs a2.Name, qi a2.Now, .c (cL enc_Rec a2.Recs)]]) (ls := []) (impl_copyScale_ok hx5) rfl rfl rfl rfl rfl (by decide) rfl rfl (by simp only [flatA, flatV, flatC, List.all_cons, List.all_nil, Option.all_some, Bool.and_self, Bool.or_true, fl_Rec]) rfl rfl rfl) ?_; simp only [putT,st,ev,gt,hp,ofV,constT,intT,lm]
 refine WO_op (x := .bp 3 0) (σ' := ⟨[], [some [qs a1.Name, qs a1.Target, qi a1.Low, qi a1.High, .c (cL enc_Metric a1.Metrics), qi a1.Pace.Up, qi a1.Pace.Down, qi a1.Pace.UpSpan, qi a1.Pace.DownSpan, .c (cL enc_Note a1.Notes)], some [qs a2.Name, qi a2.Now, .c (cL enc_Rec a2.Recs)], some [qs [], qi 0, .nil], some [qs [], qi 0, .nil]], [rr 2 enc_Rec x5.Recs true]⟩) rfl rfl rfl ?_
 refine WO_op (x := .no) (σ' := ⟨[], [some [qs a1.Name, qs a1.Target, qi a1.Low, qi a1.High, .c (cL enc_Metric a1.Metrics), qi a1.Pace.Up, qi a1.Pace.Down, qi a1.Pace.UpSpan, qi a1.Pace.DownSpan, .c (cL enc_Note a1.Notes)], some [qs a2.Name, qi a2.Now, .c (cL enc_Rec a2.Recs)], some [qs [], qi 0, .nil], some [qs x5.Name, qi x5.Now, .row 0]], [rr 2 enc_Rec x5.Recs true]⟩) rfl rfl rfl ?_; simp only [putT,st,ev,gt,hp,ofV,constT,intT,lm]
 refine WO_nil (W_seq (W_seq (W_region ?_)))
 refine WO_op (x := .ag [qs a1.Name, qs a1.Target, qi a1.Low, qi a1.High, .c (cL enc_Metric a1.Metrics), qi a1.Pace.Up, qi a1.Pace.Down, qi a1.Pace.UpSpan, qi a1.Pace.DownSpan, .c (cL enc_Note a1.Notes)]) rfl rfl rfl ?_; simp only [putT,st,ev,gt,hp,ofV,constT,intT,lm]
 obtain ⟨x6, hx6, H⟩ := bnd H
 refine WO_op (x := qb x6) (σ' := ⟨[], [some [qs a1.Name, qs a1.Target, qi a1.Low, qi a1.High, .c (cL enc_Metric a1.Metrics), qi a1.Pace.Up, qi a1.Pace.Down, qi a1.Pace.UpSpan, qi a1.Pace.DownSpan, .c (cL enc_Note a1.Notes)], some [qs a2.Name, qi a2.Now, .c (cL enc_Rec a2.Recs)], some [qs [], qi 0, .nil], some [qs x5.Name, qi x5.Now, .row 0]], [rr 2 enc_Rec x5.Recs true]⟩) rfl rfl (ev_callG (al := [.ag [qs a1.Name, qs a1.Target, qi a1.Low, qi a1.High, .c (cL enc_Metric a1.Metrics), qi a1.Pace.Up, qi a1.Pace.Down, qi a1.Pace.UpSpan, qi a1.Pace.DownSpan, .c (cL enc_Note a1.Notes)]]) (ls := []) (impl_OrderOk_ok hx6) rfl rfl rfl rfl rfl (by decide) rfl rfl rfl rfl rfl rfl) ?_; simp only [putT,st,ev,gt,hp,ofV,constT,intT,lm]
 iterate 2 (refine WO_op rfl rfl rfl ?_; simp only [putT,st,ev,gt,hp,ofV,constT,intT,lm])
 refine WO_if rfl rfl rfl (fun hc => ?_) (fun hc => ?_)
 ·
  replace H := tr hc H
  simp only [putT,st,ev,gt,hp,ofV,constT,intT,lm]
  iterate 3 refine WO_skip rfl rfl ?_
  refine WO_op (x := qb true) rfl rfl rfl ?_
  refine WO_op rfl rfl rfl ?_; simp only [putT,st,ev,gt,hp,ofV,constT,intT,lm]
  iterate 5 refine WO_skip rfl rfl ?_
  refine WO_op (x := qb true) rfl rfl rfl ?_
  refine WO_op rfl rfl rfl ?_; simp only [putT,st,ev,gt,hp,ofV,constT,intT,lm]
  iterate 3 refine WO_skip rfl rfl ?_
  refine WO_op (x := qb true) rfl rfl rfl ?_
  refine WO_op rfl rfl rfl ?_; simp only [putT,st,ev,gt,hp,ofV,constT,intT,lm]
  iterate 3 refine WO_skip rfl rfl ?_
  refine WO_op (x := qb true) rfl rfl rfl ?_
  refine WO_op rfl rfl rfl ?_; simp only [putT,st,ev,gt,hp,ofV,constT,intT,lm]
  iterate 17 refine WO_skip rfl rfl ?_
  refine WO_op (x := qb true) rfl rfl rfl ?_; simp only [putT,st,ev,gt,hp,ofV,constT,intT,lm]
  refine WO_nil ?_
  refine W_cond (t := true) rfl (fun _ => ?_) (fun h => by cases h)
  refine W_seq ?_
  refine W_drawL (by kernel_rfl) (by decide +kernel) ?_
  refine WL_op (x := .ag [qs x5.Name, qi x5.Now, .row 0]) rfl rfl rfl rfl ?_
  refine WL_op (x := .bp 1 1) rfl rfl rfl rfl ?_
  refine WL_op (x := qi a2.Now) rfl rfl rfl rfl ?_
  refine WL_op (x := .no) (σ' := ⟨[], [some [qs a1.Name, qs a1.Target, qi a1.Low, qi a1.High, .c (cL enc_Metric a1.Metrics), qi a1.Pace.Up, qi a1.Pace.Down, qi a1.Pace.UpSpan, qi a1.Pace.DownSpan, .c (cL enc_Note a1.Notes)], some [qs a2.Name, qi a2.Now, .c (cL enc_Rec a2.Recs)], some [qs x5.Name, qi x5.Now, .row 0], some [qs x5.Name, qi x5.Now, .row 0]], [rr 2 enc_Rec x5.Recs true]⟩) rfl rfl rfl rfl ?_; simp only [putT,st,ev,gt,hp,ofV,constT,intT,lm]
  refine WL_op rfl rfl rfl rfl ?_; simp only [putT,st,ev,gt,hp,ofV,constT,intT,lm]
  refine WL_nil (by kernel_rfl) ?_
  refine W_ret ?_
  obtain rfl := Option.some.inj H
  exact told5 rfl rfl rfl rfl (fitAs_nz rfl) rfl
 ·
  replace H := fl hc H
  refine WO_want (x := .ag [qs a2.Name, qi a2.Now, .c (cL enc_Rec a2.Recs)]) rfl rfl rfl ?_; simp only [putT,st,ev,gt,hp,ofV,constT,intT,lm]
  obtain ⟨x7, hx7, H⟩ := bnd H
  refine WO_want (x := qb x7) (σ' := ⟨[], [some [qs a1.Name, qs a1.Target, qi a1.Low, qi a1.High, .c (cL enc_Metric a1.Metrics), qi a1.Pace.Up, qi a1.Pace.Down, qi a1.Pace.UpSpan, qi a1.Pace.DownSpan, .c (cL enc_Note a1.Notes)], some [qs a2.Name, qi a2.Now, .c (cL enc_Rec a2.Recs)], some [qs [], qi 0, .nil], some [qs x5.Name, qi x5.Now, .row 0]], [rr 2 enc_Rec x5.Recs true]⟩) rfl rfl (ev_callG (al := [.ag [qs a2.Name, qi a2.Now, .c (cL enc_Rec a2.Recs)]]) (ls := []) (impl_ScaleOk_ok hx7) rfl rfl rfl rfl rfl (by decide) rfl rfl rfl rfl rfl rfl) ?_; simp only [putT,st,ev,gt,hp,ofV,constT,intT,lm]
  refine WO_want rfl rfl rfl ?_
  refine WO_op (x := qb (!x7)) rfl rfl rfl ?_
  refine WO_op rfl rfl rfl ?_; simp only [putT,st,ev,gt,hp,ofV,constT,intT,lm]
  refine WO_if rfl rfl rfl (fun hc => ?_) (fun hc => ?_)
  ·
   replace H := tr hc H
   simp only [putT,st,ev,gt,hp,ofV,constT,intT,lm]
   iterate 5 refine WO_skip rfl rfl ?_
   refine WO_op (x := qb true) rfl rfl rfl ?_
   refine WO_op rfl rfl rfl ?_; simp only [putT,st,ev,gt,hp,ofV,constT,intT,lm]
   iterate 3 refine WO_skip rfl rfl ?_
   refine WO_op (x := qb true) rfl rfl rfl ?_
   refine WO_op rfl rfl rfl ?_; simp only [putT,st,ev,gt,hp,ofV,constT,intT,lm]
   iterate 3 refine WO_skip rfl rfl ?_
   refine WO_op (x := qb true) rfl rfl rfl ?_
   refine WO_op rfl rfl rfl ?_; simp only [putT,st,ev,gt,hp,ofV,constT,intT,lm]
   iterate 17 refine WO_skip rfl rfl ?_
   refine WO_op (x := qb true) rfl rfl rfl ?_; simp only [putT,st,ev,gt,hp,ofV,constT,intT,lm]
   refine WO_nil ?_
   refine W_cond (t := true) rfl (fun _ => ?_) (fun h => by cases h)
   refine W_seq ?_
   refine W_drawL (by kernel_rfl) (by decide +kernel) ?_
   refine WL_op (x := .ag [qs x5.Name, qi x5.Now, .row 0]) rfl rfl rfl rfl ?_
   refine WL_op (x := .bp 1 1) rfl rfl rfl rfl ?_
   refine WL_op (x := qi a2.Now) rfl rfl rfl rfl ?_
   refine WL_op (x := .no) (σ' := ⟨[], [some [qs a1.Name, qs a1.Target, qi a1.Low, qi a1.High, .c (cL enc_Metric a1.Metrics), qi a1.Pace.Up, qi a1.Pace.Down, qi a1.Pace.UpSpan, qi a1.Pace.DownSpan, .c (cL enc_Note a1.Notes)], some [qs a2.Name, qi a2.Now, .c (cL enc_Rec a2.Recs)], some [qs x5.Name, qi x5.Now, .row 0], some [qs x5.Name, qi x5.Now, .row 0]], [rr 2 enc_Rec x5.Recs true]⟩) rfl rfl rfl rfl ?_; simp only [putT,st,ev,gt,hp,ofV,constT,intT,lm]
   refine WL_op rfl rfl rfl rfl ?_; simp only [putT,st,ev,gt,hp,ofV,constT,intT,lm]
   refine WL_nil (by kernel_rfl) ?_
   refine W_ret ?_
   obtain rfl := Option.some.inj H
   exact told5 rfl rfl rfl rfl (fitAs_nz rfl) rfl
  ·
   replace H := fl hc H
   refine WO_want (x := .bp 1 0) rfl rfl rfl ?_
   refine WO_want (x := qs a2.Name) rfl rfl rfl ?_
   refine WO_want (x := .bp 0 0) rfl rfl rfl ?_; simp only [putT,st,ev,gt,hp,ofV,constT,intT,lm]
   refine WO_want (x := qs a1.Name) rfl rfl rfl ?_; simp only [putT,st,ev,gt,hp,ofV,constT,intT,lm]
   refine WO_want rfl rfl (ev_neq_s rfl rfl rfl) ?_; simp only [putT,st,ev,gt,hp,ofV,constT,intT,lm]
   refine WO_op (x := qb (!(a2.Name == a1.Name))) rfl rfl rfl ?_
   refine WO_op rfl rfl rfl ?_; simp only [putT,st,ev,gt,hp,ofV,constT,intT,lm]
   refine WO_if rfl rfl rfl (fun hc => ?_) (fun hc => ?_)
   ·
    replace H := tr hc H
    simp only [putT,st,ev,gt,hp,ofV,constT,intT,lm]
    iterate 3 refine WO_skip rfl rfl ?_
    refine WO_op (x := qb true) rfl rfl rfl ?_
    refine WO_op rfl rfl rfl ?_; simp only [putT,st,ev,gt,hp,ofV,constT,intT,lm]
    iterate 3 refine WO_skip rfl rfl ?_
    refine WO_op (x := qb true) rfl rfl rfl ?_
    refine WO_op rfl rfl rfl ?_; simp only [putT,st,ev,gt,hp,ofV,constT,intT,lm]
    iterate 17 refine WO_skip rfl rfl ?_
    refine WO_op (x := qb true) rfl rfl rfl ?_; simp only [putT,st,ev,gt,hp,ofV,constT,intT,lm]
    refine WO_nil ?_
    refine W_cond (t := true) rfl (fun _ => ?_) (fun h => by cases h)
    refine W_seq ?_
    refine W_drawL (by kernel_rfl) (by decide +kernel) ?_
    refine WL_op (x := .ag [qs x5.Name, qi x5.Now, .row 0]) rfl rfl rfl rfl ?_
    refine WL_op (x := .bp 1 1) rfl rfl rfl rfl ?_
    refine WL_op (x := qi a2.Now) rfl rfl rfl rfl ?_
    refine WL_op (x := .no) (σ' := ⟨[], [some [qs a1.Name, qs a1.Target, qi a1.Low, qi a1.High, .c (cL enc_Metric a1.Metrics), qi a1.Pace.Up, qi a1.Pace.Down, qi a1.Pace.UpSpan, qi a1.Pace.DownSpan, .c (cL enc_Note a1.Notes)], some [qs a2.Name, qi a2.Now, .c (cL enc_Rec a2.Recs)], some [qs x5.Name, qi x5.Now, .row 0], some [qs x5.Name, qi x5.Now, .row 0]], [rr 2 enc_Rec x5.Recs true]⟩) rfl rfl rfl rfl ?_; simp only [putT,st,ev,gt,hp,ofV,constT,intT,lm]
    refine WL_op rfl rfl rfl rfl ?_; simp only [putT,st,ev,gt,hp,ofV,constT,intT,lm]
    refine WL_nil (by kernel_rfl) ?_
    refine W_ret ?_
    obtain rfl := Option.some.inj H
    exact told5 rfl rfl rfl rfl (fitAs_nz rfl) rfl
   ·
    replace H := fl hc H
    refine WO_want rfl rfl rfl ?_; simp only [putT,st,ev,gt,hp,ofV,constT,intT,lm]
    obtain ⟨x8, hx8, H⟩ := bnd H
    refine WO_want (x := qb x8) (σ' := ⟨[], [some [qs a1.Name, qs a1.Target, qi a1.Low, qi a1.High, .c (cL enc_Metric a1.Metrics), qi a1.Pace.Up, qi a1.Pace.Down, qi a1.Pace.UpSpan, qi a1.Pace.DownSpan, .c (cL enc_Note a1.Notes)], some [qs a2.Name, qi a2.Now, .c (cL enc_Rec a2.Recs)], some [qs [], qi 0, .nil], some [qs x5.Name, qi x5.Now, .row 0]], [rr 2 enc_Rec x5.Recs true]⟩) rfl rfl (ev_callG (al := [.c (cL enc_Sample a4)]) (ls := []) (impl_SamplesOk_ok hx8) rfl rfl rfl rfl rfl (by decide) rfl rfl rfl rfl rfl rfl) ?_; simp only [putT,st,ev,gt,hp,ofV,constT,intT,lm]
    refine WO_want rfl rfl rfl ?_
    refine WO_op (x := qb (!x8)) rfl rfl rfl ?_
    refine WO_op rfl rfl rfl ?_; simp only [putT,st,ev,gt,hp,ofV,constT,intT,lm]
    refine WO_if rfl rfl rfl (fun hc => ?_) (fun hc => ?_)
    ·
     replace H := tr hc H
     simp only [putT,st,ev,gt,hp,ofV,constT,intT,lm]
     iterate 3 refine WO_skip rfl rfl ?_
     refine WO_op (x := qb true) rfl rfl rfl ?_
     refine WO_op rfl rfl rfl ?_; simp only [putT,st,ev,gt,hp,ofV,constT,intT,lm]
     iterate 17 refine WO_skip rfl rfl ?_
     refine WO_op (x := qb true) rfl rfl rfl ?_; simp only [putT,st,ev,gt,hp,ofV,constT,intT,lm]
     refine WO_nil ?_
     refine W_cond (t := true) rfl (fun _ => ?_) (fun h => by cases h)
     refine W_seq ?_
     refine W_drawL (by kernel_rfl) (by decide +kernel) ?_
     refine WL_op (x := .ag [qs x5.Name, qi x5.Now, .row 0]) rfl rfl rfl rfl ?_
     refine WL_op (x := .bp 1 1) rfl rfl rfl rfl ?_
     refine WL_op (x := qi a2.Now) rfl rfl rfl rfl ?_
     refine WL_op (x := .no) (σ' := ⟨[], [some [qs a1.Name, qs a1.Target, qi a1.Low, qi a1.High, .c (cL enc_Metric a1.Metrics), qi a1.Pace.Up, qi a1.Pace.Down, qi a1.Pace.UpSpan, qi a1.Pace.DownSpan, .c (cL enc_Note a1.Notes)], some [qs a2.Name, qi a2.Now, .c (cL enc_Rec a2.Recs)], some [qs x5.Name, qi x5.Now, .row 0], some [qs x5.Name, qi x5.Now, .row 0]], [rr 2 enc_Rec x5.Recs true]⟩) rfl rfl rfl rfl ?_; simp only [putT,st,ev,gt,hp,ofV,constT,intT,lm]
     refine WL_op rfl rfl rfl rfl ?_; simp only [putT,st,ev,gt,hp,ofV,constT,intT,lm]
     refine WL_nil (by kernel_rfl) ?_
     refine W_ret ?_
     obtain rfl := Option.some.inj H
     exact told5 rfl rfl rfl rfl (fitAs_nz rfl) rfl
    ·
     replace H := fl hc H
     refine WO_want rfl rfl rfl ?_; simp only [putT,st,ev,gt,hp,ofV,constT,intT,lm]
     obtain ⟨x9, hx9, H⟩ := bnd H
     refine WO_want (x := qb x9) (σ' := ⟨[], [some [qs a1.Name, qs a1.Target, qi a1.Low, qi a1.High, .c (cL enc_Metric a1.Metrics), qi a1.Pace.Up, qi a1.Pace.Down, qi a1.Pace.UpSpan, qi a1.Pace.DownSpan, .c (cL enc_Note a1.Notes)], some [qs a2.Name, qi a2.Now, .c (cL enc_Rec a2.Recs)], some [qs [], qi 0, .nil], some [qs x5.Name, qi x5.Now, .row 0]], [rr 2 enc_Rec x5.Recs true]⟩) rfl rfl (ev_callG (al := [qi a3]) (ls := []) (impl_isTime_ok hx9) rfl rfl rfl rfl rfl (by decide) rfl rfl rfl rfl rfl rfl) ?_; simp only [putT,st,ev,gt,hp,ofV,constT,intT,lm]
     refine WO_want rfl rfl rfl ?_
     refine WO_op (x := qb (!x9)) rfl rfl rfl ?_
     refine WO_op rfl rfl rfl ?_; simp only [putT,st,ev,gt,hp,ofV,constT,intT,lm]
     refine WO_if rfl rfl rfl (fun hc => ?_) (fun hc => ?_)
     ·
      replace H := tr hc H
      simp only [putT,st,ev,gt,hp,ofV,constT,intT,lm]
      iterate 17 refine WO_skip rfl rfl ?_
      refine WO_op (x := qb true) rfl rfl rfl ?_; simp only [putT,st,ev,gt,hp,ofV,constT,intT,lm]
      refine WO_nil ?_
      refine W_cond (t := true) rfl (fun _ => ?_) (fun h => by cases h)
      refine W_seq ?_
      refine W_drawL (by kernel_rfl) (by decide +kernel) ?_
      refine WL_op (x := .ag [qs x5.Name, qi x5.Now, .row 0]) rfl rfl rfl rfl ?_
      refine WL_op (x := .bp 1 1) rfl rfl rfl rfl ?_
      refine WL_op (x := qi a2.Now) rfl rfl rfl rfl ?_
      refine WL_op (x := .no) (σ' := ⟨[], [some [qs a1.Name, qs a1.Target, qi a1.Low, qi a1.High, .c (cL enc_Metric a1.Metrics), qi a1.Pace.Up, qi a1.Pace.Down, qi a1.Pace.UpSpan, qi a1.Pace.DownSpan, .c (cL enc_Note a1.Notes)], some [qs a2.Name, qi a2.Now, .c (cL enc_Rec a2.Recs)], some [qs x5.Name, qi x5.Now, .row 0], some [qs x5.Name, qi x5.Now, .row 0]], [rr 2 enc_Rec x5.Recs true]⟩) rfl rfl rfl rfl ?_; simp only [putT,st,ev,gt,hp,ofV,constT,intT,lm]
      refine WL_op rfl rfl rfl rfl ?_; simp only [putT,st,ev,gt,hp,ofV,constT,intT,lm]
      refine WL_nil (by kernel_rfl) ?_
      refine W_ret ?_
      obtain rfl := Option.some.inj H
      exact told5 rfl rfl rfl rfl (fitAs_nz rfl) rfl
     ·
      replace H := fl hc H
      refine WO_want (x := .bp 1 2) rfl rfl rfl ?_
      refine WO_want (x := .c (cL enc_Rec a2.Recs)) rfl rfl rfl ?_; simp only [putT,st,ev,gt,hp,ofV,constT,intT,lm]
      iterate 3 (refine WO_want rfl rfl rfl ?_; simp only [putT,st,ev,gt,hp,ofV,constT,intT,lm])
      refine WO_if rfl rfl rfl (fun hc => ?_) (fun hc => ?_)
      ·
       replace H := tr hc H
       refine WO_want rfl rfl rfl ?_
       refine WO_want (x := .bp 1 2) rfl rfl rfl ?_
       refine WO_want (x := .c (cL enc_Rec a2.Recs)) rfl rfl rfl ?_; simp only [putT,st,ev,gt,hp,ofV,constT,intT,lm]
       refine WO_want (x := .bp 1 2) rfl rfl rfl ?_
       refine WO_want (x := .c (cL enc_Rec a2.Recs)) rfl rfl rfl ?_; simp only [putT,st,ev,gt,hp,ofV,constT,intT,lm]
       iterate 2 (refine WO_want rfl rfl rfl ?_; simp only [putT,st,ev,gt,hp,ofV,constT,intT,lm])
       obtain ⟨x10, hx10, H⟩ := bnd H
       refine WO_want rfl rfl (ev_ix (en := enc_Rec) hx10 rfl rfl rfl rfl rfl rfl rfl) ?_; simp only [putT,st,ev,gt,hp,ofV,constT,intT,lm]
       refine WO_want (x := .cp (enc_Rec x10) 0) rfl rfl rfl ?_
       refine WO_want (x := qi x10.Time) rfl rfl rfl ?_
       refine WO_want rfl rfl rfl ?_
       refine WO_want (x := qb (decide (a3 < x10.Time))) rfl rfl rfl ?_; simp only [putT,st,ev,gt,hp,ofV,constT,intT,lm]
       refine WO_op (x := qb (decide (a3 < x10.Time))) rfl rfl rfl ?_; simp only [putT,st,ev,gt,hp,ofV,constT,intT,lm]
       refine WO_nil ?_
       refine W_cond rfl (fun hc => ?_) (fun hc => ?_)
       ·
        replace H := tr hc H
        refine W_seq ?_
        refine W_drawL (by kernel_rfl) (by decide +kernel) ?_
        refine WL_op (x := .ag [qs x5.Name, qi x5.Now, .row 0]) rfl rfl rfl rfl ?_
        refine WL_op (x := .bp 1 1) rfl rfl rfl rfl ?_
        refine WL_op (x := qi a2.Now) rfl rfl rfl rfl ?_
        refine WL_op (x := .no) (σ' := ⟨[], [some [qs a1.Name, qs a1.Target, qi a1.Low, qi a1.High, .c (cL enc_Metric a1.Metrics), qi a1.Pace.Up, qi a1.Pace.Down, qi a1.Pace.UpSpan, qi a1.Pace.DownSpan, .c (cL enc_Note a1.Notes)], some [qs a2.Name, qi a2.Now, .c (cL enc_Rec a2.Recs)], some [qs x5.Name, qi x5.Now, .row 0], some [qs x5.Name, qi x5.Now, .row 0]], [rr 2 enc_Rec x5.Recs true]⟩) rfl rfl rfl rfl ?_; simp only [putT,st,ev,gt,hp,ofV,constT,intT,lm]
        refine WL_op rfl rfl rfl rfl ?_; simp only [putT,st,ev,gt,hp,ofV,constT,intT,lm]
        refine WL_nil (by kernel_rfl) ?_
        refine W_ret ?_
        obtain rfl := Option.some.inj H
        exact told5 rfl rfl rfl rfl (fitAs_nz rfl) rfl
       ·
        replace H := fl hc H
        refine W_skip ?_
        refine W_seq (W_region ?_)
        refine WO_op (x := .ag [qs a1.Name, qs a1.Target, qi a1.Low, qi a1.High, .c (cL enc_Metric a1.Metrics), qi a1.Pace.Up, qi a1.Pace.Down, qi a1.Pace.UpSpan, qi a1.Pace.DownSpan, .c (cL enc_Note a1.Notes)]) rfl rfl rfl ?_
        refine WO_op (x := .bp 1 1) rfl rfl rfl ?_
        refine WO_op (x := qi a2.Now) rfl rfl rfl ?_
        refine WO_op rfl rfl rfl ?_; simp only [putT,st,ev,gt,hp,ofV,constT,intT,lm]
        obtain ⟨x11, hx11, H⟩ := bnd H
        refine WO_op (x := .tu [qi x11.1, qb x11.2]) (σ' := ⟨[], [some [qs a1.Name, qs a1.Target, qi a1.Low, qi a1.High, .c (cL enc_Metric a1.Metrics), qi a1.Pace.Up, qi a1.Pace.Down, qi a1.Pace.UpSpan, qi a1.Pace.DownSpan, .c (cL enc_Note a1.Notes)], some [qs a2.Name, qi a2.Now, .c (cL enc_Rec a2.Recs)], some [qs [], qi 0, .nil], some [qs x5.Name, qi x5.Now, .row 0]], [rr 2 enc_Rec x5.Recs true]⟩) rfl rfl (ev_callG (al := [.ag [qs a1.Name, qs a1.Target, qi a1.Low, qi a1.High, .c (cL enc_Metric a1.Metrics), qi a1.Pace.Up, qi a1.Pace.Down, qi a1.Pace.UpSpan, qi a1.Pace.DownSpan, .c (cL enc_Note a1.Notes)], qi a2.Now, .c (cL enc_Sample a4)]) (ls := []) (impl_ByAll_ok hx11) rfl rfl rfl rfl rfl (by decide) rfl rfl rfl rfl rfl rfl) ?_; simp only [putT,st,ev,gt,hp,ofV,constT,intT,lm]
        refine WO_op rfl rfl rfl ?_
        refine WO_op (x := qi x11.1) rfl rfl rfl ?_
        refine WO_op (x := qb x11.2) rfl rfl rfl ?_; simp only [putT,st,ev,gt,hp,ofV,constT,intT,lm]
        iterate 2 (refine WO_op rfl rfl rfl ?_; simp only [putT,st,ev,gt,hp,ofV,constT,intT,lm])
        refine WO_nil (W_seq (W_seq (W_region ?_)))
        iterate 2 (refine WO_op rfl rfl rfl ?_; simp only [putT,st,ev,gt,hp,ofV,constT,intT,lm])
        refine WO_nil ?_
        refine W_cond rfl (fun hc => ?_) (fun hc => ?_)
        ·
         replace H := tr hc H
         refine W_seq (W_region ?_)
         refine WO_op (x := .bp 1 1) rfl rfl rfl ?_
         refine WO_op (x := qi a2.Now) rfl rfl rfl ?_
         refine WO_op (x := .bp 0 2) rfl rfl rfl ?_
         refine WO_op (x := qi a1.Low) rfl rfl rfl ?_; simp only [putT,st,ev,gt,hp,ofV,constT,intT,lm]
         refine WO_op (x := .bp 0 3) rfl rfl rfl ?_
         refine WO_op (x := qi a1.High) rfl rfl rfl ?_; simp only [putT,st,ev,gt,hp,ofV,constT,intT,lm]
         obtain ⟨x12, hx12, H⟩ := bnd H
         refine WO_op (x := qi x12) (σ' := ⟨[], [some [qs a1.Name, qs a1.Target, qi a1.Low, qi a1.High, .c (cL enc_Metric a1.Metrics), qi a1.Pace.Up, qi a1.Pace.Down, qi a1.Pace.UpSpan, qi a1.Pace.DownSpan, .c (cL enc_Note a1.Notes)], some [qs a2.Name, qi a2.Now, .c (cL enc_Rec a2.Recs)], some [qs [], qi 0, .nil], some [qs x5.Name, qi x5.Now, .row 0]], [rr 2 enc_Rec x5.Recs true]⟩) rfl rfl (ev_callG (al := [qi a2.Now, qi a1.Low, qi a1.High]) (ls := []) (impl_Clamp_ok hx12) rfl rfl rfl rfl rfl (by decide) rfl rfl rfl rfl rfl rfl) ?_; simp only [putT,st,ev,gt,hp,ofV,constT,intT,lm]
         refine WO_op (x := .bp 3 1) rfl rfl rfl ?_
         refine WO_op (x := .no) (σ' := ⟨[], [some [qs a1.Name, qs a1.Target, qi a1.Low, qi a1.High, .c (cL enc_Metric a1.Metrics), qi a1.Pace.Up, qi a1.Pace.Down, qi a1.Pace.UpSpan, qi a1.Pace.DownSpan, .c (cL enc_Note a1.Notes)], some [qs a2.Name, qi a2.Now, .c (cL enc_Rec a2.Recs)], some [qs [], qi 0, .nil], some [qs x5.Name, qi x12, .row 0]], [rr 2 enc_Rec x5.Recs true]⟩) rfl rfl rfl ?_; simp only [putT,st,ev,gt,hp,ofV,constT,intT,lm]
         refine WO_nil (W_seq ?_)
         refine W_drawL (by kernel_rfl) (by decide +kernel) ?_
         refine WL_op (x := .ag [qs x5.Name, qi x12, .row 0]) rfl rfl rfl rfl ?_
         refine WL_op (x := .bp 3 1) rfl rfl rfl rfl ?_
         refine WL_op (x := qi x12) rfl rfl rfl rfl ?_
         refine WL_op (x := .no) (σ' := ⟨[], [some [qs a1.Name, qs a1.Target, qi a1.Low, qi a1.High, .c (cL enc_Metric a1.Metrics), qi a1.Pace.Up, qi a1.Pace.Down, qi a1.Pace.UpSpan, qi a1.Pace.DownSpan, .c (cL enc_Note a1.Notes)], some [qs a2.Name, qi a2.Now, .c (cL enc_Rec a2.Recs)], some [qs x5.Name, qi x12, .row 0], some [qs x5.Name, qi x12, .row 0]], [rr 2 enc_Rec x5.Recs true]⟩) rfl rfl rfl rfl ?_; simp only [putT,st,ev,gt,hp,ofV,constT,intT,lm]
         refine WL_op rfl rfl rfl rfl ?_; simp only [putT,st,ev,gt,hp,ofV,constT,intT,lm]
         refine WL_nil (by kernel_rfl) ?_
         refine W_ret ?_
         obtain rfl := Option.some.inj H
         exact told5 rfl rfl rfl rfl (fitAs_nz rfl) rfl
        ·
         replace H := fl hc H
         refine W_skip ?_
         refine W_seq (W_region ?_)
         refine WO_op rfl rfl rfl ?_
         refine WO_op (x := .bp 0 2) rfl rfl rfl ?_
         refine WO_op (x := qi a1.Low) rfl rfl rfl ?_
         refine WO_op (x := .bp 0 3) rfl rfl rfl ?_; simp only [putT,st,ev,gt,hp,ofV,constT,intT,lm]
         refine WO_op (x := qi a1.High) rfl rfl rfl ?_; simp only [putT,st,ev,gt,hp,ofV,constT,intT,lm]
         obtain ⟨x13, hx13, H⟩ := bnd H
         refine WO_op (x := qi x13) (σ' := ⟨[], [some [qs a1.Name, qs a1.Target, qi a1.Low, qi a1.High, .c (cL enc_Metric a1.Metrics), qi a1.Pace.Up, qi a1.Pace.Down, qi a1.Pace.UpSpan, qi a1.Pace.DownSpan, .c (cL enc_Note a1.Notes)], some [qs a2.Name, qi a2.Now, .c (cL enc_Rec a2.Recs)], some [qs [], qi 0, .nil], some [qs x5.Name, qi x5.Now, .row 0]], [rr 2 enc_Rec x5.Recs true]⟩) rfl rfl (ev_callG (al := [qi x11.1, qi a1.Low, qi a1.High]) (ls := []) (impl_Clamp_ok hx13) rfl rfl rfl rfl rfl (by decide) rfl rfl rfl rfl rfl rfl) ?_; simp only [putT,st,ev,gt,hp,ofV,constT,intT,lm]
         refine WO_op rfl rfl rfl ?_; simp only [putT,st,ev,gt,hp,ofV,constT,intT,lm]
         refine WO_nil (W_seq (W_region ?_))
         refine WO_op (x := .bp 1 2) rfl rfl rfl ?_
         refine WO_op (x := .c (cL enc_Rec a2.Recs)) rfl rfl rfl ?_; simp only [putT,st,ev,gt,hp,ofV,constT,intT,lm]
         iterate 2 (refine WO_op rfl rfl rfl ?_; simp only [putT,st,ev,gt,hp,ofV,constT,intT,lm])
         obtain ⟨x14, hx14, H⟩ := bnd H
         refine WO_op (x := .row 1) (σ' := ⟨[], [some [qs a1.Name, qs a1.Target, qi a1.Low, qi a1.High, .c (cL enc_Metric a1.Metrics), qi a1.Pace.Up, qi a1.Pace.Down, qi a1.Pace.UpSpan, qi a1.Pace.DownSpan, .c (cL enc_Note a1.Notes)], some [qs a2.Name, qi a2.Now, .c (cL enc_Rec a2.Recs)], some [qs [], qi 0, .nil], some [qs x5.Name, qi x5.Now, .row 0]], [rr 2 enc_Rec x5.Recs true, rr 2 enc_Rec x14 true]⟩) rfl rfl (ev_callG (al := [.c (cL enc_Rec a2.Recs), qi a3, qi x13]) (ls := []) (impl_RecAdd_ok hx14) rfl rfl rfl rfl rfl (by decide) rfl rfl (by simp only [flatA, flatV, flatC, List.all_cons, List.all_nil, Option.all_some, Bool.and_self, Bool.or_true, fl_Rec]) rfl rfl rfl) ?_; simp only [putT,st,ev,gt,hp,ofV,constT,intT,lm]
         refine WO_op (x := .bp 3 2) rfl rfl rfl ?_
         refine WO_op (x := .no) (σ' := ⟨[], [some [qs a1.Name, qs a1.Target, qi a1.Low, qi a1.High, .c (cL enc_Metric a1.Metrics), qi a1.Pace.Up, qi a1.Pace.Down, qi a1.Pace.UpSpan, qi a1.Pace.DownSpan, .c (cL enc_Note a1.Notes)], some [qs a2.Name, qi a2.Now, .c (cL enc_Rec a2.Recs)], some [qs [], qi 0, .nil], some [qs x5.Name, qi x5.Now, .row 1]], [rr 2 enc_Rec x5.Recs true, rr 2 enc_Rec x14 true]⟩) rfl rfl rfl ?_; simp only [putT,st,ev,gt,hp,ofV,constT,intT,lm]
         refine WO_nil (W_seq (W_region ?_))
         refine WO_op (x := .bp 0 5) rfl rfl rfl ?_
         refine WO_op (x := .ag [qi a1.Pace.Up, qi a1.Pace.Down, qi a1.Pace.UpSpan, qi a1.Pace.DownSpan]) rfl rfl rfl ?_
         refine WO_op (x := .bp 1 2) rfl rfl rfl ?_
         refine WO_op (x := .c (cL enc_Rec a2.Recs)) rfl rfl rfl ?_; simp only [putT,st,ev,gt,hp,ofV,constT,intT,lm]
         refine WO_op rfl rfl rfl ?_
         refine WO_op (x := .bp 1 1) rfl rfl rfl ?_
         refine WO_op (x := qi a2.Now) rfl rfl rfl ?_
         refine WO_op rfl rfl rfl ?_; simp only [putT,st,ev,gt,hp,ofV,constT,intT,lm]
         obtain ⟨x15, hx15, H⟩ := bnd H
         refine WO_op (x := qi x15) (σ' := ⟨[], [some [qs a1.Name, qs a1.Target, qi a1.Low, qi a1.High, .c (cL enc_Metric a1.Metrics), qi a1.Pace.Up, qi a1.Pace.Down, qi a1.Pace.UpSpan, qi a1.Pace.DownSpan, .c (cL enc_Note a1.Notes)], some [qs a2.Name, qi a2.Now, .c (cL enc_Rec a2.Recs)], some [qs [], qi 0, .nil], some [qs x5.Name, qi x5.Now, .row 1]], [rr 2 enc_Rec x5.Recs true, rr 2 enc_Rec x14 true]⟩) rfl rfl (ev_callG (al := [.ag [qi a1.Pace.Up, qi a1.Pace.Down, qi a1.Pace.UpSpan, qi a1.Pace.DownSpan], .c (cL enc_Rec a2.Recs), qi a3, qi a2.Now, qi x13]) (ls := []) (impl_Steady_ok hx15) rfl rfl rfl rfl rfl (by decide) rfl rfl rfl rfl rfl rfl) ?_; simp only [putT,st,ev,gt,hp,ofV,constT,intT,lm]
         refine WO_op rfl rfl rfl ?_; simp only [putT,st,ev,gt,hp,ofV,constT,intT,lm]
         refine WO_nil (W_seq (W_region ?_))
         refine WO_op (x := .bp 0 5) rfl rfl rfl ?_
         refine WO_op (x := .ag [qi a1.Pace.Up, qi a1.Pace.Down, qi a1.Pace.UpSpan, qi a1.Pace.DownSpan]) rfl rfl rfl ?_
         refine WO_op (x := .bp 1 1) rfl rfl rfl ?_
         refine WO_op (x := qi a2.Now) rfl rfl rfl ?_; simp only [putT,st,ev,gt,hp,ofV,constT,intT,lm]
         refine WO_op rfl rfl rfl ?_; simp only [putT,st,ev,gt,hp,ofV,constT,intT,lm]
         obtain ⟨x16, hx16, H⟩ := bnd H
         refine WO_op (x := qi x16) (σ' := ⟨[], [some [qs a1.Name, qs a1.Target, qi a1.Low, qi a1.High, .c (cL enc_Metric a1.Metrics), qi a1.Pace.Up, qi a1.Pace.Down, qi a1.Pace.UpSpan, qi a1.Pace.DownSpan, .c (cL enc_Note a1.Notes)], some [qs a2.Name, qi a2.Now, .c (cL enc_Rec a2.Recs)], some [qs [], qi 0, .nil], some [qs x5.Name, qi x5.Now, .row 1]], [rr 2 enc_Rec x5.Recs true, rr 2 enc_Rec x14 true]⟩) rfl rfl (ev_callG (al := [.ag [qi a1.Pace.Up, qi a1.Pace.Down, qi a1.Pace.UpSpan, qi a1.Pace.DownSpan], qi a2.Now, qi x15]) (ls := []) (impl_Slow_ok hx16) rfl rfl rfl rfl rfl (by decide) rfl rfl rfl rfl rfl rfl) ?_; simp only [putT,st,ev,gt,hp,ofV,constT,intT,lm]
         refine WO_op rfl rfl rfl ?_; simp only [putT,st,ev,gt,hp,ofV,constT,intT,lm]
         refine WO_nil (W_seq (W_region ?_))
         refine WO_op rfl rfl rfl ?_
         refine WO_op (x := .bp 0 2) rfl rfl rfl ?_
         refine WO_op (x := qi a1.Low) rfl rfl rfl ?_
         refine WO_op (x := .bp 0 3) rfl rfl rfl ?_; simp only [putT,st,ev,gt,hp,ofV,constT,intT,lm]
         refine WO_op (x := qi a1.High) rfl rfl rfl ?_; simp only [putT,st,ev,gt,hp,ofV,constT,intT,lm]
         obtain ⟨x17, hx17, H⟩ := bnd H
         refine WO_op (x := qi x17) (σ' := ⟨[], [some [qs a1.Name, qs a1.Target, qi a1.Low, qi a1.High, .c (cL enc_Metric a1.Metrics), qi a1.Pace.Up, qi a1.Pace.Down, qi a1.Pace.UpSpan, qi a1.Pace.DownSpan, .c (cL enc_Note a1.Notes)], some [qs a2.Name, qi a2.Now, .c (cL enc_Rec a2.Recs)], some [qs [], qi 0, .nil], some [qs x5.Name, qi x5.Now, .row 1]], [rr 2 enc_Rec x5.Recs true, rr 2 enc_Rec x14 true]⟩) rfl rfl (ev_callG (al := [qi x16, qi a1.Low, qi a1.High]) (ls := []) (impl_Clamp_ok hx17) rfl rfl rfl rfl rfl (by decide) rfl rfl rfl rfl rfl rfl) ?_; simp only [putT,st,ev,gt,hp,ofV,constT,intT,lm]
         refine WO_op (x := .bp 3 1) rfl rfl rfl ?_
         refine WO_op (x := .no) (σ' := ⟨[], [some [qs a1.Name, qs a1.Target, qi a1.Low, qi a1.High, .c (cL enc_Metric a1.Metrics), qi a1.Pace.Up, qi a1.Pace.Down, qi a1.Pace.UpSpan, qi a1.Pace.DownSpan, .c (cL enc_Note a1.Notes)], some [qs a2.Name, qi a2.Now, .c (cL enc_Rec a2.Recs)], some [qs [], qi 0, .nil], some [qs x5.Name, qi x17, .row 1]], [rr 2 enc_Rec x5.Recs true, rr 2 enc_Rec x14 true]⟩) rfl rfl rfl ?_; simp only [putT,st,ev,gt,hp,ofV,constT,intT,lm]
         refine WO_nil (W_seq ?_)
         refine W_drawL (by kernel_rfl) (by decide +kernel) ?_
         refine WL_op (x := .ag [qs x5.Name, qi x17, .row 1]) rfl rfl rfl rfl ?_
         refine WL_op (x := .bp 3 1) rfl rfl rfl rfl ?_
         refine WL_op (x := qi x17) rfl rfl rfl rfl ?_
         refine WL_op (x := .no) (σ' := ⟨[], [some [qs a1.Name, qs a1.Target, qi a1.Low, qi a1.High, .c (cL enc_Metric a1.Metrics), qi a1.Pace.Up, qi a1.Pace.Down, qi a1.Pace.UpSpan, qi a1.Pace.DownSpan, .c (cL enc_Note a1.Notes)], some [qs a2.Name, qi a2.Now, .c (cL enc_Rec a2.Recs)], some [qs x5.Name, qi x17, .row 1], some [qs x5.Name, qi x17, .row 1]], [rr 2 enc_Rec x5.Recs true, rr 2 enc_Rec x14 true]⟩) rfl rfl rfl rfl ?_; simp only [putT,st,ev,gt,hp,ofV,constT,intT,lm]
         refine WL_op rfl rfl rfl rfl ?_; simp only [putT,st,ev,gt,hp,ofV,constT,intT,lm]
         refine WL_nil (by kernel_rfl) ?_
         refine W_ret ?_
         obtain rfl := Option.some.inj H
         exact told5 rfl rfl rfl rfl (fitAs_nz rfl) rfl
      ·
       replace H := fl hc H
       simp only [putT,st,ev,gt,hp,ofV,constT,intT,lm]
       iterate 11 refine WO_skip rfl rfl ?_
       refine WO_want (x := qb false) rfl rfl rfl ?_
       refine WO_op (x := qb false) rfl rfl rfl ?_; simp only [putT,st,ev,gt,hp,ofV,constT,intT,lm]
       refine WO_nil ?_
       refine W_cond (t := false) rfl (fun h => by cases h) (fun _ => ?_)
       refine W_skip ?_
       refine W_seq (W_region ?_)
       refine WO_op (x := .ag [qs a1.Name, qs a1.Target, qi a1.Low, qi a1.High, .c (cL enc_Metric a1.Metrics), qi a1.Pace.Up, qi a1.Pace.Down, qi a1.Pace.UpSpan, qi a1.Pace.DownSpan, .c (cL enc_Note a1.Notes)]) rfl rfl rfl ?_
       refine WO_op (x := .bp 1 1) rfl rfl rfl ?_
       refine WO_op (x := qi a2.Now) rfl rfl rfl ?_
       refine WO_op rfl rfl rfl ?_; simp only [putT,st,ev,gt,hp,ofV,constT,intT,lm]
       obtain ⟨x18, hx18, H⟩ := bnd H
       refine WO_op (x := .tu [qi x18.1, qb x18.2]) (σ' := ⟨[], [some [qs a1.Name, qs a1.Target, qi a1.Low, qi a1.High, .c (cL enc_Metric a1.Metrics), qi a1.Pace.Up, qi a1.Pace.Down, qi a1.Pace.UpSpan, qi a1.Pace.DownSpan, .c (cL enc_Note a1.Notes)], some [qs a2.Name, qi a2.Now, .c (cL enc_Rec a2.Recs)], some [qs [], qi 0, .nil], some [qs x5.Name, qi x5.Now, .row 0]], [rr 2 enc_Rec x5.Recs true]⟩) rfl rfl (ev_callG (al := [.ag [qs a1.Name, qs a1.Target, qi a1.Low, qi a1.High, .c (cL enc_Metric a1.Metrics), qi a1.Pace.Up, qi a1.Pace.Down, qi a1.Pace.UpSpan, qi a1.Pace.DownSpan, .c (cL enc_Note a1.Notes)], qi a2.Now, .c (cL enc_Sample a4)]) (ls := []) (impl_ByAll_ok hx18) rfl rfl rfl rfl rfl (by decide) rfl rfl rfl rfl rfl rfl) ?_; simp only [putT,st,ev,gt,hp,ofV,constT,intT,lm]
       refine WO_op rfl rfl rfl ?_
       refine WO_op (x := qi x18.1) rfl rfl rfl ?_
       refine WO_op (x := qb x18.2) rfl rfl rfl ?_; simp only [putT,st,ev,gt,hp,ofV,constT,intT,lm]
       iterate 2 (refine WO_op rfl rfl rfl ?_; simp only [putT,st,ev,gt,hp,ofV,constT,intT,lm])
       refine WO_nil (W_seq (W_seq (W_region ?_)))
       iterate 2 (refine WO_op rfl rfl rfl ?_; simp only [putT,st,ev,gt,hp,ofV,constT,intT,lm])
       refine WO_nil ?_
       refine W_cond rfl (fun hc => ?_) (fun hc => ?_)
       ·
        replace H := tr hc H
        refine W_seq (W_region ?_)
        refine WO_op (x := .bp 1 1) rfl rfl rfl ?_
        refine WO_op (x := qi a2.Now) rfl rfl rfl ?_
        refine WO_op (x := .bp 0 2) rfl rfl rfl ?_
        refine WO_op (x := qi a1.Low) rfl rfl rfl ?_; simp only [putT,st,ev,gt,hp,ofV,constT,intT,lm]
        refine WO_op (x := .bp 0 3) rfl rfl rfl ?_
        refine WO_op (x := qi a1.High) rfl rfl rfl ?_; simp only [putT,st,ev,gt,hp,ofV,constT,intT,lm]
        obtain ⟨x19, hx19, H⟩ := bnd H
        refine WO_op (x := qi x19) (σ' := ⟨[], [some [qs a1.Name, qs a1.Target, qi a1.Low, qi a1.High, .c (cL enc_Metric a1.Metrics), qi a1.Pace.Up, qi a1.Pace.Down, qi a1.Pace.UpSpan, qi a1.Pace.DownSpan, .c (cL enc_Note a1.Notes)], some [qs a2.Name, qi a2.Now, .c (cL enc_Rec a2.Recs)], some [qs [], qi 0, .nil], some [qs x5.Name, qi x5.Now, .row 0]], [rr 2 enc_Rec x5.Recs true]⟩) rfl rfl (ev_callG (al := [qi a2.Now, qi a1.Low, qi a1.High]) (ls := []) (impl_Clamp_ok hx19) rfl rfl rfl rfl rfl (by decide) rfl rfl rfl rfl rfl rfl) ?_; simp only [putT,st,ev,gt,hp,ofV,constT,intT,lm]
        refine WO_op (x := .bp 3 1) rfl rfl rfl ?_
        refine WO_op (x := .no) (σ' := ⟨[], [some [qs a1.Name, qs a1.Target, qi a1.Low, qi a1.High, .c (cL enc_Metric a1.Metrics), qi a1.Pace.Up, qi a1.Pace.Down, qi a1.Pace.UpSpan, qi a1.Pace.DownSpan, .c (cL enc_Note a1.Notes)], some [qs a2.Name, qi a2.Now, .c (cL enc_Rec a2.Recs)], some [qs [], qi 0, .nil], some [qs x5.Name, qi x19, .row 0]], [rr 2 enc_Rec x5.Recs true]⟩) rfl rfl rfl ?_; simp only [putT,st,ev,gt,hp,ofV,constT,intT,lm]
        refine WO_nil (W_seq ?_)
        refine W_drawL (by kernel_rfl) (by decide +kernel) ?_
        refine WL_op (x := .ag [qs x5.Name, qi x19, .row 0]) rfl rfl rfl rfl ?_
        refine WL_op (x := .bp 3 1) rfl rfl rfl rfl ?_
        refine WL_op (x := qi x19) rfl rfl rfl rfl ?_
        refine WL_op (x := .no) (σ' := ⟨[], [some [qs a1.Name, qs a1.Target, qi a1.Low, qi a1.High, .c (cL enc_Metric a1.Metrics), qi a1.Pace.Up, qi a1.Pace.Down, qi a1.Pace.UpSpan, qi a1.Pace.DownSpan, .c (cL enc_Note a1.Notes)], some [qs a2.Name, qi a2.Now, .c (cL enc_Rec a2.Recs)], some [qs x5.Name, qi x19, .row 0], some [qs x5.Name, qi x19, .row 0]], [rr 2 enc_Rec x5.Recs true]⟩) rfl rfl rfl rfl ?_; simp only [putT,st,ev,gt,hp,ofV,constT,intT,lm]
        refine WL_op rfl rfl rfl rfl ?_; simp only [putT,st,ev,gt,hp,ofV,constT,intT,lm]
        refine WL_nil (by kernel_rfl) ?_
        refine W_ret ?_
        obtain rfl := Option.some.inj H
        exact told5 rfl rfl rfl rfl (fitAs_nz rfl) rfl
       ·
        replace H := fl hc H
        refine W_skip ?_
        refine W_seq (W_region ?_)
        refine WO_op rfl rfl rfl ?_
        refine WO_op (x := .bp 0 2) rfl rfl rfl ?_
        refine WO_op (x := qi a1.Low) rfl rfl rfl ?_
        refine WO_op (x := .bp 0 3) rfl rfl rfl ?_; simp only [putT,st,ev,gt,hp,ofV,constT,intT,lm]
        refine WO_op (x := qi a1.High) rfl rfl rfl ?_; simp only [putT,st,ev,gt,hp,ofV,constT,intT,lm]
        obtain ⟨x20, hx20, H⟩ := bnd H
        refine WO_op (x := qi x20) (σ' := ⟨[], [some [qs a1.Name, qs a1.Target, qi a1.Low, qi a1.High, .c (cL enc_Metric a1.Metrics), qi a1.Pace.Up, qi a1.Pace.Down, qi a1.Pace.UpSpan, qi a1.Pace.DownSpan, .c (cL enc_Note a1.Notes)], some [qs a2.Name, qi a2.Now, .c (cL enc_Rec a2.Recs)], some [qs [], qi 0, .nil], some [qs x5.Name, qi x5.Now, .row 0]], [rr 2 enc_Rec x5.Recs true]⟩) rfl rfl (ev_callG (al := [qi x18.1, qi a1.Low, qi a1.High]) (ls := []) (impl_Clamp_ok hx20) rfl rfl rfl rfl rfl (by decide) rfl rfl rfl rfl rfl rfl) ?_; simp only [putT,st,ev,gt,hp,ofV,constT,intT,lm]
        refine WO_op rfl rfl rfl ?_; simp only [putT,st,ev,gt,hp,ofV,constT,intT,lm]
        refine WO_nil (W_seq (W_region ?_))
        refine WO_op (x := .bp 1 2) rfl rfl rfl ?_
        refine WO_op (x := .c (cL enc_Rec a2.Recs)) rfl rfl rfl ?_; simp only [putT,st,ev,gt,hp,ofV,constT,intT,lm]
        iterate 2 (refine WO_op rfl rfl rfl ?_; simp only [putT,st,ev,gt,hp,ofV,constT,intT,lm])
        obtain ⟨x21, hx21, H⟩ := bnd H
        refine WO_op (x := .row 1) (σ' := ⟨[], [some [qs a1.Name, qs a1.Target, qi a1.Low, qi a1.High, .c (cL enc_Metric a1.Metrics), qi a1.Pace.Up, qi a1.Pace.Down, qi a1.Pace.UpSpan, qi a1.Pace.DownSpan, .c (cL enc_Note a1.Notes)], some [qs a2.Name, qi a2.Now, .c (cL enc_Rec a2.Recs)], some [qs [], qi 0, .nil], some [qs x5.Name, qi x5.Now, .row 0]], [rr 2 enc_Rec x5.Recs true, rr 2 enc_Rec x21 true]⟩) rfl rfl (ev_callG (al := [.c (cL enc_Rec a2.Recs), qi a3, qi x20]) (ls := []) (impl_RecAdd_ok hx21) rfl rfl rfl rfl rfl (by decide) rfl rfl (by simp only [flatA, flatV, flatC, List.all_cons, List.all_nil, Option.all_some, Bool.and_self, Bool.or_true, fl_Rec]) rfl rfl rfl) ?_; simp only [putT,st,ev,gt,hp,ofV,constT,intT,lm]
        refine WO_op (x := .bp 3 2) rfl rfl rfl ?_
        refine WO_op (x := .no) (σ' := ⟨[], [some [qs a1.Name, qs a1.Target, qi a1.Low, qi a1.High, .c (cL enc_Metric a1.Metrics), qi a1.Pace.Up, qi a1.Pace.Down, qi a1.Pace.UpSpan, qi a1.Pace.DownSpan, .c (cL enc_Note a1.Notes)], some [qs a2.Name, qi a2.Now, .c (cL enc_Rec a2.Recs)], some [qs [], qi 0, .nil], some [qs x5.Name, qi x5.Now, .row 1]], [rr 2 enc_Rec x5.Recs true, rr 2 enc_Rec x21 true]⟩) rfl rfl rfl ?_; simp only [putT,st,ev,gt,hp,ofV,constT,intT,lm]
        refine WO_nil (W_seq (W_region ?_))
        refine WO_op (x := .bp 0 5) rfl rfl rfl ?_
        refine WO_op (x := .ag [qi a1.Pace.Up, qi a1.Pace.Down, qi a1.Pace.UpSpan, qi a1.Pace.DownSpan]) rfl rfl rfl ?_
        refine WO_op (x := .bp 1 2) rfl rfl rfl ?_
        refine WO_op (x := .c (cL enc_Rec a2.Recs)) rfl rfl rfl ?_; simp only [putT,st,ev,gt,hp,ofV,constT,intT,lm]
        refine WO_op rfl rfl rfl ?_
        refine WO_op (x := .bp 1 1) rfl rfl rfl ?_
        refine WO_op (x := qi a2.Now) rfl rfl rfl ?_
        refine WO_op rfl rfl rfl ?_; simp only [putT,st,ev,gt,hp,ofV,constT,intT,lm]
        obtain ⟨x22, hx22, H⟩ := bnd H
        refine WO_op (x := qi x22) (σ' := ⟨[], [some [qs a1.Name, qs a1.Target, qi a1.Low, qi a1.High, .c (cL enc_Metric a1.Metrics), qi a1.Pace.Up, qi a1.Pace.Down, qi a1.Pace.UpSpan, qi a1.Pace.DownSpan, .c (cL enc_Note a1.Notes)], some [qs a2.Name, qi a2.Now, .c (cL enc_Rec a2.Recs)], some [qs [], qi 0, .nil], some [qs x5.Name, qi x5.Now, .row 1]], [rr 2 enc_Rec x5.Recs true, rr 2 enc_Rec x21 true]⟩) rfl rfl (ev_callG (al := [.ag [qi a1.Pace.Up, qi a1.Pace.Down, qi a1.Pace.UpSpan, qi a1.Pace.DownSpan], .c (cL enc_Rec a2.Recs), qi a3, qi a2.Now, qi x20]) (ls := []) (impl_Steady_ok hx22) rfl rfl rfl rfl rfl (by decide) rfl rfl rfl rfl rfl rfl) ?_; simp only [putT,st,ev,gt,hp,ofV,constT,intT,lm]
        refine WO_op rfl rfl rfl ?_; simp only [putT,st,ev,gt,hp,ofV,constT,intT,lm]
        refine WO_nil (W_seq (W_region ?_))
        refine WO_op (x := .bp 0 5) rfl rfl rfl ?_
        refine WO_op (x := .ag [qi a1.Pace.Up, qi a1.Pace.Down, qi a1.Pace.UpSpan, qi a1.Pace.DownSpan]) rfl rfl rfl ?_
        refine WO_op (x := .bp 1 1) rfl rfl rfl ?_
        refine WO_op (x := qi a2.Now) rfl rfl rfl ?_; simp only [putT,st,ev,gt,hp,ofV,constT,intT,lm]
        refine WO_op rfl rfl rfl ?_; simp only [putT,st,ev,gt,hp,ofV,constT,intT,lm]
        obtain ⟨x23, hx23, H⟩ := bnd H
        refine WO_op (x := qi x23) (σ' := ⟨[], [some [qs a1.Name, qs a1.Target, qi a1.Low, qi a1.High, .c (cL enc_Metric a1.Metrics), qi a1.Pace.Up, qi a1.Pace.Down, qi a1.Pace.UpSpan, qi a1.Pace.DownSpan, .c (cL enc_Note a1.Notes)], some [qs a2.Name, qi a2.Now, .c (cL enc_Rec a2.Recs)], some [qs [], qi 0, .nil], some [qs x5.Name, qi x5.Now, .row 1]], [rr 2 enc_Rec x5.Recs true, rr 2 enc_Rec x21 true]⟩) rfl rfl (ev_callG (al := [.ag [qi a1.Pace.Up, qi a1.Pace.Down, qi a1.Pace.UpSpan, qi a1.Pace.DownSpan], qi a2.Now, qi x22]) (ls := []) (impl_Slow_ok hx23) rfl rfl rfl rfl rfl (by decide) rfl rfl rfl rfl rfl rfl) ?_; simp only [putT,st,ev,gt,hp,ofV,constT,intT,lm]
        refine WO_op rfl rfl rfl ?_; simp only [putT,st,ev,gt,hp,ofV,constT,intT,lm]
        refine WO_nil (W_seq (W_region ?_))
        refine WO_op rfl rfl rfl ?_
        refine WO_op (x := .bp 0 2) rfl rfl rfl ?_
        refine WO_op (x := qi a1.Low) rfl rfl rfl ?_
        refine WO_op (x := .bp 0 3) rfl rfl rfl ?_; simp only [putT,st,ev,gt,hp,ofV,constT,intT,lm]
        refine WO_op (x := qi a1.High) rfl rfl rfl ?_; simp only [putT,st,ev,gt,hp,ofV,constT,intT,lm]
        obtain ⟨x24, hx24, H⟩ := bnd H
        refine WO_op (x := qi x24) (σ' := ⟨[], [some [qs a1.Name, qs a1.Target, qi a1.Low, qi a1.High, .c (cL enc_Metric a1.Metrics), qi a1.Pace.Up, qi a1.Pace.Down, qi a1.Pace.UpSpan, qi a1.Pace.DownSpan, .c (cL enc_Note a1.Notes)], some [qs a2.Name, qi a2.Now, .c (cL enc_Rec a2.Recs)], some [qs [], qi 0, .nil], some [qs x5.Name, qi x5.Now, .row 1]], [rr 2 enc_Rec x5.Recs true, rr 2 enc_Rec x21 true]⟩) rfl rfl (ev_callG (al := [qi x23, qi a1.Low, qi a1.High]) (ls := []) (impl_Clamp_ok hx24) rfl rfl rfl rfl rfl (by decide) rfl rfl rfl rfl rfl rfl) ?_; simp only [putT,st,ev,gt,hp,ofV,constT,intT,lm]
        refine WO_op (x := .bp 3 1) rfl rfl rfl ?_
        refine WO_op (x := .no) (σ' := ⟨[], [some [qs a1.Name, qs a1.Target, qi a1.Low, qi a1.High, .c (cL enc_Metric a1.Metrics), qi a1.Pace.Up, qi a1.Pace.Down, qi a1.Pace.UpSpan, qi a1.Pace.DownSpan, .c (cL enc_Note a1.Notes)], some [qs a2.Name, qi a2.Now, .c (cL enc_Rec a2.Recs)], some [qs [], qi 0, .nil], some [qs x5.Name, qi x24, .row 1]], [rr 2 enc_Rec x5.Recs true, rr 2 enc_Rec x21 true]⟩) rfl rfl rfl ?_; simp only [putT,st,ev,gt,hp,ofV,constT,intT,lm]
        refine WO_nil (W_seq ?_)
        refine W_drawL (by kernel_rfl) (by decide +kernel) ?_
        refine WL_op (x := .ag [qs x5.Name, qi x24, .row 1]) rfl rfl rfl rfl ?_
        refine WL_op (x := .bp 3 1) rfl rfl rfl rfl ?_
        refine WL_op (x := qi x24) rfl rfl rfl rfl ?_
        refine WL_op (x := .no) (σ' := ⟨[], [some [qs a1.Name, qs a1.Target, qi a1.Low, qi a1.High, .c (cL enc_Metric a1.Metrics), qi a1.Pace.Up, qi a1.Pace.Down, qi a1.Pace.UpSpan, qi a1.Pace.DownSpan, .c (cL enc_Note a1.Notes)], some [qs a2.Name, qi a2.Now, .c (cL enc_Rec a2.Recs)], some [qs x5.Name, qi x24, .row 1], some [qs x5.Name, qi x24, .row 1]], [rr 2 enc_Rec x5.Recs true, rr 2 enc_Rec x21 true]⟩) rfl rfl rfl rfl ?_; simp only [putT,st,ev,gt,hp,ofV,constT,intT,lm]
        refine WL_op rfl rfl rfl rfl ?_; simp only [putT,st,ev,gt,hp,ofV,constT,intT,lm]
        refine WL_nil (by kernel_rfl) ?_
        refine W_ret ?_
        obtain rfl := Option.some.inj H
        exact told5 rfl rfl rfl rfl (fitAs_nz rfl) rfl
theorem impl_Settle_ok {a1 : Order} {a2 : Scale} {a3 : Int} {a4 : List Sample} {a5 : Int} {r : Scale} (H : impl_Settle a1 a2 a3 a4 a5 = some r) : R 21 [.ag [(cS a1.Name, none), (cS a1.Target, none), (cI .i64 a1.Low, none), (cI .i64 a1.High, none), (cL enc_Metric a1.Metrics, none), (cI .i64 a1.Pace.Up, none), (cI .i64 a1.Pace.Down, none), (cI .i64 a1.Pace.UpSpan, none), (cI .i64 a1.Pace.DownSpan, none), (cL enc_Note a1.Notes, none)], .ag [(cS a2.Name, none), (cI .i64 a2.Now, none), (cL enc_Rec a2.Recs, none)], .c (cI .i64 a3) none, .c (cL enc_Sample a4) none, .c (cI .i64 a5) none] = some (.ag [(cS r.Name, none), (cI .i64 r.Now, none), (cL enc_Rec r.Recs, some 2)], []) := by
 unfold impl_Settle at H
 refine Fz_walk 38 rfl rfl Tryz.func21 rfl (by kernel_rfl) rfl rfl rfl rfl ?_
 simp only [tellVs, tellV, tells, tell, st0, padT, SX.newRow, SX.newBox, List.length_cons, List.length_nil, Nat.reduceAdd, Nat.reduceSub, List.replicate, List.cons_append, List.nil_append, List.foldl_cons, List.foldl_nil]
 refine W_seq (W_region ?_)
 refine WO_op (x := .bp 0 0) (σ' := ⟨[], [some [qs a1.Name, qs a1.Target, qi a1.Low, qi a1.High, .c (cL enc_Metric a1.Metrics), qi a1.Pace.Up, qi a1.Pace.Down, qi a1.Pace.UpSpan, qi a1.Pace.DownSpan, .c (cL enc_Note a1.Notes)]], []⟩) rfl rfl rfl ?_
 refine WO_op (x := .bp 1 0) (σ' := ⟨[], [some [qs a1.Name, qs a1.Target, qi a1.Low, qi a1.High, .c (cL enc_Metric a1.Metrics), qi a1.Pace.Up, qi a1.Pace.Down, qi a1.Pace.UpSpan, qi a1.Pace.DownSpan, .c (cL enc_Note a1.Notes)], some [qs a2.Name, qi a2.Now, .c (cL enc_Rec a2.Recs)]], []⟩) rfl rfl rfl ?_
 refine WO_op (x := .bp 2 0) (σ' := ⟨[], [some [qs a1.Name, qs a1.Target, qi a1.Low, qi a1.High, .c (cL enc_Metric a1.Metrics), qi a1.Pace.Up, qi a1.Pace.Down, qi a1.Pace.UpSpan, qi a1.Pace.DownSpan, .c (cL enc_Note a1.Notes)], some [qs a2.Name, qi a2.Now, .c (cL enc_Rec a2.Recs)], some [qs [], qi 0, .nil]], []⟩) rfl rfl rfl ?_; simp only [putT,st,ev,gt,hp,ofV,constT,intT,lm]
 refine WO_nil (W_seq (W_region ?_))
 refine WO_op (x := .ag [qs a2.Name, qi a2.Now, .c (cL enc_Rec a2.Recs)]) rfl rfl rfl ?_; simp only [putT,st,ev,gt,hp,ofV,constT,intT,lm]
 obtain ⟨x6, hx6, H⟩ := bnd H
 refine WO_op (x := .ag [qs x6.Name, qi x6.Now, .row 0]) (σ' := ⟨[], [some [qs a1.Name, qs a1.Target, qi a1.Low, qi a1.High, .c (cL enc_Metric a1.Metrics), qi a1.Pace.Up, qi a1.Pace.Down, qi a1.Pace.UpSpan, qi a1.Pace.DownSpan, .c (cL enc_Note a1.Notes)], some [qs a2.Name, qi a2.Now, .c (cL enc_Rec a2.Recs)], some [qs [], qi 0, .nil]], [rr 2 enc_Rec x6.Recs true]⟩) rfl rfl (ev_callG (al := [.ag [qs a2.Name, qi a2.Now, .c (cL enc_Rec a2.Recs)]]) (ls := []) (impl_copyScale_ok hx6) rfl rfl rfl rfl rfl (by decide) rfl rfl (by simp only [flatA, flatV, flatC, List.all_cons, List.all_nil, Option.all_some, Bool.and_self, Bool.or_true, fl_Rec]) rfl rfl rfl) ?_; simp only [putT,st,ev,gt,hp,ofV,constT,intT,lm]
 refine WO_op (x := .no) (σ' := ⟨[], [some [qs a1.Name, qs a1.Target, qi a1.Low, qi a1.High, .c (cL enc_Metric a1.Metrics), qi a1.Pace.Up, qi a1.Pace.Down, qi a1.Pace.UpSpan, qi a1.Pace.DownSpan, .c (cL enc_Note a1.Notes)], some [qs x6.Name, qi x6.Now, .row 0], some [qs [], qi 0, .nil]], [rr 2 enc_Rec x6.Recs true]⟩) rfl rfl rfl ?_; simp only [putT,st,ev,gt,hp,ofV,constT,intT,lm]
 refine WO_nil (W_seq (W_seq (W_region ?_)))
 refine WO_op rfl rfl rfl ?_; simp only [putT,st,ev,gt,hp,ofV,constT,intT,lm]
 refine WO_nil ?_
 refine W_block ?_
 obtain ⟨t14, ht14, H⟩ := bnd H
 refine loop_rule (ls := []) 0 (fun t14 : Str × Int × List Rec => ⟨[.no, .no, .no, .no, .no, .no, .bp 0 0, .no, .no, .no, .bp 1 0], [some [qs t14.1, qi t14.2.1, .row 0], some [qs [], qi 0, .nil]], [rr 2 enc_Rec t14.2.2 true]⟩) (fun t => t14 = t) ⟨[.no, .no, qi a3, .c (cL enc_Sample a4), qi a5, .bp 0 0, .bp 1 0, .no, .no, .no, .bp 2 0, qi 0], [some [qs a1.Name, qs a1.Target, qi a1.Low, qi a1.High, .c (cL enc_Metric a1.Metrics), qi a1.Pace.Up, qi a1.Pace.Down, qi a1.Pace.UpSpan, qi a1.Pace.DownSpan, .c (cL enc_Note a1.Notes)], some [qs x6.Name, qi x6.Now, .row 0], some [qs [], qi 0, .nil]], [rr 2 enc_Rec x6.Recs true]⟩ (by repeat (first | exact mono_told | refine mono_seq ?_ | refine mono_blk ?_ | refine mono_lp ?_)) (le_intro [0, 1, 2] [0] (by decide) (by decide) rfl (by simp [leS, leT, leA, gt]) (by simp [leB, leT, leA]) (by simp [leR])) ?_ ?_
 ·
  rintro t1 rfl
  refine W_seq (W_region ?_)
  refine WO_op (x := .ag [qs t14.1, qi t14.2.1, .row 0]) rfl rfl rfl ?_
  refine WO_op (x := .no) (σ' := ⟨[], [some [qs t14.1, qi t14.2.1, .row 0], some [qs t14.1, qi t14.2.1, .row 0]], [rr 2 enc_Rec t14.2.2 true]⟩) rfl rfl rfl ?_; simp only [putT,st,ev,gt,hp,ofV,constT,intT,lm]
  refine WO_nil ?_
  refine W_ret ?_
  obtain rfl := Option.some.inj H
  exact told5 rfl rfl rfl rfl (fitAs_nz rfl) rfl
 ·
  intro V1 hV1 hW1 hX1
  refine (impl_Settle.l0.partial_correctness a1 a4 a5 (fun v7 v8 v9 v10 v11 s' => s' = t14 → (V1 ⟨[.no, .no, qi v7, .c (cL enc_Sample a4), qi a5, .bp 0 0, .bp 1 0, .no, .no, .no, .bp 2 0, qi v8], [some [qs a1.Name, qs a1.Target, qi a1.Low, qi a1.High, .c (cL enc_Metric a1.Metrics), qi a1.Pace.Up, qi a1.Pace.Down, qi a1.Pace.UpSpan, qi a1.Pace.DownSpan, .c (cL enc_Note a1.Notes)], some [qs v9, qi v10, .row 0], some [qs [], qi 0, .nil]], [rr 2 enc_Rec v11 true]⟩)) ?_ _ _ _ _ _ _ ht14 rfl)
  intro l0 IH1 v7 v8 v9 v10 v11 s' H1 e
  subst e
  refine hV1 _ ?_
  refine W_seq (W_seq (W_region ?_))
  iterate 4 (refine WO_op rfl rfl rfl ?_; simp only [putT,st,ev,gt,hp,ofV,constT,intT,lm])
  refine WO_if rfl rfl rfl (fun hc => ?_) (fun hc => ?_)
  ·
   replace H1 := tr hc H1
   simp only [putT,st,ev,gt,hp,ofV,constT,intT,lm]
   iterate 2 (refine WO_want rfl rfl rfl ?_; simp only [putT,st,ev,gt,hp,ofV,constT,intT,lm])
   refine WO_op (x := qb (decide (v8 < 60))) rfl rfl rfl ?_
   refine WO_op rfl rfl rfl ?_; simp only [putT,st,ev,gt,hp,ofV,constT,intT,lm]
   refine WO_if rfl rfl rfl (fun hc => ?_) (fun hc => ?_)
   ·
    replace H1 := tr hc H1
    refine WO_want rfl rfl rfl ?_; simp only [putT,st,ev,gt,hp,ofV,constT,intT,lm]
    obtain ⟨x12, hx12, H1⟩ := bnd H1
    refine WO_want (x := qb x12) (σ' := ⟨[], [some [qs a1.Name, qs a1.Target, qi a1.Low, qi a1.High, .c (cL enc_Metric a1.Metrics), qi a1.Pace.Up, qi a1.Pace.Down, qi a1.Pace.UpSpan, qi a1.Pace.DownSpan, .c (cL enc_Note a1.Notes)], some [qs v9, qi v10, .row 0], some [qs [], qi 0, .nil]], [rr 2 enc_Rec v11 true]⟩) rfl rfl (ev_callG (al := [qi v7, qi 0, qi 1000000]) (ls := []) (impl_from_ok hx12) rfl rfl rfl rfl rfl (by decide) rfl rfl rfl rfl rfl rfl) ?_; simp only [putT,st,ev,gt,hp,ofV,constT,intT,lm]
    refine WO_op (x := qb x12) rfl rfl rfl ?_; simp only [putT,st,ev,gt,hp,ofV,constT,intT,lm]
    refine WO_nil ?_
    refine W_cond rfl (fun hc => ?_) (fun hc => ?_)
    ·
     replace H1 := tr hc H1
     refine W_skip ?_
     refine W_seq ?_
     refine W_block ?_
     refine W_seq (W_region ?_)
     refine WO_op (x := .ag [qs a1.Name, qs a1.Target, qi a1.Low, qi a1.High, .c (cL enc_Metric a1.Metrics), qi a1.Pace.Up, qi a1.Pace.Down, qi a1.Pace.UpSpan, qi a1.Pace.DownSpan, .c (cL enc_Note a1.Notes)]) rfl rfl rfl ?_
     refine WO_op (x := .ag [qs v9, qi v10, .row 0]) rfl rfl rfl ?_; simp only [putT,st,ev,gt,hp,ofV,constT,intT,lm]
     iterate 2 (refine WO_op rfl rfl rfl ?_; simp only [putT,st,ev,gt,hp,ofV,constT,intT,lm])
     obtain ⟨x13, hx13, H1⟩ := bnd H1
     refine WO_op (x := .tu [.ag [qs x13.1.Name, qi x13.1.Now, .row 1], qi x13.2]) (σ' := ⟨[], [some [qs a1.Name, qs a1.Target, qi a1.Low, qi a1.High, .c (cL enc_Metric a1.Metrics), qi a1.Pace.Up, qi a1.Pace.Down, qi a1.Pace.UpSpan, qi a1.Pace.DownSpan, .c (cL enc_Note a1.Notes)], some [qs v9, qi v10, .row 0], some [qs [], qi 0, .nil]], [rr 2 enc_Rec v11 true, rr 2 enc_Rec x13.1.Recs true]⟩) rfl rfl (ev_callG (al := [.ag [qs a1.Name, qs a1.Target, qi a1.Low, qi a1.High, .c (cL enc_Metric a1.Metrics), qi a1.Pace.Up, qi a1.Pace.Down, qi a1.Pace.UpSpan, qi a1.Pace.DownSpan, .c (cL enc_Note a1.Notes)], .ag [qs v9, qi v10, .row 0], qi v7, .c (cL enc_Sample a4)]) (ls := []) (impl_Step_ok hx13) rfl rfl rfl rfl rfl (by decide) rfl rfl (by simp only [flatA, flatV, flatC, List.all_cons, List.all_nil, Option.all_some, Bool.and_self, Bool.or_true, fl_Rec]) rfl rfl rfl) ?_; simp only [putT,st,ev,gt,hp,ofV,constT,intT,lm]
     refine WO_op rfl rfl rfl ?_
     refine WO_op (x := .ag [qs x13.1.Name, qi x13.1.Now, .row 1]) rfl rfl rfl ?_
     refine WO_op (x := qi x13.2) rfl rfl rfl ?_
     refine WO_op (x := .no) (σ' := ⟨[], [some [qs a1.Name, qs a1.Target, qi a1.Low, qi a1.High, .c (cL enc_Metric a1.Metrics), qi a1.Pace.Up, qi a1.Pace.Down, qi a1.Pace.UpSpan, qi a1.Pace.DownSpan, .c (cL enc_Note a1.Notes)], some [qs x13.1.Name, qi x13.1.Now, .row 1], some [qs [], qi 0, .nil]], [rr 2 enc_Rec v11 true, rr 2 enc_Rec x13.1.Recs true]⟩) rfl rfl rfl ?_; simp only [putT,st,ev,gt,hp,ofV,constT,intT,lm]
     refine WO_nil (W_region ?_)
     iterate 3 (refine WO_op rfl rfl rfl ?_; simp only [putT,st,ev,gt,hp,ofV,constT,intT,lm])
     refine WO_nil (W_region ?_)
     iterate 3 (refine WO_op rfl rfl rfl ?_; simp only [putT,st,ev,gt,hp,ofV,constT,intT,lm])
     refine WO_nil ?_
     exact hW1 _ _ ((IH1 _ _ _ _ _ _ H1 rfl)) (le_intro [0, 1, 2] [1] (by decide) (by decide) rfl (by simp [leS, leT, leA, gt]) (by simp [leB, leT, leA]) (by simp [leR]))
    ·
     replace H1 := fl hc H1
     refine W_exit ?_
     obtain rfl := Option.some.inj H1
     exact hX1 (v9, v10, v11) _ rfl (le_intro [1, 2] [0] (by decide) (by decide) rfl (by simp [leS, leT, leA, gt]) (by simp [leB, leT, leA]) (by simp [leR]))
   ·
    replace H1 := fl hc H1
    simp only [putT,st,ev,gt,hp,ofV,constT,intT,lm]
    iterate 2 refine WO_skip rfl rfl ?_
    refine WO_op (x := qb false) rfl rfl rfl ?_; simp only [putT,st,ev,gt,hp,ofV,constT,intT,lm]
    refine WO_nil ?_
    refine W_cond (t := false) rfl (fun h => by cases h) (fun _ => ?_)
    refine W_exit ?_
    obtain rfl := Option.some.inj H1
    exact hX1 (v9, v10, v11) _ rfl (le_intro [1, 2] [0] (by decide) (by decide) rfl (by simp [leS, leT, leA, gt]) (by simp [leB, leT, leA]) (by simp [leR]))
  ·
   replace H1 := fl hc H1
   simp only [putT,st,ev,gt,hp,ofV,constT,intT,lm]
   iterate 2 refine WO_skip rfl rfl ?_
   refine WO_op (x := qb false) rfl rfl rfl ?_
   refine WO_op rfl rfl rfl ?_; simp only [putT,st,ev,gt,hp,ofV,constT,intT,lm]
   iterate 2 refine WO_skip rfl rfl ?_
   refine WO_op (x := qb false) rfl rfl rfl ?_; simp only [putT,st,ev,gt,hp,ofV,constT,intT,lm]
   refine WO_nil ?_
   refine W_cond (t := false) rfl (fun h => by cases h) (fun _ => ?_)
   refine W_exit ?_
   obtain rfl := Option.some.inj H1
   exact hX1 (v9, v10, v11) _ rfl (le_intro [1, 2] [0] (by decide) (by decide) rfl (by simp [leS, leT, leA, gt]) (by simp [leB, leT, leA]) (by simp [leR]))
theorem laws_eqRec_ok {a1 : Rec} {a2 : Rec} {r : Bool} (H : laws_eqRec a1 a2 = some r) : R 89 [.ag [(cI .i64 a1.Time, none), (cI .i64 a1.N, none)], .ag [(cI .i64 a2.Time, none), (cI .i64 a2.N, none)]] = some (.c (cB r) none, []) := by
 unfold laws_eqRec at H
 refine Fz_walk 15 rfl rfl Tryz.func89 rfl (by kernel_rfl) rfl rfl rfl rfl ?_
 simp only [tellVs, tellV, tells, tell, st0, padT, SX.newRow, SX.newBox, List.length_cons, List.length_nil, Nat.reduceAdd, Nat.reduceSub, List.replicate, List.cons_append, List.nil_append, List.foldl_cons, List.foldl_nil]
 refine W_seq (W_region ?_)
 refine WO_op (x := .bp 0 0) (σ' := ⟨[], [some [qi a1.Time, qi a1.N]], []⟩) rfl rfl rfl ?_
 refine WO_op (x := .bp 1 0) (σ' := ⟨[], [some [qi a1.Time, qi a1.N], some [qi a2.Time, qi a2.N]], []⟩) rfl rfl rfl ?_
 refine WO_op rfl rfl rfl ?_; simp only [putT,st,ev,gt,hp,ofV,constT,intT,lm]
 refine WO_nil (W_seq (W_seq (W_region ?_)))
 refine WO_op (x := .bp 0 0) rfl rfl rfl ?_
 refine WO_op (x := qi a1.Time) rfl rfl rfl ?_
 refine WO_op (x := .bp 1 0) rfl rfl rfl ?_
 refine WO_op (x := qi a2.Time) rfl rfl rfl ?_; simp only [putT,st,ev,gt,hp,ofV,constT,intT,lm]
 refine WO_op rfl rfl rfl ?_; simp only [putT,st,ev,gt,hp,ofV,constT,intT,lm]
 refine WO_nil ?_
 refine W_cond rfl (fun hc => ?_) (fun hc => ?_)
 ·
  replace H := tr hc H
  refine W_seq (W_region ?_)
  refine WO_op rfl rfl rfl ?_; simp only [putT,st,ev,gt,hp,ofV,constT,intT,lm]
  refine WO_nil ?_
  refine W_ret ?_
  obtain rfl := Option.some.inj H
  exact told3 rfl
 ·
  replace H := fl hc H
  refine W_skip ?_
  refine W_seq (W_seq (W_region ?_))
  refine WO_op (x := .bp 0 1) rfl rfl rfl ?_
  refine WO_op (x := qi a1.N) rfl rfl rfl ?_
  refine WO_op (x := .bp 1 1) rfl rfl rfl ?_
  refine WO_op (x := qi a2.N) rfl rfl rfl ?_; simp only [putT,st,ev,gt,hp,ofV,constT,intT,lm]
  refine WO_op rfl rfl rfl ?_; simp only [putT,st,ev,gt,hp,ofV,constT,intT,lm]
  refine WO_nil ?_
  refine W_cond rfl (fun hc => ?_) (fun hc => ?_)
  ·
   replace H := tr hc H
   refine W_seq (W_region ?_)
   refine WO_op rfl rfl rfl ?_; simp only [putT,st,ev,gt,hp,ofV,constT,intT,lm]
   refine WO_nil ?_
   refine W_ret ?_
   obtain rfl := Option.some.inj H
   exact told3 rfl
  ·
   replace H := fl hc H
   refine W_skip ?_
   refine W_seq (W_region ?_)
   refine WO_op rfl rfl rfl ?_; simp only [putT,st,ev,gt,hp,ofV,constT,intT,lm]
   refine WO_nil ?_
   refine W_ret ?_
   obtain rfl := Option.some.inj H
   exact told3 rfl
theorem laws_eqRecS_ok {a1 : List Rec} {a2 : List Rec} {r : Bool} (H : laws_eqRecS a1 a2 = some r) : R 51 [.c (cL enc_Rec a1) none, .c (cL enc_Rec a2) none] = some (.c (cB r) none, []) := by
 unfold laws_eqRecS at H
 refine Fz_walk 27 rfl rfl Tryz.func51 rfl (by kernel_rfl) rfl rfl rfl rfl ?_
 simp only [tellVs, tellV, tells, tell, st0, padT, SX.newRow, SX.newBox, List.length_cons, List.length_nil, Nat.reduceAdd, Nat.reduceSub, List.replicate, List.cons_append, List.nil_append, List.foldl_cons, List.foldl_nil]
 refine W_seq (W_region ?_)
 refine WO_op rfl rfl rfl ?_; simp only [putT,st,ev,gt,hp,ofV,constT,intT,lm]
 refine WO_nil (W_seq (W_seq (W_region ?_)))
 iterate 5 (refine WO_op rfl rfl rfl ?_; simp only [putT,st,ev,gt,hp,ofV,constT,intT,lm])
 refine WO_nil ?_
 refine W_cond rfl (fun hc => ?_) (fun hc => ?_)
 ·
  replace H := tr hc H
  refine W_seq (W_region ?_)
  refine WO_op rfl rfl rfl ?_; simp only [putT,st,ev,gt,hp,ofV,constT,intT,lm]
  refine WO_nil ?_
  refine W_ret ?_
  obtain rfl := Option.some.inj H
  exact told3 rfl
 ·
  replace H := fl hc H
  refine W_skip ?_
  refine W_seq (W_seq (W_region ?_))
  refine WO_op rfl rfl rfl ?_; simp only [putT,st,ev,gt,hp,ofV,constT,intT,lm]
  refine WO_nil ?_
  refine W_block ?_
  obtain ⟨s8, hs8, H⟩ := bnd H
  refine loop_rule (ls := []) 0 (fun t7 : Unit => ⟨[], [], []⟩) (fun t => s8 = .inr t) ⟨[.c (cL enc_Rec a1), .c (cL enc_Rec a2), .no, .no, .no, qi 0], [], []⟩ (by repeat (first | exact mono_told | refine mono_seq ?_ | refine mono_blk ?_ | refine mono_lp ?_)) (le_intro [] [] (by decide) (by decide) rfl (by simp [leS, leT, leA, gt]) (by simp [leB, leT, leA]) (by simp [leR])) ?_ ?_
  ·
   rintro t7 rfl
   refine W_seq (W_region ?_)
   refine WO_op rfl rfl rfl ?_; simp only [putT,st,ev,gt,hp,ofV,constT,intT,lm]
   refine WO_nil ?_
   refine W_ret ?_
   obtain rfl := Option.some.inj H
   exact told3 rfl
  ·
   intro V1 hV1 hW1 hX1
   refine (laws_eqRecS.l0.partial_correctness a1 a2 (fun v3 s' => s' = s8 → (V1 ⟨[.c (cL enc_Rec a1), .c (cL enc_Rec a2), .no, .no, .no, qi v3], [], []⟩)) ?_ _ _ hs8 rfl)
   intro l0 IH1 v3 s' H1 e
   subst e
   refine hV1 _ ?_
   refine W_seq (W_seq (W_region ?_))
   iterate 4 (refine WO_op rfl rfl rfl ?_; simp only [putT,st,ev,gt,hp,ofV,constT,intT,lm])
   refine WO_nil ?_
   refine W_cond rfl (fun hc => ?_) (fun hc => ?_)
   ·
    replace H1 := tr hc H1
    refine W_skip ?_
    refine W_seq ?_
    refine W_block ?_
    refine W_seq ?_
    refine W_draw (by kernel_rfl) (by kernel_rfl) ?_
    iterate 2 (refine WO_op rfl rfl rfl ?_; simp only [putT,st,ev,gt,hp,ofV,constT,intT,lm])
    obtain ⟨x4, hx4, H1⟩ := bnd H1
    refine WO_op rfl rfl (ev_ix (en := enc_Rec) hx4 rfl rfl rfl rfl rfl rfl rfl) ?_; simp only [putT,st,ev,gt,hp,ofV,constT,intT,lm]
    refine WO_op (x := .ag [qi x4.Time, qi x4.N]) rfl rfl rfl ?_; simp only [putT,st,ev,gt,hp,ofV,constT,intT,lm]
    iterate 2 (refine WO_op rfl rfl rfl ?_; simp only [putT,st,ev,gt,hp,ofV,constT,intT,lm])
    obtain ⟨x5, hx5, H1⟩ := bnd H1
    refine WO_op rfl rfl (ev_ix (en := enc_Rec) hx5 rfl rfl rfl rfl rfl rfl rfl) ?_; simp only [putT,st,ev,gt,hp,ofV,constT,intT,lm]
    refine WO_op (x := .ag [qi x5.Time, qi x5.N]) rfl rfl rfl ?_; simp only [putT,st,ev,gt,hp,ofV,constT,intT,lm]
    obtain ⟨x6, hx6, H1⟩ := bnd H1
    refine WO_op (x := qb x6) (σ' := ⟨[], [], []⟩) rfl rfl (ev_callG (al := [.ag [qi x4.Time, qi x4.N], .ag [qi x5.Time, qi x5.N]]) (ls := []) (laws_eqRec_ok hx6) rfl rfl rfl rfl rfl (by decide) rfl rfl rfl rfl rfl rfl) ?_; simp only [putT,st,ev,gt,hp,ofV,constT,intT,lm]
    refine WO_op rfl rfl rfl ?_; simp only [putT,st,ev,gt,hp,ofV,constT,intT,lm]
    refine WO_nil ?_
    refine W_cond rfl (fun hc => ?_) (fun hc => ?_)
    ·
     replace H1 := tr hc H1
     refine W_seq (W_region ?_)
     refine WO_op rfl rfl rfl ?_; simp only [putT,st,ev,gt,hp,ofV,constT,intT,lm]
     refine WO_nil ?_
     refine W_ret ?_
     obtain rfl := Option.some.inj H1
     obtain rfl := Option.some.inj H
     exact told3 rfl
    ·
     replace H1 := fl hc H1
     refine W_skip ?_
     refine W_region ?_
     iterate 3 (refine WO_op rfl rfl rfl ?_; simp only [putT,st,ev,gt,hp,ofV,constT,intT,lm])
     refine WO_nil ?_
     exact hW1 _ _ ((IH1 _ _ H1 rfl)) (le_intro [] [] (by decide) (by decide) rfl (by simp [leS, leT, leA, gt]) (by simp [leB, leT, leA]) (by simp [leR]))
   ·
    replace H1 := fl hc H1
    refine W_exit ?_
    obtain rfl := Option.some.inj H1
    exact hX1 () _ rfl (le_intro [] [] (by decide) (by decide) rfl (by simp [leS, leT, leA, gt]) (by simp [leB, leT, leA]) (by simp [leR]))
theorem laws_eqScale_ok {a1 : Scale} {a2 : Scale} {r : Bool} (H : laws_eqScale a1 a2 = some r) : R 13 [.ag [(cS a1.Name, none), (cI .i64 a1.Now, none), (cL enc_Rec a1.Recs, none)], .ag [(cS a2.Name, none), (cI .i64 a2.Now, none), (cL enc_Rec a2.Recs, none)]] = some (.c (cB r) none, []) := by
 unfold laws_eqScale at H
 refine Fz_walk 21 rfl rfl Tryz.func13 rfl (by kernel_rfl) rfl rfl rfl rfl ?_
 simp only [tellVs, tellV, tells, tell, st0, padT, SX.newRow, SX.newBox, List.length_cons, List.length_nil, Nat.reduceAdd, Nat.reduceSub, List.replicate, List.cons_append, List.nil_append, List.foldl_cons, List.foldl_nil]
 refine W_seq (W_region ?_)
 refine WO_op (x := .bp 0 0) (σ' := ⟨[], [some [qs a1.Name, qi a1.Now, .c (cL enc_Rec a1.Recs)]], []⟩) rfl rfl rfl ?_
 refine WO_op (x := .bp 1 0) (σ' := ⟨[], [some [qs a1.Name, qi a1.Now, .c (cL enc_Rec a1.Recs)], some [qs a2.Name, qi a2.Now, .c (cL enc_Rec a2.Recs)]], []⟩) rfl rfl rfl ?_
 refine WO_op rfl rfl rfl ?_; simp only [putT,st,ev,gt,hp,ofV,constT,intT,lm]
 refine WO_nil (W_seq (W_seq (W_region ?_)))
 refine WO_op (x := .bp 0 0) rfl rfl rfl ?_
 refine WO_op (x := qs a1.Name) rfl rfl rfl ?_
 refine WO_op (x := .bp 1 0) rfl rfl rfl ?_
 refine WO_op (x := qs a2.Name) rfl rfl rfl ?_; simp only [putT,st,ev,gt,hp,ofV,constT,intT,lm]
 refine WO_op rfl rfl (ev_neq_s rfl rfl rfl) ?_; simp only [putT,st,ev,gt,hp,ofV,constT,intT,lm]
 refine WO_nil ?_
 refine W_cond rfl (fun hc => ?_) (fun hc => ?_)
 ·
  replace H := tr hc H
  refine W_seq (W_region ?_)
  refine WO_op rfl rfl rfl ?_; simp only [putT,st,ev,gt,hp,ofV,constT,intT,lm]
  refine WO_nil ?_
  refine W_ret ?_
  obtain rfl := Option.some.inj H
  exact told3 rfl
 ·
  replace H := fl hc H
  refine W_skip ?_
  refine W_seq (W_seq (W_region ?_))
  refine WO_op (x := .bp 0 1) rfl rfl rfl ?_
  refine WO_op (x := qi a1.Now) rfl rfl rfl ?_
  refine WO_op (x := .bp 1 1) rfl rfl rfl ?_
  refine WO_op (x := qi a2.Now) rfl rfl rfl ?_; simp only [putT,st,ev,gt,hp,ofV,constT,intT,lm]
  refine WO_op rfl rfl rfl ?_; simp only [putT,st,ev,gt,hp,ofV,constT,intT,lm]
  refine WO_nil ?_
  refine W_cond rfl (fun hc => ?_) (fun hc => ?_)
  ·
   replace H := tr hc H
   refine W_seq (W_region ?_)
   refine WO_op rfl rfl rfl ?_; simp only [putT,st,ev,gt,hp,ofV,constT,intT,lm]
   refine WO_nil ?_
   refine W_ret ?_
   obtain rfl := Option.some.inj H
   exact told3 rfl
  ·
   replace H := fl hc H
   refine W_skip ?_
   refine W_seq (W_seq (W_region ?_))
   refine WO_op (x := .bp 0 2) rfl rfl rfl ?_
   refine WO_op (x := .c (cL enc_Rec a1.Recs)) rfl rfl rfl ?_
   refine WO_op (x := .bp 1 2) rfl rfl rfl ?_
   refine WO_op (x := .c (cL enc_Rec a2.Recs)) rfl rfl rfl ?_; simp only [putT,st,ev,gt,hp,ofV,constT,intT,lm]
   obtain ⟨x3, hx3, H⟩ := bnd H
   refine WO_op (x := qb x3) (σ' := ⟨[], [some [qs a1.Name, qi a1.Now, .c (cL enc_Rec a1.Recs)], some [qs a2.Name, qi a2.Now, .c (cL enc_Rec a2.Recs)]], []⟩) rfl rfl (ev_callG (al := [.c (cL enc_Rec a1.Recs), .c (cL enc_Rec a2.Recs)]) (ls := []) (laws_eqRecS_ok hx3) rfl rfl rfl rfl rfl (by decide) rfl rfl rfl rfl rfl rfl) ?_; simp only [putT,st,ev,gt,hp,ofV,constT,intT,lm]
   refine WO_op rfl rfl rfl ?_; simp only [putT,st,ev,gt,hp,ofV,constT,intT,lm]
   refine WO_nil ?_
   refine W_cond rfl (fun hc => ?_) (fun hc => ?_)
   ·
    replace H := tr hc H
    refine W_seq (W_region ?_)
    refine WO_op rfl rfl rfl ?_; simp only [putT,st,ev,gt,hp,ofV,constT,intT,lm]
    refine WO_nil ?_
    refine W_ret ?_
    obtain rfl := Option.some.inj H
    exact told3 rfl
   ·
    replace H := fl hc H
    refine W_skip ?_
    refine W_seq (W_region ?_)
    refine WO_op rfl rfl rfl ?_; simp only [putT,st,ev,gt,hp,ofV,constT,intT,lm]
    refine WO_nil ?_
    refine W_ret ?_
    obtain rfl := Option.some.inj H
    exact told3 rfl
theorem laws_eqMetric_ok {a1 : Metric} {a2 : Metric} {r : Bool} (H : laws_eqMetric a1 a2 = some r) : R 90 [.ag [(cS a1.Name, none), (cI .i64 a1.Kind, none), (cI .i64 a1.Goal, none)], .ag [(cS a2.Name, none), (cI .i64 a2.Kind, none), (cI .i64 a2.Goal, none)]] = some (.c (cB r) none, []) := by
 unfold laws_eqMetric at H
 refine Fz_walk 20 rfl rfl Tryz.func90 rfl (by kernel_rfl) rfl rfl rfl rfl ?_
 simp only [tellVs, tellV, tells, tell, st0, padT, SX.newRow, SX.newBox, List.length_cons, List.length_nil, Nat.reduceAdd, Nat.reduceSub, List.replicate, List.cons_append, List.nil_append, List.foldl_cons, List.foldl_nil]
 refine W_seq (W_region ?_)
 refine WO_op (x := .bp 0 0) (σ' := ⟨[], [some [qs a1.Name, qi a1.Kind, qi a1.Goal]], []⟩) rfl rfl rfl ?_
 refine WO_op (x := .bp 1 0) (σ' := ⟨[], [some [qs a1.Name, qi a1.Kind, qi a1.Goal], some [qs a2.Name, qi a2.Kind, qi a2.Goal]], []⟩) rfl rfl rfl ?_
 refine WO_op rfl rfl rfl ?_; simp only [putT,st,ev,gt,hp,ofV,constT,intT,lm]
 refine WO_nil (W_seq (W_seq (W_region ?_)))
 refine WO_op (x := .bp 0 0) rfl rfl rfl ?_
 refine WO_op (x := qs a1.Name) rfl rfl rfl ?_
 refine WO_op (x := .bp 1 0) rfl rfl rfl ?_
 refine WO_op (x := qs a2.Name) rfl rfl rfl ?_; simp only [putT,st,ev,gt,hp,ofV,constT,intT,lm]
 refine WO_op rfl rfl (ev_neq_s rfl rfl rfl) ?_; simp only [putT,st,ev,gt,hp,ofV,constT,intT,lm]
 refine WO_nil ?_
 refine W_cond rfl (fun hc => ?_) (fun hc => ?_)
 ·
  replace H := tr hc H
  refine W_seq (W_region ?_)
  refine WO_op rfl rfl rfl ?_; simp only [putT,st,ev,gt,hp,ofV,constT,intT,lm]
  refine WO_nil ?_
  refine W_ret ?_
  obtain rfl := Option.some.inj H
  exact told3 rfl
 ·
  replace H := fl hc H
  refine W_skip ?_
  refine W_seq (W_seq (W_region ?_))
  refine WO_op (x := .bp 0 1) rfl rfl rfl ?_
  refine WO_op (x := qi a1.Kind) rfl rfl rfl ?_
  refine WO_op (x := .bp 1 1) rfl rfl rfl ?_
  refine WO_op (x := qi a2.Kind) rfl rfl rfl ?_; simp only [putT,st,ev,gt,hp,ofV,constT,intT,lm]
  refine WO_op rfl rfl rfl ?_; simp only [putT,st,ev,gt,hp,ofV,constT,intT,lm]
  refine WO_nil ?_
  refine W_cond rfl (fun hc => ?_) (fun hc => ?_)
  ·
   replace H := tr hc H
   refine W_seq (W_region ?_)
   refine WO_op rfl rfl rfl ?_; simp only [putT,st,ev,gt,hp,ofV,constT,intT,lm]
   refine WO_nil ?_
   refine W_ret ?_
   obtain rfl := Option.some.inj H
   exact told3 rfl
  ·
   replace H := fl hc H
   refine W_skip ?_
   refine W_seq (W_seq (W_region ?_))
   refine WO_op (x := .bp 0 2) rfl rfl rfl ?_
   refine WO_op (x := qi a1.Goal) rfl rfl rfl ?_
   refine WO_op (x := .bp 1 2) rfl rfl rfl ?_
   refine WO_op (x := qi a2.Goal) rfl rfl rfl ?_; simp only [putT,st,ev,gt,hp,ofV,constT,intT,lm]
   refine WO_op rfl rfl rfl ?_; simp only [putT,st,ev,gt,hp,ofV,constT,intT,lm]
   refine WO_nil ?_
   refine W_cond rfl (fun hc => ?_) (fun hc => ?_)
   ·
    replace H := tr hc H
    refine W_seq (W_region ?_)
    refine WO_op rfl rfl rfl ?_; simp only [putT,st,ev,gt,hp,ofV,constT,intT,lm]
    refine WO_nil ?_
    refine W_ret ?_
    obtain rfl := Option.some.inj H
    exact told3 rfl
   ·
    replace H := fl hc H
    refine W_skip ?_
    refine W_seq (W_region ?_)
    refine WO_op rfl rfl rfl ?_; simp only [putT,st,ev,gt,hp,ofV,constT,intT,lm]
    refine WO_nil ?_
    refine W_ret ?_
    obtain rfl := Option.some.inj H
    exact told3 rfl
theorem laws_eqMetricS_ok {a1 : List Metric} {a2 : List Metric} {r : Bool} (H : laws_eqMetricS a1 a2 = some r) : R 52 [.c (cL enc_Metric a1) none, .c (cL enc_Metric a2) none] = some (.c (cB r) none, []) := by
 unfold laws_eqMetricS at H
 refine Fz_walk 27 rfl rfl Tryz.func52 rfl (by kernel_rfl) rfl rfl rfl rfl ?_
 simp only [tellVs, tellV, tells, tell, st0, padT, SX.newRow, SX.newBox, List.length_cons, List.length_nil, Nat.reduceAdd, Nat.reduceSub, List.replicate, List.cons_append, List.nil_append, List.foldl_cons, List.foldl_nil]
 refine W_seq (W_region ?_)
 refine WO_op rfl rfl rfl ?_; simp only [putT,st,ev,gt,hp,ofV,constT,intT,lm]
 refine WO_nil (W_seq (W_seq (W_region ?_)))
 iterate 5 (refine WO_op rfl rfl rfl ?_; simp only [putT,st,ev,gt,hp,ofV,constT,intT,lm])
 refine WO_nil ?_
 refine W_cond rfl (fun hc => ?_) (fun hc => ?_)
 ·
  replace H := tr hc H
  refine W_seq (W_region ?_)
  refine WO_op rfl rfl rfl ?_; simp only [putT,st,ev,gt,hp,ofV,constT,intT,lm]
  refine WO_nil ?_
  refine W_ret ?_
  obtain rfl := Option.some.inj H
  exact told3 rfl
 ·
  replace H := fl hc H
  refine W_skip ?_
  refine W_seq (W_seq (W_region ?_))
  refine WO_op rfl rfl rfl ?_; simp only [putT,st,ev,gt,hp,ofV,constT,intT,lm]
  refine WO_nil ?_
  refine W_block ?_
  obtain ⟨s8, hs8, H⟩ := bnd H
  refine loop_rule (ls := []) 0 (fun t7 : Unit => ⟨[], [], []⟩) (fun t => s8 = .inr t) ⟨[.c (cL enc_Metric a1), .c (cL enc_Metric a2), .no, .no, .no, qi 0], [], []⟩ (by repeat (first | exact mono_told | refine mono_seq ?_ | refine mono_blk ?_ | refine mono_lp ?_)) (le_intro [] [] (by decide) (by decide) rfl (by simp [leS, leT, leA, gt]) (by simp [leB, leT, leA]) (by simp [leR])) ?_ ?_
  ·
   rintro t7 rfl
   refine W_seq (W_region ?_)
   refine WO_op rfl rfl rfl ?_; simp only [putT,st,ev,gt,hp,ofV,constT,intT,lm]
   refine WO_nil ?_
   refine W_ret ?_
   obtain rfl := Option.some.inj H
   exact told3 rfl
  ·
   intro V1 hV1 hW1 hX1
   refine (laws_eqMetricS.l0.partial_correctness a1 a2 (fun v3 s' => s' = s8 → (V1 ⟨[.c (cL enc_Metric a1), .c (cL enc_Metric a2), .no, .no, .no, qi v3], [], []⟩)) ?_ _ _ hs8 rfl)
   intro l0 IH1 v3 s' H1 e
   subst e
   refine hV1 _ ?_
   refine W_seq (W_seq (W_region ?_))
   iterate 4 (refine WO_op rfl rfl rfl ?_; simp only [putT,st,ev,gt,hp,ofV,constT,intT,lm])
   refine WO_nil ?_
   refine W_cond rfl (fun hc => ?_) (fun hc => ?_)
   ·
    replace H1 := tr hc H1
    refine W_skip ?_
    refine W_seq ?_
    refine W_block ?_
    refine W_seq ?_
    refine W_draw (by kernel_rfl) (by kernel_rfl) ?_
    iterate 2 (refine WO_op rfl rfl rfl ?_; simp only [putT,st,ev,gt,hp,ofV,constT,intT,lm])
    obtain ⟨x4, hx4, H1⟩ := bnd H1
    refine WO_op rfl rfl (ev_ix (en := enc_Metric) hx4 rfl rfl rfl rfl rfl rfl rfl) ?_; simp only [putT,st,ev,gt,hp,ofV,constT,intT,lm]
    refine WO_op (x := .ag [qs x4.Name, qi x4.Kind, qi x4.Goal]) rfl rfl rfl ?_; simp only [putT,st,ev,gt,hp,ofV,constT,intT,lm]
    iterate 2 (refine WO_op rfl rfl rfl ?_; simp only [putT,st,ev,gt,hp,ofV,constT,intT,lm])
    obtain ⟨x5, hx5, H1⟩ := bnd H1
    refine WO_op rfl rfl (ev_ix (en := enc_Metric) hx5 rfl rfl rfl rfl rfl rfl rfl) ?_; simp only [putT,st,ev,gt,hp,ofV,constT,intT,lm]
    refine WO_op (x := .ag [qs x5.Name, qi x5.Kind, qi x5.Goal]) rfl rfl rfl ?_; simp only [putT,st,ev,gt,hp,ofV,constT,intT,lm]
    obtain ⟨x6, hx6, H1⟩ := bnd H1
    refine WO_op (x := qb x6) (σ' := ⟨[], [], []⟩) rfl rfl (ev_callG (al := [.ag [qs x4.Name, qi x4.Kind, qi x4.Goal], .ag [qs x5.Name, qi x5.Kind, qi x5.Goal]]) (ls := []) (laws_eqMetric_ok hx6) rfl rfl rfl rfl rfl (by decide) rfl rfl rfl rfl rfl rfl) ?_; simp only [putT,st,ev,gt,hp,ofV,constT,intT,lm]
    refine WO_op rfl rfl rfl ?_; simp only [putT,st,ev,gt,hp,ofV,constT,intT,lm]
    refine WO_nil ?_
    refine W_cond rfl (fun hc => ?_) (fun hc => ?_)
    ·
     replace H1 := tr hc H1
     refine W_seq (W_region ?_)
     refine WO_op rfl rfl rfl ?_; simp only [putT,st,ev,gt,hp,ofV,constT,intT,lm]
     refine WO_nil ?_
     refine W_ret ?_
     obtain rfl := Option.some.inj H1
     obtain rfl := Option.some.inj H
     exact told3 rfl
    ·
     replace H1 := fl hc H1
     refine W_skip ?_
     refine W_region ?_
     iterate 3 (refine WO_op rfl rfl rfl ?_; simp only [putT,st,ev,gt,hp,ofV,constT,intT,lm])
     refine WO_nil ?_
     exact hW1 _ _ ((IH1 _ _ H1 rfl)) (le_intro [] [] (by decide) (by decide) rfl (by simp [leS, leT, leA, gt]) (by simp [leB, leT, leA]) (by simp [leR]))
   ·
    replace H1 := fl hc H1
    refine W_exit ?_
    obtain rfl := Option.some.inj H1
    exact hX1 () _ rfl (le_intro [] [] (by decide) (by decide) rfl (by simp [leS, leT, leA, gt]) (by simp [leB, leT, leA]) (by simp [leR]))
theorem laws_eqPace_ok {a1 : Pace} {a2 : Pace} {r : Bool} (H : laws_eqPace a1 a2 = some r) : R 53 [.ag [(cI .i64 a1.Up, none), (cI .i64 a1.Down, none), (cI .i64 a1.UpSpan, none), (cI .i64 a1.DownSpan, none)], .ag [(cI .i64 a2.Up, none), (cI .i64 a2.Down, none), (cI .i64 a2.UpSpan, none), (cI .i64 a2.DownSpan, none)]] = some (.c (cB r) none, []) := by
 unfold laws_eqPace at H
 refine Fz_walk 25 rfl rfl Tryz.func53 rfl (by kernel_rfl) rfl rfl rfl rfl ?_
 simp only [tellVs, tellV, tells, tell, st0, padT, SX.newRow, SX.newBox, List.length_cons, List.length_nil, Nat.reduceAdd, Nat.reduceSub, List.replicate, List.cons_append, List.nil_append, List.foldl_cons, List.foldl_nil]
 refine W_seq (W_region ?_)
 refine WO_op (x := .bp 0 0) (σ' := ⟨[], [some [qi a1.Up, qi a1.Down, qi a1.UpSpan, qi a1.DownSpan]], []⟩) rfl rfl rfl ?_
 refine WO_op (x := .bp 1 0) (σ' := ⟨[], [some [qi a1.Up, qi a1.Down, qi a1.UpSpan, qi a1.DownSpan], some [qi a2.Up, qi a2.Down, qi a2.UpSpan, qi a2.DownSpan]], []⟩) rfl rfl rfl ?_
 refine WO_op rfl rfl rfl ?_; simp only [putT,st,ev,gt,hp,ofV,constT,intT,lm]
 refine WO_nil (W_seq (W_seq (W_region ?_)))
 refine WO_op (x := .bp 0 0) rfl rfl rfl ?_
 refine WO_op (x := qi a1.Up) rfl rfl rfl ?_
 refine WO_op (x := .bp 1 0) rfl rfl rfl ?_
 refine WO_op (x := qi a2.Up) rfl rfl rfl ?_; simp only [putT,st,ev,gt,hp,ofV,constT,intT,lm]
 refine WO_op rfl rfl rfl ?_; simp only [putT,st,ev,gt,hp,ofV,constT,intT,lm]
 refine WO_nil ?_
 refine W_cond rfl (fun hc => ?_) (fun hc => ?_)
 ·
  replace H := tr hc H
  refine W_seq (W_region ?_)
  refine WO_op rfl rfl rfl ?_; simp only [putT,st,ev,gt,hp,ofV,constT,intT,lm]
  refine WO_nil ?_
  refine W_ret ?_
  obtain rfl := Option.some.inj H
  exact told3 rfl
 ·
  replace H := fl hc H
  refine W_skip ?_
  refine W_seq (W_seq (W_region ?_))
  refine WO_op (x := .bp 0 1) rfl rfl rfl ?_
  refine WO_op (x := qi a1.Down) rfl rfl rfl ?_
  refine WO_op (x := .bp 1 1) rfl rfl rfl ?_
  refine WO_op (x := qi a2.Down) rfl rfl rfl ?_; simp only [putT,st,ev,gt,hp,ofV,constT,intT,lm]
  refine WO_op rfl rfl rfl ?_; simp only [putT,st,ev,gt,hp,ofV,constT,intT,lm]
  refine WO_nil ?_
  refine W_cond rfl (fun hc => ?_) (fun hc => ?_)
  ·
   replace H := tr hc H
   refine W_seq (W_region ?_)
   refine WO_op rfl rfl rfl ?_; simp only [putT,st,ev,gt,hp,ofV,constT,intT,lm]
   refine WO_nil ?_
   refine W_ret ?_
   obtain rfl := Option.some.inj H
   exact told3 rfl
  ·
   replace H := fl hc H
   refine W_skip ?_
   refine W_seq (W_seq (W_region ?_))
   refine WO_op (x := .bp 0 2) rfl rfl rfl ?_
   refine WO_op (x := qi a1.UpSpan) rfl rfl rfl ?_
   refine WO_op (x := .bp 1 2) rfl rfl rfl ?_
   refine WO_op (x := qi a2.UpSpan) rfl rfl rfl ?_; simp only [putT,st,ev,gt,hp,ofV,constT,intT,lm]
   refine WO_op rfl rfl rfl ?_; simp only [putT,st,ev,gt,hp,ofV,constT,intT,lm]
   refine WO_nil ?_
   refine W_cond rfl (fun hc => ?_) (fun hc => ?_)
   ·
    replace H := tr hc H
    refine W_seq (W_region ?_)
    refine WO_op rfl rfl rfl ?_; simp only [putT,st,ev,gt,hp,ofV,constT,intT,lm]
    refine WO_nil ?_
    refine W_ret ?_
    obtain rfl := Option.some.inj H
    exact told3 rfl
   ·
    replace H := fl hc H
    refine W_skip ?_
    refine W_seq (W_seq (W_region ?_))
    refine WO_op (x := .bp 0 3) rfl rfl rfl ?_
    refine WO_op (x := qi a1.DownSpan) rfl rfl rfl ?_
    refine WO_op (x := .bp 1 3) rfl rfl rfl ?_
    refine WO_op (x := qi a2.DownSpan) rfl rfl rfl ?_; simp only [putT,st,ev,gt,hp,ofV,constT,intT,lm]
    refine WO_op rfl rfl rfl ?_; simp only [putT,st,ev,gt,hp,ofV,constT,intT,lm]
    refine WO_nil ?_
    refine W_cond rfl (fun hc => ?_) (fun hc => ?_)
    ·
     replace H := tr hc H
     refine W_seq (W_region ?_)
     refine WO_op rfl rfl rfl ?_; simp only [putT,st,ev,gt,hp,ofV,constT,intT,lm]
     refine WO_nil ?_
     refine W_ret ?_
     obtain rfl := Option.some.inj H
     exact told3 rfl
    ·
     replace H := fl hc H
     refine W_skip ?_
     refine W_seq (W_region ?_)
     refine WO_op rfl rfl rfl ?_; simp only [putT,st,ev,gt,hp,ofV,constT,intT,lm]
     refine WO_nil ?_
     refine W_ret ?_
     obtain rfl := Option.some.inj H
     exact told3 rfl
theorem laws_eqNote_ok {a1 : Note} {a2 : Note} {r : Bool} (H : laws_eqNote a1 a2 = some r) : R 91 [.ag [(cS a1.Key, none), (cS a1.Text, none)], .ag [(cS a2.Key, none), (cS a2.Text, none)]] = some (.c (cB r) none, []) := by
 unfold laws_eqNote at H
 refine Fz_walk 15 rfl rfl Tryz.func91 rfl (by kernel_rfl) rfl rfl rfl rfl ?_
 simp only [tellVs, tellV, tells, tell, st0, padT, SX.newRow, SX.newBox, List.length_cons, List.length_nil, Nat.reduceAdd, Nat.reduceSub, List.replicate, List.cons_append, List.nil_append, List.foldl_cons, List.foldl_nil]
 refine W_seq (W_region ?_)
 refine WO_op (x := .bp 0 0) (σ' := ⟨[], [some [qs a1.Key, qs a1.Text]], []⟩) rfl rfl rfl ?_
 refine WO_op (x := .bp 1 0) (σ' := ⟨[], [some [qs a1.Key, qs a1.Text], some [qs a2.Key, qs a2.Text]], []⟩) rfl rfl rfl ?_
 refine WO_op rfl rfl rfl ?_; simp only [putT,st,ev,gt,hp,ofV,constT,intT,lm]
 refine WO_nil (W_seq (W_seq (W_region ?_)))
 refine WO_op (x := .bp 0 0) rfl rfl rfl ?_
 refine WO_op (x := qs a1.Key) rfl rfl rfl ?_
 refine WO_op (x := .bp 1 0) rfl rfl rfl ?_
 refine WO_op (x := qs a2.Key) rfl rfl rfl ?_; simp only [putT,st,ev,gt,hp,ofV,constT,intT,lm]
 refine WO_op rfl rfl (ev_neq_s rfl rfl rfl) ?_; simp only [putT,st,ev,gt,hp,ofV,constT,intT,lm]
 refine WO_nil ?_
 refine W_cond rfl (fun hc => ?_) (fun hc => ?_)
 ·
  replace H := tr hc H
  refine W_seq (W_region ?_)
  refine WO_op rfl rfl rfl ?_; simp only [putT,st,ev,gt,hp,ofV,constT,intT,lm]
  refine WO_nil ?_
  refine W_ret ?_
  obtain rfl := Option.some.inj H
  exact told3 rfl
 ·
  replace H := fl hc H
  refine W_skip ?_
  refine W_seq (W_seq (W_region ?_))
  refine WO_op (x := .bp 0 1) rfl rfl rfl ?_
  refine WO_op (x := qs a1.Text) rfl rfl rfl ?_
  refine WO_op (x := .bp 1 1) rfl rfl rfl ?_
  refine WO_op (x := qs a2.Text) rfl rfl rfl ?_; simp only [putT,st,ev,gt,hp,ofV,constT,intT,lm]
  refine WO_op rfl rfl (ev_neq_s rfl rfl rfl) ?_; simp only [putT,st,ev,gt,hp,ofV,constT,intT,lm]
  refine WO_nil ?_
  refine W_cond rfl (fun hc => ?_) (fun hc => ?_)
  ·
   replace H := tr hc H
   refine W_seq (W_region ?_)
   refine WO_op rfl rfl rfl ?_; simp only [putT,st,ev,gt,hp,ofV,constT,intT,lm]
   refine WO_nil ?_
   refine W_ret ?_
   obtain rfl := Option.some.inj H
   exact told3 rfl
  ·
   replace H := fl hc H
   refine W_skip ?_
   refine W_seq (W_region ?_)
   refine WO_op rfl rfl rfl ?_; simp only [putT,st,ev,gt,hp,ofV,constT,intT,lm]
   refine WO_nil ?_
   refine W_ret ?_
   obtain rfl := Option.some.inj H
   exact told3 rfl
theorem laws_eqNoteS_ok {a1 : List Note} {a2 : List Note} {r : Bool} (H : laws_eqNoteS a1 a2 = some r) : R 54 [.c (cL enc_Note a1) none, .c (cL enc_Note a2) none] = some (.c (cB r) none, []) := by
 unfold laws_eqNoteS at H
 refine Fz_walk 27 rfl rfl Tryz.func54 rfl (by kernel_rfl) rfl rfl rfl rfl ?_
 simp only [tellVs, tellV, tells, tell, st0, padT, SX.newRow, SX.newBox, List.length_cons, List.length_nil, Nat.reduceAdd, Nat.reduceSub, List.replicate, List.cons_append, List.nil_append, List.foldl_cons, List.foldl_nil]
 refine W_seq (W_region ?_)
 refine WO_op rfl rfl rfl ?_; simp only [putT,st,ev,gt,hp,ofV,constT,intT,lm]
 refine WO_nil (W_seq (W_seq (W_region ?_)))
 iterate 5 (refine WO_op rfl rfl rfl ?_; simp only [putT,st,ev,gt,hp,ofV,constT,intT,lm])
 refine WO_nil ?_
 refine W_cond rfl (fun hc => ?_) (fun hc => ?_)
 ·
  replace H := tr hc H
  refine W_seq (W_region ?_)
  refine WO_op rfl rfl rfl ?_; simp only [putT,st,ev,gt,hp,ofV,constT,intT,lm]
  refine WO_nil ?_
  refine W_ret ?_
  obtain rfl := Option.some.inj H
  exact told3 rfl
 ·
  replace H := fl hc H
  refine W_skip ?_
  refine W_seq (W_seq (W_region ?_))
  refine WO_op rfl rfl rfl ?_; simp only [putT,st,ev,gt,hp,ofV,constT,intT,lm]
  refine WO_nil ?_
  refine W_block ?_
  obtain ⟨s8, hs8, H⟩ := bnd H
  refine loop_rule (ls := []) 0 (fun t7 : Unit => ⟨[], [], []⟩) (fun t => s8 = .inr t) ⟨[.c (cL enc_Note a1), .c (cL enc_Note a2), .no, .no, .no, qi 0], [], []⟩ (by repeat (first | exact mono_told | refine mono_seq ?_ | refine mono_blk ?_ | refine mono_lp ?_)) (le_intro [] [] (by decide) (by decide) rfl (by simp [leS, leT, leA, gt]) (by simp [leB, leT, leA]) (by simp [leR])) ?_ ?_
  ·
   rintro t7 rfl
   refine W_seq (W_region ?_)
   refine WO_op rfl rfl rfl ?_; simp only [putT,st,ev,gt,hp,ofV,constT,intT,lm]
   refine WO_nil ?_
   refine W_ret ?_
   obtain rfl := Option.some.inj H
   exact told3 rfl
  ·
   intro V1 hV1 hW1 hX1
   refine (laws_eqNoteS.l0.partial_correctness a1 a2 (fun v3 s' => s' = s8 → (V1 ⟨[.c (cL enc_Note a1), .c (cL enc_Note a2), .no, .no, .no, qi v3], [], []⟩)) ?_ _ _ hs8 rfl)
   intro l0 IH1 v3 s' H1 e
   subst e
   refine hV1 _ ?_
   refine W_seq (W_seq (W_region ?_))
   iterate 4 (refine WO_op rfl rfl rfl ?_; simp only [putT,st,ev,gt,hp,ofV,constT,intT,lm])
   refine WO_nil ?_
   refine W_cond rfl (fun hc => ?_) (fun hc => ?_)
   ·
    replace H1 := tr hc H1
    refine W_skip ?_
    refine W_seq ?_
    refine W_block ?_
    refine W_seq ?_
    refine W_draw (by kernel_rfl) (by kernel_rfl) ?_
    iterate 2 (refine WO_op rfl rfl rfl ?_; simp only [putT,st,ev,gt,hp,ofV,constT,intT,lm])
    obtain ⟨x4, hx4, H1⟩ := bnd H1
    refine WO_op rfl rfl (ev_ix (en := enc_Note) hx4 rfl rfl rfl rfl rfl rfl rfl) ?_; simp only [putT,st,ev,gt,hp,ofV,constT,intT,lm]
    refine WO_op (x := .ag [qs x4.Key, qs x4.Text]) rfl rfl rfl ?_; simp only [putT,st,ev,gt,hp,ofV,constT,intT,lm]
    iterate 2 (refine WO_op rfl rfl rfl ?_; simp only [putT,st,ev,gt,hp,ofV,constT,intT,lm])
    obtain ⟨x5, hx5, H1⟩ := bnd H1
    refine WO_op rfl rfl (ev_ix (en := enc_Note) hx5 rfl rfl rfl rfl rfl rfl rfl) ?_; simp only [putT,st,ev,gt,hp,ofV,constT,intT,lm]
    refine WO_op (x := .ag [qs x5.Key, qs x5.Text]) rfl rfl rfl ?_; simp only [putT,st,ev,gt,hp,ofV,constT,intT,lm]
    obtain ⟨x6, hx6, H1⟩ := bnd H1
    refine WO_op (x := qb x6) (σ' := ⟨[], [], []⟩) rfl rfl (ev_callG (al := [.ag [qs x4.Key, qs x4.Text], .ag [qs x5.Key, qs x5.Text]]) (ls := []) (laws_eqNote_ok hx6) rfl rfl rfl rfl rfl (by decide) rfl rfl rfl rfl rfl rfl) ?_; simp only [putT,st,ev,gt,hp,ofV,constT,intT,lm]
    refine WO_op rfl rfl rfl ?_; simp only [putT,st,ev,gt,hp,ofV,constT,intT,lm]
    refine WO_nil ?_
    refine W_cond rfl (fun hc => ?_) (fun hc => ?_)
    ·
     replace H1 := tr hc H1
     refine W_seq (W_region ?_)
     refine WO_op rfl rfl rfl ?_; simp only [putT,st,ev,gt,hp,ofV,constT,intT,lm]
     refine WO_nil ?_
     refine W_ret ?_
     obtain rfl := Option.some.inj H1
     obtain rfl := Option.some.inj H
     exact told3 rfl
    ·
     replace H1 := fl hc H1
     refine W_skip ?_
     refine W_region ?_
     iterate 3 (refine WO_op rfl rfl rfl ?_; simp only [putT,st,ev,gt,hp,ofV,constT,intT,lm])
     refine WO_nil ?_
     exact hW1 _ _ ((IH1 _ _ H1 rfl)) (le_intro [] [] (by decide) (by decide) rfl (by simp [leS, leT, leA, gt]) (by simp [leB, leT, leA]) (by simp [leR]))
   ·
    replace H1 := fl hc H1
    refine W_exit ?_
    obtain rfl := Option.some.inj H1
    exact hX1 () _ rfl (le_intro [] [] (by decide) (by decide) rfl (by simp [leS, leT, leA, gt]) (by simp [leB, leT, leA]) (by simp [leR]))
theorem laws_eqOrder_ok {a1 : Order} {a2 : Order} {r : Bool} (H : laws_eqOrder a1 a2 = some r) : R 14 [.ag [(cS a1.Name, none), (cS a1.Target, none), (cI .i64 a1.Low, none), (cI .i64 a1.High, none), (cL enc_Metric a1.Metrics, none), (cI .i64 a1.Pace.Up, none), (cI .i64 a1.Pace.Down, none), (cI .i64 a1.Pace.UpSpan, none), (cI .i64 a1.Pace.DownSpan, none), (cL enc_Note a1.Notes, none)], .ag [(cS a2.Name, none), (cS a2.Target, none), (cI .i64 a2.Low, none), (cI .i64 a2.High, none), (cL enc_Metric a2.Metrics, none), (cI .i64 a2.Pace.Up, none), (cI .i64 a2.Pace.Down, none), (cI .i64 a2.Pace.UpSpan, none), (cI .i64 a2.Pace.DownSpan, none), (cL enc_Note a2.Notes, none)]] = some (.c (cB r) none, []) := by
 unfold laws_eqOrder at H
 refine Fz_walk 43 rfl rfl Tryz.func14 rfl (by kernel_rfl) rfl rfl rfl rfl ?_
 simp only [tellVs, tellV, tells, tell, st0, padT, SX.newRow, SX.newBox, List.length_cons, List.length_nil, Nat.reduceAdd, Nat.reduceSub, List.replicate, List.cons_append, List.nil_append, List.foldl_cons, List.foldl_nil]
 refine W_seq (W_region ?_)
 refine WO_op (x := .bp 0 0) (σ' := ⟨[], [some [qs a1.Name, qs a1.Target, qi a1.Low, qi a1.High, .c (cL enc_Metric a1.Metrics), qi a1.Pace.Up, qi a1.Pace.Down, qi a1.Pace.UpSpan, qi a1.Pace.DownSpan, .c (cL enc_Note a1.Notes)]], []⟩) rfl rfl rfl ?_
 refine WO_op (x := .bp 1 0) (σ' := ⟨[], [some [qs a1.Name, qs a1.Target, qi a1.Low, qi a1.High, .c (cL enc_Metric a1.Metrics), qi a1.Pace.Up, qi a1.Pace.Down, qi a1.Pace.UpSpan, qi a1.Pace.DownSpan, .c (cL enc_Note a1.Notes)], some [qs a2.Name, qs a2.Target, qi a2.Low, qi a2.High, .c (cL enc_Metric a2.Metrics), qi a2.Pace.Up, qi a2.Pace.Down, qi a2.Pace.UpSpan, qi a2.Pace.DownSpan, .c (cL enc_Note a2.Notes)]], []⟩) rfl rfl rfl ?_
 refine WO_op rfl rfl rfl ?_; simp only [putT,st,ev,gt,hp,ofV,constT,intT,lm]
 refine WO_nil (W_seq (W_seq (W_region ?_)))
 refine WO_op (x := .bp 0 0) rfl rfl rfl ?_
 refine WO_op (x := qs a1.Name) rfl rfl rfl ?_
 refine WO_op (x := .bp 1 0) rfl rfl rfl ?_
 refine WO_op (x := qs a2.Name) rfl rfl rfl ?_; simp only [putT,st,ev,gt,hp,ofV,constT,intT,lm]
 refine WO_op rfl rfl (ev_neq_s rfl rfl rfl) ?_; simp only [putT,st,ev,gt,hp,ofV,constT,intT,lm]
 refine WO_nil ?_
 refine W_cond rfl (fun hc => ?_) (fun hc => ?_)
 ·
  replace H := tr hc H
  refine W_seq (W_region ?_)
  refine WO_op rfl rfl rfl ?_; simp only [putT,st,ev,gt,hp,ofV,constT,intT,lm]
  refine WO_nil ?_
  refine W_ret ?_
  obtain rfl := Option.some.inj H
  exact told3 rfl
 ·
  replace H := fl hc H
  refine W_skip ?_
  refine W_seq (W_seq (W_region ?_))
  refine WO_op (x := .bp 0 1) rfl rfl rfl ?_
  refine WO_op (x := qs a1.Target) rfl rfl rfl ?_
  refine WO_op (x := .bp 1 1) rfl rfl rfl ?_
  refine WO_op (x := qs a2.Target) rfl rfl rfl ?_; simp only [putT,st,ev,gt,hp,ofV,constT,intT,lm]
  refine WO_op rfl rfl (ev_neq_s rfl rfl rfl) ?_; simp only [putT,st,ev,gt,hp,ofV,constT,intT,lm]
  refine WO_nil ?_
  refine W_cond rfl (fun hc => ?_) (fun hc => ?_)
  ·
   replace H := tr hc H
   refine W_seq (W_region ?_)
   refine WO_op rfl rfl rfl ?_; simp only [putT,st,ev,gt,hp,ofV,constT,intT,lm]
   refine WO_nil ?_
   refine W_ret ?_
   obtain rfl := Option.some.inj H
   exact told3 rfl
  ·
   replace H := fl hc H
   refine W_skip ?_
   refine W_seq (W_seq (W_region ?_))
   refine WO_op (x := .bp 0 2) rfl rfl rfl ?_
   refine WO_op (x := qi a1.Low) rfl rfl rfl ?_
   refine WO_op (x := .bp 1 2) rfl rfl rfl ?_
   refine WO_op (x := qi a2.Low) rfl rfl rfl ?_; simp only [putT,st,ev,gt,hp,ofV,constT,intT,lm]
   refine WO_op rfl rfl rfl ?_; simp only [putT,st,ev,gt,hp,ofV,constT,intT,lm]
   refine WO_nil ?_
   refine W_cond rfl (fun hc => ?_) (fun hc => ?_)
   ·
    replace H := tr hc H
    refine W_seq (W_region ?_)
    refine WO_op rfl rfl rfl ?_; simp only [putT,st,ev,gt,hp,ofV,constT,intT,lm]
    refine WO_nil ?_
    refine W_ret ?_
    obtain rfl := Option.some.inj H
    exact told3 rfl
   ·
    replace H := fl hc H
    refine W_skip ?_
    refine W_seq (W_seq (W_region ?_))
    refine WO_op (x := .bp 0 3) rfl rfl rfl ?_
    refine WO_op (x := qi a1.High) rfl rfl rfl ?_
    refine WO_op (x := .bp 1 3) rfl rfl rfl ?_
    refine WO_op (x := qi a2.High) rfl rfl rfl ?_; simp only [putT,st,ev,gt,hp,ofV,constT,intT,lm]
    refine WO_op rfl rfl rfl ?_; simp only [putT,st,ev,gt,hp,ofV,constT,intT,lm]
    refine WO_nil ?_
    refine W_cond rfl (fun hc => ?_) (fun hc => ?_)
    ·
     replace H := tr hc H
     refine W_seq (W_region ?_)
     refine WO_op rfl rfl rfl ?_; simp only [putT,st,ev,gt,hp,ofV,constT,intT,lm]
     refine WO_nil ?_
     refine W_ret ?_
     obtain rfl := Option.some.inj H
     exact told3 rfl
    ·
     replace H := fl hc H
     refine W_skip ?_
     refine W_seq (W_seq (W_region ?_))
     refine WO_op (x := .bp 0 4) rfl rfl rfl ?_
     refine WO_op (x := .c (cL enc_Metric a1.Metrics)) rfl rfl rfl ?_
     refine WO_op (x := .bp 1 4) rfl rfl rfl ?_
     refine WO_op (x := .c (cL enc_Metric a2.Metrics)) rfl rfl rfl ?_; simp only [putT,st,ev,gt,hp,ofV,constT,intT,lm]
     obtain ⟨x3, hx3, H⟩ := bnd H
     refine WO_op (x := qb x3) (σ' := ⟨[], [some [qs a1.Name, qs a1.Target, qi a1.Low, qi a1.High, .c (cL enc_Metric a1.Metrics), qi a1.Pace.Up, qi a1.Pace.Down, qi a1.Pace.UpSpan, qi a1.Pace.DownSpan, .c (cL enc_Note a1.Notes)], some [qs a2.Name, qs a2.Target, qi a2.Low, qi a2.High, .c (cL enc_Metric a2.Metrics), qi a2.Pace.Up, qi a2.Pace.Down, qi a2.Pace.UpSpan, qi a2.Pace.DownSpan, .c (cL enc_Note a2.Notes)]], []⟩) rfl rfl (ev_callG (al := [.c (cL enc_Metric a1.Metrics), .c (cL enc_Metric a2.Metrics)]) (ls := []) (laws_eqMetricS_ok hx3) rfl rfl rfl rfl rfl (by decide) rfl rfl rfl rfl rfl rfl) ?_; simp only [putT,st,ev,gt,hp,ofV,constT,intT,lm]
     refine WO_op rfl rfl rfl ?_; simp only [putT,st,ev,gt,hp,ofV,constT,intT,lm]
     refine WO_nil ?_
     refine W_cond rfl (fun hc => ?_) (fun hc => ?_)
     ·
      replace H := tr hc H
      refine W_seq (W_region ?_)
      refine WO_op rfl rfl rfl ?_; simp only [putT,st,ev,gt,hp,ofV,constT,intT,lm]
      refine WO_nil ?_
      refine W_ret ?_
      obtain rfl := Option.some.inj H
      exact told3 rfl
     ·
      replace H := fl hc H
      refine W_skip ?_
      refine W_seq (W_seq (W_region ?_))
      refine WO_op (x := .bp 0 5) rfl rfl rfl ?_
      refine WO_op (x := .ag [qi a1.Pace.Up, qi a1.Pace.Down, qi a1.Pace.UpSpan, qi a1.Pace.DownSpan]) rfl rfl rfl ?_
      refine WO_op (x := .bp 1 5) rfl rfl rfl ?_
      refine WO_op (x := .ag [qi a2.Pace.Up, qi a2.Pace.Down, qi a2.Pace.UpSpan, qi a2.Pace.DownSpan]) rfl rfl rfl ?_; simp only [putT,st,ev,gt,hp,ofV,constT,intT,lm]
      obtain ⟨x4, hx4, H⟩ := bnd H
      refine WO_op (x := qb x4) (σ' := ⟨[], [some [qs a1.Name, qs a1.Target, qi a1.Low, qi a1.High, .c (cL enc_Metric a1.Metrics), qi a1.Pace.Up, qi a1.Pace.Down, qi a1.Pace.UpSpan, qi a1.Pace.DownSpan, .c (cL enc_Note a1.Notes)], some [qs a2.Name, qs a2.Target, qi a2.Low, qi a2.High, .c (cL enc_Metric a2.Metrics), qi a2.Pace.Up, qi a2.Pace.Down, qi a2.Pace.UpSpan, qi a2.Pace.DownSpan, .c (cL enc_Note a2.Notes)]], []⟩) rfl rfl (ev_callG (al := [.ag [qi a1.Pace.Up, qi a1.Pace.Down, qi a1.Pace.UpSpan, qi a1.Pace.DownSpan], .ag [qi a2.Pace.Up, qi a2.Pace.Down, qi a2.Pace.UpSpan, qi a2.Pace.DownSpan]]) (ls := []) (laws_eqPace_ok hx4) rfl rfl rfl rfl rfl (by decide) rfl rfl rfl rfl rfl rfl) ?_; simp only [putT,st,ev,gt,hp,ofV,constT,intT,lm]
      refine WO_op rfl rfl rfl ?_; simp only [putT,st,ev,gt,hp,ofV,constT,intT,lm]
      refine WO_nil ?_
      refine W_cond rfl (fun hc => ?_) (fun hc => ?_)
      ·
       replace H := tr hc H
       refine W_seq (W_region ?_)
       refine WO_op rfl rfl rfl ?_; simp only [putT,st,ev,gt,hp,ofV,constT,intT,lm]
       refine WO_nil ?_
       refine W_ret ?_
       obtain rfl := Option.some.inj H
       exact told3 rfl
      ·
       replace H := fl hc H
       refine W_skip ?_
       refine W_seq (W_seq (W_region ?_))
       refine WO_op (x := .bp 0 9) rfl rfl rfl ?_
       refine WO_op (x := .c (cL enc_Note a1.Notes)) rfl rfl rfl ?_
       refine WO_op (x := .bp 1 9) rfl rfl rfl ?_
       refine WO_op (x := .c (cL enc_Note a2.Notes)) rfl rfl rfl ?_; simp only [putT,st,ev,gt,hp,ofV,constT,intT,lm]
       obtain ⟨x5, hx5, H⟩ := bnd H
       refine WO_op (x := qb x5) (σ' := ⟨[], [some [qs a1.Name, qs a1.Target, qi a1.Low, qi a1.High, .c (cL enc_Metric a1.Metrics), qi a1.Pace.Up, qi a1.Pace.Down, qi a1.Pace.UpSpan, qi a1.Pace.DownSpan, .c (cL enc_Note a1.Notes)], some [qs a2.Name, qs a2.Target, qi a2.Low, qi a2.High, .c (cL enc_Metric a2.Metrics), qi a2.Pace.Up, qi a2.Pace.Down, qi a2.Pace.UpSpan, qi a2.Pace.DownSpan, .c (cL enc_Note a2.Notes)]], []⟩) rfl rfl (ev_callG (al := [.c (cL enc_Note a1.Notes), .c (cL enc_Note a2.Notes)]) (ls := []) (laws_eqNoteS_ok hx5) rfl rfl rfl rfl rfl (by decide) rfl rfl rfl rfl rfl rfl) ?_; simp only [putT,st,ev,gt,hp,ofV,constT,intT,lm]
       refine WO_op rfl rfl rfl ?_; simp only [putT,st,ev,gt,hp,ofV,constT,intT,lm]
       refine WO_nil ?_
       refine W_cond rfl (fun hc => ?_) (fun hc => ?_)
       ·
        replace H := tr hc H
        refine W_seq (W_region ?_)
        refine WO_op rfl rfl rfl ?_; simp only [putT,st,ev,gt,hp,ofV,constT,intT,lm]
        refine WO_nil ?_
        refine W_ret ?_
        obtain rfl := Option.some.inj H
        exact told3 rfl
       ·
        replace H := fl hc H
        refine W_skip ?_
        refine W_seq (W_region ?_)
        refine WO_op rfl rfl rfl ?_; simp only [putT,st,ev,gt,hp,ofV,constT,intT,lm]
        refine WO_nil ?_
        refine W_ret ?_
        obtain rfl := Option.some.inj H
        exact told3 rfl
theorem laws_eqSample_ok {a1 : Sample} {a2 : Sample} {r : Bool} (H : laws_eqSample a1 a2 = some r) : R 55 [.ag [(cS a1.Name, none), (cI .i64 a1.Value, none)], .ag [(cS a2.Name, none), (cI .i64 a2.Value, none)]] = some (.c (cB r) none, []) := by
 unfold laws_eqSample at H
 refine Fz_walk 15 rfl rfl Tryz.func55 rfl (by kernel_rfl) rfl rfl rfl rfl ?_
 simp only [tellVs, tellV, tells, tell, st0, padT, SX.newRow, SX.newBox, List.length_cons, List.length_nil, Nat.reduceAdd, Nat.reduceSub, List.replicate, List.cons_append, List.nil_append, List.foldl_cons, List.foldl_nil]
 refine W_seq (W_region ?_)
 refine WO_op (x := .bp 0 0) (σ' := ⟨[], [some [qs a1.Name, qi a1.Value]], []⟩) rfl rfl rfl ?_
 refine WO_op (x := .bp 1 0) (σ' := ⟨[], [some [qs a1.Name, qi a1.Value], some [qs a2.Name, qi a2.Value]], []⟩) rfl rfl rfl ?_
 refine WO_op rfl rfl rfl ?_; simp only [putT,st,ev,gt,hp,ofV,constT,intT,lm]
 refine WO_nil (W_seq (W_seq (W_region ?_)))
 refine WO_op (x := .bp 0 0) rfl rfl rfl ?_
 refine WO_op (x := qs a1.Name) rfl rfl rfl ?_
 refine WO_op (x := .bp 1 0) rfl rfl rfl ?_
 refine WO_op (x := qs a2.Name) rfl rfl rfl ?_; simp only [putT,st,ev,gt,hp,ofV,constT,intT,lm]
 refine WO_op rfl rfl (ev_neq_s rfl rfl rfl) ?_; simp only [putT,st,ev,gt,hp,ofV,constT,intT,lm]
 refine WO_nil ?_
 refine W_cond rfl (fun hc => ?_) (fun hc => ?_)
 ·
  replace H := tr hc H
  refine W_seq (W_region ?_)
  refine WO_op rfl rfl rfl ?_; simp only [putT,st,ev,gt,hp,ofV,constT,intT,lm]
  refine WO_nil ?_
  refine W_ret ?_
  obtain rfl := Option.some.inj H
  exact told3 rfl
 ·
  replace H := fl hc H
  refine W_skip ?_
  refine W_seq (W_seq (W_region ?_))
  refine WO_op (x := .bp 0 1) rfl rfl rfl ?_
  refine WO_op (x := qi a1.Value) rfl rfl rfl ?_
  refine WO_op (x := .bp 1 1) rfl rfl rfl ?_
  refine WO_op (x := qi a2.Value) rfl rfl rfl ?_; simp only [putT,st,ev,gt,hp,ofV,constT,intT,lm]
  refine WO_op rfl rfl rfl ?_; simp only [putT,st,ev,gt,hp,ofV,constT,intT,lm]
  refine WO_nil ?_
  refine W_cond rfl (fun hc => ?_) (fun hc => ?_)
  ·
   replace H := tr hc H
   refine W_seq (W_region ?_)
   refine WO_op rfl rfl rfl ?_; simp only [putT,st,ev,gt,hp,ofV,constT,intT,lm]
   refine WO_nil ?_
   refine W_ret ?_
   obtain rfl := Option.some.inj H
   exact told3 rfl
  ·
   replace H := fl hc H
   refine W_skip ?_
   refine W_seq (W_region ?_)
   refine WO_op rfl rfl rfl ?_; simp only [putT,st,ev,gt,hp,ofV,constT,intT,lm]
   refine WO_nil ?_
   refine W_ret ?_
   obtain rfl := Option.some.inj H
   exact told3 rfl
theorem laws_eqSampleS_ok {a1 : List Sample} {a2 : List Sample} {r : Bool} (H : laws_eqSampleS a1 a2 = some r) : R 15 [.c (cL enc_Sample a1) none, .c (cL enc_Sample a2) none] = some (.c (cB r) none, []) := by
 unfold laws_eqSampleS at H
 refine Fz_walk 27 rfl rfl Tryz.func15 rfl (by kernel_rfl) rfl rfl rfl rfl ?_
 simp only [tellVs, tellV, tells, tell, st0, padT, SX.newRow, SX.newBox, List.length_cons, List.length_nil, Nat.reduceAdd, Nat.reduceSub, List.replicate, List.cons_append, List.nil_append, List.foldl_cons, List.foldl_nil]
 refine W_seq (W_region ?_)
 refine WO_op rfl rfl rfl ?_; simp only [putT,st,ev,gt,hp,ofV,constT,intT,lm]
 refine WO_nil (W_seq (W_seq (W_region ?_)))
 iterate 5 (refine WO_op rfl rfl rfl ?_; simp only [putT,st,ev,gt,hp,ofV,constT,intT,lm])
 refine WO_nil ?_
 refine W_cond rfl (fun hc => ?_) (fun hc => ?_)
 ·
  replace H := tr hc H
  refine W_seq (W_region ?_)
  refine WO_op rfl rfl rfl ?_; simp only [putT,st,ev,gt,hp,ofV,constT,intT,lm]
  refine WO_nil ?_
  refine W_ret ?_
  obtain rfl := Option.some.inj H
  exact told3 rfl
 ·
  replace H := fl hc H
  refine W_skip ?_
  refine W_seq (W_seq (W_region ?_))
  refine WO_op rfl rfl rfl ?_; simp only [putT,st,ev,gt,hp,ofV,constT,intT,lm]
  refine WO_nil ?_
  refine W_block ?_
  obtain ⟨s8, hs8, H⟩ := bnd H
  refine loop_rule (ls := []) 0 (fun t7 : Unit => ⟨[], [], []⟩) (fun t => s8 = .inr t) ⟨[.c (cL enc_Sample a1), .c (cL enc_Sample a2), .no, .no, .no, qi 0], [], []⟩ (by repeat (first | exact mono_told | refine mono_seq ?_ | refine mono_blk ?_ | refine mono_lp ?_)) (le_intro [] [] (by decide) (by decide) rfl (by simp [leS, leT, leA, gt]) (by simp [leB, leT, leA]) (by simp [leR])) ?_ ?_
  ·
   rintro t7 rfl
   refine W_seq (W_region ?_)
   refine WO_op rfl rfl rfl ?_; simp only [putT,st,ev,gt,hp,ofV,constT,intT,lm]
   refine WO_nil ?_
   refine W_ret ?_
   obtain rfl := Option.some.inj H
   exact told3 rfl
  ·
   intro V1 hV1 hW1 hX1
   refine (laws_eqSampleS.l0.partial_correctness a1 a2 (fun v3 s' => s' = s8 → (V1 ⟨[.c (cL enc_Sample a1), .c (cL enc_Sample a2), .no, .no, .no, qi v3], [], []⟩)) ?_ _ _ hs8 rfl)
   intro l0 IH1 v3 s' H1 e
   subst e
   refine hV1 _ ?_
   refine W_seq (W_seq (W_region ?_))
   iterate 4 (refine WO_op rfl rfl rfl ?_; simp only [putT,st,ev,gt,hp,ofV,constT,intT,lm])
   refine WO_nil ?_
   refine W_cond rfl (fun hc => ?_) (fun hc => ?_)
   ·
    replace H1 := tr hc H1
    refine W_skip ?_
    refine W_seq ?_
    refine W_block ?_
    refine W_seq ?_
    refine W_draw (by kernel_rfl) (by kernel_rfl) ?_
    iterate 2 (refine WO_op rfl rfl rfl ?_; simp only [putT,st,ev,gt,hp,ofV,constT,intT,lm])
    obtain ⟨x4, hx4, H1⟩ := bnd H1
    refine WO_op rfl rfl (ev_ix (en := enc_Sample) hx4 rfl rfl rfl rfl rfl rfl rfl) ?_; simp only [putT,st,ev,gt,hp,ofV,constT,intT,lm]
    refine WO_op (x := .ag [qs x4.Name, qi x4.Value]) rfl rfl rfl ?_; simp only [putT,st,ev,gt,hp,ofV,constT,intT,lm]
    iterate 2 (refine WO_op rfl rfl rfl ?_; simp only [putT,st,ev,gt,hp,ofV,constT,intT,lm])
    obtain ⟨x5, hx5, H1⟩ := bnd H1
    refine WO_op rfl rfl (ev_ix (en := enc_Sample) hx5 rfl rfl rfl rfl rfl rfl rfl) ?_; simp only [putT,st,ev,gt,hp,ofV,constT,intT,lm]
    refine WO_op (x := .ag [qs x5.Name, qi x5.Value]) rfl rfl rfl ?_; simp only [putT,st,ev,gt,hp,ofV,constT,intT,lm]
    obtain ⟨x6, hx6, H1⟩ := bnd H1
    refine WO_op (x := qb x6) (σ' := ⟨[], [], []⟩) rfl rfl (ev_callG (al := [.ag [qs x4.Name, qi x4.Value], .ag [qs x5.Name, qi x5.Value]]) (ls := []) (laws_eqSample_ok hx6) rfl rfl rfl rfl rfl (by decide) rfl rfl rfl rfl rfl rfl) ?_; simp only [putT,st,ev,gt,hp,ofV,constT,intT,lm]
    refine WO_op rfl rfl rfl ?_; simp only [putT,st,ev,gt,hp,ofV,constT,intT,lm]
    refine WO_nil ?_
    refine W_cond rfl (fun hc => ?_) (fun hc => ?_)
    ·
     replace H1 := tr hc H1
     refine W_seq (W_region ?_)
     refine WO_op rfl rfl rfl ?_; simp only [putT,st,ev,gt,hp,ofV,constT,intT,lm]
     refine WO_nil ?_
     refine W_ret ?_
     obtain rfl := Option.some.inj H1
     obtain rfl := Option.some.inj H
     exact told3 rfl
    ·
     replace H1 := fl hc H1
     refine W_skip ?_
     refine W_region ?_
     iterate 3 (refine WO_op rfl rfl rfl ?_; simp only [putT,st,ev,gt,hp,ofV,constT,intT,lm])
     refine WO_nil ?_
     exact hW1 _ _ ((IH1 _ _ H1 rfl)) (le_intro [] [] (by decide) (by decide) rfl (by simp [leS, leT, leA, gt]) (by simp [leB, leT, leA]) (by simp [leR]))
   ·
    replace H1 := fl hc H1
    refine W_exit ?_
    obtain rfl := Option.some.inj H1
    exact hX1 () _ rfl (le_intro [] [] (by decide) (by decide) rfl (by simp [leS, leT, leA, gt]) (by simp [leB, leT, leA]) (by simp [leR]))
theorem laws_markText_ok {a1 : Int} {r : Str} (H : laws_markText a1 = some r) : R 59 [.c (cI .i64 a1) none] = some (.c (cS r) none, []) := by
 unfold laws_markText at H
 refine Fz_walk 20 rfl rfl Tryz.func59 rfl (by kernel_rfl) rfl rfl rfl rfl ?_
 simp only [tellVs, tellV, tells, tell, st0, padT, SX.newRow, SX.newBox, List.length_cons, List.length_nil, Nat.reduceAdd, Nat.reduceSub, List.replicate, List.cons_append, List.nil_append, List.foldl_cons, List.foldl_nil]
 refine W_seq (W_region ?_)
 refine WO_op rfl rfl rfl ?_; simp only [putT,st,ev,gt,hp,ofV,constT,intT,lm]
 refine WO_nil (W_seq (W_seq (W_region ?_)))
 iterate 2 (refine WO_op rfl rfl rfl ?_; simp only [putT,st,ev,gt,hp,ofV,constT,intT,lm])
 refine WO_nil ?_
 refine W_cond rfl (fun hc => ?_) (fun hc => ?_)
 ·
  replace H := tr hc H
  refine W_seq (W_region ?_)
  refine WO_op rfl rfl rfl ?_; simp only [putT,st,ev,gt,hp,ofV,constT,intT,lm]
  refine WO_nil ?_
  refine W_ret ?_
  obtain rfl := Option.some.inj H
  exact told3 rfl
 ·
  replace H := fl hc H
  refine W_skip ?_
  refine W_seq (W_region ?_)
  refine WO_op rfl rfl rfl ?_; simp only [putT,st,ev,gt,hp,ofV,constT,intT,lm]
  refine WO_nil (W_seq ?_)
  refine W_block ?_
  obtain ⟨t5, ht5, H⟩ := bnd H
  refine loop_rule (ls := []) 0 (fun t5 : Str => ⟨[.no, .no, .no, qs t5], [], []⟩) (fun t => t5 = t) ⟨[qi a1, .no, .no, qs []], [], []⟩ (by repeat (first | exact mono_told | refine mono_seq ?_ | refine mono_blk ?_ | refine mono_lp ?_)) (le_intro [] [] (by decide) (by decide) rfl (by simp [leS, leT, leA, gt]) (by simp [leB, leT, leA]) (by simp [leR])) ?_ ?_
  ·
   rintro t1 rfl
   refine W_seq (W_region ?_)
   refine WO_op rfl rfl rfl ?_; simp only [putT,st,ev,gt,hp,ofV,constT,intT,lm]
   obtain ⟨s6, hs6, H⟩ := bnd H
   refine WO_op rfl rfl (ev_cat hs6 rfl rfl rfl) ?_; simp only [putT,st,ev,gt,hp,ofV,constT,intT,lm]
   refine WO_op rfl rfl rfl ?_; simp only [putT,st,ev,gt,hp,ofV,constT,intT,lm]
   refine WO_nil ?_
   refine W_ret ?_
   obtain rfl := Option.some.inj H
   exact told3 rfl
  ·
   intro V1 hV1 hW1 hX1
   refine (laws_markText.l0.partial_correctness (fun v2 v3 s' => s' = t5 → (V1 ⟨[qi v2, .no, .no, qs v3], [], []⟩)) ?_ _ _ _ ht5 rfl)
   intro l0 IH1 v2 v3 s' H1 e
   subst e
   refine hV1 _ ?_
   refine W_seq (W_seq (W_region ?_))
   iterate 2 (refine WO_op rfl rfl rfl ?_; simp only [putT,st,ev,gt,hp,ofV,constT,intT,lm])
   refine WO_nil ?_
   refine W_cond rfl (fun hc => ?_) (fun hc => ?_)
   ·
    replace H1 := tr hc H1
    refine W_skip ?_
    refine W_block ?_
    refine W_seq (W_region ?_)
    iterate 3 (refine WO_op rfl rfl rfl ?_; simp only [putT,st,ev,gt,hp,ofV,constT,intT,lm])
    refine WO_op rfl rfl (ev_ii (j := .i64) (k' := .u8) rfl rfl rfl rfl) ?_; simp only [putT,st,ev,gt,hp,ofV,constT,intT,lm]
    refine WO_op (x := .row 0) (σ' := ⟨[], [], [rr 1 eU ([IntKind.u8.wrap (IntKind.i64.wrap (48 + (Int.tmod v2 10)))] : List Int) true]⟩) rfl rfl (ev_bs ([IntKind.u8.wrap (IntKind.i64.wrap (48 + (Int.tmod v2 10)))] : List Int) eU rfl rfl rfl rfl) ?_; simp only [putT,st,ev,gt,hp,ofV,constT,intT,lm]
    refine WO_op rfl rfl (ev_bts (l := ([IntKind.u8.wrap (IntKind.i64.wrap (48 + (Int.tmod v2 10)))] : List Int)) rfl rfl rfl rfl rfl) ?_; simp only [putT,st,ev,gt,hp,ofV,constT,intT,lm]
    refine WO_op rfl rfl rfl ?_; simp only [putT,st,ev,gt,hp,ofV,constT,intT,lm]
    obtain ⟨s4, hs4, H1⟩ := bnd H1
    refine WO_op rfl rfl (ev_cat hs4 rfl rfl rfl) ?_; simp only [putT,st,ev,gt,hp,ofV,constT,intT,lm]
    refine WO_op rfl rfl rfl ?_; simp only [putT,st,ev,gt,hp,ofV,constT,intT,lm]
    refine WO_nil (W_region ?_)
    iterate 3 (refine WO_op rfl rfl rfl ?_; simp only [putT,st,ev,gt,hp,ofV,constT,intT,lm])
    refine WO_nil ?_
    exact hW1 _ _ ((IH1 _ _ _ H1 rfl)) (le_intro [] [] (by decide) (by decide) rfl (by simp [leS, leT, leA, gt]) (by simp [leB, leT, leA]) (by simp [leR]))
   ·
    replace H1 := fl hc H1
    refine W_exit ?_
    obtain rfl := Option.some.inj H1
    exact hX1 v3 _ rfl (le_intro [] [] (by decide) (by decide) rfl (by simp [leS, leT, leA, gt]) (by simp [leB, leT, leA]) (by simp [leR]))
theorem laws_markMetricS_ok {a1 : List Metric} {a2 : Int} {r : Int × List Metric} (H : laws_markMetricS a1 a2 = some r) : R 56 [.c (cL enc_Metric a1) (some 3), .c (cI .i64 a2) none] = some (.c (cI .i64 r.1) none, [some [(cL enc_Metric r.2, some 3)]]) := by
 unfold laws_markMetricS at H
 refine Fz_walk 35 rfl rfl Tryz.func56 rfl (by kernel_rfl) rfl rfl rfl rfl ?_
 simp only [tellVs, tellV, tells, tell, st0, padT, SX.newRow, SX.newBox, List.length_cons, List.length_nil, Nat.reduceAdd, Nat.reduceSub, List.replicate, List.cons_append, List.nil_append, List.foldl_cons, List.foldl_nil]
 refine W_seq (W_region ?_)
 refine WO_op rfl rfl rfl ?_; simp only [putT,st,ev,gt,hp,ofV,constT,intT,lm]
 refine WO_nil (W_seq (W_seq (W_region ?_)))
 refine WO_op rfl rfl rfl ?_; simp only [putT,st,ev,gt,hp,ofV,constT,intT,lm]
 refine WO_nil ?_
 refine W_block ?_
 obtain ⟨t13, ht13, H⟩ := bnd H
 refine loop_rule (ls := [.r 0]) 0 (fun t13 : Int × List Metric => ⟨[.no, qi t13.1], [], [rr 3 enc_Metric t13.2 true]⟩) (fun t => t13 = t) ⟨[.row 0, qi a2, .no, .no, .no, qi 0], [], [rr 3 enc_Metric a1 true]⟩ (by repeat (first | exact mono_told | refine mono_seq ?_ | refine mono_blk ?_ | refine mono_lp ?_)) (le_intro [] [0] (by decide) (by decide) rfl (by simp [leS, leT, leA, gt]) (by simp [leB, leT, leA]) (by simp [leR])) ?_ ?_
 ·
  rintro t1 rfl
  refine W_seq (W_region ?_)
  iterate 2 (refine WO_op rfl rfl rfl ?_; simp only [putT,st,ev,gt,hp,ofV,constT,intT,lm])
  refine WO_nil ?_
  refine W_ret ?_
  obtain rfl := Option.some.inj H
  exact told3 rfl
 ·
  intro V1 hV1 hW1 hX1
  refine (laws_markMetricS.l0.partial_correctness (fun v3 v4 v5 s' => s' = t13 → (V1 ⟨[.row 0, qi v3, .no, .no, .no, qi v4], [], [rr 3 enc_Metric v5 true]⟩)) ?_ _ _ _ _ ht13 rfl)
  intro l0 IH1 v3 v4 v5 s' H1 e
  subst e
  refine hV1 _ ?_
  refine W_seq (W_seq (W_region ?_))
  iterate 4 (refine WO_op rfl rfl rfl ?_; simp only [putT,st,ev,gt,hp,ofV,constT,intT,lm])
  refine WO_nil ?_
  refine W_cond rfl (fun hc => ?_) (fun hc => ?_)
  ·
   replace H1 := tr hc H1
   refine W_skip ?_
   refine W_seq ?_
   refine W_block ?_
   refine W_seq (W_region ?_)
   iterate 3 (refine WO_op rfl rfl rfl ?_; simp only [putT,st,ev,gt,hp,ofV,constT,intT,lm])
   obtain ⟨x6, hx6, H1⟩ := bnd H1
   refine WO_op (x := qs x6) (σ' := ⟨[], [], [rr 3 enc_Metric v5 true]⟩) rfl rfl (ev_callG (al := [qi v3]) (ls := []) (laws_markText_ok hx6) rfl rfl rfl rfl rfl (by decide) rfl rfl rfl rfl rfl rfl) ?_; simp only [putT,st,ev,gt,hp,ofV,constT,intT,lm]
   obtain ⟨x7, hx7, H1⟩ := bnd H1
   refine WO_op rfl rfl (ev_ixR (en := enc_Metric) hx7 rfl rfl rfl rfl rfl rfl rfl) ?_; simp only [putT,st,ev,gt,hp,ofV,constT,intT,lm]
   refine WO_op (x := .rp 0 (v4 : Int).toNat 0) rfl rfl rfl ?_; simp only [putT,st,ev,gt,hp,ofV,constT,intT,lm]
   obtain ⟨m8, hm8, H1⟩ := bnd H1
   refine WO_op (x := .no) (σ' := ⟨[], [], [rr 3 enc_Metric m8 true]⟩) rfl rfl (ev_stR (en := enc_Metric) hm8 hx7 rfl rfl rfl rfl rfl rfl rfl rfl) ?_; simp only [putT,st,ev,gt,hp,ofV,constT,intT,lm]
   refine WO_nil (W_seq (W_region ?_))
   iterate 3 (refine WO_op rfl rfl rfl ?_; simp only [putT,st,ev,gt,hp,ofV,constT,intT,lm])
   refine WO_nil (W_seq (W_region ?_))
   iterate 3 (refine WO_op rfl rfl rfl ?_; simp only [putT,st,ev,gt,hp,ofV,constT,intT,lm])
   obtain ⟨x9, hx9, H1⟩ := bnd H1
   refine WO_op rfl rfl (ev_ixR (en := enc_Metric) hx9 rfl rfl rfl rfl rfl rfl rfl) ?_; simp only [putT,st,ev,gt,hp,ofV,constT,intT,lm]
   refine WO_op (x := .rp 0 (v4 : Int).toNat 1) rfl rfl rfl ?_; simp only [putT,st,ev,gt,hp,ofV,constT,intT,lm]
   obtain ⟨m10, hm10, H1⟩ := bnd H1
   refine WO_op (x := .no) (σ' := ⟨[], [], [rr 3 enc_Metric m10 true]⟩) rfl rfl (ev_stR (en := enc_Metric) hm10 hx9 rfl rfl rfl rfl rfl rfl rfl rfl) ?_; simp only [putT,st,ev,gt,hp,ofV,constT,intT,lm]
   refine WO_nil (W_seq (W_region ?_))
   iterate 3 (refine WO_op rfl rfl rfl ?_; simp only [putT,st,ev,gt,hp,ofV,constT,intT,lm])
   refine WO_nil (W_seq (W_region ?_))
   iterate 3 (refine WO_op rfl rfl rfl ?_; simp only [putT,st,ev,gt,hp,ofV,constT,intT,lm])
   obtain ⟨x11, hx11, H1⟩ := bnd H1
   refine WO_op rfl rfl (ev_ixR (en := enc_Metric) hx11 rfl rfl rfl rfl rfl rfl rfl) ?_; simp only [putT,st,ev,gt,hp,ofV,constT,intT,lm]
   refine WO_op (x := .rp 0 (v4 : Int).toNat 2) rfl rfl rfl ?_; simp only [putT,st,ev,gt,hp,ofV,constT,intT,lm]
   obtain ⟨m12, hm12, H1⟩ := bnd H1
   refine WO_op (x := .no) (σ' := ⟨[], [], [rr 3 enc_Metric m12 true]⟩) rfl rfl (ev_stR (en := enc_Metric) hm12 hx11 rfl rfl rfl rfl rfl rfl rfl rfl) ?_; simp only [putT,st,ev,gt,hp,ofV,constT,intT,lm]
   refine WO_nil (W_region ?_)
   iterate 3 (refine WO_op rfl rfl rfl ?_; simp only [putT,st,ev,gt,hp,ofV,constT,intT,lm])
   refine WO_nil (W_region ?_)
   iterate 3 (refine WO_op rfl rfl rfl ?_; simp only [putT,st,ev,gt,hp,ofV,constT,intT,lm])
   refine WO_nil ?_
   exact hW1 _ _ ((IH1 _ _ _ _ H1 rfl)) (le_intro [] [0] (by decide) (by decide) rfl (by simp [leS, leT, leA, gt]) (by simp [leB, leT, leA]) (by simp [leR]))
  ·
   replace H1 := fl hc H1
   refine W_exit ?_
   obtain rfl := Option.some.inj H1
   exact hX1 (v3, v5) _ rfl (le_intro [] [0] (by decide) (by decide) rfl (by simp [leS, leT, leA, gt]) (by simp [leB, leT, leA]) (by simp [leR]))
theorem laws_markNoteS_ok {a1 : List Note} {a2 : Int} {r : Int × List Note} (H : laws_markNoteS a1 a2 = some r) : R 57 [.c (cL enc_Note a1) (some 2), .c (cI .i64 a2) none] = some (.c (cI .i64 r.1) none, [some [(cL enc_Note r.2, some 2)]]) := by
 unfold laws_markNoteS at H
 refine Fz_walk 29 rfl rfl Tryz.func57 rfl (by kernel_rfl) rfl rfl rfl rfl ?_
 simp only [tellVs, tellV, tells, tell, st0, padT, SX.newRow, SX.newBox, List.length_cons, List.length_nil, Nat.reduceAdd, Nat.reduceSub, List.replicate, List.cons_append, List.nil_append, List.foldl_cons, List.foldl_nil]
 refine W_seq (W_region ?_)
 refine WO_op rfl rfl rfl ?_; simp only [putT,st,ev,gt,hp,ofV,constT,intT,lm]
 refine WO_nil (W_seq (W_seq (W_region ?_)))
 refine WO_op rfl rfl rfl ?_; simp only [putT,st,ev,gt,hp,ofV,constT,intT,lm]
 refine WO_nil ?_
 refine W_block ?_
 obtain ⟨t12, ht12, H⟩ := bnd H
 refine loop_rule (ls := [.r 0]) 0 (fun t12 : Int × List Note => ⟨[.no, qi t12.1], [], [rr 2 enc_Note t12.2 true]⟩) (fun t => t12 = t) ⟨[.row 0, qi a2, .no, .no, .no, qi 0], [], [rr 2 enc_Note a1 true]⟩ (by repeat (first | exact mono_told | refine mono_seq ?_ | refine mono_blk ?_ | refine mono_lp ?_)) (le_intro [] [0] (by decide) (by decide) rfl (by simp [leS, leT, leA, gt]) (by simp [leB, leT, leA]) (by simp [leR])) ?_ ?_
 ·
  rintro t1 rfl
  refine W_seq (W_region ?_)
  iterate 2 (refine WO_op rfl rfl rfl ?_; simp only [putT,st,ev,gt,hp,ofV,constT,intT,lm])
  refine WO_nil ?_
  refine W_ret ?_
  obtain rfl := Option.some.inj H
  exact told3 rfl
 ·
  intro V1 hV1 hW1 hX1
  refine (laws_markNoteS.l0.partial_correctness (fun v3 v4 v5 s' => s' = t12 → (V1 ⟨[.row 0, qi v3, .no, .no, .no, qi v4], [], [rr 2 enc_Note v5 true]⟩)) ?_ _ _ _ _ ht12 rfl)
  intro l0 IH1 v3 v4 v5 s' H1 e
  subst e
  refine hV1 _ ?_
  refine W_seq (W_seq (W_region ?_))
  iterate 4 (refine WO_op rfl rfl rfl ?_; simp only [putT,st,ev,gt,hp,ofV,constT,intT,lm])
  refine WO_nil ?_
  refine W_cond rfl (fun hc => ?_) (fun hc => ?_)
  ·
   replace H1 := tr hc H1
   refine W_skip ?_
   refine W_seq ?_
   refine W_block ?_
   refine W_seq (W_region ?_)
   iterate 3 (refine WO_op rfl rfl rfl ?_; simp only [putT,st,ev,gt,hp,ofV,constT,intT,lm])
   obtain ⟨x6, hx6, H1⟩ := bnd H1
   refine WO_op (x := qs x6) (σ' := ⟨[], [], [rr 2 enc_Note v5 true]⟩) rfl rfl (ev_callG (al := [qi v3]) (ls := []) (laws_markText_ok hx6) rfl rfl rfl rfl rfl (by decide) rfl rfl rfl rfl rfl rfl) ?_; simp only [putT,st,ev,gt,hp,ofV,constT,intT,lm]
   obtain ⟨x7, hx7, H1⟩ := bnd H1
   refine WO_op rfl rfl (ev_ixR (en := enc_Note) hx7 rfl rfl rfl rfl rfl rfl rfl) ?_; simp only [putT,st,ev,gt,hp,ofV,constT,intT,lm]
   refine WO_op (x := .rp 0 (v4 : Int).toNat 0) rfl rfl rfl ?_; simp only [putT,st,ev,gt,hp,ofV,constT,intT,lm]
   obtain ⟨m8, hm8, H1⟩ := bnd H1
   refine WO_op (x := .no) (σ' := ⟨[], [], [rr 2 enc_Note m8 true]⟩) rfl rfl (ev_stR (en := enc_Note) hm8 hx7 rfl rfl rfl rfl rfl rfl rfl rfl) ?_; simp only [putT,st,ev,gt,hp,ofV,constT,intT,lm]
   refine WO_nil (W_seq (W_region ?_))
   iterate 3 (refine WO_op rfl rfl rfl ?_; simp only [putT,st,ev,gt,hp,ofV,constT,intT,lm])
   refine WO_nil (W_seq (W_region ?_))
   iterate 3 (refine WO_op rfl rfl rfl ?_; simp only [putT,st,ev,gt,hp,ofV,constT,intT,lm])
   obtain ⟨x9, hx9, H1⟩ := bnd H1
   refine WO_op (x := qs x9) (σ' := ⟨[], [], [rr 2 enc_Note m8 true]⟩) rfl rfl (ev_callG (al := [qi (IntKind.i64.wrap (v3 + 1))]) (ls := []) (laws_markText_ok hx9) rfl rfl rfl rfl rfl (by decide) rfl rfl rfl rfl rfl rfl) ?_; simp only [putT,st,ev,gt,hp,ofV,constT,intT,lm]
   obtain ⟨x10, hx10, H1⟩ := bnd H1
   refine WO_op rfl rfl (ev_ixR (en := enc_Note) hx10 rfl rfl rfl rfl rfl rfl rfl) ?_; simp only [putT,st,ev,gt,hp,ofV,constT,intT,lm]
   refine WO_op (x := .rp 0 (v4 : Int).toNat 1) rfl rfl rfl ?_; simp only [putT,st,ev,gt,hp,ofV,constT,intT,lm]
   obtain ⟨m11, hm11, H1⟩ := bnd H1
   refine WO_op (x := .no) (σ' := ⟨[], [], [rr 2 enc_Note m11 true]⟩) rfl rfl (ev_stR (en := enc_Note) hm11 hx10 rfl rfl rfl rfl rfl rfl rfl rfl) ?_; simp only [putT,st,ev,gt,hp,ofV,constT,intT,lm]
   refine WO_nil (W_region ?_)
   iterate 3 (refine WO_op rfl rfl rfl ?_; simp only [putT,st,ev,gt,hp,ofV,constT,intT,lm])
   refine WO_nil (W_region ?_)
   iterate 3 (refine WO_op rfl rfl rfl ?_; simp only [putT,st,ev,gt,hp,ofV,constT,intT,lm])
   refine WO_nil ?_
   exact hW1 _ _ ((IH1 _ _ _ _ H1 rfl)) (le_intro [] [0] (by decide) (by decide) rfl (by simp [leS, leT, leA, gt]) (by simp [leB, leT, leA]) (by simp [leR]))
  ·
   replace H1 := fl hc H1
   refine W_exit ?_
   obtain rfl := Option.some.inj H1
   exact hX1 (v3, v5) _ rfl (le_intro [] [0] (by decide) (by decide) rfl (by simp [leS, leT, leA, gt]) (by simp [leB, leT, leA]) (by simp [leR]))
theorem laws_markOrder_nnnnonnnno_ok {a1 : Order} {a2 : Int} {r : Int × List Metric × List Note} (H : laws_markOrder_nnnnonnnno a1 a2 = some r) : R 16 [.ag [(cS a1.Name, none), (cS a1.Target, none), (cI .i64 a1.Low, none), (cI .i64 a1.High, none), (cL enc_Metric a1.Metrics, some 3), (cI .i64 a1.Pace.Up, none), (cI .i64 a1.Pace.Down, none), (cI .i64 a1.Pace.UpSpan, none), (cI .i64 a1.Pace.DownSpan, none), (cL enc_Note a1.Notes, some 2)], .c (cI .i64 a2) none] = some (.c (cI .i64 r.1) none, [some [(cL enc_Metric r.2.1, some 3)], some [(cL enc_Note r.2.2, some 2)]]) := by
 unfold laws_markOrder_nnnnonnnno at H
 refine Fz_walk 14 rfl rfl Tryz.func16 rfl (by kernel_rfl) rfl rfl rfl rfl ?_
 simp only [tellVs, tellV, tells, tell, st0, padT, SX.newRow, SX.newBox, List.length_cons, List.length_nil, Nat.reduceAdd, Nat.reduceSub, List.replicate, List.cons_append, List.nil_append, List.foldl_cons, List.foldl_nil]
 refine W_seq (W_region ?_)
 refine WO_op (x := .bp 0 0) (σ' := ⟨[], [some [qs a1.Name, qs a1.Target, qi a1.Low, qi a1.High, .row 0, qi a1.Pace.Up, qi a1.Pace.Down, qi a1.Pace.UpSpan, qi a1.Pace.DownSpan, .row 1]], [rr 3 enc_Metric a1.Metrics true, rr 2 enc_Note a1.Notes true]⟩) rfl rfl rfl ?_
 refine WO_op rfl rfl rfl ?_; simp only [putT,st,ev,gt,hp,ofV,constT,intT,lm]
 refine WO_nil (W_seq (W_region ?_))
 refine WO_op (x := .bp 0 4) rfl rfl rfl ?_
 refine WO_op (x := .row 0) rfl rfl rfl ?_
 refine WO_op rfl rfl rfl ?_; simp only [putT,st,ev,gt,hp,ofV,constT,intT,lm]
 obtain ⟨x3, hx3, H⟩ := bnd H
 refine WO_op (x := qi x3.1) (σ' := ⟨[], [some [qs a1.Name, qs a1.Target, qi a1.Low, qi a1.High, .row 0, qi a1.Pace.Up, qi a1.Pace.Down, qi a1.Pace.UpSpan, qi a1.Pace.DownSpan, .row 1]], [rr 3 enc_Metric x3.2 true, rr 2 enc_Note a1.Notes true]⟩) rfl rfl (ev_callG (al := [.row 0, qi a2]) (ls := [.r 0]) (laws_markMetricS_ok hx3) rfl rfl rfl rfl rfl (by decide) rfl rfl (by simp only [flatA, flatV, flatC, List.all_cons, List.all_nil, Option.all_some, Bool.and_self, Bool.or_true, fl_Metric]) rfl rfl rfl) ?_; simp only [putT,st,ev,gt,hp,ofV,constT,intT,lm]
 refine WO_op rfl rfl rfl ?_; simp only [putT,st,ev,gt,hp,ofV,constT,intT,lm]
 refine WO_nil (W_seq (W_region ?_))
 refine WO_op (x := .bp 0 9) rfl rfl rfl ?_
 refine WO_op (x := .row 1) rfl rfl rfl ?_
 refine WO_op rfl rfl rfl ?_; simp only [putT,st,ev,gt,hp,ofV,constT,intT,lm]
 obtain ⟨x4, hx4, H⟩ := bnd H
 refine WO_op (x := qi x4.1) (σ' := ⟨[], [some [qs a1.Name, qs a1.Target, qi a1.Low, qi a1.High, .row 0, qi a1.Pace.Up, qi a1.Pace.Down, qi a1.Pace.UpSpan, qi a1.Pace.DownSpan, .row 1]], [rr 3 enc_Metric x3.2 true, rr 2 enc_Note x4.2 true]⟩) rfl rfl (ev_callG (al := [.row 1, qi x3.1]) (ls := [.r 1]) (laws_markNoteS_ok hx4) rfl rfl rfl rfl rfl (by decide) rfl rfl (by simp only [flatA, flatV, flatC, List.all_cons, List.all_nil, Option.all_some, Bool.and_self, Bool.or_true, fl_Note]) rfl rfl rfl) ?_; simp only [putT,st,ev,gt,hp,ofV,constT,intT,lm]
 refine WO_op rfl rfl rfl ?_; simp only [putT,st,ev,gt,hp,ofV,constT,intT,lm]
 refine WO_nil (W_seq (W_region ?_))
 iterate 2 (refine WO_op rfl rfl rfl ?_; simp only [putT,st,ev,gt,hp,ofV,constT,intT,lm])
 refine WO_nil ?_
 refine W_ret ?_
 obtain rfl := Option.some.inj H
 exact told3 rfl
theorem laws_markRecS_ok {a1 : List Rec} {a2 : Int} {r : Int × List Rec} (H : laws_markRecS a1 a2 = some r) : R 58 [.c (cL enc_Rec a1) (some 2), .c (cI .i64 a2) none] = some (.c (cI .i64 r.1) none, [some [(cL enc_Rec r.2, some 2)]]) := by
 unfold laws_markRecS at H
 refine Fz_walk 27 rfl rfl Tryz.func58 rfl (by kernel_rfl) rfl rfl rfl rfl ?_
 simp only [tellVs, tellV, tells, tell, st0, padT, SX.newRow, SX.newBox, List.length_cons, List.length_nil, Nat.reduceAdd, Nat.reduceSub, List.replicate, List.cons_append, List.nil_append, List.foldl_cons, List.foldl_nil]
 refine W_seq (W_region ?_)
 refine WO_op rfl rfl rfl ?_; simp only [putT,st,ev,gt,hp,ofV,constT,intT,lm]
 refine WO_nil (W_seq (W_seq (W_region ?_)))
 refine WO_op rfl rfl rfl ?_; simp only [putT,st,ev,gt,hp,ofV,constT,intT,lm]
 refine WO_nil ?_
 refine W_block ?_
 obtain ⟨t10, ht10, H⟩ := bnd H
 refine loop_rule (ls := [.r 0]) 0 (fun t10 : Int × List Rec => ⟨[.no, qi t10.1], [], [rr 2 enc_Rec t10.2 true]⟩) (fun t => t10 = t) ⟨[.row 0, qi a2, .no, .no, .no, qi 0], [], [rr 2 enc_Rec a1 true]⟩ (by repeat (first | exact mono_told | refine mono_seq ?_ | refine mono_blk ?_ | refine mono_lp ?_)) (le_intro [] [0] (by decide) (by decide) rfl (by simp [leS, leT, leA, gt]) (by simp [leB, leT, leA]) (by simp [leR])) ?_ ?_
 ·
  rintro t1 rfl
  refine W_seq (W_region ?_)
  iterate 2 (refine WO_op rfl rfl rfl ?_; simp only [putT,st,ev,gt,hp,ofV,constT,intT,lm])
  refine WO_nil ?_
  refine W_ret ?_
  obtain rfl := Option.some.inj H
  exact told3 rfl
 ·
  intro V1 hV1 hW1 hX1
  refine (laws_markRecS.l0.partial_correctness (fun v3 v4 v5 s' => s' = t10 → (V1 ⟨[.row 0, qi v3, .no, .no, .no, qi v4], [], [rr 2 enc_Rec v5 true]⟩)) ?_ _ _ _ _ ht10 rfl)
  intro l0 IH1 v3 v4 v5 s' H1 e
  subst e
  refine hV1 _ ?_
  refine W_seq (W_seq (W_region ?_))
  iterate 4 (refine WO_op rfl rfl rfl ?_; simp only [putT,st,ev,gt,hp,ofV,constT,intT,lm])
  refine WO_nil ?_
  refine W_cond rfl (fun hc => ?_) (fun hc => ?_)
  ·
   replace H1 := tr hc H1
   refine W_skip ?_
   refine W_seq ?_
   refine W_block ?_
   refine W_seq (W_region ?_)
   iterate 3 (refine WO_op rfl rfl rfl ?_; simp only [putT,st,ev,gt,hp,ofV,constT,intT,lm])
   obtain ⟨x6, hx6, H1⟩ := bnd H1
   refine WO_op rfl rfl (ev_ixR (en := enc_Rec) hx6 rfl rfl rfl rfl rfl rfl rfl) ?_; simp only [putT,st,ev,gt,hp,ofV,constT,intT,lm]
   refine WO_op (x := .rp 0 (v4 : Int).toNat 0) rfl rfl rfl ?_; simp only [putT,st,ev,gt,hp,ofV,constT,intT,lm]
   obtain ⟨m7, hm7, H1⟩ := bnd H1
   refine WO_op (x := .no) (σ' := ⟨[], [], [rr 2 enc_Rec m7 true]⟩) rfl rfl (ev_stR (en := enc_Rec) hm7 hx6 rfl rfl rfl rfl rfl rfl rfl rfl) ?_; simp only [putT,st,ev,gt,hp,ofV,constT,intT,lm]
   refine WO_nil (W_seq (W_region ?_))
   iterate 3 (refine WO_op rfl rfl rfl ?_; simp only [putT,st,ev,gt,hp,ofV,constT,intT,lm])
   refine WO_nil (W_seq (W_region ?_))
   iterate 3 (refine WO_op rfl rfl rfl ?_; simp only [putT,st,ev,gt,hp,ofV,constT,intT,lm])
   obtain ⟨x8, hx8, H1⟩ := bnd H1
   refine WO_op rfl rfl (ev_ixR (en := enc_Rec) hx8 rfl rfl rfl rfl rfl rfl rfl) ?_; simp only [putT,st,ev,gt,hp,ofV,constT,intT,lm]
   refine WO_op (x := .rp 0 (v4 : Int).toNat 1) rfl rfl rfl ?_; simp only [putT,st,ev,gt,hp,ofV,constT,intT,lm]
   obtain ⟨m9, hm9, H1⟩ := bnd H1
   refine WO_op (x := .no) (σ' := ⟨[], [], [rr 2 enc_Rec m9 true]⟩) rfl rfl (ev_stR (en := enc_Rec) hm9 hx8 rfl rfl rfl rfl rfl rfl rfl rfl) ?_; simp only [putT,st,ev,gt,hp,ofV,constT,intT,lm]
   refine WO_nil (W_region ?_)
   iterate 3 (refine WO_op rfl rfl rfl ?_; simp only [putT,st,ev,gt,hp,ofV,constT,intT,lm])
   refine WO_nil (W_region ?_)
   iterate 3 (refine WO_op rfl rfl rfl ?_; simp only [putT,st,ev,gt,hp,ofV,constT,intT,lm])
   refine WO_nil ?_
   exact hW1 _ _ ((IH1 _ _ _ _ H1 rfl)) (le_intro [] [0] (by decide) (by decide) rfl (by simp [leS, leT, leA, gt]) (by simp [leB, leT, leA]) (by simp [leR]))
  ·
   replace H1 := fl hc H1
   refine W_exit ?_
   obtain rfl := Option.some.inj H1
   exact hX1 (v3, v5) _ rfl (le_intro [] [0] (by decide) (by decide) rfl (by simp [leS, leT, leA, gt]) (by simp [leB, leT, leA]) (by simp [leR]))
theorem laws_markScale_nno_ok {a1 : Scale} {a2 : Int} {r : Int × List Rec} (H : laws_markScale_nno a1 a2 = some r) : R 17 [.ag [(cS a1.Name, none), (cI .i64 a1.Now, none), (cL enc_Rec a1.Recs, some 2)], .c (cI .i64 a2) none] = some (.c (cI .i64 r.1) none, [some [(cL enc_Rec r.2, some 2)]]) := by
 unfold laws_markScale_nno at H
 refine Fz_walk 10 rfl rfl Tryz.func17 rfl (by kernel_rfl) rfl rfl rfl rfl ?_
 simp only [tellVs, tellV, tells, tell, st0, padT, SX.newRow, SX.newBox, List.length_cons, List.length_nil, Nat.reduceAdd, Nat.reduceSub, List.replicate, List.cons_append, List.nil_append, List.foldl_cons, List.foldl_nil]
 refine W_seq (W_region ?_)
 refine WO_op (x := .bp 0 0) (σ' := ⟨[], [some [qs a1.Name, qi a1.Now, .row 0]], [rr 2 enc_Rec a1.Recs true]⟩) rfl rfl rfl ?_
 refine WO_op rfl rfl rfl ?_; simp only [putT,st,ev,gt,hp,ofV,constT,intT,lm]
 refine WO_nil (W_seq (W_region ?_))
 refine WO_op (x := .bp 0 2) rfl rfl rfl ?_
 refine WO_op (x := .row 0) rfl rfl rfl ?_
 refine WO_op rfl rfl rfl ?_; simp only [putT,st,ev,gt,hp,ofV,constT,intT,lm]
 obtain ⟨x3, hx3, H⟩ := bnd H
 refine WO_op (x := qi x3.1) (σ' := ⟨[], [some [qs a1.Name, qi a1.Now, .row 0]], [rr 2 enc_Rec x3.2 true]⟩) rfl rfl (ev_callG (al := [.row 0, qi a2]) (ls := [.r 0]) (laws_markRecS_ok hx3) rfl rfl rfl rfl rfl (by decide) rfl rfl (by simp only [flatA, flatV, flatC, List.all_cons, List.all_nil, Option.all_some, Bool.and_self, Bool.or_true, fl_Rec]) rfl rfl rfl) ?_; simp only [putT,st,ev,gt,hp,ofV,constT,intT,lm]
 refine WO_op rfl rfl rfl ?_; simp only [putT,st,ev,gt,hp,ofV,constT,intT,lm]
 refine WO_nil (W_seq (W_region ?_))
 iterate 2 (refine WO_op rfl rfl rfl ?_; simp only [putT,st,ev,gt,hp,ofV,constT,intT,lm])
 refine WO_nil ?_
 refine W_ret ?_
 obtain rfl := Option.some.inj H
 exact told3 rfl
theorem laws_markSampleS_ok {a1 : List Sample} {a2 : Int} {r : Int × List Sample} (H : laws_markSampleS a1 a2 = some r) : R 18 [.c (cL enc_Sample a1) (some 2), .c (cI .i64 a2) none] = some (.c (cI .i64 r.1) none, [some [(cL enc_Sample r.2, some 2)]]) := by
 unfold laws_markSampleS at H
 refine Fz_walk 28 rfl rfl Tryz.func18 rfl (by kernel_rfl) rfl rfl rfl rfl ?_
 simp only [tellVs, tellV, tells, tell, st0, padT, SX.newRow, SX.newBox, List.length_cons, List.length_nil, Nat.reduceAdd, Nat.reduceSub, List.replicate, List.cons_append, List.nil_append, List.foldl_cons, List.foldl_nil]
 refine W_seq (W_region ?_)
 refine WO_op rfl rfl rfl ?_; simp only [putT,st,ev,gt,hp,ofV,constT,intT,lm]
 refine WO_nil (W_seq (W_seq (W_region ?_)))
 refine WO_op rfl rfl rfl ?_; simp only [putT,st,ev,gt,hp,ofV,constT,intT,lm]
 refine WO_nil ?_
 refine W_block ?_
 obtain ⟨t11, ht11, H⟩ := bnd H
 refine loop_rule (ls := [.r 0]) 0 (fun t11 : Int × List Sample => ⟨[.no, qi t11.1], [], [rr 2 enc_Sample t11.2 true]⟩) (fun t => t11 = t) ⟨[.row 0, qi a2, .no, .no, .no, qi 0], [], [rr 2 enc_Sample a1 true]⟩ (by repeat (first | exact mono_told | refine mono_seq ?_ | refine mono_blk ?_ | refine mono_lp ?_)) (le_intro [] [0] (by decide) (by decide) rfl (by simp [leS, leT, leA, gt]) (by simp [leB, leT, leA]) (by simp [leR])) ?_ ?_
 ·
  rintro t1 rfl
  refine W_seq (W_region ?_)
  iterate 2 (refine WO_op rfl rfl rfl ?_; simp only [putT,st,ev,gt,hp,ofV,constT,intT,lm])
  refine WO_nil ?_
  refine W_ret ?_
  obtain rfl := Option.some.inj H
  exact told3 rfl
 ·
  intro V1 hV1 hW1 hX1
  refine (laws_markSampleS.l0.partial_correctness (fun v3 v4 v5 s' => s' = t11 → (V1 ⟨[.row 0, qi v3, .no, .no, .no, qi v4], [], [rr 2 enc_Sample v5 true]⟩)) ?_ _ _ _ _ ht11 rfl)
  intro l0 IH1 v3 v4 v5 s' H1 e
  subst e
  refine hV1 _ ?_
  refine W_seq (W_seq (W_region ?_))
  iterate 4 (refine WO_op rfl rfl rfl ?_; simp only [putT,st,ev,gt,hp,ofV,constT,intT,lm])
  refine WO_nil ?_
  refine W_cond rfl (fun hc => ?_) (fun hc => ?_)
  ·
   replace H1 := tr hc H1
   refine W_skip ?_
   refine W_seq ?_
   refine W_block ?_
   refine W_seq (W_region ?_)
   iterate 3 (refine WO_op rfl rfl rfl ?_; simp only [putT,st,ev,gt,hp,ofV,constT,intT,lm])
   obtain ⟨x6, hx6, H1⟩ := bnd H1
   refine WO_op (x := qs x6) (σ' := ⟨[], [], [rr 2 enc_Sample v5 true]⟩) rfl rfl (ev_callG (al := [qi v3]) (ls := []) (laws_markText_ok hx6) rfl rfl rfl rfl rfl (by decide) rfl rfl rfl rfl rfl rfl) ?_; simp only [putT,st,ev,gt,hp,ofV,constT,intT,lm]
   obtain ⟨x7, hx7, H1⟩ := bnd H1
   refine WO_op rfl rfl (ev_ixR (en := enc_Sample) hx7 rfl rfl rfl rfl rfl rfl rfl) ?_; simp only [putT,st,ev,gt,hp,ofV,constT,intT,lm]
   refine WO_op (x := .rp 0 (v4 : Int).toNat 0) rfl rfl rfl ?_; simp only [putT,st,ev,gt,hp,ofV,constT,intT,lm]
   obtain ⟨m8, hm8, H1⟩ := bnd H1
   refine WO_op (x := .no) (σ' := ⟨[], [], [rr 2 enc_Sample m8 true]⟩) rfl rfl (ev_stR (en := enc_Sample) hm8 hx7 rfl rfl rfl rfl rfl rfl rfl rfl) ?_; simp only [putT,st,ev,gt,hp,ofV,constT,intT,lm]
   refine WO_nil (W_seq (W_region ?_))
   iterate 3 (refine WO_op rfl rfl rfl ?_; simp only [putT,st,ev,gt,hp,ofV,constT,intT,lm])
   refine WO_nil (W_seq (W_region ?_))
   iterate 3 (refine WO_op rfl rfl rfl ?_; simp only [putT,st,ev,gt,hp,ofV,constT,intT,lm])
   obtain ⟨x9, hx9, H1⟩ := bnd H1
   refine WO_op rfl rfl (ev_ixR (en := enc_Sample) hx9 rfl rfl rfl rfl rfl rfl rfl) ?_; simp only [putT,st,ev,gt,hp,ofV,constT,intT,lm]
   refine WO_op (x := .rp 0 (v4 : Int).toNat 1) rfl rfl rfl ?_; simp only [putT,st,ev,gt,hp,ofV,constT,intT,lm]
   obtain ⟨m10, hm10, H1⟩ := bnd H1
   refine WO_op (x := .no) (σ' := ⟨[], [], [rr 2 enc_Sample m10 true]⟩) rfl rfl (ev_stR (en := enc_Sample) hm10 hx9 rfl rfl rfl rfl rfl rfl rfl rfl) ?_; simp only [putT,st,ev,gt,hp,ofV,constT,intT,lm]
   refine WO_nil (W_region ?_)
   iterate 3 (refine WO_op rfl rfl rfl ?_; simp only [putT,st,ev,gt,hp,ofV,constT,intT,lm])
   refine WO_nil (W_region ?_)
   iterate 3 (refine WO_op rfl rfl rfl ?_; simp only [putT,st,ev,gt,hp,ofV,constT,intT,lm])
   refine WO_nil ?_
   exact hW1 _ _ ((IH1 _ _ _ _ H1 rfl)) (le_intro [] [0] (by decide) (by decide) rfl (by simp [leS, leT, leA, gt]) (by simp [leB, leT, leA]) (by simp [leR]))
  ·
   replace H1 := fl hc H1
   refine W_exit ?_
   obtain rfl := Option.some.inj H1
   exact hX1 (v3, v5) _ rfl (le_intro [] [0] (by decide) (by decide) rfl (by simp [leS, leT, leA, gt]) (by simp [leB, leT, leA]) (by simp [leR]))
theorem laws_heldRecS_ok {a1 : List Rec} {a2 : Int} {r : Int} (H : laws_heldRecS a1 a2 = some r) : R 60 [.c (cL enc_Rec a1) none, .c (cI .i64 a2) none] = some (.c (cI .i64 r) none, []) := by
 unfold laws_heldRecS at H
 refine Fz_walk 31 rfl rfl Tryz.func60 rfl (by kernel_rfl) rfl rfl rfl rfl ?_
 simp only [tellVs, tellV, tells, tell, st0, padT, SX.newRow, SX.newBox, List.length_cons, List.length_nil, Nat.reduceAdd, Nat.reduceSub, List.replicate, List.cons_append, List.nil_append, List.foldl_cons, List.foldl_nil]
 refine W_seq (W_region ?_)
 refine WO_op rfl rfl rfl ?_; simp only [putT,st,ev,gt,hp,ofV,constT,intT,lm]
 refine WO_nil (W_seq (W_seq (W_region ?_)))
 refine WO_op rfl rfl rfl ?_; simp only [putT,st,ev,gt,hp,ofV,constT,intT,lm]
 refine WO_nil ?_
 refine W_block ?_
 obtain ⟨s8, hs8, H⟩ := bnd H
 refine loop_rule (ls := []) 0 (fun t7 : Int => ⟨[.no, qi t7], [], []⟩) (fun t => s8 = .inr t) ⟨[.c (cL enc_Rec a1), qi a2, .no, .no, .no, qi 0], [], []⟩ (by repeat (first | exact mono_told | refine mono_seq ?_ | refine mono_blk ?_ | refine mono_lp ?_)) (le_intro [] [] (by decide) (by decide) rfl (by simp [leS, leT, leA, gt]) (by simp [leB, leT, leA]) (by simp [leR])) ?_ ?_
 ·
  rintro t7 rfl
  refine W_seq (W_region ?_)
  iterate 2 (refine WO_op rfl rfl rfl ?_; simp only [putT,st,ev,gt,hp,ofV,constT,intT,lm])
  refine WO_nil ?_
  refine W_ret ?_
  obtain rfl := Option.some.inj H
  exact told3 rfl
 ·
  intro V1 hV1 hW1 hX1
  refine (laws_heldRecS.l0.partial_correctness a1 (fun v3 v4 s' => s' = s8 → (V1 ⟨[.c (cL enc_Rec a1), qi v3, .no, .no, .no, qi v4], [], []⟩)) ?_ _ _ _ hs8 rfl)
  intro l0 IH1 v3 v4 s' H1 e
  subst e
  refine hV1 _ ?_
  refine W_seq (W_seq (W_region ?_))
  iterate 4 (refine WO_op rfl rfl rfl ?_; simp only [putT,st,ev,gt,hp,ofV,constT,intT,lm])
  refine WO_nil ?_
  refine W_cond rfl (fun hc => ?_) (fun hc => ?_)
  ·
   replace H1 := tr hc H1
   refine W_skip ?_
   refine W_seq ?_
   refine W_block ?_
   refine W_seq (W_seq (W_region ?_))
   iterate 2 (refine WO_op rfl rfl rfl ?_; simp only [putT,st,ev,gt,hp,ofV,constT,intT,lm])
   obtain ⟨x5, hx5, H1⟩ := bnd H1
   refine WO_op rfl rfl (ev_ix (en := enc_Rec) hx5 rfl rfl rfl rfl rfl rfl rfl) ?_; simp only [putT,st,ev,gt,hp,ofV,constT,intT,lm]
   refine WO_op (x := .cp (enc_Rec x5) 0) rfl rfl rfl ?_
   refine WO_op (x := qi x5.Time) rfl rfl rfl ?_; simp only [putT,st,ev,gt,hp,ofV,constT,intT,lm]
   iterate 2 (refine WO_op rfl rfl rfl ?_; simp only [putT,st,ev,gt,hp,ofV,constT,intT,lm])
   refine WO_nil ?_
   refine W_cond rfl (fun hc => ?_) (fun hc => ?_)
   ·
    replace H1 := tr hc H1
    refine W_seq (W_region ?_)
    refine WO_op rfl rfl rfl ?_; simp only [putT,st,ev,gt,hp,ofV,constT,intT,lm]
    refine WO_nil ?_
    refine W_ret ?_
    obtain rfl := Option.some.inj H1
    obtain rfl := Option.some.inj H
    exact told3 rfl
   ·
    replace H1 := fl hc H1
    refine W_skip ?_
    refine W_seq (W_region ?_)
    iterate 3 (refine WO_op rfl rfl rfl ?_; simp only [putT,st,ev,gt,hp,ofV,constT,intT,lm])
    refine WO_nil (W_seq (W_seq (W_region ?_)))
    iterate 2 (refine WO_op rfl rfl rfl ?_; simp only [putT,st,ev,gt,hp,ofV,constT,intT,lm])
    obtain ⟨x6, hx6, H1⟩ := bnd H1
    refine WO_op rfl rfl (ev_ix (en := enc_Rec) hx6 rfl rfl rfl rfl rfl rfl rfl) ?_; simp only [putT,st,ev,gt,hp,ofV,constT,intT,lm]
    refine WO_op (x := .cp (enc_Rec x6) 1) rfl rfl rfl ?_
    refine WO_op (x := qi x6.N) rfl rfl rfl ?_; simp only [putT,st,ev,gt,hp,ofV,constT,intT,lm]
    iterate 2 (refine WO_op rfl rfl rfl ?_; simp only [putT,st,ev,gt,hp,ofV,constT,intT,lm])
    refine WO_nil ?_
    refine W_cond rfl (fun hc => ?_) (fun hc => ?_)
    ·
     replace H1 := tr hc H1
     refine W_seq (W_region ?_)
     refine WO_op rfl rfl rfl ?_; simp only [putT,st,ev,gt,hp,ofV,constT,intT,lm]
     refine WO_nil ?_
     refine W_ret ?_
     obtain rfl := Option.some.inj H1
     obtain rfl := Option.some.inj H
     exact told3 rfl
    ·
     replace H1 := fl hc H1
     refine W_skip ?_
     refine W_region ?_
     iterate 3 (refine WO_op rfl rfl rfl ?_; simp only [putT,st,ev,gt,hp,ofV,constT,intT,lm])
     refine WO_nil (W_region ?_)
     iterate 3 (refine WO_op rfl rfl rfl ?_; simp only [putT,st,ev,gt,hp,ofV,constT,intT,lm])
     refine WO_nil ?_
     exact hW1 _ _ ((IH1 _ _ _ H1 rfl)) (le_intro [] [] (by decide) (by decide) rfl (by simp [leS, leT, leA, gt]) (by simp [leB, leT, leA]) (by simp [leR]))
  ·
   replace H1 := fl hc H1
   refine W_exit ?_
   obtain rfl := Option.some.inj H1
   exact hX1 v3 _ rfl (le_intro [] [] (by decide) (by decide) rfl (by simp [leS, leT, leA, gt]) (by simp [leB, leT, leA]) (by simp [leR]))
theorem laws_heldScale_ok {a1 : Scale} {a2 : Int} {r : Int} (H : laws_heldScale a1 a2 = some r) : R 19 [.ag [(cS a1.Name, none), (cI .i64 a1.Now, none), (cL enc_Rec a1.Recs, none)], .c (cI .i64 a2) none] = some (.c (cI .i64 r) none, []) := by
 unfold laws_heldScale at H
 refine Fz_walk 12 rfl rfl Tryz.func19 rfl (by kernel_rfl) rfl rfl rfl rfl ?_
 simp only [tellVs, tellV, tells, tell, st0, padT, SX.newRow, SX.newBox, List.length_cons, List.length_nil, Nat.reduceAdd, Nat.reduceSub, List.replicate, List.cons_append, List.nil_append, List.foldl_cons, List.foldl_nil]
 refine W_seq (W_region ?_)
 refine WO_op (x := .bp 0 0) (σ' := ⟨[], [some [qs a1.Name, qi a1.Now, .c (cL enc_Rec a1.Recs)]], []⟩) rfl rfl rfl ?_
 refine WO_op rfl rfl rfl ?_; simp only [putT,st,ev,gt,hp,ofV,constT,intT,lm]
 refine WO_nil (W_seq (W_region ?_))
 refine WO_op (x := .bp 0 2) rfl rfl rfl ?_
 refine WO_op (x := .c (cL enc_Rec a1.Recs)) rfl rfl rfl ?_
 refine WO_op rfl rfl rfl ?_; simp only [putT,st,ev,gt,hp,ofV,constT,intT,lm]
 obtain ⟨x3, hx3, H⟩ := bnd H
 refine WO_op (x := qi x3) (σ' := ⟨[], [some [qs a1.Name, qi a1.Now, .c (cL enc_Rec a1.Recs)]], []⟩) rfl rfl (ev_callG (al := [.c (cL enc_Rec a1.Recs), qi a2]) (ls := []) (laws_heldRecS_ok hx3) rfl rfl rfl rfl rfl (by decide) rfl rfl rfl rfl rfl rfl) ?_; simp only [putT,st,ev,gt,hp,ofV,constT,intT,lm]
 refine WO_op rfl rfl rfl ?_; simp only [putT,st,ev,gt,hp,ofV,constT,intT,lm]
 refine WO_nil (W_seq (W_seq (W_region ?_)))
 iterate 2 (refine WO_op rfl rfl rfl ?_; simp only [putT,st,ev,gt,hp,ofV,constT,intT,lm])
 refine WO_nil ?_
 refine W_cond rfl (fun hc => ?_) (fun hc => ?_)
 ·
  replace H := tr hc H
  refine W_seq (W_region ?_)
  refine WO_op rfl rfl rfl ?_; simp only [putT,st,ev,gt,hp,ofV,constT,intT,lm]
  refine WO_nil ?_
  refine W_ret ?_
  obtain rfl := Option.some.inj H
  exact told3 rfl
 ·
  replace H := fl hc H
  refine W_skip ?_
  refine W_seq (W_region ?_)
  iterate 2 (refine WO_op rfl rfl rfl ?_; simp only [putT,st,ev,gt,hp,ofV,constT,intT,lm])
  refine WO_nil ?_
  refine W_ret ?_
  obtain rfl := Option.some.inj H
  exact told3 rfl
end Go.Pu
