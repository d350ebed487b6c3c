import Derived.Test.YtbndndpimaocdaaStoreOk0
set_option linter.unusedVariables false
set_option linter.unusedSimpArgs false
set_option synthInstance.maxSize 1000000000
set_option maxRecDepth 20000
set_option maxHeartbeats 20000000
namespace Go.Pu
open Go Go.SX Go.Nt Go.Proofs
instance spec_l6DrawRight_ok  {a1 : L1Cur} : FOK R (spec_l6DrawRight a1) 44 [gPL1Cur a1] fun r => (gOrder_oo r.1, [some [(cL eU r.2.b, none), (cI .i64 r.2.i, none), (cI .i64 r.2.h, none)]]) := ⟨fun {r} H => by
 unfold spec_l6DrawRight at H
 refine fw false 72 Try.func44 ?_
 refine s_ ?_
 obtain ⟨x2, hx2, H⟩ := bnd H
 refine b_ hx2 ?_
 refine s_ ?_
 obtain ⟨x3, hx3, H⟩ := bnd H
 refine b_ hx3 ?_
 refine s_ ?_
 obtain ⟨x4, hx4, H⟩ := bnd H
 refine b_ hx4 ?_
 refine s_ ?_
 obtain ⟨x5, hx5, H⟩ := bnd H
 refine b_ hx5 ?_
 refine s_ ?_
 obtain ⟨x6, hx6, H⟩ := bnd H
 refine b_ hx6 ?_
 refine s_ ?_
 obtain ⟨t16, ht16, H⟩ := bnd H
 refine loop_ruleM (ls := [.b 0]) 0 (fun (i : Nat) (t16 : List Int × Int × Int × List Metric) => match i with | 0 => ⟨[.bp 0 0, .no, .bp 1 0, .no, .bp 2 0], [some [.c (cL eU t16.1), qi t16.2.1, qi t16.2.2.1], some [qs [], qs [], qi 0, qi 0, .nil, qi 0, qi 0, qi 0, qi 0, .nil], some [qs x3.1, qs x4.1, qi (IntKind.i64.wrap (1 + x2.1)), qi (IntKind.i64.wrap ((IntKind.i64.wrap (1 + x2.1)) + x5.1)), .nil, qi x6.1.Up, qi x6.1.Down, qi x6.1.UpSpan, qi x6.1.DownSpan, .nil]], []⟩ | _ => ⟨[.bp 0 0, .no, .bp 1 0, .no, .bp 2 0], [some [.c (cL eU t16.1), qi t16.2.1, qi t16.2.2.1], some [qs [], qs [], qi 0, qi 0, .nil, qi 0, qi 0, qi 0, qi 0, .nil], some [qs x3.1, qs x4.1, qi (IntKind.i64.wrap (1 + x2.1)), qi (IntKind.i64.wrap ((IntKind.i64.wrap (1 + x2.1)) + x5.1)), .row 0, qi x6.1.Up, qi x6.1.Down, qi x6.1.UpSpan, qi x6.1.DownSpan, .nil]], [rr 3 enc_Metric t16.2.2.2 true]⟩) (fun (i : Nat) t => match i with | 0 => t16 = t ∧ t.2.2.2 = [] | 1 => t16 = t | _ => False) ⟨[.bp 0 0, .no, .bp 1 0, .no, .bp 2 0, .row 0, qi 0], [some [.c (cL eU x6.2.b), qi x6.2.i, qi x6.2.h], some [qs [], qs [], qi 0, qi 0, .nil, qi 0, qi 0, qi 0, qi 0, .nil], some [qs x3.1, qs x4.1, qi (IntKind.i64.wrap (1 + x2.1)), qi (IntKind.i64.wrap ((IntKind.i64.wrap (1 + x2.1)) + x5.1)), .nil, qi x6.1.Up, qi x6.1.Down, qi x6.1.UpSpan, qi x6.1.DownSpan, .nil]], [rr 1 eS kl0 true]⟩ mO lE ?_ ?_
 ·
  intro i t1 hp
  rcases i with _ | _ | i
  ·
   obtain ⟨rfl, hz_t16_3⟩ := hp
   refine s_ ?_
   obtain ⟨t26, ht26, H⟩ := bnd H
   refine loop_ruleM (ls := [.b 0]) 2 (fun (i : Nat) (t26 : List Int × Int × Int × List Note) => match i with | 0 => ⟨[.no, .no, .bp 1 0, .no, .bp 2 0], [some [.c (cL eU t26.1), qi t26.2.1, qi t26.2.2.1], some [qs [], qs [], qi 0, qi 0, .nil, qi 0, qi 0, qi 0, qi 0, .nil], some [qs x3.1, qs x4.1, qi (IntKind.i64.wrap (1 + x2.1)), qi (IntKind.i64.wrap ((IntKind.i64.wrap (1 + x2.1)) + x5.1)), .nil, qi x6.1.Up, qi x6.1.Down, qi x6.1.UpSpan, qi x6.1.DownSpan, .nil]], []⟩ | _ => ⟨[.no, .no, .bp 1 0, .no, .bp 2 0], [some [.c (cL eU t26.1), qi t26.2.1, qi t26.2.2.1], some [qs [], qs [], qi 0, qi 0, .nil, qi 0, qi 0, qi 0, qi 0, .nil], some [qs x3.1, qs x4.1, qi (IntKind.i64.wrap (1 + x2.1)), qi (IntKind.i64.wrap ((IntKind.i64.wrap (1 + x2.1)) + x5.1)), .nil, qi x6.1.Up, qi x6.1.Down, qi x6.1.UpSpan, qi x6.1.DownSpan, .row 0]], [rr 2 enc_Note t26.2.2.2 true]⟩) (fun (i : Nat) t => match i with | 0 => t26 = t ∧ t.2.2.2 = [] | 1 => t26 = t | _ => False) ⟨[.bp 0 0, .no, .bp 1 0, .no, .bp 2 0, .no, .no, .no, .row 0, qi 0], [some [.c (cL eU t16.1), qi t16.2.1, qi t16.2.2.1], some [qs [], qs [], qi 0, qi 0, .nil, qi 0, qi 0, qi 0, qi 0, .nil], some [qs x3.1, qs x4.1, qi (IntKind.i64.wrap (1 + x2.1)), qi (IntKind.i64.wrap ((IntKind.i64.wrap (1 + x2.1)) + x5.1)), .nil, qi x6.1.Up, qi x6.1.Down, qi x6.1.UpSpan, qi x6.1.DownSpan, .nil]], [rr 1 eS kl1 true]⟩ mO lE ?_ ?_
   ·
    intro i t1 hp
    rcases i with _ | _ | i
    ·
     obtain ⟨rfl, hz_t26_3⟩ := hp
     refine s_ ?_
     obtain rfl := Option.some.inj H
     exact told5 rfl rfl rfl rfl rfl (by simp only [hz_t16_3, hz_t26_3]; try rfl)
    ·
     obtain rfl := hp
     refine s_ ?_
     obtain rfl := Option.some.inj H
     exact told5 rfl rfl rfl rfl (by have er : Try.f44.resultTypes.toList = [32] := rfl; have e32 : sizes Try.prog 8 32 = [0, 0, 0, 0, 3, 0, 0, 0, 0, 2] := (by kernel_rfl); simp only [er, fitAs, e32, fitA, Dp.q, fit_s, fit_n, fit_o, fit_d, fit_z, fit_e, if_true]; try rfl) (by simp only [hz_t16_3]; try rfl)
    ·
     exact hp.elim
   ·
    intro V1 hV1 hW1 hX1
    refine (spec_l6DrawRight.l1.partial_correctness (fun v17 v18 v19 v20 v21 s' => s' = t26 → (v21 = [] → V1 ⟨[.bp 0 0, .no, .bp 1 0, .no, .bp 2 0, .no, .no, .no, .row 0, qi v17], [some [.c (cL eU v18), qi v19, qi v20], some [qs [], qs [], qi 0, qi 0, .nil, qi 0, qi 0, qi 0, qi 0, .nil], some [qs x3.1, qs x4.1, qi (IntKind.i64.wrap (1 + x2.1)), qi (IntKind.i64.wrap ((IntKind.i64.wrap (1 + x2.1)) + x5.1)), .nil, qi x6.1.Up, qi x6.1.Down, qi x6.1.UpSpan, qi x6.1.DownSpan, .nil]], [rr 1 eS kl1 true]⟩) ∧ (V1 ⟨[.bp 0 0, .no, .bp 1 0, .no, .bp 2 0, .no, .no, .no, .row 0, qi v17], [some [.c (cL eU v18), qi v19, qi v20], some [qs [], qs [], qi 0, qi 0, .nil, qi 0, qi 0, qi 0, qi 0, .nil], some [qs x3.1, qs x4.1, qi (IntKind.i64.wrap (1 + x2.1)), qi (IntKind.i64.wrap ((IntKind.i64.wrap (1 + x2.1)) + x5.1)), .nil, qi x6.1.Up, qi x6.1.Down, qi x6.1.UpSpan, qi x6.1.DownSpan, .row 1]], [rr 1 eS kl1 true, rr 2 enc_Note v21 true]⟩)) ?_ _ _ _ _ _ _ ht26 rfl).1 rfl
    intro l0 IH1 v17 v18 v19 v20 v21 s' H1 e
    subst e
    refine ⟨?_, ?_⟩
    ·
     intro hn_v21
     refine hV1 _ ?_
     have J1a := fun {v17 v18 v19 v20 v21 τ} h n0 l => hW1 _ τ ((IH1 v17 v18 v19 v20 v21 _ h rfl).1 n0) l
     have J1b := fun {v17 v18 v19 v20 v21 τ} h l => hW1 _ τ ((IH1 v17 v18 v19 v20 v21 _ h rfl).2) l
     refine s_ ?_
     refine W_ite rfl H1 (fun hc H1 => ?_) (fun hc H1 => ?_)
     ·
      refine s_ ?_
      obtain ⟨x22, hx22, H1⟩ := bnd H1
      refine b_ hx22 ?_
      refine s_ ?_
      refine W_ite rfl H1 (fun hc H1 => ?_) (fun hc H1 => ?_)
      ·
       exact au H1 (aL @J1b hX1 (aA H trivial))
      ·
       exact au H1 (aL @J1a hX1 (aA H trivial))
     ·
      exact au H1 (aL @J1a (hX1 0) (aA H trivial))
    ·
     skip
     refine hV1 _ ?_
     have J1a := fun {v17 v18 v19 v20 v21 τ} h n0 l => hW1 _ τ ((IH1 v17 v18 v19 v20 v21 _ h rfl).1 n0) l
     have J1b := fun {v17 v18 v19 v20 v21 τ} h l => hW1 _ τ ((IH1 v17 v18 v19 v20 v21 _ h rfl).2) l
     exact au H1 (aL @J1b (hX1 1) (aA H trivial))
  ·
   obtain rfl := hp
   refine s_ ?_
   obtain ⟨t26, ht26, H⟩ := bnd H
   refine loop_ruleM (ls := [.b 0]) 2 (fun (i : Nat) (t26 : List Int × Int × Int × List Note) => match i with | 0 => ⟨[.no, .no, .bp 1 0, .no, .bp 2 0], [some [.c (cL eU t26.1), qi t26.2.1, qi t26.2.2.1], some [qs [], qs [], qi 0, qi 0, .nil, qi 0, qi 0, qi 0, qi 0, .nil], some [qs x3.1, qs x4.1, qi (IntKind.i64.wrap (1 + x2.1)), qi (IntKind.i64.wrap ((IntKind.i64.wrap (1 + x2.1)) + x5.1)), .row 0, qi x6.1.Up, qi x6.1.Down, qi x6.1.UpSpan, qi x6.1.DownSpan, .nil]], [rr 3 enc_Metric t16.2.2.2 true]⟩ | _ => ⟨[.no, .no, .bp 1 0, .no, .bp 2 0], [some [.c (cL eU t26.1), qi t26.2.1, qi t26.2.2.1], some [qs [], qs [], qi 0, qi 0, .nil, qi 0, qi 0, qi 0, qi 0, .nil], some [qs x3.1, qs x4.1, qi (IntKind.i64.wrap (1 + x2.1)), qi (IntKind.i64.wrap ((IntKind.i64.wrap (1 + x2.1)) + x5.1)), .row 0, qi x6.1.Up, qi x6.1.Down, qi x6.1.UpSpan, qi x6.1.DownSpan, .row 1]], [rr 3 enc_Metric t16.2.2.2 true, rr 2 enc_Note t26.2.2.2 true]⟩) (fun (i : Nat) t => match i with | 0 => t26 = t ∧ t.2.2.2 = [] | 1 => t26 = t | _ => False) ⟨[.bp 0 0, .no, .bp 1 0, .no, .bp 2 0, .no, .no, .no, .row 0, qi 0], [some [.c (cL eU t16.1), qi t16.2.1, qi t16.2.2.1], some [qs [], qs [], qi 0, qi 0, .nil, qi 0, qi 0, qi 0, qi 0, .nil], some [qs x3.1, qs x4.1, qi (IntKind.i64.wrap (1 + x2.1)), qi (IntKind.i64.wrap ((IntKind.i64.wrap (1 + x2.1)) + x5.1)), .row 1, qi x6.1.Up, qi x6.1.Down, qi x6.1.UpSpan, qi x6.1.DownSpan, .nil]], [rr 1 eS kl1 true, rr 3 enc_Metric t16.2.2.2 true]⟩ mO lE ?_ ?_
   ·
    intro i t1 hp
    rcases i with _ | _ | i
    ·
     obtain ⟨rfl, hz_t26_3⟩ := hp
     refine s_ ?_
     obtain rfl := Option.some.inj H
     exact told5 rfl rfl rfl rfl (by have er : Try.f44.resultTypes.toList = [32] := rfl; have e32 : sizes Try.prog 8 32 = [0, 0, 0, 0, 3, 0, 0, 0, 0, 2] := (by kernel_rfl); simp only [er, fitAs, e32, fitA, Dp.q, fit_s, fit_n, fit_o, fit_d, fit_z, fit_e, if_true]; try rfl) (by simp only [hz_t26_3]; try rfl)
    ·
     obtain rfl := hp
     exact au0 H
    ·
     exact hp.elim
   ·
    intro V1 hV1 hW1 hX1
    refine (spec_l6DrawRight.l1.partial_correctness (fun v17 v18 v19 v20 v21 s' => s' = t26 → (v21 = [] → V1 ⟨[.bp 0 0, .no, .bp 1 0, .no, .bp 2 0, .no, .no, .no, .row 0, qi v17], [some [.c (cL eU v18), qi v19, qi v20], some [qs [], qs [], qi 0, qi 0, .nil, qi 0, qi 0, qi 0, qi 0, .nil], some [qs x3.1, qs x4.1, qi (IntKind.i64.wrap (1 + x2.1)), qi (IntKind.i64.wrap ((IntKind.i64.wrap (1 + x2.1)) + x5.1)), .row 1, qi x6.1.Up, qi x6.1.Down, qi x6.1.UpSpan, qi x6.1.DownSpan, .nil]], [rr 1 eS kl1 true, rr 3 enc_Metric t16.2.2.2 true]⟩) ∧ (V1 ⟨[.bp 0 0, .no, .bp 1 0, .no, .bp 2 0, .no, .no, .no, .row 0, qi v17], [some [.c (cL eU v18), qi v19, qi v20], some [qs [], qs [], qi 0, qi 0, .nil, qi 0, qi 0, qi 0, qi 0, .nil], some [qs x3.1, qs x4.1, qi (IntKind.i64.wrap (1 + x2.1)), qi (IntKind.i64.wrap ((IntKind.i64.wrap (1 + x2.1)) + x5.1)), .row 1, qi x6.1.Up, qi x6.1.Down, qi x6.1.UpSpan, qi x6.1.DownSpan, .row 2]], [rr 1 eS kl1 true, rr 3 enc_Metric t16.2.2.2 true, rr 2 enc_Note v21 true]⟩)) ?_ _ _ _ _ _ _ ht26 rfl).1 rfl
    intro l0 IH1 v17 v18 v19 v20 v21 s' H1 e
    subst e
    refine ⟨?_, ?_⟩
    ·
     intro hn_v21
     refine hV1 _ ?_
     have J1a := fun {v17 v18 v19 v20 v21 τ} h n0 l => hW1 _ τ ((IH1 v17 v18 v19 v20 v21 _ h rfl).1 n0) l
     have J1b := fun {v17 v18 v19 v20 v21 τ} h l => hW1 _ τ ((IH1 v17 v18 v19 v20 v21 _ h rfl).2) l
     refine s_ ?_
     refine W_ite rfl H1 (fun hc H1 => ?_) (fun hc H1 => ?_)
     ·
      refine s_ ?_
      obtain ⟨x22, hx22, H1⟩ := bnd H1
      refine b_ hx22 ?_
      refine s_ ?_
      refine W_ite rfl H1 (fun hc H1 => ?_) (fun hc H1 => ?_)
      ·
       exact au H1 (aL @J1b hX1 (aA H trivial))
      ·
       exact au H1 (aL @J1a hX1 (aA H trivial))
     ·
      exact au H1 (aL @J1a (hX1 0) (aA H trivial))
    ·
     skip
     refine hV1 _ ?_
     have J1a := fun {v17 v18 v19 v20 v21 τ} h n0 l => hW1 _ τ ((IH1 v17 v18 v19 v20 v21 _ h rfl).1 n0) l
     have J1b := fun {v17 v18 v19 v20 v21 τ} h l => hW1 _ τ ((IH1 v17 v18 v19 v20 v21 _ h rfl).2) l
     exact au H1 (aL @J1b (hX1 1) (aA H trivial))
  ·
   exact hp.elim
 ·
  intro V1 hV1 hW1 hX1
  refine (spec_l6DrawRight.l0.partial_correctness (fun v7 v8 v9 v10 v11 s' => s' = t16 → (v11 = [] → V1 ⟨[.bp 0 0, .no, .bp 1 0, .no, .bp 2 0, .row 0, qi v7], [some [.c (cL eU v8), qi v9, qi v10], some [qs [], qs [], qi 0, qi 0, .nil, qi 0, qi 0, qi 0, qi 0, .nil], some [qs x3.1, qs x4.1, qi (IntKind.i64.wrap (1 + x2.1)), qi (IntKind.i64.wrap ((IntKind.i64.wrap (1 + x2.1)) + x5.1)), .nil, qi x6.1.Up, qi x6.1.Down, qi x6.1.UpSpan, qi x6.1.DownSpan, .nil]], [rr 1 eS kl0 true]⟩) ∧ (V1 ⟨[.bp 0 0, .no, .bp 1 0, .no, .bp 2 0, .row 0, qi v7], [some [.c (cL eU v8), qi v9, qi v10], some [qs [], qs [], qi 0, qi 0, .nil, qi 0, qi 0, qi 0, qi 0, .nil], some [qs x3.1, qs x4.1, qi (IntKind.i64.wrap (1 + x2.1)), qi (IntKind.i64.wrap ((IntKind.i64.wrap (1 + x2.1)) + x5.1)), .row 1, qi x6.1.Up, qi x6.1.Down, qi x6.1.UpSpan, qi x6.1.DownSpan, .nil]], [rr 1 eS kl0 true, rr 3 enc_Metric v11 true]⟩)) ?_ _ _ _ _ _ _ ht16 rfl).1 rfl
  intro l0 IH1 v7 v8 v9 v10 v11 s' H1 e
  subst e
  refine ⟨?_, ?_⟩
  ·
   intro hn_v11
   refine hV1 _ ?_
   have J1a := fun {v7 v8 v9 v10 v11 τ} h n0 l => hW1 _ τ ((IH1 v7 v8 v9 v10 v11 _ h rfl).1 n0) l
   have J1b := fun {v7 v8 v9 v10 v11 τ} h l => hW1 _ τ ((IH1 v7 v8 v9 v10 v11 _ h rfl).2) l
   refine s_ ?_
   refine W_ite rfl H1 (fun hc H1 => ?_) (fun hc H1 => ?_)
   ·
    refine s_ ?_
    obtain ⟨x12, hx12, H1⟩ := bnd H1
    refine b_ hx12 ?_
    refine s_ ?_
    refine W_ite rfl H1 (fun hc H1 => ?_) (fun hc H1 => ?_)
    ·
     exact au H1 (aL @J1b hX1 (aA H trivial))
    ·
     exact au H1 (aL @J1a hX1 (aA H trivial))
   ·
    exact au H1 (aL @J1a (hX1 0) (aA H trivial))
  ·
   skip
   refine hV1 _ ?_
   have J1a := fun {v7 v8 v9 v10 v11 τ} h n0 l => hW1 _ τ ((IH1 v7 v8 v9 v10 v11 _ h rfl).1 n0) l
   have J1b := fun {v7 v8 v9 v10 v11 τ} h l => hW1 _ τ ((IH1 v7 v8 v9 v10 v11 _ h rfl).2) l
   exact au H1 (aL @J1b (hX1 1) (aA H trivial))⟩
instance spec_Put_ok  {a1 : Store} {a2 : Order} : FOK R (spec_Put a1 a2) 7 [gStore a1, gOrder a2] fun r => (.tu [gStore_o r.1, .c (cB r.2) none], []) := ⟨fun {r} H => by
 unfold spec_Put at H
 refine fw false 80 Try.func7 ?_
 refine s_ ?_
 obtain ⟨x3, hx3, H⟩ := bnd H
 refine b_ hx3 ?_
 refine s_ ?_
 obtain ⟨x4, hx4, H⟩ := bnd H
 refine b_ hx4 ?_
 refine s_ ?_
 refine W_ite rfl H (fun hc H => ?_) (fun hc H => ?_)
 ·
  exact au0 H
 ·
  refine s_ ?_
  obtain ⟨x5, hx5, H⟩ := bnd H
  refine b_ hx5 ?_
  refine s_ ?_
  refine W_lateL [8] (by kernel_rfl) (by decide +kernel) rfl ?_; refine WL_c rfl ?_; simp only [SX.clr,List.foldl,putT,st,ev,gt,hp,ofV,constT,intT,lm]
  refine s_ ?_
  obtain ⟨x6, hx6, H⟩ := bnd H
  refine b_ hx6 ?_
  refine s_ ?_
  obtain ⟨x7, hx7, H⟩ := bnd H
  refine b_ hx7 ?_
  refine s_ ?_
  refine W_ite rfl H (fun hc H => ?_) (fun hc H => ?_)
  ·
   exact au0 H
  ·
   refine s_ ?_
   obtain ⟨t13, ht13, H⟩ := bnd H
   refine loop_rule (ls := []) 0 (fun t13 : Int => ⟨[.no, .no, .no, .no, .bp 0 0, .no, .bp 1 0, .bp 2 0, .bp 3 0, qi t13], [some [.nil, qi 0], some [.row 0, qi x3.Next], some [.row 1, qi (IntKind.i64.wrap (a1.Next + 1))], some (uO x6 (.row 2) (.row 3) [qi a1.Next])], [rr 11 enc_Item x3.Items true, rr 11 enc_Item x5.Items true, rr 3 enc_Metric x6.Metrics true, rr 2 enc_Note x6.Notes true]⟩) (fun t => t13 = t) ⟨[.no, .no, .no, .bp 0 0, .bp 1 0, .no, .bp 2 0, .bp 3 0, .bp 4 0, qi 0], [some (uO a2 (.c (cL enc_Metric a2.Metrics)) (.c (cL enc_Note a2.Notes)) []), some [.nil, qi 0], some [.row 0, qi x3.Next], some [.row 1, qi (IntKind.i64.wrap (a1.Next + 1))], some (uO x6 (.row 2) (.row 3) [qi a1.Next])], [rr 11 enc_Item x3.Items true, rr 11 enc_Item x5.Items true, rr 3 enc_Metric x6.Metrics true, rr 2 enc_Note x6.Notes true]⟩ mO lE ?_ ?_
   ·
    rintro t1 rfl
    exact au0 H
   ·
    intro V1 hV1 hW1 hX1
    refine (spec_Put.l0.partial_correctness a2 x5 (fun v11 s' => s' = t13 → (V1 ⟨[.no, .no, .no, .bp 0 0, .bp 1 0, .no, .bp 2 0, .bp 3 0, .bp 4 0, qi v11], [some (uO a2 (.c (cL enc_Metric a2.Metrics)) (.c (cL enc_Note a2.Notes)) []), some [.nil, qi 0], some [.row 0, qi x3.Next], some [.row 1, qi (IntKind.i64.wrap (a1.Next + 1))], some (uO x6 (.row 2) (.row 3) [qi a1.Next])], [rr 11 enc_Item x3.Items true, rr 11 enc_Item x5.Items true, rr 3 enc_Metric x6.Metrics true, rr 2 enc_Note x6.Notes true]⟩)) ?_ _ _ ht13 rfl)
    intro l0 IH1 v11 s' H1 e
    subst e
    refine hV1 _ ?_
    have J1a := fun {v11 τ} h l => hW1 _ τ ((IH1 v11 _ h rfl)) l
    exact au H1 (aL @J1a hX1 (aA H trivial))⟩
instance spec_l13DrawRight_ok  {a1 : L1Cur} : FOK R (spec_l13DrawRight a1) 41 [gPL1Cur a1] fun r => (gStore_o r.1, [some [(cL eU r.2.b, none), (cI .i64 r.2.i, none), (cI .i64 r.2.h, none)]]) := ⟨fun {r} H => by
 unfold spec_l13DrawRight at H
 refine fw false 30 Try.func41 ?_
 refine s_ ?_
 obtain ⟨x2, hx2, H⟩ := bnd H
 refine b_ hx2 ?_
 refine s_ ?_
 obtain ⟨t15, ht15, H⟩ := bnd H
 refine loop_rule (ls := [.b 0]) 0 (fun t15 : List Int × Int × Int × Int × List Item => ⟨[.no, .no, .bp 1 0, .bp 2 0], [some [.c (cL eU t15.1), qi t15.2.1, qi t15.2.2.1], some [.nil, qi 0], some [.row 0, qi t15.2.2.2.1]], [rr 11 enc_Item t15.2.2.2.2 true]⟩) (fun t => t15 = t) ⟨[.bp 0 0, .no, .bp 1 0, .bp 2 0, qi 0], [some [.c (cL eU a1.b), qi a1.i, qi a1.h], some [.nil, qi 0], some [.row 0, qi x2.Next]], [rr 11 enc_Item x2.Items true]⟩ mO lE ?_ ?_
 ·
  rintro t1 rfl
  exact au0 H
 ·
  intro V1 hV1 hW1 hX1
  refine (spec_l13DrawRight.l0.partial_correctness (fun v3 v4 v5 v6 v7 v8 s' => s' = t15 → (V1 ⟨[.bp 0 0, .no, .bp 1 0, .bp 2 0, qi v3], [some [.c (cL eU v4), qi v5, qi v6], some [.nil, qi 0], some [.row 0, qi v7]], [rr 11 enc_Item v8 true]⟩)) ?_ _ _ _ _ _ _ _ ht15 rfl)
  intro l0 IH1 v3 v4 v5 v6 v7 v8 s' H1 e
  subst e
  refine hV1 _ ?_
  have J1a := fun {v3 v4 v5 v6 v7 v8 τ} h l => hW1 _ τ ((IH1 v3 v4 v5 v6 v7 v8 _ h rfl)) l
  exact au H1 (aL @J1a hX1 (aA H trivial))⟩
instance spec_l6Draw_ok  {a1 : L1Cur} : FOK R (spec_l6Draw a1) 22 [gPL1Cur a1] fun r => (gOrder_oo r.1, [some [(cL eU r.2.b, none), (cI .i64 r.2.i, none), (cI .i64 r.2.h, none)]]) := ⟨fun {r} H => by
 unfold spec_l6Draw at H
 refine fw false 74 Try.func22 ?_
 exact au0 H⟩
instance spec_l13Draw_ok  {a1 : L1Cur} : FOK R (spec_l13Draw a1) 21 [gPL1Cur a1] fun r => (gStore_o r.1, [some [(cL eU r.2.b, none), (cI .i64 r.2.i, none), (cI .i64 r.2.h, none)]]) := ⟨fun {r} H => by
 unfold spec_l13Draw at H
 refine fw false 40 Try.func21 ?_
 exact au0 H⟩
instance spec_DrawPut_ok  {a1 : List Int} : FOK R (spec_DrawPut a1) 5 [.c (cL eU a1) none] fun r => (.tu [gStore_o r.1, gOrder_oo r.2], []) := ⟨fun {r} H => by
 unfold spec_DrawPut at H
 refine fw false 13 Try.func5 ?_
 exact au0 H⟩
theorem slices_Clone_Simpl_Metric_impl_Metric_ok {a1 r : List Metric} (H : slices_Clone_Simpl_Metric_impl_Metric a1 = some r) : R 69 [.c (cL enc_Metric a1) none] = some (.c (cL enc_Metric r) (some (3, false)), []) := by
  unfold slices_Clone_Simpl_Metric_impl_Metric Nt.clone at H
  split at H
  · rename_i h
    obtain rfl := Option.some.inj H
    exact Fz_pr rfl (by simp only [cloneF]; rw [if_pos ⟨wide_map (en := enc_Metric) (fun _ => rfl) a1, by simpa using h⟩])
  · simp at H
instance slices_Clone_Simpl_Metric_impl_Metric_i {a1 : List Metric} : FOK R (slices_Clone_Simpl_Metric_impl_Metric a1) 69 [.c (cL enc_Metric a1) none] fun r => (.c (cL enc_Metric r) (some (3, false)), []) := ⟨fun {r} H => slices_Clone_Simpl_Metric_impl_Metric_ok H⟩
theorem slices_Clone_Simpl_Note_impl_Note_ok {a1 r : List Note} (H : slices_Clone_Simpl_Note_impl_Note a1 = some r) : R 70 [.c (cL enc_Note a1) none] = some (.c (cL enc_Note r) (some (2, false)), []) := by
  unfold slices_Clone_Simpl_Note_impl_Note Nt.clone at H
  split at H
  · rename_i h
    obtain rfl := Option.some.inj H
    exact Fz_pr rfl (by simp only [cloneF]; rw [if_pos ⟨wide_map (en := enc_Note) (fun _ => rfl) a1, by simpa using h⟩])
  · simp at H
instance slices_Clone_Simpl_Note_impl_Note_i {a1 : List Note} : FOK R (slices_Clone_Simpl_Note_impl_Note a1) 70 [.c (cL enc_Note a1) none] fun r => (.c (cL enc_Note r) (some (2, false)), []) := ⟨fun {r} H => slices_Clone_Simpl_Note_impl_Note_ok H⟩
instance impl_copyOrder_ok  {a1 : Order} : FOK R (impl_copyOrder a1) 54 [gOrder a1] fun r => (gOrder_oo r, []) := ⟨fun {r} H => by
 unfold impl_copyOrder at H
 refine fw false 12 Try.func54 ?_
 exact au0 H⟩
instance impl_copyItem_ok  {a1 : Item} : FOK R (impl_copyItem a1) 31 [gItem a1] fun r => (gItem_oo r, []) := ⟨fun {r} H => by
 unfold impl_copyItem at H
 refine fw false 9 Try.func31 ?_
 exact au0 H⟩
instance impl_copyItems_ok  {a1 : List Item} : FOK R (impl_copyItems a1) 48 [.c (cL enc_Item a1) none] fun r => (.c (cL enc_Item r) (some (11, false)), []) := ⟨fun {r} H => by
 unfold impl_copyItems at H
 refine fw false 20 Try.func48 ?_
 refine s_ ?_
 obtain ⟨t7, ht7, H⟩ := bnd H
 refine loop_rule (ls := []) 0 (fun t7 : List Item => ⟨[.no, .no, .no, .row 0], [], [rr 11 enc_Item t7 true]⟩) (fun t => t7 = t) ⟨[.no, .no, .no, .row 0, .no, .no, .no, .c (cL enc_Item a1), qi (a1.length : Int), qi 0], [], [rr 11 enc_Item ([] : List Item) true]⟩ mO lE ?_ ?_
 ·
  rintro t1 rfl
  exact au0 H
 ·
  intro V1 hV1 hW1 hX1
  refine (impl_copyItems.l0.partial_correctness a1 (fun v2 v3 s' => s' = t7 → (V1 ⟨[.no, .no, .no, .row 0, .no, .no, .no, .c (cL enc_Item a1), qi (a1.length : Int), qi v2], [], [rr 11 enc_Item v3 true]⟩)) ?_ _ _ _ ht7 rfl)
  intro l0 IH1 v2 v3 s' H1 e
  subst e
  refine hV1 _ ?_
  have J1a := fun {v2 v3 τ} h l => hW1 _ τ ((IH1 v2 v3 _ h rfl)) l
  exact au H1 (aL @J1a hX1 (aA H trivial))⟩
instance impl_put_1_ok  {a1 : Item} {a2 : Item} : FOK R (impl_put_1 a1 a2) 49 [gItem a1, gPItem a2] fun r => (.c (cB r.1) none, [some [(cS r.2.Order.Name, none), (cS r.2.Order.Target, none), (cI .i64 r.2.Order.Low, none), (cI .i64 r.2.Order.High, none), (cL enc_Metric r.2.Order.Metrics, none), (cI .i64 r.2.Order.Pace.Up, none), (cI .i64 r.2.Order.Pace.Down, none), (cI .i64 r.2.Order.Pace.UpSpan, none), (cI .i64 r.2.Order.Pace.DownSpan, none), (cL enc_Note r.2.Order.Notes, none), (cI .i64 r.2.Ver, none)]]) := ⟨fun {r} H => by
 unfold impl_put_1 at H
 refine fw false 11 Try.func49 ?_
 exact au0 H⟩
end Go.Pu
