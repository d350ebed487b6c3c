import Derived.Test.YtbndndpimaocdaaStoreEn
set_option linter.unusedVariables false
set_option linter.unusedSimpArgs false
set_option synthInstance.maxSize 1000000000
set_option maxRecDepth 20000
set_option maxHeartbeats 20000000
namespace Go.Pu
open Go Go.SX Go.Nt Go.Proofs
instance laws_big_ok  {a1 : List Int} : FOK R (laws_big a1) 4 [.c (cL eU a1) none] fun r => (.c (cB r) none, []) := ⟨fun {r} H => by
 unfold laws_big at H
 refine fw false 6 Try.func4 ?_
 exact au0 H⟩
instance spec_l1New_ok  {a1 : List Int} : FOK R (spec_l1New a1) 20 [.c (cL eU a1) none] fun r => (gPL1Cur r, []) := ⟨fun {r} H => by
 unfold spec_l1New at H
 refine fw false 32 Try.func20 ?_
 refine s_ ?_
 obtain ⟨t5, ht5, H⟩ := bnd H
 refine loop_rule (ls := []) 0 (fun t5 : Int => ⟨[.c (cL eU a1), .no, .no, qi t5], [], []⟩) (fun t => t5 = t) ⟨[.c (cL eU a1), .no, .no, qi (IntKind.i64.wrap (27212 + (a1.length : Int))), qi 0], [], []⟩ mO lE ?_ ?_
 ·
  rintro t1 rfl
  exact au0 H
 ·
  intro V1 hV1 hW1 hX1
  refine (spec_l1New.l0.partial_correctness a1 (fun v2 v3 s' => s' = t5 → (V1 ⟨[.c (cL eU a1), .no, .no, qi v2, qi v3], [], []⟩)) ?_ _ _ _ ht5 rfl)
  intro l0 IH1 v2 v3 s' H1 e
  subst e
  refine hV1 _ ?_
  have J1a := fun {v2 v3 τ} h l => hW1 _ τ ((IH1 v2 v3 _ h rfl)) l
  exact au H1 (aL @J1a hX1 (aA H trivial))⟩
instance spec_StoreNew_ok   : FOK R (spec_StoreNew) 19 [] fun r => (gStore_o r, []) := ⟨fun {r} H => by
 unfold spec_StoreNew at H
 refine fw false 2 Try.func19 ?_
 exact au0 H⟩
instance spec_l1Byte_ok  {a1 : L1Cur} : FOK R (spec_l1Byte a1) 64 [gPL1Cur a1] fun r => (.c (cI .i64 r.1) none, [some [(cL eU r.2.b, none), (cI .i64 r.2.i, none), (cI .i64 r.2.h, none)]]) := ⟨fun {r} H => by
 unfold spec_l1Byte at H
 refine fw false 58 Try.func64 ?_
 exact au0 H⟩
instance spec_l1Below_ok  {a1 : L1Cur} {a2 : Int} : FOK R (spec_l1Below a1 a2) 42 [gPL1Cur a1, .c (cI .i64 a2) none] fun r => (.c (cI .i64 r.1) none, [some [(cL eU r.2.b, none), (cI .i64 r.2.i, none), (cI .i64 r.2.h, none)]]) := ⟨fun {r} H => by
 unfold spec_l1Below at H
 refine fw false 37 Try.func42 ?_
 exact au0 H⟩
instance spec_l1Once_ok  {a1 : L1Cur} {a2 : Int} : FOK R (spec_l1Once a1 a2) 63 [gPL1Cur a1, .c (cI .i64 a2) none] fun r => (.c (cB r.1) none, [some [(cL eU r.2.b, none), (cI .i64 r.2.i, none), (cI .i64 r.2.h, none)]]) := ⟨fun {r} H => by
 unfold spec_l1Once at H
 refine fw false 9 Try.func63 ?_
 exact au0 H⟩
instance spec_l1Pick_ok  {a1 : L1Cur} {a2 : List Str} : FOK R (spec_l1Pick a1 a2) 45 [gPL1Cur a1, .c (cL eS a2) none] fun r => (.c (cS r.1) none, [some [(cL eU r.2.b, none), (cI .i64 r.2.i, none), (cI .i64 r.2.h, none)]]) := ⟨fun {r} H => by
 unfold spec_l1Pick at H
 refine fw false 12 Try.func45 ?_
 exact au0 H⟩
instance spec_l6Copy_ok  {a1 : Order} : FOK R (spec_l6Copy a1) 26 [gOrder a1] fun r => (gOrder_oo r, []) := ⟨fun {r} H => by
 unfold spec_l6Copy at H
 refine fw false 14 Try.func26 ?_
 exact au0 H⟩
instance spec_l13Copy_ok  {a1 : Store} : FOK R (spec_l13Copy a1) 25 [gStore a1] fun r => (gStore_o r, []) := ⟨fun {r} H => by
 unfold spec_l13Copy at H
 refine fw false 35 Try.func25 ?_
 refine s_ ?_
 obtain ⟨t8, ht8, H⟩ := bnd H
 refine loop_ruleM (ls := []) 0 (fun (i : Nat) (t8 : List Item) => match i with | 0 => ⟨[.no, .no, .bp 0 0, .bp 1 0], [some [.nil, qi 0], some [.nil, qi a1.Next]], []⟩ | _ => ⟨[.no, .no, .bp 0 0, .bp 1 0], [some [.nil, qi 0], some [.row 0, qi a1.Next]], [rr 11 enc_Item t8 true]⟩) (fun (i : Nat) t => match i with | 0 => t8 = t ∧ t = [] | 1 => t8 = t | _ => False) ⟨[.no, .bp 0 0, .bp 1 0, .bp 2 0, qi 0], [some [.c (cL enc_Item a1.Items), qi a1.Next], some [.nil, qi 0], some [.nil, qi a1.Next]], []⟩ mO lE ?_ ?_
 ·
  intro i t1 hp
  rcases i with _ | _ | i
  ·
   obtain ⟨rfl, hz_t8_0⟩ := hp
   refine s_ ?_
   obtain rfl := Option.some.inj H
   exact told5 rfl rfl rfl rfl rfl (by simp only [hz_t8_0]; try rfl)
  ·
   obtain rfl := hp
   exact au0 H
  ·
   exact hp.elim
 ·
  intro V1 hV1 hW1 hX1
  refine (spec_l13Copy.l0.partial_correctness a1 (fun v2 v3 s' => s' = t8 → (v3 = [] → V1 ⟨[.no, .bp 0 0, .bp 1 0, .bp 2 0, qi v2], [some [.c (cL enc_Item a1.Items), qi a1.Next], some [.nil, qi 0], some [.nil, qi a1.Next]], []⟩) ∧ (V1 ⟨[.no, .bp 0 0, .bp 1 0, .bp 2 0, qi v2], [some [.c (cL enc_Item a1.Items), qi a1.Next], some [.nil, qi 0], some [.row 0, qi a1.Next]], [rr 11 enc_Item v3 true]⟩)) ?_ _ _ _ ht8 rfl).1 rfl
  intro l0 IH1 v2 v3 s' H1 e
  subst e
  refine ⟨?_, ?_⟩
  ·
   intro hn_v3
   refine hV1 _ ?_
   have J1a := fun {v2 v3 τ} h n0 l => hW1 _ τ ((IH1 v2 v3 _ h rfl).1 n0) l
   have J1b := fun {v2 v3 τ} h l => hW1 _ τ ((IH1 v2 v3 _ h rfl).2) l
   exact au H1 (aL @J1b (hX1 0) (aA H trivial))
  ·
   skip
   refine hV1 _ ?_
   have J1a := fun {v2 v3 τ} h n0 l => hW1 _ τ ((IH1 v2 v3 _ h rfl).1 n0) l
   have J1b := fun {v2 v3 τ} h l => hW1 _ τ ((IH1 v2 v3 _ h rfl).2) l
   exact au H1 (aL @J1b (hX1 1) (aA H trivial))⟩
instance spec_l13At_ok  {a1 : Store} {a2 : Str} : FOK R (spec_l13At a1 a2) 27 [gStore a1, .c (cS a2) none] fun r => (.c (cI .i64 r) none, []) := ⟨fun {r} H => by
 unfold spec_l13At at H
 refine fw false 23 Try.func27 ?_
 refine s_ ?_
 obtain ⟨s6, hs6, H⟩ := bnd H
 refine loop_rule (ls := []) 0 (fun t5 : Unit => ⟨[], [], []⟩) (fun t => s6 = .inr t) ⟨[.no, qs a2, .bp 0 0, .no, .no, qi 0], [some [.c (cL enc_Item a1.Items), qi a1.Next]], []⟩ mO lE ?_ ?_
 ·
  rintro t5 rfl
  exact au0 H
 ·
  intro V1 hV1 hW1 hX1
  refine (spec_l13At.l0.partial_correctness a1 a2 (fun v3 s' => s' = s6 → (V1 ⟨[.no, qs a2, .bp 0 0, .no, .no, qi v3], [some [.c (cL enc_Item a1.Items), qi a1.Next]], []⟩)) ?_ _ _ hs6 rfl)
  intro l0 IH1 v3 s' H1 e
  subst e
  refine hV1 _ ?_
  have J1a := fun {v3 τ} h l => hW1 _ τ ((IH1 v3 _ h rfl)) l
  exact au H1 (aL @J1a hX1 (aA H trivial))⟩
instance spec_l1In_ok  {a1 : Int} {a2 : Int} {a3 : Int} : FOK R (spec_l1In a1 a2 a3) 39 [.c (cI .i64 a1) none, .c (cI .i64 a2) none, .c (cI .i64 a3) none] fun r => (.c (cB r) none, []) := ⟨fun {r} H => by
 unfold spec_l1In at H
 refine fw false 15 Try.func39 ?_
 exact au0 H⟩
instance spec_NameOk_ok  {a1 : Str} : FOK R (spec_NameOk a1) 59 [.c (cS a1) none] fun r => (.c (cB r) none, []) := ⟨fun {r} H => by
 unfold spec_NameOk at H
 refine fw false 40 Try.func59 ?_
 refine s_ ?_
 obtain ⟨s6, hs6, H⟩ := bnd H
 refine loop_rule (ls := []) 0 (fun t4 : Unit => ⟨[qs a1], [], []⟩) (fun t => s6 = .inr t) ⟨[qs a1, .no, .no, qi 0], [], []⟩ mO lE ?_ ?_
 ·
  rintro t4 rfl
  exact au0 H
 ·
  intro V1 hV1 hW1 hX1
  refine (spec_NameOk.l0.partial_correctness a1 (fun v2 s' => s' = s6 → (V1 ⟨[qs a1, .no, .no, qi v2], [], []⟩)) ?_ _ _ hs6 rfl)
  intro l0 IH1 v2 s' H1 e
  subst e
  refine hV1 _ ?_
  have J1a := fun {v2 τ} h l => hW1 _ τ ((IH1 v2 _ h rfl)) l
  exact au H1 (aL @J1a hX1 (aA H trivial))⟩
instance spec_MetricOk_ok  {a1 : Metric} : FOK R (spec_MetricOk a1) 76 [gMetric a1] fun r => (.c (cB r) none, []) := ⟨fun {r} H => by
 unfold spec_MetricOk at H
 refine fw false 16 Try.func76 ?_
 exact au0 H⟩
instance spec_l6Metrics_ok  {a1 : List Metric} : FOK R (spec_l6Metrics a1) 60 [.c (cL enc_Metric a1) none] fun r => (.c (cB r) none, []) := ⟨fun {r} H => by
 unfold spec_l6Metrics at H
 refine fw false 37 Try.func60 ?_
 refine s_ ?_
 obtain ⟨s8, hs8, H⟩ := bnd H
 refine loop_rule (ls := []) 0 (fun t7 : Unit => ⟨[.c (cL enc_Metric a1)], [], []⟩) (fun t => s8 = .inr t) ⟨[.c (cL enc_Metric a1), .no, .no, qi 0], [], []⟩ mO lE ?_ ?_
 ·
  rintro t7 rfl
  exact au0 H
 ·
  intro V1 hV1 hW1 hX1
  refine (spec_l6Metrics.l0.partial_correctness a1 (fun v2 s' => s' = s8 → (V1 ⟨[.c (cL enc_Metric a1), .no, .no, qi v2], [], []⟩)) ?_ _ _ hs8 rfl)
  intro l0 IH1 v2 s' H1 e
  subst e
  refine hV1 _ ?_
  have J1a := fun {v2 τ} h l => hW1 _ τ ((IH1 v2 _ h rfl)) l
  exact au H1 (aL @J1a hX1 (aA H trivial))⟩
instance spec_PaceOk_ok  {a1 : Pace} : FOK R (spec_PaceOk a1) 61 [gPace a1] fun r => (.c (cB r) none, []) := ⟨fun {r} H => by
 unfold spec_PaceOk at H
 refine fw false 21 Try.func61 ?_
 exact au0 H⟩
instance spec_l5Letter_ok  {a1 : Int} : FOK R (spec_l5Letter a1) 85 [.c (cI .u8 a1) none] fun r => (.c (cB r) none, []) := ⟨fun {r} H => by
 unfold spec_l5Letter at H
 refine fw false 17 Try.func85 ?_
 exact au0 H⟩
instance spec_PlainOk_ok  {a1 : Str} : FOK R (spec_PlainOk a1) 77 [.c (cS a1) none] fun r => (.c (cB r) none, []) := ⟨fun {r} H => by
 unfold spec_PlainOk at H
 refine fw false 61 Try.func77 ?_
 refine s_ ?_
 obtain ⟨s7, hs7, H⟩ := bnd H
 refine loop_rule (ls := []) 0 (fun t5 : Unit => ⟨[qs a1], [], []⟩) (fun t => s7 = .inr t) ⟨[qs a1, .no, .no, qi 0], [], []⟩ mO lE ?_ ?_
 ·
  rintro t5 rfl
  exact au0 H
 ·
  intro V1 hV1 hW1 hX1
  refine (spec_PlainOk.l0.partial_correctness a1 (fun v2 s' => s' = s7 → (V1 ⟨[qs a1, .no, .no, qi v2], [], []⟩)) ?_ _ _ hs7 rfl)
  intro l0 IH1 v2 s' H1 e
  subst e
  refine hV1 _ ?_
  have J1a := fun {v2 τ} h l => hW1 _ τ ((IH1 v2 _ h rfl)) l
  exact au H1 (aL @J1a hX1 (aA H trivial))⟩
instance spec_l6Ours_ok  {a1 : Str} : FOK R (spec_l6Ours a1) 78 [.c (cS a1) none] fun r => (.c (cB r) none, []) := ⟨fun {r} H => by
 unfold spec_l6Ours at H
 refine fw false 11 Try.func78 ?_
 exact au0 H⟩
instance spec_TextOk_ok  {a1 : Str} : FOK R (spec_TextOk a1) 79 [.c (cS a1) none] fun r => (.c (cB r) none, []) := ⟨fun {r} H => by
 unfold spec_TextOk at H
 refine fw false 23 Try.func79 ?_
 refine s_ ?_
 obtain ⟨s6, hs6, H⟩ := bnd H
 refine loop_rule (ls := []) 0 (fun t5 : Unit => ⟨[qs a1], [], []⟩) (fun t => s6 = .inr t) ⟨[qs a1, .no, .no, qi 0], [], []⟩ mO lE ?_ ?_
 ·
  rintro t5 rfl
  exact au0 H
 ·
  intro V1 hV1 hW1 hX1
  refine (spec_TextOk.l0.partial_correctness a1 (fun v2 s' => s' = s6 → (V1 ⟨[qs a1, .no, .no, qi v2], [], []⟩)) ?_ _ _ hs6 rfl)
  intro l0 IH1 v2 s' H1 e
  subst e
  refine hV1 _ ?_
  have J1a := fun {v2 τ} h l => hW1 _ τ ((IH1 v2 _ h rfl)) l
  exact au H1 (aL @J1a hX1 (aA H trivial))⟩
instance spec_l6Notes_ok  {a1 : List Note} : FOK R (spec_l6Notes a1) 62 [.c (cL enc_Note a1) none] fun r => (.c (cB r) none, []) := ⟨fun {r} H => by
 unfold spec_l6Notes at H
 refine fw false 64 Try.func62 ?_
 refine s_ ?_
 obtain ⟨s13, hs13, H⟩ := bnd H
 refine loop_rule (ls := []) 0 (fun t12 : Unit => ⟨[.c (cL enc_Note a1)], [], []⟩) (fun t => s13 = .inr t) ⟨[.c (cL enc_Note a1), .no, .no, qi 0], [], []⟩ mO lE ?_ ?_
 ·
  rintro t12 rfl
  exact au0 H
 ·
  intro V1 hV1 hW1 hX1
  refine (spec_l6Notes.l0.partial_correctness a1 (fun v2 s' => s' = s13 → (V1 ⟨[.c (cL enc_Note a1), .no, .no, qi v2], [], []⟩)) ?_ _ _ hs13 rfl)
  intro l0 IH1 v2 s' H1 e
  subst e
  refine hV1 _ ?_
  have J1a := fun {v2 τ} h l => hW1 _ τ ((IH1 v2 _ h rfl)) l
  exact au H1 (aL @J1a hX1 (aA H trivial))⟩
instance spec_OrderOk_ok  {a1 : Order} : FOK R (spec_OrderOk a1) 40 [gOrder a1] fun r => (.c (cB r) none, []) := ⟨fun {r} H => by
 unfold spec_OrderOk at H
 refine fw false 38 Try.func40 ?_
 exact au0 H⟩
instance spec_StoreOk_ok  {a1 : Store} : FOK R (spec_StoreOk a1) 17 [gStore a1] fun r => (.c (cB r) none, []) := ⟨fun {r} H => by
 unfold spec_StoreOk at H
 refine fw false 73 Try.func17 ?_
 refine s_ ?_
 obtain ⟨x2, hx2, H⟩ := bnd H
 refine b_ hx2 ?_
 refine s_ ?_
 refine WO_iA H (fun hc H => ?_) (fun hc H => ?_)
 ·
  exact au0 H
 ·
  refine s_ ?_
  refine W_ite rfl H (fun hc H => ?_) (fun hc H => ?_)
  ·
   exact au0 H
  ·
   refine s_ ?_
   obtain ⟨s17, hs17, H⟩ := bnd H
   refine loop_rule (ls := []) 0 (fun t16 : Unit => ⟨[], [], []⟩) (fun t => s17 = .inr t) ⟨[.no, .bp 0 0, .no, qi 0], [some [.c (cL enc_Item a1.Items), qi a1.Next]], []⟩ mO lE ?_ ?_
   ·
    rintro t16 rfl
    exact au0 H
   ·
    intro V1 hV1 hW1 hX1
    refine (spec_StoreOk.l0.partial_correctness a1 (fun v3 s' => s' = s17 → (V1 ⟨[.no, .bp 0 0, .no, qi v3], [some [.c (cL enc_Item a1.Items), qi a1.Next]], []⟩)) ?_ _ _ hs17 rfl)
    intro l0 IH1 v3 s' H1 e
    subst e
    refine hV1 _ ?_
    have J1a := fun {v3 τ} h l => hW1 _ τ ((IH1 v3 _ h rfl)) l
    refine s_ ?_
    refine W_ite rfl H1 (fun hc H1 => ?_) (fun hc H1 => ?_)
    ·
     refine s_ ?_
     obtain ⟨x4, hx4, H1⟩ := bnd H1
     refine b_ hx4 ?_
     refine s_ ?_
     obtain ⟨x5, hx5, H1⟩ := bnd H1
     refine b_ hx5 ?_
     refine s_ ?_
     refine WO_iA H1 (fun hc H1 => ?_) (fun hc H1 => ?_)
     ·
      exact au H1 (aL @J1a hX1 (aA H trivial))
     ·
      refine s_ ?_
      obtain ⟨x6, hx6, H1⟩ := bnd H1
      refine b_ hx6 ?_
      refine s_ ?_
      refine WO_iA H1 (fun hc H1 => ?_) (fun hc H1 => ?_)
      ·
       exact au H1 (aL @J1a hX1 (aA H trivial))
      ·
       refine s_ ?_
       refine WO_iA H1 (fun hc H1 => ?_) (fun hc H1 => ?_)
       ·
        refine s_ ?_
        obtain ⟨x7, hx7, H1⟩ := bnd H1
        refine b_ hx7 ?_
        refine s_ ?_
        refine W_ite rfl H1 (fun hc H1 => ?_) (fun hc H1 => ?_)
        ·
         exact au H1 (aL @J1a hX1 (aA H trivial))
        ·
         refine s_ ?_
         obtain ⟨s11, hs11, H1⟩ := bnd H1
         refine loop_rule (ls := []) 2 (fun t10 : Unit => ⟨[.no, .bp 0 0, .no, qi v3], [some [.c (cL enc_Item a1.Items), qi a1.Next]], []⟩) (fun t => s11 = .inr t) ⟨[.no, .bp 0 0, .no, qi v3, .bp 1 0, qi 0], [some [.c (cL enc_Item a1.Items), qi a1.Next], some (uO x4.Order (.c (cL enc_Metric x4.Order.Metrics)) (.c (cL enc_Note x4.Order.Notes)) [qi x4.Ver])], []⟩ mO lE ?_ ?_
         ·
          rintro t10 rfl
          exact au H1 (aL @J1a hX1 (aA H trivial))
         ·
          intro V2 hV2 hW2 hX2
          refine (spec_StoreOk.l1.partial_correctness a1 v3 x4 (fun v8 s' => s' = s11 → (V2 ⟨[.no, .bp 0 0, .no, qi v3, .bp 1 0, qi v8], [some [.c (cL enc_Item a1.Items), qi a1.Next], some (uO x4.Order (.c (cL enc_Metric x4.Order.Metrics)) (.c (cL enc_Note x4.Order.Notes)) [qi x4.Ver])], []⟩)) ?_ _ _ hs11 rfl)
          intro l0 IH2 v8 s' H2 e
          subst e
          refine hV2 _ ?_
          have J2a := fun {v8 τ} h l => hW2 _ τ ((IH2 v8 _ h rfl)) l
          exact au H2 (aL @J2a hX2 (aA H1 (aA H trivial)))
       ·
        refine s_ ?_
        obtain ⟨s15, hs15, H1⟩ := bnd H1
        refine loop_rule (ls := []) 2 (fun t14 : Unit => ⟨[.no, .bp 0 0, .no, qi v3], [some [.c (cL enc_Item a1.Items), qi a1.Next]], []⟩) (fun t => s15 = .inr t) ⟨[.no, .bp 0 0, .no, qi v3, .bp 1 0, qi 0], [some [.c (cL enc_Item a1.Items), qi a1.Next], some (uO x4.Order (.c (cL enc_Metric x4.Order.Metrics)) (.c (cL enc_Note x4.Order.Notes)) [qi x4.Ver])], []⟩ mO lE ?_ ?_
        ·
         rintro t14 rfl
         exact au H1 (aL @J1a hX1 (aA H trivial))
        ·
         intro V2 hV2 hW2 hX2
         refine (spec_StoreOk.l2.partial_correctness a1 v3 x4 (fun v12 s' => s' = s15 → (V2 ⟨[.no, .bp 0 0, .no, qi v3, .bp 1 0, qi v12], [some [.c (cL enc_Item a1.Items), qi a1.Next], some (uO x4.Order (.c (cL enc_Metric x4.Order.Metrics)) (.c (cL enc_Note x4.Order.Notes)) [qi x4.Ver])], []⟩)) ?_ _ _ hs15 rfl)
         intro l0 IH2 v12 s' H2 e
         subst e
         refine hV2 _ ?_
         have J2a := fun {v12 τ} h l => hW2 _ τ ((IH2 v12 _ h rfl)) l
         exact au H2 (aL @J2a hX2 (aA H1 (aA H trivial)))
    ·
     exact au H1 (aL @J1a hX1 (aA H trivial))⟩
instance spec_Drop_ok  {a1 : Store} {a2 : Str} : FOK R (spec_Drop a1 a2) 10 [gStore a1, .c (cS a2) none] fun r => (.tu [gStore_o r.1, .c (cB r.2) none], []) := ⟨fun {r} H => by
 unfold spec_Drop at H
 refine fw false 35 Try.func10 ?_
 exact au0 H⟩
instance spec_l1PickInt_ok  {a1 : L1Cur} {a2 : List Int} : FOK R (spec_l1PickInt a1 a2) 43 [gPL1Cur a1, .c (cL eI a2) none] fun r => (.c (cI .i64 r.1) none, [some [(cL eU r.2.b, none), (cI .i64 r.2.i, none), (cI .i64 r.2.h, none)]]) := ⟨fun {r} H => by
 unfold spec_l1PickInt at H
 refine fw false 12 Try.func43 ?_
 exact au0 H⟩
instance spec_PaceNew_ok   : FOK R (spec_PaceNew) 80 [] fun r => (gPace r, []) := ⟨fun {r} H => by
 unfold spec_PaceNew at H
 refine fw false 2 Try.func80 ?_
 exact au0 H⟩
instance spec_l6DrawPace_ok  {a1 : L1Cur} : FOK R (spec_l6DrawPace a1) 65 [gPL1Cur a1] fun r => (gPace r.1, [some [(cL eU r.2.b, none), (cI .i64 r.2.i, none), (cI .i64 r.2.h, none)]]) := ⟨fun {r} H => by
 unfold spec_l6DrawPace at H
 refine fw false 25 Try.func65 ?_
 exact au0 H⟩
instance spec_l6DrawMetric_ok  {a1 : L1Cur} : FOK R (spec_l6DrawMetric a1) 46 [gPL1Cur a1] fun r => (gMetric r.1, [some [(cL eU r.2.b, none), (cI .i64 r.2.i, none), (cI .i64 r.2.h, none)]]) := ⟨fun {r} H => by
 unfold spec_l6DrawMetric at H
 refine fw false 17 Try.func46 ?_
 exact au0 H⟩
instance spec_l3DrawText_ok  {a1 : L1Cur} : FOK R (spec_l3DrawText a1) 66 [gPL1Cur a1] fun r => (.c (cS r.1) none, [some [(cL eU r.2.b, none), (cI .i64 r.2.i, none), (cI .i64 r.2.h, none)]]) := ⟨fun {r} H => by
 unfold spec_l3DrawText at H
 refine fw false 6 Try.func66 ?_
 exact au0 H⟩
end Go.Pu
