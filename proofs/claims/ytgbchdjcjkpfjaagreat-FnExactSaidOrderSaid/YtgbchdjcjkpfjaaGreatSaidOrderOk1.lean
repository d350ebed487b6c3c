import Derived.Test.YtgbchdjcjkpfjaaGreatSaidOrderOk0
set_option linter.unusedVariables false
set_option linter.unusedSimpArgs false
set_option synthInstance.maxSize 1000000000
set_option maxRecDepth 20000
set_option maxHeartbeats 20000000
namespace Go.Pu
open Go Go.SX Go.Nt Go.Proofs
instance spec_MetricTree_ok  {a1 : Metric} : FOK R (spec_MetricTree a1) 97 [gMetric a1] fun r => (gNode_oo r, []) := ⟨fun {r} H => by
 unfold spec_MetricTree at H
 refine fw false 17 Tryz.func97 ?_
 refine s_ ?_
 refine W_lateLP [1, 2, 3, 4, 5, 6, 7, 8, 9, 10, 11, 12, 0, 13, 14] [3] (by kernel_rfl) (by kernel_rfl) (by kernel_rfl) (by decide +kernel) (by kernel_rfl) ?_; simp only [SX.clr,List.foldl,putT,st,ev,gt,hp,ofV,constT,intT,lm,hoist,renO,opAt,List.map_cons,List.map_nil,List.toList_toArray,List.getElem?_toArray,List.getElem?_cons_succ,List.getElem?_cons_zero,Option.getD_some,Option.map_none,Option.map_some]; refine WL_c rfl ?_
 exact au0 H⟩
instance spec_l7Metrics_ok  {a1 : List Metric} : FOK R (spec_l7Metrics a1) 60 [.c (cL enc_Metric a1) none] fun r => (gNode_oo r, []) := ⟨fun {r} H => by
 unfold spec_l7Metrics at H
 refine fw false 23 Tryz.func60 ?_
 refine s_ ?_
 obtain ⟨t7, ht7, H⟩ := bnd H
 refine loop_ruleM (ls := []) 0 (fun (i : Nat) (t7 : List RNode) => match i with | 0 => ⟨[.no, .no, .bp 0 0, .bp 1 0], [some [qi 0, qi 0, qs [], .nil, .nil], some [qi 4, qi 0, qs [], .nil, .nil]], []⟩ | _ => ⟨[.no, .no, .bp 0 0, .bp 1 0], [some [qi 0, qi 0, qs [], .nil, .nil], some [qi 4, qi 0, qs [], .nil, .row 0]], [rr 5 eR_Node t7 true]⟩) (fun (i : Nat) t => match i with | 0 => t7 = t ∧ t = [] | 1 => t7 = t | _ => False) ⟨[.c (cL enc_Metric a1), .no, .bp 0 0, .bp 1 0, qi 0], [some [qi 0, qi 0, qs [], .nil, .nil], some [qi 4, qi 0, qs [], .nil, .nil]], []⟩ mO lE ?_ ?_
 ·
  intro i t1 hp
  rcases i with _ | _ | i
  ·
   obtain ⟨rfl, hz_t7_0⟩ := hp
   refine s_ ?_
   obtain rfl := Option.some.inj H
   exact told5 rfl rfl rfl rfl rfl (by simp only [hz_t7_0]; try rfl)
  ·
   obtain rfl := hp
   exact au0 H
  ·
   exact hp.elim
 ·
  intro V1 hV1 hW1 hX1
  refine (spec_l7Metrics.l0.partial_correctness a1 (fun v2 v3 s' => s' = t7 → (v3 = [] → V1 ⟨[.c (cL enc_Metric a1), .no, .bp 0 0, .bp 1 0, qi v2], [some [qi 0, qi 0, qs [], .nil, .nil], some [qi 4, qi 0, qs [], .nil, .nil]], []⟩) ∧ (V1 ⟨[.c (cL enc_Metric a1), .no, .bp 0 0, .bp 1 0, qi v2], [some [qi 0, qi 0, qs [], .nil, .nil], some [qi 4, qi 0, qs [], .nil, .row 0]], [rr 5 eR_Node v3 true]⟩)) ?_ _ _ _ ht7 rfl).1 rfl
  intro l0 IH1 v2 v3 s' H1 e
  subst e
  refine ⟨?_, ?_⟩
  ·
   intro hn_v3
   refine hV1 _ ?_
   have J1a := fun {v2 v3 τ} h n0 l => hW1 _ τ ((IH1 v2 v3 _ h rfl).1 n0) l
   have J1b := fun {v2 v3 τ} h l => hW1 _ τ ((IH1 v2 v3 _ h rfl).2) l
   exact au H1 (aL @J1b (hX1 0) (aA H trivial))
  ·
   skip
   refine hV1 _ ?_
   have J1a := fun {v2 v3 τ} h n0 l => hW1 _ τ ((IH1 v2 v3 _ h rfl).1 n0) l
   have J1b := fun {v2 v3 τ} h l => hW1 _ τ ((IH1 v2 v3 _ h rfl).2) l
   exact au H1 (aL @J1b (hX1 1) (aA H trivial))⟩
instance spec_SpanText_ok  {a1 : Int} : FOK R (spec_SpanText a1) 98 [.c (cI .i64 a1) none] fun r => (.c (cS r) none, []) := ⟨fun {r} H => by
 unfold spec_SpanText at H
 refine fw false 34 Tryz.func98 ?_
 exact au0 H⟩
instance spec_PaceTree_ok  {a1 : Pace} : FOK R (spec_PaceTree a1) 61 [gPace a1] fun r => (gNode_oo r, []) := ⟨fun {r} H => by
 unfold spec_PaceTree at H
 refine fw false 20 Tryz.func61 ?_
 refine s_ ?_
 refine W_lateLP [1, 2, 3, 4, 5, 6, 7, 8, 9, 10, 11, 12, 13, 14, 15, 0, 16, 17] [3] (by kernel_rfl) (by kernel_rfl) (by kernel_rfl) (by decide +kernel) (by kernel_rfl) ?_; simp only [SX.clr,List.foldl,putT,st,ev,gt,hp,ofV,constT,intT,lm,hoist,renO,opAt,List.map_cons,List.map_nil,List.toList_toArray,List.getElem?_toArray,List.getElem?_cons_succ,List.getElem?_cons_zero,Option.getD_some,Option.map_none,Option.map_some]; refine WL_c rfl ?_
 exact au0 H⟩
instance spec_l7Notes_ok  {a1 : List Note} : FOK R (spec_l7Notes a1) 62 [.c (cL enc_Note a1) none] fun r => (gNode_oo r, []) := ⟨fun {r} H => by
 unfold spec_l7Notes at H
 refine fw false 26 Tryz.func62 ?_
 refine s_ ?_
 obtain ⟨t12, ht12, H⟩ := bnd H
 refine loop_ruleM (ls := []) 0 (fun (i : Nat) (t12 : Int × Int × Str × List Str × List RNode) => match i with | 0 => ⟨[.no, .no, .bp 0 0, .bp 1 0], [some [qi 0, qi 0, qs [], .nil, .nil], some [qi t12.1, qi t12.2.1, qs t12.2.2.1, .nil, .nil]], []⟩ | _ => ⟨[.no, .no, .bp 0 0, .bp 1 0], [some [qi 0, qi 0, qs [], .nil, .nil], some [qi t12.1, qi t12.2.1, qs t12.2.2.1, .row 0, .row 1]], [rr 1 eS t12.2.2.2.1 true, rr 5 eR_Node t12.2.2.2.2 true]⟩) (fun (i : Nat) t => match i with | 0 => t12 = t ∧ t.2.2.2.1 = [] ∧ t.2.2.2.2 = [] | 1 => t12 = t | _ => False) ⟨[.c (cL enc_Note a1), .no, .bp 0 0, .bp 1 0, qi 0], [some [qi 0, qi 0, qs [], .nil, .nil], some [qi 5, qi 0, qs [], .nil, .nil]], []⟩ mO lE ?_ ?_
 ·
  intro i t1 hp
  rcases i with _ | _ | i
  ·
   obtain ⟨rfl, hz_t12_3, hz_t12_4⟩ := hp
   refine s_ ?_
   obtain rfl := Option.some.inj H
   exact told5 rfl rfl rfl rfl rfl (by simp only [hz_t12_3, hz_t12_4]; try rfl)
  ·
   obtain rfl := hp
   exact au0 H
  ·
   exact hp.elim
 ·
  intro V1 hV1 hW1 hX1
  refine (spec_l7Notes.l0.partial_correctness a1 (fun v2 v3 v4 v5 v6 v7 s' => s' = t12 → (v6 = [] → v7 = [] → V1 ⟨[.c (cL enc_Note a1), .no, .bp 0 0, .bp 1 0, qi v2], [some [qi 0, qi 0, qs [], .nil, .nil], some [qi v3, qi v4, qs v5, .nil, .nil]], []⟩) ∧ (V1 ⟨[.c (cL enc_Note a1), .no, .bp 0 0, .bp 1 0, qi v2], [some [qi 0, qi 0, qs [], .nil, .nil], some [qi v3, qi v4, qs v5, .row 0, .row 1]], [rr 1 eS v6 true, rr 5 eR_Node v7 true]⟩)) ?_ _ _ _ _ _ _ _ ht12 rfl).1 rfl rfl
  intro l0 IH1 v2 v3 v4 v5 v6 v7 s' H1 e
  subst e
  refine ⟨?_, ?_⟩
  ·
   intro hn_v6 hn_v7
   refine hV1 _ ?_
   have J1a := fun {v2 v3 v4 v5 v6 v7 τ} h n0 n1 l => hW1 _ τ ((IH1 v2 v3 v4 v5 v6 v7 _ h rfl).1 n0 n1) l
   have J1b := fun {v2 v3 v4 v5 v6 v7 τ} h l => hW1 _ τ ((IH1 v2 v3 v4 v5 v6 v7 _ h rfl).2) l
   refine s_ ?_
   refine W_ite rfl H1 (fun hc H1 => ?_) (fun hc H1 => ?_)
   ·
    refine s_ ?_
    obtain ⟨x8, hx8, H1⟩ := bnd H1
    refine b_ hx8 ?_
    refine s_ ?_
    obtain ⟨x9, hx9, H1⟩ := bnd H1
    refine b_ hx9 ?_
    refine s_ ?_
    obtain ⟨x10, hx10, H1⟩ := bnd H1
    refine b_ hx10 ?_
    obtain ⟨x11, hx11, H1⟩ := bnd H1
    refine WL_op (x := .ag [qi x11.Kind, qi x11.N, qs x11.S, .row 2, .row 3]) (σ' := ⟨[], [some [qi 0, qi 0, qs [], .nil, .nil], some [qi v3, qi v4, qs v5, .nil, .nil]], [rr 1 eS x10.Keys false, rr 5 eR_Node x10.Kids false, rr 1 eS x11.Keys true, rr 5 eR_Node x11.Kids true]⟩) rfl rfl rfl (ev_callG (al := [.ag [qi v3, qi v4, qs v5, .nil, .nil], qs x8.Key, .ag [qi x10.Kind, qi x10.N, qs x10.S, .row 0, .row 1]]) (ls := []) (okz hx11 rfl) rfl rfl rfl rfl rfl (by decide) rfl (by rw [hn_v6, hn_v7]; rfl) rfl rfl rfl rfl) (n1 ?_)
    exact au H1 (aL @J1b hX1 (aA H trivial))
   ·
    exact au H1 (aL @J1a (hX1 0) (aA H trivial))
  ·
   skip
   refine hV1 _ ?_
   have J1a := fun {v2 v3 v4 v5 v6 v7 τ} h n0 n1 l => hW1 _ τ ((IH1 v2 v3 v4 v5 v6 v7 _ h rfl).1 n0 n1) l
   have J1b := fun {v2 v3 v4 v5 v6 v7 τ} h l => hW1 _ τ ((IH1 v2 v3 v4 v5 v6 v7 _ h rfl).2) l
   exact au H1 (aL @J1b (hX1 1) (aA H trivial))⟩
instance spec_FullTree_ok  {a1 : Order} : FOK R (spec_FullTree a1) 33 [gOrder a1] fun r => (gNode_oo r, []) := ⟨fun {r} H => by
 unfold spec_FullTree at H
 refine fw false 23 Tryz.func33 ?_
 refine s_ ?_
 obtain ⟨x2, hx2, H⟩ := bnd H
 refine b_ hx2 ?_
 refine s_ ?_
 refine W_ite rfl H (fun hc H => ?_) (fun hc H => ?_)
 ·
  exact au0 H
 ·
  refine s_ ?_
  refine W_lateL [3] (by kernel_rfl) (by decide +kernel) rfl ?_; refine WL_c rfl ?_; simp only [SX.clr,List.foldl,putT,st,ev,gt,hp,ofV,constT,intT,lm]
  exact au0 H⟩
instance spec_PaceNew_ok   : FOK R (spec_PaceNew) 99 [] fun r => (gPace r, []) := ⟨fun {r} H => by
 unfold spec_PaceNew at H
 refine fw false 2 Tryz.func99 ?_
 exact au0 H⟩
instance spec_l1Max_ok  {a1 : Int} {a2 : Int} : FOK R (spec_l1Max a1 a2) 122 [.c (cI .i64 a1) none, .c (cI .i64 a2) none] fun r => (.c (cI .i64 r) none, []) := ⟨fun {r} H => by
 unfold spec_l1Max at H
 refine fw false 10 Tryz.func122 ?_
 exact au0 H⟩
instance spec_l3Deep_F_ok {rc47 : Node → Option (Int)} [hrc47 : ∀ {a1 : Node}, FOK R (rc47 a1) 89 [gNode a1] fun r => (.c (cI .i64 r) none, [])] {a1 : Node} : FOK R (spec_l3Deep_F rc47 a1) 89 [gNode a1] fun r => (.c (cI .i64 r) none, []) := ⟨fun {r} H => by
 unfold spec_l3Deep_F at H
 refine fw false 22 Tryz.func89 ?_
 refine s_ ?_
 obtain ⟨t8, ht8, H⟩ := bnd H
 refine loop_rule (ls := []) 0 (fun t8 : Int => ⟨[.no, .no, .no, qi t8], [], []⟩) (fun t => t8 = t) ⟨[.no, .bp 0 0, .no, qi 0, qi 0], [some [qi a1.Kind, qi a1.N, qs a1.S, .c (cL eS a1.Keys), .c (cL eR_Node a1.Kids)]], []⟩ mO lE ?_ ?_
 ·
  rintro t1 rfl
  exact au0 H
 ·
  intro V1 hV1 hW1 hX1
  refine (spec_l3Deep.l0.partial_correctness rc47 a1 (fun v2 v3 s' => s' = t8 → (V1 ⟨[.no, .bp 0 0, .no, qi v2, qi v3], [some [qi a1.Kind, qi a1.N, qs a1.S, .c (cL eS a1.Keys), .c (cL eR_Node a1.Kids)]], []⟩)) ?_ _ _ _ ht8 rfl)
  intro l0 IH1 v2 v3 s' H1 e
  subst e
  refine hV1 _ ?_
  have J1a := fun {v2 v3 τ} h l => hW1 _ τ ((IH1 v2 v3 _ h rfl)) l
  exact au H1 (aL @J1a hX1 (aA H trivial))⟩
theorem spec_l3Deep_n_ok : ∀ (k : Nat) {a1 : Node} {r : Int}, spec_l3Deep_n k a1 = some r → R 89 [gNode a1] = some ((fun r => (.c (cI .i64 r) none, [])) r)
  | 0, _, _, h => by simp [spec_l3Deep_n] at h
  | k + 1, _, _, h => (spec_l3Deep_F_ok (hrc47 := ⟨fun h => spec_l3Deep_n_ok k h⟩)).ok h
instance spec_l3Deep_ok {a1 : Node} : FOK R (spec_l3Deep a1) 89 [gNode a1] fun r => (.c (cI .i64 r) none, []) := ⟨fun {r} H => by
 obtain ⟨k, hk⟩ := Nt.lim_ex H
 exact spec_l3Deep_n_ok k (hk k (Nat.le_refl k))⟩
instance spec_l3Size_F_ok {rc49 : Node → Option (Int)} [hrc49 : ∀ {a1 : Node}, FOK R (rc49 a1) 90 [gNode a1] fun r => (.c (cI .i64 r) none, [])] {a1 : Node} : FOK R (spec_l3Size_F rc49 a1) 90 [gNode a1] fun r => (.c (cI .i64 r) none, []) := ⟨fun {r} H => by
 unfold spec_l3Size_F at H
 refine fw false 21 Tryz.func90 ?_
 refine s_ ?_
 obtain ⟨t7, ht7, H⟩ := bnd H
 refine loop_rule (ls := []) 0 (fun t7 : Int => ⟨[.no, .no, .no, qi t7], [], []⟩) (fun t => t7 = t) ⟨[.no, .bp 0 0, .no, qi 1, qi 0], [some [qi a1.Kind, qi a1.N, qs a1.S, .c (cL eS a1.Keys), .c (cL eR_Node a1.Kids)]], []⟩ mO lE ?_ ?_
 ·
  rintro t1 rfl
  exact au0 H
 ·
  intro V1 hV1 hW1 hX1
  refine (spec_l3Size.l0.partial_correctness rc49 a1 (fun v2 v3 s' => s' = t7 → (V1 ⟨[.no, .bp 0 0, .no, qi v2, qi v3], [some [qi a1.Kind, qi a1.N, qs a1.S, .c (cL eS a1.Keys), .c (cL eR_Node a1.Kids)]], []⟩)) ?_ _ _ _ ht7 rfl)
  intro l0 IH1 v2 v3 s' H1 e
  subst e
  refine hV1 _ ?_
  have J1a := fun {v2 v3 τ} h l => hW1 _ τ ((IH1 v2 v3 _ h rfl)) l
  exact au H1 (aL @J1a hX1 (aA H trivial))⟩
theorem spec_l3Size_n_ok : ∀ (k : Nat) {a1 : Node} {r : Int}, spec_l3Size_n k a1 = some r → R 90 [gNode a1] = some ((fun r => (.c (cI .i64 r) none, [])) r)
  | 0, _, _, h => by simp [spec_l3Size_n] at h
  | k + 1, _, _, h => (spec_l3Size_F_ok (hrc49 := ⟨fun h => spec_l3Size_n_ok k h⟩)).ok h
instance spec_l3Size_ok {a1 : Node} : FOK R (spec_l3Size a1) 90 [gNode a1] fun r => (.c (cI .i64 r) none, []) := ⟨fun {r} H => by
 obtain ⟨k, hk⟩ := Nt.lim_ex H
 exact spec_l3Size_n_ok k (hk k (Nat.le_refl k))⟩
instance spec_l3Leaf_ok  {a1 : Node} : FOK R (spec_l3Leaf a1) 123 [gNode a1] fun r => (.c (cB r) none, []) := ⟨fun {r} H => by
 unfold spec_l3Leaf at H
 refine fw false 55 Tryz.func123 ?_
 exact au0 H⟩
instance spec_l3Keys_ok  {a1 : List Str} : FOK R (spec_l3Keys a1) 124 [.c (cL eS a1) none] fun r => (.c (cB r) none, []) := ⟨fun {r} H => by
 unfold spec_l3Keys at H
 refine fw false 32 Tryz.func124 ?_
 refine s_ ?_
 obtain ⟨s8, hs8, H⟩ := bnd H
 refine loop_rule (ls := []) 0 (fun t7 : Unit => ⟨[], [], []⟩) (fun t => s8 = .inr t) ⟨[.c (cL eS a1), .no, .no, qi 0], [], []⟩ mO lE ?_ ?_
 ·
  rintro t7 rfl
  exact au0 H
 ·
  intro V1 hV1 hW1 hX1
  refine (spec_l3Keys.l0.partial_correctness a1 (fun v2 s' => s' = s8 → (V1 ⟨[.c (cL eS a1), .no, .no, qi v2], [], []⟩)) ?_ _ _ hs8 rfl)
  intro l0 IH1 v2 s' H1 e
  subst e
  refine hV1 _ ?_
  have J1a := fun {v2 τ} h l => hW1 _ τ ((IH1 v2 _ h rfl)) l
  exact au H1 (aL @J1a hX1 (aA H trivial))⟩
instance spec_l3Right_F_ok {rc50 : Node → Option (Bool)} [hrc50 : ∀ {a1 : Node}, FOK R (rc50 a1) 91 [gNode a1] fun r => (.c (cB r) none, [])] {a1 : Node} : FOK R (spec_l3Right_F rc50 a1) 91 [gNode a1] fun r => (.c (cB r) none, []) := ⟨fun {r} H => by
 unfold spec_l3Right_F at H
 refine fw false 67 Tryz.func91 ?_
 refine s_ ?_
 refine WO_iA H (fun hc H => ?_) (fun hc H => ?_)
 ·
  refine s_ ?_
  refine W_ite rfl H (fun hc H => ?_) (fun hc H => ?_)
  ·
   exact au0 H
  ·
   refine s_ ?_
   refine WO_iA H (fun hc H => ?_) (fun hc H => ?_)
   ·
    exact au0 H
   ·
    refine s_ ?_
    refine WO_iA H (fun hc H => ?_) (fun hc H => ?_)
    ·
     exact au0 H
    ·
     refine s_ ?_
     refine WO_iA H (fun hc H => ?_) (fun hc H => ?_)
     ·
      refine s_ ?_
      refine WO_iA H (fun hc H => ?_) (fun hc H => ?_)
      ·
       exact au0 H
      ·
       refine s_ ?_
       refine WO_iA H (fun hc H => ?_) (fun hc H => ?_)
       ·
        refine s_ ?_
        refine WO_iA H (fun hc H => ?_) (fun hc H => ?_)
        ·
         exact au0 H
        ·
         refine s_ ?_
         obtain ⟨x3, hx3, H⟩ := bnd H
         refine b_ hx3 ?_
         refine s_ ?_
         refine W_ite rfl H (fun hc H => ?_) (fun hc H => ?_)
         ·
          exact au0 H
         ·
          refine s_ ?_
          obtain ⟨s9, hs9, H⟩ := bnd H
          refine loop_rule (ls := []) 0 (fun t8 : Unit => ⟨[], [], []⟩) (fun t => s9 = .inr t) ⟨[.no, .bp 0 0, .no, qi 0], [some [qi a1.Kind, qi a1.N, qs a1.S, .c (cL eS a1.Keys), .c (cL eR_Node a1.Kids)]], []⟩ mO lE ?_ ?_
          ·
           rintro t8 rfl
           exact au0 H
          ·
           intro V1 hV1 hW1 hX1
           refine (spec_l3Right.l0.partial_correctness rc50 a1 (fun v4 s' => s' = s9 → (V1 ⟨[.no, .bp 0 0, .no, qi v4], [some [qi a1.Kind, qi a1.N, qs a1.S, .c (cL eS a1.Keys), .c (cL eR_Node a1.Kids)]], []⟩)) ?_ _ _ hs9 rfl)
           intro l0 IH1 v4 s' H1 e
           subst e
           refine hV1 _ ?_
           have J1a := fun {v4 τ} h l => hW1 _ τ ((IH1 v4 _ h rfl)) l
           exact au H1 (aL @J1a hX1 (aA H trivial))
       ·
        refine s_ ?_
        obtain ⟨s15, hs15, H⟩ := bnd H
        refine loop_rule (ls := []) 0 (fun t14 : Unit => ⟨[], [], []⟩) (fun t => s15 = .inr t) ⟨[.no, .bp 0 0, .no, qi 0], [some [qi a1.Kind, qi a1.N, qs a1.S, .c (cL eS a1.Keys), .c (cL eR_Node a1.Kids)]], []⟩ mO lE ?_ ?_
        ·
         rintro t14 rfl
         exact au0 H
        ·
         intro V1 hV1 hW1 hX1
         refine (spec_l3Right.l1.partial_correctness rc50 a1 (fun v10 s' => s' = s15 → (V1 ⟨[.no, .bp 0 0, .no, qi v10], [some [qi a1.Kind, qi a1.N, qs a1.S, .c (cL eS a1.Keys), .c (cL eR_Node a1.Kids)]], []⟩)) ?_ _ _ hs15 rfl)
         intro l0 IH1 v10 s' H1 e
         subst e
         refine hV1 _ ?_
         have J1a := fun {v10 τ} h l => hW1 _ τ ((IH1 v10 _ h rfl)) l
         exact au H1 (aL @J1a hX1 (aA H trivial))
     ·
      refine s_ ?_
      refine WO_iA H (fun hc H => ?_) (fun hc H => ?_)
      ·
       refine s_ ?_
       refine WO_iA H (fun hc H => ?_) (fun hc H => ?_)
       ·
        exact au0 H
       ·
        refine s_ ?_
        obtain ⟨x16, hx16, H⟩ := bnd H
        refine b_ hx16 ?_
        refine s_ ?_
        refine W_ite rfl H (fun hc H => ?_) (fun hc H => ?_)
        ·
         exact au0 H
        ·
         refine s_ ?_
         obtain ⟨s22, hs22, H⟩ := bnd H
         refine loop_rule (ls := []) 0 (fun t21 : Unit => ⟨[], [], []⟩) (fun t => s22 = .inr t) ⟨[.no, .bp 0 0, .no, qi 0], [some [qi a1.Kind, qi a1.N, qs a1.S, .c (cL eS a1.Keys), .c (cL eR_Node a1.Kids)]], []⟩ mO lE ?_ ?_
         ·
          rintro t21 rfl
          exact au0 H
         ·
          intro V1 hV1 hW1 hX1
          refine (spec_l3Right.l2.partial_correctness rc50 a1 (fun v17 s' => s' = s22 → (V1 ⟨[.no, .bp 0 0, .no, qi v17], [some [qi a1.Kind, qi a1.N, qs a1.S, .c (cL eS a1.Keys), .c (cL eR_Node a1.Kids)]], []⟩)) ?_ _ _ hs22 rfl)
          intro l0 IH1 v17 s' H1 e
          subst e
          refine hV1 _ ?_
          have J1a := fun {v17 τ} h l => hW1 _ τ ((IH1 v17 _ h rfl)) l
          exact au H1 (aL @J1a hX1 (aA H trivial))
      ·
       refine s_ ?_
       obtain ⟨s28, hs28, H⟩ := bnd H
       refine loop_rule (ls := []) 0 (fun t27 : Unit => ⟨[], [], []⟩) (fun t => s28 = .inr t) ⟨[.no, .bp 0 0, .no, qi 0], [some [qi a1.Kind, qi a1.N, qs a1.S, .c (cL eS a1.Keys), .c (cL eR_Node a1.Kids)]], []⟩ mO lE ?_ ?_
       ·
        rintro t27 rfl
        exact au0 H
       ·
        intro V1 hV1 hW1 hX1
        refine (spec_l3Right.l3.partial_correctness rc50 a1 (fun v23 s' => s' = s28 → (V1 ⟨[.no, .bp 0 0, .no, qi v23], [some [qi a1.Kind, qi a1.N, qs a1.S, .c (cL eS a1.Keys), .c (cL eR_Node a1.Kids)]], []⟩)) ?_ _ _ hs28 rfl)
        intro l0 IH1 v23 s' H1 e
        subst e
        refine hV1 _ ?_
        have J1a := fun {v23 τ} h l => hW1 _ τ ((IH1 v23 _ h rfl)) l
        exact au H1 (aL @J1a hX1 (aA H trivial))
 ·
  refine s_ ?_
  refine WO_iA H (fun hc H => ?_) (fun hc H => ?_)
  ·
   exact au0 H
  ·
   refine s_ ?_
   refine WO_iA H (fun hc H => ?_) (fun hc H => ?_)
   ·
    exact au0 H
   ·
    refine s_ ?_
    refine WO_iA H (fun hc H => ?_) (fun hc H => ?_)
    ·
     refine s_ ?_
     refine WO_iA H (fun hc H => ?_) (fun hc H => ?_)
     ·
      exact au0 H
     ·
      refine s_ ?_
      refine WO_iA H (fun hc H => ?_) (fun hc H => ?_)
      ·
       refine s_ ?_
       refine WO_iA H (fun hc H => ?_) (fun hc H => ?_)
       ·
        exact au0 H
       ·
        refine s_ ?_
        obtain ⟨x29, hx29, H⟩ := bnd H
        refine b_ hx29 ?_
        refine s_ ?_
        refine W_ite rfl H (fun hc H => ?_) (fun hc H => ?_)
        ·
         exact au0 H
        ·
         refine s_ ?_
         obtain ⟨s35, hs35, H⟩ := bnd H
         refine loop_rule (ls := []) 0 (fun t34 : Unit => ⟨[], [], []⟩) (fun t => s35 = .inr t) ⟨[.no, .bp 0 0, .no, qi 0], [some [qi a1.Kind, qi a1.N, qs a1.S, .c (cL eS a1.Keys), .c (cL eR_Node a1.Kids)]], []⟩ mO lE ?_ ?_
         ·
          rintro t34 rfl
          exact au0 H
         ·
          intro V1 hV1 hW1 hX1
          refine (spec_l3Right.l4.partial_correctness rc50 a1 (fun v30 s' => s' = s35 → (V1 ⟨[.no, .bp 0 0, .no, qi v30], [some [qi a1.Kind, qi a1.N, qs a1.S, .c (cL eS a1.Keys), .c (cL eR_Node a1.Kids)]], []⟩)) ?_ _ _ hs35 rfl)
          intro l0 IH1 v30 s' H1 e
          subst e
          refine hV1 _ ?_
          have J1a := fun {v30 τ} h l => hW1 _ τ ((IH1 v30 _ h rfl)) l
          exact au H1 (aL @J1a hX1 (aA H trivial))
      ·
       refine s_ ?_
       obtain ⟨s41, hs41, H⟩ := bnd H
       refine loop_rule (ls := []) 0 (fun t40 : Unit => ⟨[], [], []⟩) (fun t => s41 = .inr t) ⟨[.no, .bp 0 0, .no, qi 0], [some [qi a1.Kind, qi a1.N, qs a1.S, .c (cL eS a1.Keys), .c (cL eR_Node a1.Kids)]], []⟩ mO lE ?_ ?_
       ·
        rintro t40 rfl
        exact au0 H
       ·
        intro V1 hV1 hW1 hX1
        refine (spec_l3Right.l5.partial_correctness rc50 a1 (fun v36 s' => s' = s41 → (V1 ⟨[.no, .bp 0 0, .no, qi v36], [some [qi a1.Kind, qi a1.N, qs a1.S, .c (cL eS a1.Keys), .c (cL eR_Node a1.Kids)]], []⟩)) ?_ _ _ hs41 rfl)
        intro l0 IH1 v36 s' H1 e
        subst e
        refine hV1 _ ?_
        have J1a := fun {v36 τ} h l => hW1 _ τ ((IH1 v36 _ h rfl)) l
        exact au H1 (aL @J1a hX1 (aA H trivial))
    ·
     refine s_ ?_
     refine WO_iA H (fun hc H => ?_) (fun hc H => ?_)
     ·
      refine s_ ?_
      refine WO_iA H (fun hc H => ?_) (fun hc H => ?_)
      ·
       exact au0 H
      ·
       refine s_ ?_
       obtain ⟨x42, hx42, H⟩ := bnd H
       refine b_ hx42 ?_
       refine s_ ?_
       refine W_ite rfl H (fun hc H => ?_) (fun hc H => ?_)
       ·
        exact au0 H
       ·
        refine s_ ?_
        obtain ⟨s48, hs48, H⟩ := bnd H
        refine loop_rule (ls := []) 0 (fun t47 : Unit => ⟨[], [], []⟩) (fun t => s48 = .inr t) ⟨[.no, .bp 0 0, .no, qi 0], [some [qi a1.Kind, qi a1.N, qs a1.S, .c (cL eS a1.Keys), .c (cL eR_Node a1.Kids)]], []⟩ mO lE ?_ ?_
        ·
         rintro t47 rfl
         exact au0 H
        ·
         intro V1 hV1 hW1 hX1
         refine (spec_l3Right.l6.partial_correctness rc50 a1 (fun v43 s' => s' = s48 → (V1 ⟨[.no, .bp 0 0, .no, qi v43], [some [qi a1.Kind, qi a1.N, qs a1.S, .c (cL eS a1.Keys), .c (cL eR_Node a1.Kids)]], []⟩)) ?_ _ _ hs48 rfl)
         intro l0 IH1 v43 s' H1 e
         subst e
         refine hV1 _ ?_
         have J1a := fun {v43 τ} h l => hW1 _ τ ((IH1 v43 _ h rfl)) l
         exact au H1 (aL @J1a hX1 (aA H trivial))
     ·
      refine s_ ?_
      obtain ⟨s54, hs54, H⟩ := bnd H
      refine loop_rule (ls := []) 0 (fun t53 : Unit => ⟨[], [], []⟩) (fun t => s54 = .inr t) ⟨[.no, .bp 0 0, .no, qi 0], [some [qi a1.Kind, qi a1.N, qs a1.S, .c (cL eS a1.Keys), .c (cL eR_Node a1.Kids)]], []⟩ mO lE ?_ ?_
      ·
       rintro t53 rfl
       exact au0 H
      ·
       intro V1 hV1 hW1 hX1
       refine (spec_l3Right.l7.partial_correctness rc50 a1 (fun v49 s' => s' = s54 → (V1 ⟨[.no, .bp 0 0, .no, qi v49], [some [qi a1.Kind, qi a1.N, qs a1.S, .c (cL eS a1.Keys), .c (cL eR_Node a1.Kids)]], []⟩)) ?_ _ _ hs54 rfl)
       intro l0 IH1 v49 s' H1 e
       subst e
       refine hV1 _ ?_
       have J1a := fun {v49 τ} h l => hW1 _ τ ((IH1 v49 _ h rfl)) l
       exact au H1 (aL @J1a hX1 (aA H trivial))⟩
theorem spec_l3Right_n_ok : ∀ (k : Nat) {a1 : Node} {r : Bool}, spec_l3Right_n k a1 = some r → R 91 [gNode a1] = some ((fun r => (.c (cB r) none, [])) r)
  | 0, _, _, h => by simp [spec_l3Right_n] at h
  | k + 1, _, _, h => (spec_l3Right_F_ok (hrc50 := ⟨fun h => spec_l3Right_n_ok k h⟩)).ok h
instance spec_l3Right_ok {a1 : Node} : FOK R (spec_l3Right a1) 91 [gNode a1] fun r => (.c (cB r) none, []) := ⟨fun {r} H => by
 obtain ⟨k, hk⟩ := Nt.lim_ex H
 exact spec_l3Right_n_ok k (hk k (Nat.le_refl k))⟩
instance spec_TreeOk_ok  {a1 : Node} : FOK R (spec_TreeOk a1) 53 [gNode a1] fun r => (.c (cB r) none, []) := ⟨fun {r} H => by
 unfold spec_TreeOk at H
 refine fw false 15 Tryz.func53 ?_
 exact au0 H⟩
instance spec_Quote_ok  {a1 : Str} : FOK R (spec_Quote a1) 93 [.c (cS a1) none] fun r => (.c (cS r) none, []) := ⟨fun {r} H => by
 unfold spec_Quote at H
 refine fw false 38 Tryz.func93 ?_
 refine s_ ?_
 obtain ⟨x2, hx2, H⟩ := bnd H
 refine b_ hx2 ?_
 refine s_ ?_
 refine W_ite rfl H (fun hc H => ?_) (fun hc H => ?_)
 ·
  exact au0 H
 ·
  refine s_ ?_
  obtain ⟨t15, ht15, H⟩ := bnd H
  refine loop_rule (ls := []) 0 (fun t15 : List Int => ⟨[.no, .no, .no, .row 0], [], [rr 1 eU t15 true]⟩) (fun t => t15 = t) ⟨[qs a1, .no, .no, .row 0, qi 0], [], [rr 1 eU ([34] : List Int) true]⟩ mO lE ?_ ?_
  ·
   rintro t1 rfl
   exact au0 H
  ·
   intro V1 hV1 hW1 hX1
   refine (spec_Quote.l0.partial_correctness a1 (fun v3 v4 s' => s' = t15 → (V1 ⟨[qs a1, .no, .no, .row 0, qi v3], [], [rr 1 eU v4 true]⟩)) ?_ _ _ _ ht15 rfl)
   intro l0 IH1 v3 v4 s' H1 e
   subst e
   refine hV1 _ ?_
   have J1a := fun {v3 v4 τ} h l => hW1 _ τ ((IH1 v3 v4 _ h rfl)) l
   exact au H1 (aL @J1a hX1 (aA H trivial))⟩
end Go.Pu
