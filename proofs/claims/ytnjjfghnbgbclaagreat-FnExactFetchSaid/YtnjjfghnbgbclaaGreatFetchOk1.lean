import Derived.Test.YtnjjfghnbgbclaaGreatFetchOk0
set_option linter.unusedVariables false
set_option linter.unusedSimpArgs false
set_option synthInstance.maxSize 1000000000
set_option maxRecDepth 20000
set_option maxHeartbeats 20000000
namespace Go.Pu
open Go Go.SX Go.Nt Go.Proofs
instance spec_l7Notes_ok  {a1 : List Note} : FOK R (spec_l7Notes a1) 75 [.c (cL enc_Note a1) none] fun r => (gNode_oo r, []) := ⟨fun {r} H => by
 unfold spec_l7Notes at H
 refine fw false 26 Tryz.func75 ?_
 refine s_ ?_
 obtain ⟨t12, ht12, H⟩ := bnd H
 refine loop_ruleM (ls := []) 0 (fun (i : Nat) (t12 : Int × Int × Str × List Str × List RNode) => match i with | 0 => ⟨[.no, .no, .bp 0 0, .bp 1 0], [some [qi 0, qi 0, qs [], .nil, .nil], some [qi t12.1, qi t12.2.1, qs t12.2.2.1, .nil, .nil]], []⟩ | _ => ⟨[.no, .no, .bp 0 0, .bp 1 0], [some [qi 0, qi 0, qs [], .nil, .nil], some [qi t12.1, qi t12.2.1, qs t12.2.2.1, .row 0, .row 1]], [rr 1 eS t12.2.2.2.1 true, rr 5 eR_Node t12.2.2.2.2 true]⟩) (fun (i : Nat) t => match i with | 0 => t12 = t ∧ t.2.2.2.1 = [] ∧ t.2.2.2.2 = [] | 1 => t12 = t | _ => False) ⟨[.c (cL enc_Note a1), .no, .bp 0 0, .bp 1 0, qi 0], [some [qi 0, qi 0, qs [], .nil, .nil], some [qi 5, qi 0, qs [], .nil, .nil]], []⟩ mO lE ?_ ?_
 ·
  intro i t1 hp
  rcases i with _ | _ | i
  ·
   obtain ⟨rfl, hz_t12_3, hz_t12_4⟩ := hp
   refine s_ ?_
   obtain rfl := Option.some.inj H
   exact told5 rfl rfl rfl rfl rfl (by simp only [hz_t12_3, hz_t12_4]; try rfl)
  ·
   obtain rfl := hp
   exact au0 H
  ·
   exact hp.elim
 ·
  intro V1 hV1 hW1 hX1
  refine (spec_l7Notes.l0.partial_correctness a1 (fun v2 v3 v4 v5 v6 v7 s' => s' = t12 → (v6 = [] → v7 = [] → V1 ⟨[.c (cL enc_Note a1), .no, .bp 0 0, .bp 1 0, qi v2], [some [qi 0, qi 0, qs [], .nil, .nil], some [qi v3, qi v4, qs v5, .nil, .nil]], []⟩) ∧ (V1 ⟨[.c (cL enc_Note a1), .no, .bp 0 0, .bp 1 0, qi v2], [some [qi 0, qi 0, qs [], .nil, .nil], some [qi v3, qi v4, qs v5, .row 0, .row 1]], [rr 1 eS v6 true, rr 5 eR_Node v7 true]⟩)) ?_ _ _ _ _ _ _ _ ht12 rfl).1 rfl rfl
  intro l0 IH1 v2 v3 v4 v5 v6 v7 s' H1 e
  subst e
  refine ⟨?_, ?_⟩
  ·
   intro hn_v6 hn_v7
   refine hV1 _ ?_
   have J1a := fun {v2 v3 v4 v5 v6 v7 τ} h n0 n1 l => hW1 _ τ ((IH1 v2 v3 v4 v5 v6 v7 _ h rfl).1 n0 n1) l
   have J1b := fun {v2 v3 v4 v5 v6 v7 τ} h l => hW1 _ τ ((IH1 v2 v3 v4 v5 v6 v7 _ h rfl).2) l
   refine s_ ?_
   refine W_ite rfl H1 (fun hc H1 => ?_) (fun hc H1 => ?_)
   ·
    refine s_ ?_
    obtain ⟨x8, hx8, H1⟩ := bnd H1
    refine b_ hx8 ?_
    refine s_ ?_
    obtain ⟨x9, hx9, H1⟩ := bnd H1
    refine b_ hx9 ?_
    refine s_ ?_
    obtain ⟨x10, hx10, H1⟩ := bnd H1
    refine b_ hx10 ?_
    obtain ⟨x11, hx11, H1⟩ := bnd H1
    refine WL_op (x := .ag [qi x11.Kind, qi x11.N, qs x11.S, .row 2, .row 3]) (σ' := ⟨[], [some [qi 0, qi 0, qs [], .nil, .nil], some [qi v3, qi v4, qs v5, .nil, .nil]], [rr 1 eS x10.Keys false, rr 5 eR_Node x10.Kids false, rr 1 eS x11.Keys true, rr 5 eR_Node x11.Kids true]⟩) rfl rfl rfl (ev_callG (al := [.ag [qi v3, qi v4, qs v5, .nil, .nil], qs x8.Key, .ag [qi x10.Kind, qi x10.N, qs x10.S, .row 0, .row 1]]) (ls := []) (okz hx11 rfl) rfl rfl rfl rfl rfl (by decide) rfl (by rw [hn_v6, hn_v7]; rfl) rfl rfl rfl rfl) (n1 ?_)
    exact au H1 (aL @J1b hX1 (aA H trivial))
   ·
    exact au H1 (aL @J1a (hX1 0) (aA H trivial))
  ·
   skip
   refine hV1 _ ?_
   have J1a := fun {v2 v3 v4 v5 v6 v7 τ} h n0 n1 l => hW1 _ τ ((IH1 v2 v3 v4 v5 v6 v7 _ h rfl).1 n0 n1) l
   have J1b := fun {v2 v3 v4 v5 v6 v7 τ} h l => hW1 _ τ ((IH1 v2 v3 v4 v5 v6 v7 _ h rfl).2) l
   exact au H1 (aL @J1b (hX1 1) (aA H trivial))⟩
instance spec_FullTree_ok  {a1 : Order} : FOK R (spec_FullTree a1) 43 [gOrder a1] fun r => (gNode_oo r, []) := ⟨fun {r} H => by
 unfold spec_FullTree at H
 refine fw false 23 Tryz.func43 ?_
 refine s_ ?_
 obtain ⟨x2, hx2, H⟩ := bnd H
 refine b_ hx2 ?_
 refine s_ ?_
 refine W_ite rfl H (fun hc H => ?_) (fun hc H => ?_)
 ·
  exact au0 H
 ·
  refine s_ ?_
  refine W_lateL [3] (by kernel_rfl) (by decide +kernel) rfl ?_; refine WL_c rfl ?_; simp only [SX.clr,List.foldl,putT,st,ev,gt,hp,ofV,constT,intT,lm]
  exact au0 H⟩
instance spec_PaceNew_ok   : FOK R (spec_PaceNew) 121 [] fun r => (gPace r, []) := ⟨fun {r} H => by
 unfold spec_PaceNew at H
 refine fw false 2 Tryz.func121 ?_
 exact au0 H⟩
instance spec_l1Max_ok  {a1 : Int} {a2 : Int} : FOK R (spec_l1Max a1 a2) 148 [.c (cI .i64 a1) none, .c (cI .i64 a2) none] fun r => (.c (cI .i64 r) none, []) := ⟨fun {r} H => by
 unfold spec_l1Max at H
 refine fw false 10 Tryz.func148 ?_
 exact au0 H⟩
instance spec_l3Deep_F_ok {rc58 : Node → Option (Int)} [hrc58 : ∀ {a1 : Node}, FOK R (rc58 a1) 111 [gNode a1] fun r => (.c (cI .i64 r) none, [])] {a1 : Node} : FOK R (spec_l3Deep_F rc58 a1) 111 [gNode a1] fun r => (.c (cI .i64 r) none, []) := ⟨fun {r} H => by
 unfold spec_l3Deep_F at H
 refine fw false 22 Tryz.func111 ?_
 refine s_ ?_
 obtain ⟨t8, ht8, H⟩ := bnd H
 refine loop_rule (ls := []) 0 (fun t8 : Int => ⟨[.no, .no, .no, qi t8], [], []⟩) (fun t => t8 = t) ⟨[.no, .bp 0 0, .no, qi 0, qi 0], [some [qi a1.Kind, qi a1.N, qs a1.S, .c (cL eS a1.Keys), .c (cL eR_Node a1.Kids)]], []⟩ mO lE ?_ ?_
 ·
  rintro t1 rfl
  exact au0 H
 ·
  intro V1 hV1 hW1 hX1
  refine (spec_l3Deep.l0.partial_correctness rc58 a1 (fun v2 v3 s' => s' = t8 → (V1 ⟨[.no, .bp 0 0, .no, qi v2, qi v3], [some [qi a1.Kind, qi a1.N, qs a1.S, .c (cL eS a1.Keys), .c (cL eR_Node a1.Kids)]], []⟩)) ?_ _ _ _ ht8 rfl)
  intro l0 IH1 v2 v3 s' H1 e
  subst e
  refine hV1 _ ?_
  have J1a := fun {v2 v3 τ} h l => hW1 _ τ ((IH1 v2 v3 _ h rfl)) l
  exact au H1 (aL @J1a hX1 (aA H trivial))⟩
theorem spec_l3Deep_n_ok : ∀ (k : Nat) {a1 : Node} {r : Int}, spec_l3Deep_n k a1 = some r → R 111 [gNode a1] = some ((fun r => (.c (cI .i64 r) none, [])) r)
  | 0, _, _, h => by simp [spec_l3Deep_n] at h
  | k + 1, _, _, h => (spec_l3Deep_F_ok (hrc58 := ⟨fun h => spec_l3Deep_n_ok k h⟩)).ok h
instance spec_l3Deep_ok {a1 : Node} : FOK R (spec_l3Deep a1) 111 [gNode a1] fun r => (.c (cI .i64 r) none, []) := ⟨fun {r} H => by
 obtain ⟨k, hk⟩ := Nt.lim_ex H
 exact spec_l3Deep_n_ok k (hk k (Nat.le_refl k))⟩
instance spec_l3Size_F_ok {rc60 : Node → Option (Int)} [hrc60 : ∀ {a1 : Node}, FOK R (rc60 a1) 112 [gNode a1] fun r => (.c (cI .i64 r) none, [])] {a1 : Node} : FOK R (spec_l3Size_F rc60 a1) 112 [gNode a1] fun r => (.c (cI .i64 r) none, []) := ⟨fun {r} H => by
 unfold spec_l3Size_F at H
 refine fw false 21 Tryz.func112 ?_
 refine s_ ?_
 obtain ⟨t7, ht7, H⟩ := bnd H
 refine loop_rule (ls := []) 0 (fun t7 : Int => ⟨[.no, .no, .no, qi t7], [], []⟩) (fun t => t7 = t) ⟨[.no, .bp 0 0, .no, qi 1, qi 0], [some [qi a1.Kind, qi a1.N, qs a1.S, .c (cL eS a1.Keys), .c (cL eR_Node a1.Kids)]], []⟩ mO lE ?_ ?_
 ·
  rintro t1 rfl
  exact au0 H
 ·
  intro V1 hV1 hW1 hX1
  refine (spec_l3Size.l0.partial_correctness rc60 a1 (fun v2 v3 s' => s' = t7 → (V1 ⟨[.no, .bp 0 0, .no, qi v2, qi v3], [some [qi a1.Kind, qi a1.N, qs a1.S, .c (cL eS a1.Keys), .c (cL eR_Node a1.Kids)]], []⟩)) ?_ _ _ _ ht7 rfl)
  intro l0 IH1 v2 v3 s' H1 e
  subst e
  refine hV1 _ ?_
  have J1a := fun {v2 v3 τ} h l => hW1 _ τ ((IH1 v2 v3 _ h rfl)) l
  exact au H1 (aL @J1a hX1 (aA H trivial))⟩
theorem spec_l3Size_n_ok : ∀ (k : Nat) {a1 : Node} {r : Int}, spec_l3Size_n k a1 = some r → R 112 [gNode a1] = some ((fun r => (.c (cI .i64 r) none, [])) r)
  | 0, _, _, h => by simp [spec_l3Size_n] at h
  | k + 1, _, _, h => (spec_l3Size_F_ok (hrc60 := ⟨fun h => spec_l3Size_n_ok k h⟩)).ok h
instance spec_l3Size_ok {a1 : Node} : FOK R (spec_l3Size a1) 112 [gNode a1] fun r => (.c (cI .i64 r) none, []) := ⟨fun {r} H => by
 obtain ⟨k, hk⟩ := Nt.lim_ex H
 exact spec_l3Size_n_ok k (hk k (Nat.le_refl k))⟩
instance spec_l3Leaf_ok  {a1 : Node} : FOK R (spec_l3Leaf a1) 149 [gNode a1] fun r => (.c (cB r) none, []) := ⟨fun {r} H => by
 unfold spec_l3Leaf at H
 refine fw false 55 Tryz.func149 ?_
 exact au0 H⟩
instance spec_l3Keys_ok  {a1 : List Str} : FOK R (spec_l3Keys a1) 150 [.c (cL eS a1) none] fun r => (.c (cB r) none, []) := ⟨fun {r} H => by
 unfold spec_l3Keys at H
 refine fw false 32 Tryz.func150 ?_
 refine s_ ?_
 obtain ⟨s8, hs8, H⟩ := bnd H
 refine loop_rule (ls := []) 0 (fun t7 : Unit => ⟨[], [], []⟩) (fun t => s8 = .inr t) ⟨[.c (cL eS a1), .no, .no, qi 0], [], []⟩ mO lE ?_ ?_
 ·
  rintro t7 rfl
  exact au0 H
 ·
  intro V1 hV1 hW1 hX1
  refine (spec_l3Keys.l0.partial_correctness a1 (fun v2 s' => s' = s8 → (V1 ⟨[.c (cL eS a1), .no, .no, qi v2], [], []⟩)) ?_ _ _ hs8 rfl)
  intro l0 IH1 v2 s' H1 e
  subst e
  refine hV1 _ ?_
  have J1a := fun {v2 τ} h l => hW1 _ τ ((IH1 v2 _ h rfl)) l
  exact au H1 (aL @J1a hX1 (aA H trivial))⟩
instance spec_l3Right_F_ok {rc61 : Node → Option (Bool)} [hrc61 : ∀ {a1 : Node}, FOK R (rc61 a1) 113 [gNode a1] fun r => (.c (cB r) none, [])] {a1 : Node} : FOK R (spec_l3Right_F rc61 a1) 113 [gNode a1] fun r => (.c (cB r) none, []) := ⟨fun {r} H => by
 unfold spec_l3Right_F at H
 refine fw false 67 Tryz.func113 ?_
 refine s_ ?_
 refine WO_iA H (fun hc H => ?_) (fun hc H => ?_)
 ·
  refine s_ ?_
  refine W_ite rfl H (fun hc H => ?_) (fun hc H => ?_)
  ·
   exact au0 H
  ·
   refine s_ ?_
   refine WO_iA H (fun hc H => ?_) (fun hc H => ?_)
   ·
    exact au0 H
   ·
    refine s_ ?_
    refine WO_iA H (fun hc H => ?_) (fun hc H => ?_)
    ·
     exact au0 H
    ·
     refine s_ ?_
     refine WO_iA H (fun hc H => ?_) (fun hc H => ?_)
     ·
      refine s_ ?_
      refine WO_iA H (fun hc H => ?_) (fun hc H => ?_)
      ·
       exact au0 H
      ·
       refine s_ ?_
       refine WO_iA H (fun hc H => ?_) (fun hc H => ?_)
       ·
        refine s_ ?_
        refine WO_iA H (fun hc H => ?_) (fun hc H => ?_)
        ·
         exact au0 H
        ·
         refine s_ ?_
         obtain ⟨x3, hx3, H⟩ := bnd H
         refine b_ hx3 ?_
         refine s_ ?_
         refine W_ite rfl H (fun hc H => ?_) (fun hc H => ?_)
         ·
          exact au0 H
         ·
          refine s_ ?_
          obtain ⟨s9, hs9, H⟩ := bnd H
          refine loop_rule (ls := []) 0 (fun t8 : Unit => ⟨[], [], []⟩) (fun t => s9 = .inr t) ⟨[.no, .bp 0 0, .no, qi 0], [some [qi a1.Kind, qi a1.N, qs a1.S, .c (cL eS a1.Keys), .c (cL eR_Node a1.Kids)]], []⟩ mO lE ?_ ?_
          ·
           rintro t8 rfl
           exact au0 H
          ·
           intro V1 hV1 hW1 hX1
           refine (spec_l3Right.l0.partial_correctness rc61 a1 (fun v4 s' => s' = s9 → (V1 ⟨[.no, .bp 0 0, .no, qi v4], [some [qi a1.Kind, qi a1.N, qs a1.S, .c (cL eS a1.Keys), .c (cL eR_Node a1.Kids)]], []⟩)) ?_ _ _ hs9 rfl)
           intro l0 IH1 v4 s' H1 e
           subst e
           refine hV1 _ ?_
           have J1a := fun {v4 τ} h l => hW1 _ τ ((IH1 v4 _ h rfl)) l
           exact au H1 (aL @J1a hX1 (aA H trivial))
       ·
        refine s_ ?_
        obtain ⟨s15, hs15, H⟩ := bnd H
        refine loop_rule (ls := []) 0 (fun t14 : Unit => ⟨[], [], []⟩) (fun t => s15 = .inr t) ⟨[.no, .bp 0 0, .no, qi 0], [some [qi a1.Kind, qi a1.N, qs a1.S, .c (cL eS a1.Keys), .c (cL eR_Node a1.Kids)]], []⟩ mO lE ?_ ?_
        ·
         rintro t14 rfl
         exact au0 H
        ·
         intro V1 hV1 hW1 hX1
         refine (spec_l3Right.l1.partial_correctness rc61 a1 (fun v10 s' => s' = s15 → (V1 ⟨[.no, .bp 0 0, .no, qi v10], [some [qi a1.Kind, qi a1.N, qs a1.S, .c (cL eS a1.Keys), .c (cL eR_Node a1.Kids)]], []⟩)) ?_ _ _ hs15 rfl)
         intro l0 IH1 v10 s' H1 e
         subst e
         refine hV1 _ ?_
         have J1a := fun {v10 τ} h l => hW1 _ τ ((IH1 v10 _ h rfl)) l
         exact au H1 (aL @J1a hX1 (aA H trivial))
     ·
      refine s_ ?_
      refine WO_iA H (fun hc H => ?_) (fun hc H => ?_)
      ·
       refine s_ ?_
       refine WO_iA H (fun hc H => ?_) (fun hc H => ?_)
       ·
        exact au0 H
       ·
        refine s_ ?_
        obtain ⟨x16, hx16, H⟩ := bnd H
        refine b_ hx16 ?_
        refine s_ ?_
        refine W_ite rfl H (fun hc H => ?_) (fun hc H => ?_)
        ·
         exact au0 H
        ·
         refine s_ ?_
         obtain ⟨s22, hs22, H⟩ := bnd H
         refine loop_rule (ls := []) 0 (fun t21 : Unit => ⟨[], [], []⟩) (fun t => s22 = .inr t) ⟨[.no, .bp 0 0, .no, qi 0], [some [qi a1.Kind, qi a1.N, qs a1.S, .c (cL eS a1.Keys), .c (cL eR_Node a1.Kids)]], []⟩ mO lE ?_ ?_
         ·
          rintro t21 rfl
          exact au0 H
         ·
          intro V1 hV1 hW1 hX1
          refine (spec_l3Right.l2.partial_correctness rc61 a1 (fun v17 s' => s' = s22 → (V1 ⟨[.no, .bp 0 0, .no, qi v17], [some [qi a1.Kind, qi a1.N, qs a1.S, .c (cL eS a1.Keys), .c (cL eR_Node a1.Kids)]], []⟩)) ?_ _ _ hs22 rfl)
          intro l0 IH1 v17 s' H1 e
          subst e
          refine hV1 _ ?_
          have J1a := fun {v17 τ} h l => hW1 _ τ ((IH1 v17 _ h rfl)) l
          exact au H1 (aL @J1a hX1 (aA H trivial))
      ·
       refine s_ ?_
       obtain ⟨s28, hs28, H⟩ := bnd H
       refine loop_rule (ls := []) 0 (fun t27 : Unit => ⟨[], [], []⟩) (fun t => s28 = .inr t) ⟨[.no, .bp 0 0, .no, qi 0], [some [qi a1.Kind, qi a1.N, qs a1.S, .c (cL eS a1.Keys), .c (cL eR_Node a1.Kids)]], []⟩ mO lE ?_ ?_
       ·
        rintro t27 rfl
        exact au0 H
       ·
        intro V1 hV1 hW1 hX1
        refine (spec_l3Right.l3.partial_correctness rc61 a1 (fun v23 s' => s' = s28 → (V1 ⟨[.no, .bp 0 0, .no, qi v23], [some [qi a1.Kind, qi a1.N, qs a1.S, .c (cL eS a1.Keys), .c (cL eR_Node a1.Kids)]], []⟩)) ?_ _ _ hs28 rfl)
        intro l0 IH1 v23 s' H1 e
        subst e
        refine hV1 _ ?_
        have J1a := fun {v23 τ} h l => hW1 _ τ ((IH1 v23 _ h rfl)) l
        exact au H1 (aL @J1a hX1 (aA H trivial))
 ·
  refine s_ ?_
  refine WO_iA H (fun hc H => ?_) (fun hc H => ?_)
  ·
   exact au0 H
  ·
   refine s_ ?_
   refine WO_iA H (fun hc H => ?_) (fun hc H => ?_)
   ·
    exact au0 H
   ·
    refine s_ ?_
    refine WO_iA H (fun hc H => ?_) (fun hc H => ?_)
    ·
     refine s_ ?_
     refine WO_iA H (fun hc H => ?_) (fun hc H => ?_)
     ·
      exact au0 H
     ·
      refine s_ ?_
      refine WO_iA H (fun hc H => ?_) (fun hc H => ?_)
      ·
       refine s_ ?_
       refine WO_iA H (fun hc H => ?_) (fun hc H => ?_)
       ·
        exact au0 H
       ·
        refine s_ ?_
        obtain ⟨x29, hx29, H⟩ := bnd H
        refine b_ hx29 ?_
        refine s_ ?_
        refine W_ite rfl H (fun hc H => ?_) (fun hc H => ?_)
        ·
         exact au0 H
        ·
         refine s_ ?_
         obtain ⟨s35, hs35, H⟩ := bnd H
         refine loop_rule (ls := []) 0 (fun t34 : Unit => ⟨[], [], []⟩) (fun t => s35 = .inr t) ⟨[.no, .bp 0 0, .no, qi 0], [some [qi a1.Kind, qi a1.N, qs a1.S, .c (cL eS a1.Keys), .c (cL eR_Node a1.Kids)]], []⟩ mO lE ?_ ?_
         ·
          rintro t34 rfl
          exact au0 H
         ·
          intro V1 hV1 hW1 hX1
          refine (spec_l3Right.l4.partial_correctness rc61 a1 (fun v30 s' => s' = s35 → (V1 ⟨[.no, .bp 0 0, .no, qi v30], [some [qi a1.Kind, qi a1.N, qs a1.S, .c (cL eS a1.Keys), .c (cL eR_Node a1.Kids)]], []⟩)) ?_ _ _ hs35 rfl)
          intro l0 IH1 v30 s' H1 e
          subst e
          refine hV1 _ ?_
          have J1a := fun {v30 τ} h l => hW1 _ τ ((IH1 v30 _ h rfl)) l
          exact au H1 (aL @J1a hX1 (aA H trivial))
      ·
       refine s_ ?_
       obtain ⟨s41, hs41, H⟩ := bnd H
       refine loop_rule (ls := []) 0 (fun t40 : Unit => ⟨[], [], []⟩) (fun t => s41 = .inr t) ⟨[.no, .bp 0 0, .no, qi 0], [some [qi a1.Kind, qi a1.N, qs a1.S, .c (cL eS a1.Keys), .c (cL eR_Node a1.Kids)]], []⟩ mO lE ?_ ?_
       ·
        rintro t40 rfl
        exact au0 H
       ·
        intro V1 hV1 hW1 hX1
        refine (spec_l3Right.l5.partial_correctness rc61 a1 (fun v36 s' => s' = s41 → (V1 ⟨[.no, .bp 0 0, .no, qi v36], [some [qi a1.Kind, qi a1.N, qs a1.S, .c (cL eS a1.Keys), .c (cL eR_Node a1.Kids)]], []⟩)) ?_ _ _ hs41 rfl)
        intro l0 IH1 v36 s' H1 e
        subst e
        refine hV1 _ ?_
        have J1a := fun {v36 τ} h l => hW1 _ τ ((IH1 v36 _ h rfl)) l
        exact au H1 (aL @J1a hX1 (aA H trivial))
    ·
     refine s_ ?_
     refine WO_iA H (fun hc H => ?_) (fun hc H => ?_)
     ·
      refine s_ ?_
      refine WO_iA H (fun hc H => ?_) (fun hc H => ?_)
      ·
       exact au0 H
      ·
       refine s_ ?_
       obtain ⟨x42, hx42, H⟩ := bnd H
       refine b_ hx42 ?_
       refine s_ ?_
       refine W_ite rfl H (fun hc H => ?_) (fun hc H => ?_)
       ·
        exact au0 H
       ·
        refine s_ ?_
        obtain ⟨s48, hs48, H⟩ := bnd H
        refine loop_rule (ls := []) 0 (fun t47 : Unit => ⟨[], [], []⟩) (fun t => s48 = .inr t) ⟨[.no, .bp 0 0, .no, qi 0], [some [qi a1.Kind, qi a1.N, qs a1.S, .c (cL eS a1.Keys), .c (cL eR_Node a1.Kids)]], []⟩ mO lE ?_ ?_
        ·
         rintro t47 rfl
         exact au0 H
        ·
         intro V1 hV1 hW1 hX1
         refine (spec_l3Right.l6.partial_correctness rc61 a1 (fun v43 s' => s' = s48 → (V1 ⟨[.no, .bp 0 0, .no, qi v43], [some [qi a1.Kind, qi a1.N, qs a1.S, .c (cL eS a1.Keys), .c (cL eR_Node a1.Kids)]], []⟩)) ?_ _ _ hs48 rfl)
         intro l0 IH1 v43 s' H1 e
         subst e
         refine hV1 _ ?_
         have J1a := fun {v43 τ} h l => hW1 _ τ ((IH1 v43 _ h rfl)) l
         exact au H1 (aL @J1a hX1 (aA H trivial))
     ·
      refine s_ ?_
      obtain ⟨s54, hs54, H⟩ := bnd H
      refine loop_rule (ls := []) 0 (fun t53 : Unit => ⟨[], [], []⟩) (fun t => s54 = .inr t) ⟨[.no, .bp 0 0, .no, qi 0], [some [qi a1.Kind, qi a1.N, qs a1.S, .c (cL eS a1.Keys), .c (cL eR_Node a1.Kids)]], []⟩ mO lE ?_ ?_
      ·
       rintro t53 rfl
       exact au0 H
      ·
       intro V1 hV1 hW1 hX1
       refine (spec_l3Right.l7.partial_correctness rc61 a1 (fun v49 s' => s' = s54 → (V1 ⟨[.no, .bp 0 0, .no, qi v49], [some [qi a1.Kind, qi a1.N, qs a1.S, .c (cL eS a1.Keys), .c (cL eR_Node a1.Kids)]], []⟩)) ?_ _ _ hs54 rfl)
       intro l0 IH1 v49 s' H1 e
       subst e
       refine hV1 _ ?_
       have J1a := fun {v49 τ} h l => hW1 _ τ ((IH1 v49 _ h rfl)) l
       exact au H1 (aL @J1a hX1 (aA H trivial))⟩
theorem spec_l3Right_n_ok : ∀ (k : Nat) {a1 : Node} {r : Bool}, spec_l3Right_n k a1 = some r → R 113 [gNode a1] = some ((fun r => (.c (cB r) none, [])) r)
  | 0, _, _, h => by simp [spec_l3Right_n] at h
  | k + 1, _, _, h => (spec_l3Right_F_ok (hrc61 := ⟨fun h => spec_l3Right_n_ok k h⟩)).ok h
instance spec_l3Right_ok {a1 : Node} : FOK R (spec_l3Right a1) 113 [gNode a1] fun r => (.c (cB r) none, []) := ⟨fun {r} H => by
 obtain ⟨k, hk⟩ := Nt.lim_ex H
 exact spec_l3Right_n_ok k (hk k (Nat.le_refl k))⟩
instance spec_TreeOk_ok  {a1 : Node} : FOK R (spec_TreeOk a1) 66 [gNode a1] fun r => (.c (cB r) none, []) := ⟨fun {r} H => by
 unfold spec_TreeOk at H
 refine fw false 15 Tryz.func66 ?_
 exact au0 H⟩
instance spec_Quote_ok  {a1 : Str} : FOK R (spec_Quote a1) 115 [.c (cS a1) none] fun r => (.c (cS r) none, []) := ⟨fun {r} H => by
 unfold spec_Quote at H
 refine fw false 38 Tryz.func115 ?_
 refine s_ ?_
 obtain ⟨x2, hx2, H⟩ := bnd H
 refine b_ hx2 ?_
 refine s_ ?_
 refine W_ite rfl H (fun hc H => ?_) (fun hc H => ?_)
 ·
  exact au0 H
 ·
  refine s_ ?_
  obtain ⟨t15, ht15, H⟩ := bnd H
  refine loop_rule (ls := []) 0 (fun t15 : List Int => ⟨[.no, .no, .no, .row 0], [], [rr 1 eU t15 true]⟩) (fun t => t15 = t) ⟨[qs a1, .no, .no, .row 0, qi 0], [], [rr 1 eU ([34] : List Int) true]⟩ mO lE ?_ ?_
  ·
   rintro t1 rfl
   exact au0 H
  ·
   intro V1 hV1 hW1 hX1
   refine (spec_Quote.l0.partial_correctness a1 (fun v3 v4 s' => s' = t15 → (V1 ⟨[qs a1, .no, .no, .row 0, qi v3], [], [rr 1 eU v4 true]⟩)) ?_ _ _ _ ht15 rfl)
   intro l0 IH1 v3 v4 s' H1 e
   subst e
   refine hV1 _ ?_
   have J1a := fun {v3 v4 τ} h l => hW1 _ τ ((IH1 v3 v4 _ h rfl)) l
   exact au H1 (aL @J1a hX1 (aA H trivial))⟩
instance spec_l4Text_F_ok {rc64 : Node → Option (Str)} [hrc64 : ∀ {a1 : Node}, FOK R (rc64 a1) 67 [gNode a1] fun r => (.c (cS r) none, [])] {a1 : Node} : FOK R (spec_l4Text_F rc64 a1) 67 [gNode a1] fun r => (.c (cS r) none, []) := ⟨fun {r} H => by
 unfold spec_l4Text_F at H
 refine fw false 64 Tryz.func67 ?_
 refine s_ ?_
 refine W_ite rfl H (fun hc H => ?_) (fun hc H => ?_)
 ·
  exact au0 H
 ·
  refine s_ ?_
  refine W_ite rfl H (fun hc H => ?_) (fun hc H => ?_)
  ·
   exact au0 H
  ·
   refine s_ ?_
   refine W_ite rfl H (fun hc H => ?_) (fun hc H => ?_)
   ·
    exact au0 H
   ·
    refine s_ ?_
    refine W_ite rfl H (fun hc H => ?_) (fun hc H => ?_)
    ·
     exact au0 H
    ·
     refine s_ ?_
     refine W_ite rfl H (fun hc H => ?_) (fun hc H => ?_)
     ·
      refine s_ ?_
      obtain ⟨t31, ht31, H⟩ := bnd H
      refine loop_rule (ls := []) 1 (fun t31 : Str => ⟨[.no, .no, .no, .no, qs [125], qs t31], [], []⟩) (fun t => t31 = t) ⟨[.no, .bp 0 0, .no, .no, qs [125], qs [123], qi 0], [some [qi a1.Kind, qi a1.N, qs a1.S, .c (cL eS a1.Keys), .c (cL eR_Node a1.Kids)]], []⟩ mO lE ?_ ?_
      ·
       rintro t1 rfl
       exact au0 H
      ·
       intro V1 hV1 hW1 hX1
       refine (spec_l4Text.l0.partial_correctness rc64 a1 (fun v4 v5 s' => s' = t31 → (V1 ⟨[.no, .bp 0 0, .no, .no, qs [125], qs v4, qi v5], [some [qi a1.Kind, qi a1.N, qs a1.S, .c (cL eS a1.Keys), .c (cL eR_Node a1.Kids)]], []⟩)) ?_ _ _ _ ht31 rfl)
       intro l0 IH1 v4 v5 s' H1 e
       subst e
       refine hV1 _ ?_
       have J1a := fun {v4 v5 τ} h l => hW1 _ τ ((IH1 v4 v5 _ h rfl)) l
       exact au H1 (aL @J1a hX1 (aA H trivial))
     ·
      refine s_ ?_
      obtain ⟨t61, ht61, H⟩ := bnd H
      refine loop_rule (ls := []) 1 (fun t61 : Str => ⟨[.no, .no, .no, .no, qs [93], qs t61], [], []⟩) (fun t => t61 = t) ⟨[.no, .bp 0 0, .no, .no, qs [93], qs [91], qi 0], [some [qi a1.Kind, qi a1.N, qs a1.S, .c (cL eS a1.Keys), .c (cL eR_Node a1.Kids)]], []⟩ mO lE ?_ ?_
      ·
       rintro t1 rfl
       exact au0 H
      ·
       intro V1 hV1 hW1 hX1
       refine (spec_l4Text.l1.partial_correctness rc64 a1 (fun v34 v35 s' => s' = t61 → (V1 ⟨[.no, .bp 0 0, .no, .no, qs [93], qs v34, qi v35], [some [qi a1.Kind, qi a1.N, qs a1.S, .c (cL eS a1.Keys), .c (cL eR_Node a1.Kids)]], []⟩)) ?_ _ _ _ ht61 rfl)
       intro l0 IH1 v34 v35 s' H1 e
       subst e
       refine hV1 _ ?_
       have J1a := fun {v34 v35 τ} h l => hW1 _ τ ((IH1 v34 v35 _ h rfl)) l
       exact au H1 (aL @J1a hX1 (aA H trivial))⟩
theorem spec_l4Text_n_ok : ∀ (k : Nat) {a1 : Node} {r : Str}, spec_l4Text_n k a1 = some r → R 67 [gNode a1] = some ((fun r => (.c (cS r) none, [])) r)
  | 0, _, _, h => by simp [spec_l4Text_n] at h
  | k + 1, _, _, h => (spec_l4Text_F_ok (hrc64 := ⟨fun h => spec_l4Text_n_ok k h⟩)).ok h
instance spec_l4Text_ok {a1 : Node} : FOK R (spec_l4Text a1) 67 [gNode a1] fun r => (.c (cS r) none, []) := ⟨fun {r} H => by
 obtain ⟨k, hk⟩ := Nt.lim_ex H
 exact spec_l4Text_n_ok k (hk k (Nat.le_refl k))⟩
instance spec_Braced_ok  {a1 : Node} : FOK R (spec_Braced a1) 41 [gNode a1] fun r => (.c (cS r) none, []) := ⟨fun {r} H => by
 unfold spec_Braced at H
 refine fw false 8 Tryz.func41 ?_
 exact au0 H⟩
instance spec_l8Saved_ok  {a1 : Order} : FOK R (spec_l8Saved a1) 76 [gOrder a1] fun r => (gNode_oo r, []) := ⟨fun {r} H => by
 unfold spec_l8Saved at H
 refine fw false 19 Tryz.func76 ?_
 refine s_ ?_
 obtain ⟨x2, hx2, H⟩ := bnd H
 refine b_ hx2 ?_
 refine s_ ?_
 obtain ⟨x3, hx3, H⟩ := bnd H
 refine b_ hx3 ?_
 refine WL_op (x := qb (!((a1.Pace.Up == x3.Up) && ((a1.Pace.Down == x3.Down) && ((a1.Pace.UpSpan == x3.UpSpan) && ((a1.Pace.DownSpan == x3.DownSpan) && true)))))) rfl rfl rfl (ev_eqT (r := ((a1.Pace.Up == x3.Up) && ((a1.Pace.Down == x3.Down) && ((a1.Pace.UpSpan == x3.UpSpan) && ((a1.Pace.DownSpan == x3.DownSpan) && true))))) rfl rfl rfl rfl (by kernel_rfl) (by kernel_rfl) rfl) (n1 ?_)
 exact au0 H⟩
instance spec_MidTree_ok  {a1 : Order} : FOK R (spec_MidTree a1) 44 [gOrder a1] fun r => (gNode_oo r, []) := ⟨fun {r} H => by
 unfold spec_MidTree at H
 refine fw false 18 Tryz.func44 ?_
 refine s_ ?_
 obtain ⟨x2, hx2, H⟩ := bnd H
 refine b_ hx2 ?_
 refine s_ ?_
 refine W_ite rfl H (fun hc H => ?_) (fun hc H => ?_)
 ·
  exact au0 H
 ·
  refine s_ ?_
  refine W_lateL [3] (by kernel_rfl) (by decide +kernel) rfl ?_; refine WL_c rfl ?_; simp only [SX.clr,List.foldl,putT,st,ev,gt,hp,ofV,constT,intT,lm]
  exact au0 H⟩
instance spec_ShareOf_ok  {a1 : List Metric} : FOK R (spec_ShareOf a1) 77 [.c (cL enc_Metric a1) none] fun r => (.tu [.c (cI .i64 r.1) none, .c (cB r.2) none], []) := ⟨fun {r} H => by
 unfold spec_ShareOf at H
 refine fw false 39 Tryz.func77 ?_
 refine s_ ?_
 obtain ⟨s6, hs6, H⟩ := bnd H
 refine loop_rule (ls := []) 0 (fun t5 : Unit => ⟨[], [], []⟩) (fun t => s6 = .inr t) ⟨[.c (cL enc_Metric a1), .no, .no, .no, qi 0], [], []⟩ mO lE ?_ ?_
 ·
  rintro t5 rfl
  exact au0 H
 ·
  intro V1 hV1 hW1 hX1
  refine (spec_ShareOf.l0.partial_correctness a1 (fun v2 s' => s' = s6 → (V1 ⟨[.c (cL enc_Metric a1), .no, .no, .no, qi v2], [], []⟩)) ?_ _ _ hs6 rfl)
  intro l0 IH1 v2 s' H1 e
  subst e
  refine hV1 _ ?_
  have J1a := fun {v2 τ} h l => hW1 _ τ ((IH1 v2 _ h rfl)) l
  exact au H1 (aL @J1a hX1 (aA H trivial))⟩
instance spec_l9Others_ok  {a1 : List Metric} : FOK R (spec_l9Others a1) 79 [.c (cL enc_Metric a1) none] fun r => (.c (cL enc_Metric r) (some (3, false)), []) := ⟨fun {r} H => by
 unfold spec_l9Others at H
 refine fw false 37 Tryz.func79 ?_
 refine s_ ?_
 obtain ⟨x2, hx2, H⟩ := bnd H
 refine b_ hx2 ?_
 refine s_ ?_
 obtain ⟨t10, ht10, H⟩ := bnd H
 refine loop_rule (ls := []) 0 (fun t10 : List Metric => ⟨[.no, .no, .no, .row 0], [], [rr 3 enc_Metric t10 true]⟩) (fun t => t10 = t) ⟨[.c (cL enc_Metric a1), .no, .no, .row 0, .no, qb x2.2, qi 0], [], [rr 3 enc_Metric ([] : List Metric) true]⟩ mO lE ?_ ?_
 ·
  rintro t1 rfl
  exact au0 H
 ·
  intro V1 hV1 hW1 hX1
  refine (spec_l9Others.l0.partial_correctness a1 x2 (fun v3 v4 s' => s' = t10 → (V1 ⟨[.c (cL enc_Metric a1), .no, .no, .row 0, .no, qb x2.2, qi v3], [], [rr 3 enc_Metric v4 true]⟩)) ?_ _ _ _ ht10 rfl)
  intro l0 IH1 v3 v4 s' H1 e
  subst e
  refine hV1 _ ?_
  have J1a := fun {v3 v4 τ} h l => hW1 _ τ ((IH1 v3 v4 _ h rfl)) l
  exact au H1 (aL @J1a hX1 (aA H trivial))⟩
instance spec_PlainTree_ok  {a1 : Order} : FOK R (spec_PlainTree a1) 45 [gOrder a1] fun r => (gNode_oo r, []) := ⟨fun {r} H => by
 unfold spec_PlainTree at H
 refine fw false 42 Tryz.func45 ?_
 exact au0 H⟩
instance spec_Shape_ok  {a1 : Order} {a2 : Int} : FOK R (spec_Shape a1 a2) 25 [gOrder a1, .c (cI .i64 a2) none] fun r => (gNode_oo r, []) := ⟨fun {r} H => by
 unfold spec_Shape at H
 refine fw false 19 Tryz.func25 ?_
 exact au0 H⟩
instance spec_l5Block_ok  {a1 : Node} : FOK R (spec_l5Block a1) 68 [gNode a1] fun r => (.c (cB r) none, []) := ⟨fun {r} H => by
 unfold spec_l5Block at H
 refine fw false 17 Tryz.func68 ?_
 exact au0 H⟩
instance spec_Inline_ok  {a1 : Node} : FOK R (spec_Inline a1) 70 [gNode a1] fun r => (.c (cS r) none, []) := ⟨fun {r} H => by
 unfold spec_Inline at H
 refine fw false 19 Tryz.func70 ?_
 exact au0 H⟩
instance spec_l5Write_F_ok {rc72 : Node → Str → Option (Str)} [hrc72 : ∀ {a1 : Node} {a2 : Str}, FOK R (rc72 a1 a2) 69 [gNode a1, .c (cS a2) none] fun r => (.c (cS r) none, [])] {a1 : Node} {a2 : Str} : FOK R (spec_l5Write_F rc72 a1 a2) 69 [gNode a1, .c (cS a2) none] fun r => (.c (cS r) none, []) := ⟨fun {r} H => by
 unfold spec_l5Write_F at H
 refine fw false 70 Tryz.func69 ?_
 refine s_ ?_
 obtain ⟨t63, ht63, H⟩ := bnd H
 refine loop_rule (ls := []) 0 (fun t63 : Str => ⟨[.no, .no, .no, .no, .no, qs t63], [], []⟩) (fun t => t63 = t) ⟨[.no, qs a2, .bp 0 0, .no, .no, qs [], qi 0], [some [qi a1.Kind, qi a1.N, qs a1.S, .c (cL eS a1.Keys), .c (cL eR_Node a1.Kids)]], []⟩ mO lE ?_ ?_
 ·
  rintro t1 rfl
  exact au0 H
 ·
  intro V1 hV1 hW1 hX1
  refine (spec_l5Write.l0.partial_correctness rc72 a1 a2 (fun v3 v4 s' => s' = t63 → (V1 ⟨[.no, qs a2, .bp 0 0, .no, .no, qs v3, qi v4], [some [qi a1.Kind, qi a1.N, qs a1.S, .c (cL eS a1.Keys), .c (cL eR_Node a1.Kids)]], []⟩)) ?_ _ _ _ ht63 rfl)
  intro l0 IH1 v3 v4 s' H1 e
  subst e
  refine hV1 _ ?_
  have J1a := fun {v3 v4 τ} h l => hW1 _ τ ((IH1 v3 v4 _ h rfl)) l
  exact au H1 (aL @J1a hX1 (aA H trivial))⟩
theorem spec_l5Write_n_ok : ∀ (k : Nat) {a1 : Node} {a2 : Str} {r : Str}, spec_l5Write_n k a1 a2 = some r → R 69 [gNode a1, .c (cS a2) none] = some ((fun r => (.c (cS r) none, [])) r)
  | 0, _, _, _, h => by simp [spec_l5Write_n] at h
  | k + 1, _, _, _, h => (spec_l5Write_F_ok (hrc72 := ⟨fun h => spec_l5Write_n_ok k h⟩)).ok h
instance spec_l5Write_ok {a1 : Node} {a2 : Str} : FOK R (spec_l5Write a1 a2) 69 [gNode a1, .c (cS a2) none] fun r => (.c (cS r) none, []) := ⟨fun {r} H => by
 obtain ⟨k, hk⟩ := Nt.lim_ex H
 exact spec_l5Write_n_ok k (hk k (Nat.le_refl k))⟩
instance spec_Indented_ok  {a1 : Node} : FOK R (spec_Indented a1) 42 [gNode a1] fun r => (.c (cS r) none, []) := ⟨fun {r} H => by
 unfold spec_Indented at H
 refine fw false 13 Tryz.func42 ?_
 exact au0 H⟩
instance spec_Said_ok  {a1 : Int} {a2 : Node} : FOK R (spec_Said a1 a2) 24 [.c (cI .i64 a1) none, gNode a2] fun r => (.c (cS r) none, []) := ⟨fun {r} H => by
 unfold spec_Said at H
 refine fw false 14 Tryz.func24 ?_
 exact au0 H⟩
instance spec_SaidOrder_ok  {a1 : Int} {a2 : Int} {a3 : Order} : FOK R (spec_SaidOrder a1 a2 a3) 13 [.c (cI .i64 a1) none, .c (cI .i64 a2) none, gOrder a3] fun r => (.c (cS r) none, []) := ⟨fun {r} H => by
 unfold spec_SaidOrder at H
 refine fw false 20 Tryz.func13 ?_
 exact au0 H⟩
instance spec_Fetch_ok  {a1 : Store} {a2 : Int} {a3 : Int} {a4 : Str} : FOK R (spec_Fetch a1 a2 a3 a4) 5 [gStore a1, .c (cI .i64 a2) none, .c (cI .i64 a3) none, .c (cS a4) none] fun r => (gAnswer r, []) := ⟨fun {r} H => by
 unfold spec_Fetch at H
 refine fw false 38 Tryz.func5 ?_
 exact au0 H⟩
instance impl_placeOf_1_ok  {a1 : Item} {a2 : Str} : FOK R (impl_placeOf_1 a1 a2) 48 [gItem a1, .p [(cS a2, none)]] fun r => (.c (cB r.1) none, [some [(cS r.2, none)]]) := ⟨fun {r} H => by
 unfold impl_placeOf_1 at H
 refine fw false 9 Tryz.func48 ?_
 exact au0 H⟩
instance slices_IndexFunc_Simpl_Item_impl_Item_impl_placeOf_1_ok  {a1 : List Item} {a2 : Str} : FOK R (slices_IndexFunc_Simpl_Item_impl_Item_impl_placeOf_1 a1 a2) 47 [.c (cL enc_Item a1) none, .f 48 [[(cS a2, none)]]] fun r => (.c (cI .i64 r.1) none, [some [(cS r.2, none)]]) := ⟨fun {r} H => by
 unfold slices_IndexFunc_Simpl_Item_impl_Item_impl_placeOf_1 at H
 refine fw false 19 Tryz.func47 ?_
 refine s_ ?_
 obtain ⟨s8, hs8, H⟩ := bnd H
 refine loop_rule (ls := [.b 0]) 0 (fun t7 : Str => ⟨[], [some [qs t7]], []⟩) (fun t => s8 = .inr t) ⟨[.c (cL enc_Item a1), .fn 48 [0], .no, .no, .no, .no, .no, qi (a1.length : Int), qi 0], [some [qs a2]], []⟩ mO lE ?_ ?_
 ·
  rintro t7 rfl
  exact au0 H
 ·
  intro V1 hV1 hW1 hX1
  refine (slices_IndexFunc_Simpl_Item_impl_Item_impl_placeOf_1.l0.partial_correctness a1 (fun v3 v4 s' => s' = s8 → (V1 ⟨[.c (cL enc_Item a1), .fn 48 [0], .no, .no, .no, .no, .no, qi (a1.length : Int), qi v3], [some [qs v4]], []⟩)) ?_ _ _ _ hs8 rfl)
  intro l0 IH1 v3 v4 s' H1 e
  subst e
  refine hV1 _ ?_
  have J1a := fun {v3 v4 τ} h l => hW1 _ τ ((IH1 v3 v4 _ h rfl)) l
  exact au H1 (aL @J1a hX1 (aA H trivial))⟩
instance impl_placeOf_ok  {a1 : List Item} {a2 : Str} : FOK R (impl_placeOf a1 a2) 27 [.c (cL enc_Item a1) none, .c (cS a2) none] fun r => (.c (cI .i64 r) none, []) := ⟨fun {r} H => by
 unfold impl_placeOf at H
 refine fw false 8 Tryz.func27 ?_
 exact au0 H⟩
theorem slices_Clone_Simpl_Metric_impl_Metric_ok {a1 r : List Metric} (H : slices_Clone_Simpl_Metric_impl_Metric a1 = some r) : R 84 [.c (cL enc_Metric a1) none] = some (.c (cL enc_Metric r) (some (3, false)), []) := by
  unfold slices_Clone_Simpl_Metric_impl_Metric Nt.clone at H
  split at H
  · rename_i h
    obtain rfl := Option.some.inj H
    exact Fz_pr rfl (by simp only [cloneF]; rw [if_pos ⟨wide_map (en := enc_Metric) (fun _ => rfl) a1, by simpa using h⟩])
  · simp at H
instance slices_Clone_Simpl_Metric_impl_Metric_i {a1 : List Metric} : FOK R (slices_Clone_Simpl_Metric_impl_Metric a1) 84 [.c (cL enc_Metric a1) none] fun r => (.c (cL enc_Metric r) (some (3, false)), []) := ⟨fun {r} H => slices_Clone_Simpl_Metric_impl_Metric_ok H⟩
theorem slices_Clone_Simpl_Note_impl_Note_ok {a1 r : List Note} (H : slices_Clone_Simpl_Note_impl_Note a1 = some r) : R 85 [.c (cL enc_Note a1) none] = some (.c (cL enc_Note r) (some (2, false)), []) := by
  unfold slices_Clone_Simpl_Note_impl_Note Nt.clone at H
  split at H
  · rename_i h
    obtain rfl := Option.some.inj H
    exact Fz_pr rfl (by simp only [cloneF]; rw [if_pos ⟨wide_map (en := enc_Note) (fun _ => rfl) a1, by simpa using h⟩])
  · simp at H
instance slices_Clone_Simpl_Note_impl_Note_i {a1 : List Note} : FOK R (slices_Clone_Simpl_Note_impl_Note a1) 85 [.c (cL enc_Note a1) none] fun r => (.c (cL enc_Note r) (some (2, false)), []) := ⟨fun {r} H => slices_Clone_Simpl_Note_impl_Note_ok H⟩
instance impl_copyOrder_ok  {a1 : Order} : FOK R (impl_copyOrder a1) 49 [gOrder a1] fun r => (gOrder_oo r, []) := ⟨fun {r} H => by
 unfold impl_copyOrder at H
 refine fw false 12 Tryz.func49 ?_
 exact au0 H⟩
instance impl_copyItem_ok  {a1 : Item} : FOK R (impl_copyItem a1) 28 [gItem a1] fun r => (gItem_oo r, []) := ⟨fun {r} H => by
 unfold impl_copyItem at H
 refine fw false 9 Tryz.func28 ?_
 exact au0 H⟩
instance impl_Find_ok  {a1 : Store} {a2 : Str} : FOK R (impl_Find a1 a2) 15 [gStore a1, .c (cS a2) none] fun r => (.tu [gItem_oo r.1, .c (cB r.2) none], []) := ⟨fun {r} H => by
 unfold impl_Find at H
 refine fw false 20 Tryz.func15 ?_
 exact au0 H⟩
instance impl_from_ok  {a1 : Int} {a2 : Int} {a3 : Int} : FOK R (impl_from a1 a2 a3) 29 [.c (cI .i64 a1) none, .c (cI .i64 a2) none, .c (cI .i64 a3) none] fun r => (.c (cB r) none, []) := ⟨fun {r} H => by
 unfold impl_from at H
 refine fw false 15 Tryz.func29 ?_
 exact au0 H⟩
instance impl_isDigit_ok  {a1 : Int} : FOK R (impl_isDigit a1) 86 [.c (cI .u8 a1) none] fun r => (.c (cB r) none, []) := ⟨fun {r} H => by
 unfold impl_isDigit at H
 refine fw false 9 Tryz.func86 ?_
 exact au0 H⟩
instance impl_NameOk_ok  {a1 : Str} : FOK R (impl_NameOk a1) 51 [.c (cS a1) none] fun r => (.c (cB r) none, []) := ⟨fun {r} H => by
 unfold impl_NameOk at H
 refine fw false 43 Tryz.func51 ?_
 refine s_ ?_
 obtain ⟨s13, hs13, H⟩ := bnd H
 refine loop_rule (ls := []) 0 (fun t11 : Unit => ⟨[qs a1], [], []⟩) (fun t => s13 = .inr t) ⟨[qs a1, .no, .no, .no, .no, .no, qi (a1.length : Int), qi 0], [], []⟩ mO lE ?_ ?_
 ·
  rintro t11 rfl
  exact au0 H
 ·
  intro V1 hV1 hW1 hX1
  refine (impl_NameOk.l0.partial_correctness a1 (fun v2 s' => s' = s13 → (V1 ⟨[qs a1, .no, .no, .no, .no, .no, qi (a1.length : Int), qi v2], [], []⟩)) ?_ _ _ hs13 rfl)
  intro l0 IH1 v2 s' H1 e
  subst e
  refine hV1 _ ?_
  have J1a := fun {v2 τ} h l => hW1 _ τ ((IH1 v2 _ h rfl)) l
  exact au H1 (aL @J1a hX1 (aA H trivial))⟩
instance impl_MetricOk_ok  {a1 : Metric} : FOK R (impl_MetricOk a1) 50 [gMetric a1] fun r => (.c (cB r) none, []) := ⟨fun {r} H => by
 unfold impl_MetricOk at H
 refine fw false 16 Tryz.func50 ?_
 exact au0 H⟩
instance impl_isMany_ok  {a1 : Int} : FOK R (impl_isMany a1) 87 [.c (cI .i64 a1) none] fun r => (.c (cB r) none, []) := ⟨fun {r} H => by
 unfold impl_isMany at H
 refine fw false 5 Tryz.func87 ?_
 exact au0 H⟩
instance impl_PaceOk_ok  {a1 : Pace} : FOK R (impl_PaceOk a1) 52 [gPace a1] fun r => (.c (cB r) none, []) := ⟨fun {r} H => by
 unfold impl_PaceOk at H
 refine fw false 21 Tryz.func52 ?_
 exact au0 H⟩
instance impl_isLetter_ok  {a1 : Int} : FOK R (impl_isLetter a1) 124 [.c (cI .u8 a1) none] fun r => (.c (cB r) none, []) := ⟨fun {r} H => by
 unfold impl_isLetter at H
 refine fw false 17 Tryz.func124 ?_
 exact au0 H⟩
theorem internal_bytealg_IndexByteString_ok {a1 : Str} {a2 r : Int} (H : internal_bytealg_IndexByteString a1 a2 = some r) : R 169 [.c (cS a1) none, .c (cI .u8 a2) none] = some (.c (cI .i64 r) none, []) := by
  obtain rfl := Option.some.inj H
  exact Fz_pr rfl (by simp only [indexByteF, indexByte_lib])
instance internal_bytealg_IndexByteString_i {a1 : Str} {a2 : Int} : FOK R (internal_bytealg_IndexByteString a1 a2) 169 [.c (cS a1) none, .c (cI .u8 a2) none] fun r => (.c (cI .i64 r) none, []) := ⟨fun {r} H => internal_bytealg_IndexByteString_ok H⟩
instance internal_stringslite_IndexByte_ok  {a1 : Str} {a2 : Int} : FOK R (internal_stringslite_IndexByte a1 a2) 153 [.c (cS a1) none, .c (cI .u8 a2) none] fun r => (.c (cI .i64 r) none, []) := ⟨fun {r} H => by
 unfold internal_stringslite_IndexByte at H
 refine fw false 8 Tryz.func153 ?_
 exact au0 H⟩
instance strings_IndexByte_ok  {a1 : Str} {a2 : Int} : FOK R (strings_IndexByte a1 a2) 125 [.c (cS a1) none, .c (cI .u8 a2) none] fun r => (.c (cI .i64 r) none, []) := ⟨fun {r} H => by
 unfold strings_IndexByte at H
 refine fw false 8 Tryz.func125 ?_
 exact au0 H⟩
instance impl_PlainOk_ok  {a1 : Str} : FOK R (impl_PlainOk a1) 88 [.c (cS a1) none] fun r => (.c (cB r) none, []) := ⟨fun {r} H => by
 unfold impl_PlainOk at H
 refine fw false 48 Tryz.func88 ?_
 refine s_ ?_
 obtain ⟨s11, hs11, H⟩ := bnd H
 refine loop_rule (ls := []) 0 (fun t9 : Unit => ⟨[qs a1], [], []⟩) (fun t => s11 = .inr t) ⟨[qs a1, .no, .no, .no, .no, qi (a1.length : Int), qi 0], [], []⟩ mO lE ?_ ?_
 ·
  rintro t9 rfl
  exact au0 H
 ·
  intro V1 hV1 hW1 hX1
  refine (impl_PlainOk.l0.partial_correctness a1 (fun v2 s' => s' = s11 → (V1 ⟨[qs a1, .no, .no, .no, .no, qi (a1.length : Int), qi v2], [], []⟩)) ?_ _ _ hs11 rfl)
  intro l0 IH1 v2 s' H1 e
  subst e
  refine hV1 _ ?_
  have J1a := fun {v2 τ} h l => hW1 _ τ ((IH1 v2 _ h rfl)) l
  exact au H1 (aL @J1a hX1 (aA H trivial))⟩
instance internal_stringslite_HasPrefix_ok  {a1 : Str} {a2 : Str} : FOK R (internal_stringslite_HasPrefix a1 a2) 126 [.c (cS a1) none, .c (cS a2) none] fun r => (.c (cB r) none, []) := ⟨fun {r} H => by
 unfold internal_stringslite_HasPrefix at H
 refine fw false 18 Tryz.func126 ?_
 exact au0 H⟩
instance strings_HasPrefix_ok  {a1 : Str} {a2 : Str} : FOK R (strings_HasPrefix a1 a2) 89 [.c (cS a1) none, .c (cS a2) none] fun r => (.c (cB r) none, []) := ⟨fun {r} H => by
 unfold strings_HasPrefix at H
 refine fw false 8 Tryz.func89 ?_
 exact au0 H⟩
instance impl_TextOk_ok  {a1 : Str} : FOK R (impl_TextOk a1) 90 [.c (cS a1) none] fun r => (.c (cB r) none, []) := ⟨fun {r} H => by
 unfold impl_TextOk at H
 refine fw false 19 Tryz.func90 ?_
 refine s_ ?_
 obtain ⟨s6, hs6, H⟩ := bnd H
 refine loop_rule (ls := []) 0 (fun t5 : Unit => ⟨[qs a1], [], []⟩) (fun t => s6 = .inr t) ⟨[qs a1, .no, .no, .no, .no, qi (a1.length : Int), qi 0], [], []⟩ mO lE ?_ ?_
 ·
  rintro t5 rfl
  exact au0 H
 ·
  intro V1 hV1 hW1 hX1
  refine (impl_TextOk.l0.partial_correctness a1 (fun v2 s' => s' = s6 → (V1 ⟨[qs a1, .no, .no, .no, .no, qi (a1.length : Int), qi v2], [], []⟩)) ?_ _ _ hs6 rfl)
  intro l0 IH1 v2 s' H1 e
  subst e
  refine hV1 _ ?_
  have J1a := fun {v2 τ} h l => hW1 _ τ ((IH1 v2 _ h rfl)) l
  exact au H1 (aL @J1a hX1 (aA H trivial))⟩
end Go.Pu
