import Derived.Test.YtgbchdjcjkpfjaaGreatSaidOrderOk2
import Derived.Test.YtgbchdjcjkpfjaaGreatSaidOrderOk3
set_option linter.unusedVariables false
set_option linter.unusedSimpArgs false
set_option synthInstance.maxSize 1000000000
set_option maxRecDepth 20000
set_option maxHeartbeats 20000000
namespace Go.Pu
open Go Go.SX Go.Nt Go.Proofs
instance impl_shapeOk_ok  {a1 : Node} : FOK R (impl_shapeOk a1) 128 [gNode a1] fun r => (.c (cB r) none, []) := ⟨fun {r} H => by
 unfold impl_shapeOk at H
 refine fw false 116 Tryz.func128 ?_
 refine s_ ?_
 refine W_ite rfl H (fun hc H => ?_) (fun hc H => ?_)
 ·
  refine s_ ?_
  refine WO_op rfl rfl rfl (n1 ?_)
  refine s_ ?_
  obtain ⟨t2, ht2, H⟩ := bnd H
  refine loop_rule (ls := []) 1 (fun t2 : Unit => ⟨[.no, .bp 0 0, .no, .bp 1 0], [some [qi a1.Kind, qi a1.N, qs a1.S, .c (cL eS a1.Keys), .c (cL eR_Node a1.Kids)], some [qi a1.Kind, qi 0, qs [], .nil, .nil]], []⟩) (fun t => t2 = t) ⟨[.no, .bp 0 0, .no, .bp 1 0, .no, .no, .no, .no, .no, .no, .no, .no, .no, .no, .no, .no, .no, .no, .no, .no, .no, .no, .no, .no, .no, .no, .no, .no, .no, .no, .no, .no, .no, .no, .no, .no, .no, .no, .no, .no, .no, .no, .no, .no, .no, .no, .no, .no, .no, .no, .no, .no, .no, .no, .no, .no, .no, .no, .no, .no, .no, .nil, qi 0, qi 0], [some [qi a1.Kind, qi a1.N, qs a1.S, .c (cL eS a1.Keys), .c (cL eR_Node a1.Kids)], some [qi a1.Kind, qi 0, qs [], .nil, .nil]], []⟩ mO lE ?_ ?_
  ·
   rintro t1 rfl
   refine s_ ?_
   refine WO_iA H (fun hc H => ?_) (fun hc H => ?_)
   ·
    refine s_ ?_
    refine WO_iA H (fun hc H => ?_) (fun hc H => ?_)
    ·
     refine s_ ?_
     refine WO_want rfl rfl rfl (n1 ?_)
     refine s_ ?_
     refine WO_iA H (fun hc H => ?_) (fun hc H => ?_)
     ·
      refine s_ ?_
      refine WO_want rfl rfl rfl (n1 ?_)
      exact au0 H
     ·
      exact au0 H
    ·
     exact au0 H
   ·
    exact au0 H
  ·
   intro V1 hV1 hW1 hX1
   refine (show ∀ s', impl_shapeOk.l0 = some s' → s' = t2 → (V1 ⟨[.no, .bp 0 0, .no, .bp 1 0, .no, .no, .no, .no, .no, .no, .no, .no, .no, .no, .no, .no, .no, .no, .no, .no, .no, .no, .no, .no, .no, .no, .no, .no, .no, .no, .no, .no, .no, .no, .no, .no, .no, .no, .no, .no, .no, .no, .no, .no, .no, .no, .no, .no, .no, .no, .no, .no, .no, .no, .no, .no, .no, .no, .no, .no, .no, .nil, qi 0, qi 0], [some [qi a1.Kind, qi a1.N, qs a1.S, .c (cL eS a1.Keys), .c (cL eR_Node a1.Kids)], some [qi a1.Kind, qi 0, qs [], .nil, .nil]], []⟩) from ?_) _ ht2 rfl
   intro  s' H1 e
   unfold impl_shapeOk.l0 at H1
   subst e
   refine hV1 _ ?_
   exact au H1 (aL trivial hX1 (aA H trivial))
 ·
  refine s_ ?_
  refine W_ite rfl H (fun hc H => ?_) (fun hc H => ?_)
  ·
   refine s_ ?_
   obtain ⟨x4, hx4, H⟩ := bnd H
   refine b_ hx4 ?_
   refine s_ ?_
   refine W_ite rfl H (fun hc H => ?_) (fun hc H => ?_)
   ·
    exact au0 H
   ·
    refine s_ ?_
    refine WO_op rfl rfl rfl (n1 ?_)
    refine s_ ?_
    obtain ⟨t5, ht5, H⟩ := bnd H
    refine loop_rule (ls := []) 1 (fun t5 : Unit => ⟨[.no, .bp 0 0, .no, .bp 1 0], [some [qi a1.Kind, qi a1.N, qs a1.S, .c (cL eS a1.Keys), .c (cL eR_Node a1.Kids)], some [qi a1.Kind, qi a1.N, qs [], .nil, .nil]], []⟩) (fun t => t5 = t) ⟨[.no, .bp 0 0, .no, .bp 1 0, .no, .no, .no, .no, .no, .no, .no, .no, .no, .no, .no, .no, .no, .no, .no, .no, .no, .no, .no, .no, .no, .no, .no, .no, .no, .no, .no, .no, .no, .no, .no, .no, .no, .no, .no, .no, .no, .no, .no, .no, .no, .no, .no, .no, .no, .no, .no, .no, .no, .no, .no, .no, .no, .no, .no, .no, .no, .nil, qi 0, qi 0], [some [qi a1.Kind, qi a1.N, qs a1.S, .c (cL eS a1.Keys), .c (cL eR_Node a1.Kids)], some [qi a1.Kind, qi a1.N, qs [], .nil, .nil]], []⟩ mO lE ?_ ?_
    ·
     rintro t1 rfl
     refine s_ ?_
     refine WO_iA H (fun hc H => ?_) (fun hc H => ?_)
     ·
      refine s_ ?_
      refine WO_iA H (fun hc H => ?_) (fun hc H => ?_)
      ·
       refine s_ ?_
       refine WO_want rfl rfl rfl (n1 ?_)
       refine s_ ?_
       refine WO_iA H (fun hc H => ?_) (fun hc H => ?_)
       ·
        refine s_ ?_
        refine WO_want rfl rfl rfl (n1 ?_)
        exact au0 H
       ·
        exact au0 H
      ·
       exact au0 H
     ·
      exact au0 H
    ·
     intro V1 hV1 hW1 hX1
     refine (show ∀ s', impl_shapeOk.l1 = some s' → s' = t5 → (V1 ⟨[.no, .bp 0 0, .no, .bp 1 0, .no, .no, .no, .no, .no, .no, .no, .no, .no, .no, .no, .no, .no, .no, .no, .no, .no, .no, .no, .no, .no, .no, .no, .no, .no, .no, .no, .no, .no, .no, .no, .no, .no, .no, .no, .no, .no, .no, .no, .no, .no, .no, .no, .no, .no, .no, .no, .no, .no, .no, .no, .no, .no, .no, .no, .no, .no, .nil, qi 0, qi 0], [some [qi a1.Kind, qi a1.N, qs a1.S, .c (cL eS a1.Keys), .c (cL eR_Node a1.Kids)], some [qi a1.Kind, qi a1.N, qs [], .nil, .nil]], []⟩) from ?_) _ ht5 rfl
     intro  s' H1 e
     unfold impl_shapeOk.l1 at H1
     subst e
     refine hV1 _ ?_
     exact au H1 (aL trivial hX1 (aA H trivial))
  ·
   refine s_ ?_
   refine W_ite rfl H (fun hc H => ?_) (fun hc H => ?_)
   ·
    refine s_ ?_
    obtain ⟨x7, hx7, H⟩ := bnd H
    refine b_ hx7 ?_
    refine s_ ?_
    refine W_ite rfl H (fun hc H => ?_) (fun hc H => ?_)
    ·
     exact au0 H
    ·
     refine s_ ?_
     refine WO_op rfl rfl rfl (n1 ?_)
     refine s_ ?_
     obtain ⟨t8, ht8, H⟩ := bnd H
     refine loop_rule (ls := []) 1 (fun t8 : Unit => ⟨[.no, .bp 0 0, .no, .bp 1 0], [some [qi a1.Kind, qi a1.N, qs a1.S, .c (cL eS a1.Keys), .c (cL eR_Node a1.Kids)], some [qi a1.Kind, qi a1.N, qs [], .nil, .nil]], []⟩) (fun t => t8 = t) ⟨[.no, .bp 0 0, .no, .bp 1 0, .no, .no, .no, .no, .no, .no, .no, .no, .no, .no, .no, .no, .no, .no, .no, .no, .no, .no, .no, .no, .no, .no, .no, .no, .no, .no, .no, .no, .no, .no, .no, .no, .no, .no, .no, .no, .no, .no, .no, .no, .no, .no, .no, .no, .no, .no, .no, .no, .no, .no, .no, .no, .no, .no, .no, .no, .no, .nil, qi 0, qi 0], [some [qi a1.Kind, qi a1.N, qs a1.S, .c (cL eS a1.Keys), .c (cL eR_Node a1.Kids)], some [qi a1.Kind, qi a1.N, qs [], .nil, .nil]], []⟩ mO lE ?_ ?_
     ·
      rintro t1 rfl
      refine s_ ?_
      refine WO_iA H (fun hc H => ?_) (fun hc H => ?_)
      ·
       refine s_ ?_
       refine WO_iA H (fun hc H => ?_) (fun hc H => ?_)
       ·
        refine s_ ?_
        refine WO_want rfl rfl rfl (n1 ?_)
        refine s_ ?_
        refine WO_iA H (fun hc H => ?_) (fun hc H => ?_)
        ·
         refine s_ ?_
         refine WO_want rfl rfl rfl (n1 ?_)
         exact au0 H
        ·
         exact au0 H
       ·
        exact au0 H
      ·
       exact au0 H
     ·
      intro V1 hV1 hW1 hX1
      refine (show ∀ s', impl_shapeOk.l2 = some s' → s' = t8 → (V1 ⟨[.no, .bp 0 0, .no, .bp 1 0, .no, .no, .no, .no, .no, .no, .no, .no, .no, .no, .no, .no, .no, .no, .no, .no, .no, .no, .no, .no, .no, .no, .no, .no, .no, .no, .no, .no, .no, .no, .no, .no, .no, .no, .no, .no, .no, .no, .no, .no, .no, .no, .no, .no, .no, .no, .no, .no, .no, .no, .no, .no, .no, .no, .no, .no, .no, .nil, qi 0, qi 0], [some [qi a1.Kind, qi a1.N, qs a1.S, .c (cL eS a1.Keys), .c (cL eR_Node a1.Kids)], some [qi a1.Kind, qi a1.N, qs [], .nil, .nil]], []⟩) from ?_) _ ht8 rfl
      intro  s' H1 e
      unfold impl_shapeOk.l2 at H1
      subst e
      refine hV1 _ ?_
      exact au H1 (aL trivial hX1 (aA H trivial))
   ·
    refine s_ ?_
    refine W_ite rfl H (fun hc H => ?_) (fun hc H => ?_)
    ·
     refine s_ ?_
     obtain ⟨x10, hx10, H⟩ := bnd H
     refine b_ hx10 ?_
     refine s_ ?_
     refine W_ite rfl H (fun hc H => ?_) (fun hc H => ?_)
     ·
      exact au0 H
     ·
      refine s_ ?_
      refine WO_op rfl rfl rfl (n1 ?_)
      refine s_ ?_
      obtain ⟨t11, ht11, H⟩ := bnd H
      refine loop_rule (ls := []) 1 (fun t11 : Unit => ⟨[.no, .bp 0 0, .no, .bp 1 0], [some [qi a1.Kind, qi a1.N, qs a1.S, .c (cL eS a1.Keys), .c (cL eR_Node a1.Kids)], some [qi a1.Kind, qi 0, qs a1.S, .nil, .nil]], []⟩) (fun t => t11 = t) ⟨[.no, .bp 0 0, .no, .bp 1 0, .no, .no, .no, .no, .no, .no, .no, .no, .no, .no, .no, .no, .no, .no, .no, .no, .no, .no, .no, .no, .no, .no, .no, .no, .no, .no, .no, .no, .no, .no, .no, .no, .no, .no, .no, .no, .no, .no, .no, .no, .no, .no, .no, .no, .no, .no, .no, .no, .no, .no, .no, .no, .no, .no, .no, .no, .no, .nil, qi 0, qi 0], [some [qi a1.Kind, qi a1.N, qs a1.S, .c (cL eS a1.Keys), .c (cL eR_Node a1.Kids)], some [qi a1.Kind, qi 0, qs a1.S, .nil, .nil]], []⟩ mO lE ?_ ?_
      ·
       rintro t1 rfl
       refine s_ ?_
       refine WO_iA H (fun hc H => ?_) (fun hc H => ?_)
       ·
        refine s_ ?_
        refine WO_iA H (fun hc H => ?_) (fun hc H => ?_)
        ·
         refine s_ ?_
         refine WO_want rfl rfl rfl (n1 ?_)
         refine s_ ?_
         refine WO_iA H (fun hc H => ?_) (fun hc H => ?_)
         ·
          refine s_ ?_
          refine WO_want rfl rfl rfl (n1 ?_)
          exact au0 H
         ·
          exact au0 H
        ·
         exact au0 H
       ·
        exact au0 H
      ·
       intro V1 hV1 hW1 hX1
       refine (show ∀ s', impl_shapeOk.l3 = some s' → s' = t11 → (V1 ⟨[.no, .bp 0 0, .no, .bp 1 0, .no, .no, .no, .no, .no, .no, .no, .no, .no, .no, .no, .no, .no, .no, .no, .no, .no, .no, .no, .no, .no, .no, .no, .no, .no, .no, .no, .no, .no, .no, .no, .no, .no, .no, .no, .no, .no, .no, .no, .no, .no, .no, .no, .no, .no, .no, .no, .no, .no, .no, .no, .no, .no, .no, .no, .no, .no, .nil, qi 0, qi 0], [some [qi a1.Kind, qi a1.N, qs a1.S, .c (cL eS a1.Keys), .c (cL eR_Node a1.Kids)], some [qi a1.Kind, qi 0, qs a1.S, .nil, .nil]], []⟩) from ?_) _ ht11 rfl
       intro  s' H1 e
       unfold impl_shapeOk.l3 at H1
       subst e
       refine hV1 _ ?_
       exact au H1 (aL trivial hX1 (aA H trivial))
    ·
     refine s_ ?_
     refine W_ite rfl H (fun hc H => ?_) (fun hc H => ?_)
     ·
      refine s_ ?_
      refine WO_op rfl rfl rfl (n1 ?_)
      refine s_ ?_
      obtain ⟨t13, ht13, H⟩ := bnd H
      refine loop_rule (ls := []) 1 (fun t13 : Unit => ⟨[.no, .bp 0 0, .no, .bp 1 0], [some [qi a1.Kind, qi a1.N, qs a1.S, .c (cL eS a1.Keys), .c (cL eR_Node a1.Kids)], some [qi a1.Kind, qi 0, qs [], .nil, .c (cL eR_Node a1.Kids)]], []⟩) (fun t => t13 = t) ⟨[.no, .bp 0 0, .no, .bp 1 0, .no, .no, .no, .no, .no, .no, .no, .no, .no, .no, .no, .no, .no, .no, .no, .no, .no, .no, .no, .no, .no, .no, .no, .no, .no, .no, .no, .no, .no, .no, .no, .no, .no, .no, .no, .no, .no, .no, .no, .no, .no, .no, .no, .no, .no, .no, .no, .no, .no, .no, .no, .no, .no, .no, .no, .no, .no, .nil, qi 0, qi 0], [some [qi a1.Kind, qi a1.N, qs a1.S, .c (cL eS a1.Keys), .c (cL eR_Node a1.Kids)], some [qi a1.Kind, qi 0, qs [], .nil, .c (cL eR_Node a1.Kids)]], []⟩ mO lE ?_ ?_
      ·
       rintro t1 rfl
       refine s_ ?_
       refine WO_iA H (fun hc H => ?_) (fun hc H => ?_)
       ·
        refine s_ ?_
        refine WO_iA H (fun hc H => ?_) (fun hc H => ?_)
        ·
         refine s_ ?_
         refine WO_want rfl rfl rfl (n1 ?_)
         exact au0 H
        ·
         exact au0 H
       ·
        exact au0 H
      ·
       intro V1 hV1 hW1 hX1
       refine (show ∀ s', impl_shapeOk.l4 = some s' → s' = t13 → (V1 ⟨[.no, .bp 0 0, .no, .bp 1 0, .no, .no, .no, .no, .no, .no, .no, .no, .no, .no, .no, .no, .no, .no, .no, .no, .no, .no, .no, .no, .no, .no, .no, .no, .no, .no, .no, .no, .no, .no, .no, .no, .no, .no, .no, .no, .no, .no, .no, .no, .no, .no, .no, .no, .no, .no, .no, .no, .no, .no, .no, .no, .no, .no, .no, .no, .no, .nil, qi 0, qi 0], [some [qi a1.Kind, qi a1.N, qs a1.S, .c (cL eS a1.Keys), .c (cL eR_Node a1.Kids)], some [qi a1.Kind, qi 0, qs [], .nil, .c (cL eR_Node a1.Kids)]], []⟩) from ?_) _ ht13 rfl
       intro  s' H1 e
       unfold impl_shapeOk.l4 at H1
       subst e
       refine hV1 _ ?_
       exact au H1 (aL trivial hX1 (aA H trivial))
     ·
      refine s_ ?_
      refine W_ite rfl H (fun hc H => ?_) (fun hc H => ?_)
      ·
       refine s_ ?_
       refine W_ite rfl H (fun hc H => ?_) (fun hc H => ?_)
       ·
        exact au0 H
       ·
        refine s_ ?_
        obtain ⟨s20, hs20, H⟩ := bnd H
        refine loop_rule (ls := []) 1 (fun t19 : Unit => ⟨[.no, .bp 0 0, .no, .bp 1 0], [some [qi a1.Kind, qi a1.N, qs a1.S, .c (cL eS a1.Keys), .c (cL eR_Node a1.Kids)], some [qi a1.Kind, qi 0, qs [], .c (cL eS a1.Keys), .c (cL eR_Node a1.Kids)]], []⟩) (fun t => s20 = .inr t) ⟨[.no, .bp 0 0, .no, .bp 1 0, .no, .no, .no, .no, .no, .no, .no, .no, .no, .no, .no, .no, .no, .no, .no, .no, .no, .no, .no, .no, .no, .no, .no, .no, .no, .no, .no, .no, .no, .no, .no, .no, .no, .no, .no, .no, .no, .no, .no, .no, .no, .no, .no, .no, .no, .no, .no, .no, .no, .no, .no, .no, .no, .no, .no, .no, .no, .c (cL eS a1.Keys), qi (a1.Keys.length : Int), qi 0], [some [qi a1.Kind, qi a1.N, qs a1.S, .c (cL eS a1.Keys), .c (cL eR_Node a1.Kids)], some [qi a1.Kind, qi 0, qs [], .c (cL eS a1.Keys), .c (cL eR_Node a1.Kids)]], []⟩ mO lE ?_ ?_
        ·
         rintro t19 rfl
         exact au0 H
        ·
         intro V1 hV1 hW1 hX1
         refine (impl_shapeOk.l5.partial_correctness a1 (fun v15 s' => s' = s20 → (V1 ⟨[.no, .bp 0 0, .no, .bp 1 0, .no, .no, .no, .no, .no, .no, .no, .no, .no, .no, .no, .no, .no, .no, .no, .no, .no, .no, .no, .no, .no, .no, .no, .no, .no, .no, .no, .no, .no, .no, .no, .no, .no, .no, .no, .no, .no, .no, .no, .no, .no, .no, .no, .no, .no, .no, .no, .no, .no, .no, .no, .no, .no, .no, .no, .no, .no, .c (cL eS a1.Keys), qi (a1.Keys.length : Int), qi v15], [some [qi a1.Kind, qi a1.N, qs a1.S, .c (cL eS a1.Keys), .c (cL eR_Node a1.Kids)], some [qi a1.Kind, qi 0, qs [], .c (cL eS a1.Keys), .c (cL eR_Node a1.Kids)]], []⟩)) ?_ _ _ hs20 rfl)
         intro l0 IH1 v15 s' H1 e
         subst e
         refine hV1 _ ?_
         have J1a := fun {v15 τ} h l => hW1 _ τ ((IH1 v15 _ h rfl)) l
         exact au H1 (aL @J1a hX1 (aA H trivial))
      ·
       exact au0 H⟩
instance impl_allShapes_1_ok {rc106 : Node → Option (Bool)} [hrc106 : ∀ {a1 : Node}, FOK R (rc106 a1) 104 [gNode a1] fun r => (.c (cB r) none, [])] {a1 : Node} : FOK R (impl_allShapes_1 rc106 a1) 130 [gNode a1] fun r => (.c (cB r) none, []) := ⟨fun {r} H => by
 unfold impl_allShapes_1 at H
 refine fw false 6 Tryz.func130 ?_
 exact au0 H⟩
instance slices_IndexFunc_Simpl_Node_impl_Node_impl_allShapes_1_ok {rc106 : Node → Option (Bool)} [hrc106 : ∀ {a1 : Node}, FOK R (rc106 a1) 104 [gNode a1] fun r => (.c (cB r) none, [])] {a1 : List RNode} : FOK R (slices_IndexFunc_Simpl_Node_impl_Node_impl_allShapes_1 rc106 a1) 144 [.c (cL eR_Node a1) none, .f 130 []] fun r => (.c (cI .i64 r) none, []) := ⟨fun {r} H => by
 unfold slices_IndexFunc_Simpl_Node_impl_Node_impl_allShapes_1 at H
 refine fw false 19 Tryz.func144 ?_
 refine s_ ?_
 obtain ⟨s7, hs7, H⟩ := bnd H
 refine loop_rule (ls := []) 0 (fun t6 : Unit => ⟨[], [], []⟩) (fun t => s7 = .inr t) ⟨[.c (cL eR_Node a1), .fn 130 [], .no, .no, .no, .no, .no, qi (a1.length : Int), qi 0], [], []⟩ mO lE ?_ ?_
 ·
  rintro t6 rfl
  exact au0 H
 ·
  intro V1 hV1 hW1 hX1
  refine (slices_IndexFunc_Simpl_Node_impl_Node_impl_allShapes_1.l0.partial_correctness rc106 a1 (fun v2 s' => s' = s7 → (V1 ⟨[.c (cL eR_Node a1), .fn 130 [], .no, .no, .no, .no, .no, qi (a1.length : Int), qi v2], [], []⟩)) ?_ _ _ hs7 rfl)
  intro l0 IH1 v2 s' H1 e
  subst e
  refine hV1 _ ?_
  have J1a := fun {v2 τ} h l => hW1 _ τ ((IH1 v2 _ h rfl)) l
  exact au H1 (aL @J1a hX1 (aA H trivial))⟩
instance slices_ContainsFunc_Simpl_Node_impl_Node_impl_allShapes_1_ok {rc106 : Node → Option (Bool)} [hrc106 : ∀ {a1 : Node}, FOK R (rc106 a1) 104 [gNode a1] fun r => (.c (cB r) none, [])] {a1 : List RNode} : FOK R (slices_ContainsFunc_Simpl_Node_impl_Node_impl_allShapes_1 rc106 a1) 129 [.c (cL eR_Node a1) none, .f 130 []] fun r => (.c (cB r) none, []) := ⟨fun {r} H => by
 unfold slices_ContainsFunc_Simpl_Node_impl_Node_impl_allShapes_1 at H
 refine fw false 9 Tryz.func129 ?_
 exact au0 H⟩
instance impl_allShapes_F_ok {rc106 : Node → Option (Bool)} [hrc106 : ∀ {a1 : Node}, FOK R (rc106 a1) 104 [gNode a1] fun r => (.c (cB r) none, [])] {a1 : Node} : FOK R (impl_allShapes_F rc106 a1) 104 [gNode a1] fun r => (.c (cB r) none, []) := ⟨fun {r} H => by
 unfold impl_allShapes_F at H
 refine fw false 11 Tryz.func104 ?_
 exact au0 H⟩
theorem impl_allShapes_n_ok : ∀ (k : Nat) {a1 : Node} {r : Bool}, impl_allShapes_n k a1 = some r → R 104 [gNode a1] = some ((fun r => (.c (cB r) none, [])) r)
  | 0, _, _, h => by simp [impl_allShapes_n] at h
  | k + 1, _, _, h => (impl_allShapes_F_ok (hrc106 := ⟨fun h => impl_allShapes_n_ok k h⟩)).ok h
instance impl_allShapes_ok {a1 : Node} : FOK R (impl_allShapes a1) 104 [gNode a1] fun r => (.c (cB r) none, []) := ⟨fun {r} H => by
 obtain ⟨k, hk⟩ := Nt.lim_ex H
 exact impl_allShapes_n_ok k (hk k (Nat.le_refl k))⟩
instance impl_TreeOk_ok  {a1 : Node} : FOK R (impl_TreeOk a1) 73 [gNode a1] fun r => (.c (cB r) none, []) := ⟨fun {r} H => by
 unfold impl_TreeOk at H
 refine fw false 20 Tryz.func73 ?_
 exact au0 H⟩
instance impl_Quote_ok  {a1 : Str} : FOK R (impl_Quote a1) 106 [.c (cS a1) none] fun r => (.c (cS r) none, []) := ⟨fun {r} H => by
 unfold impl_Quote at H
 refine fw false 38 Tryz.func106 ?_
 refine s_ ?_
 obtain ⟨x2, hx2, H⟩ := bnd H
 refine b_ hx2 ?_
 refine s_ ?_
 refine W_ite rfl H (fun hc H => ?_) (fun hc H => ?_)
 ·
  exact au0 H
 ·
  refine s_ ?_
  obtain ⟨t15, ht15, H⟩ := bnd H
  refine loop_rule (ls := []) 0 (fun t15 : List Int => ⟨[.no, .no, .no, .row 0], [], [rr 1 eU t15 true]⟩) (fun t => t15 = t) ⟨[qs a1, .no, .no, .row 0, .no, .no, .no, .no, .no, .no, qi (a1.length : Int), qi 0], [], [rr 1 eU ([34] : List Int) true]⟩ mO lE ?_ ?_
  ·
   rintro t1 rfl
   exact au0 H
  ·
   intro V1 hV1 hW1 hX1
   refine (impl_Quote.l0.partial_correctness a1 (fun v3 v4 s' => s' = t15 → (V1 ⟨[qs a1, .no, .no, .row 0, .no, .no, .no, .no, .no, .no, qi (a1.length : Int), qi v3], [], [rr 1 eU v4 true]⟩)) ?_ _ _ _ ht15 rfl)
   intro l0 IH1 v3 v4 s' H1 e
   subst e
   refine hV1 _ ?_
   have J1a := fun {v3 v4 τ} h l => hW1 _ τ ((IH1 v3 v4 _ h rfl)) l
   exact au H1 (aL @J1a hX1 (aA H trivial))⟩
theorem strings_Join_ok {a1 : List Str} {a2 r : Str} (H : strings_Join a1 a2 = some r) : R 107 [.c (cL eS a1) none, .c (cS a2) none] = some (.c (cS r) none, []) :=
  Fz_pr rfl (joinF_of H)
instance strings_Join_i {a1 : List Str} {a2 : Str} : FOK R (strings_Join a1 a2) 107 [.c (cL eS a1) none, .c (cS a2) none] fun r => (.c (cS r) none, []) := ⟨fun {r} H => strings_Join_ok H⟩
instance impl_braced_F_ok {rc111 : Node → Option (Str)} [hrc111 : ∀ {a1 : Node}, FOK R (rc111 a1) 74 [gNode a1] fun r => (.c (cS r) none, [])] {a1 : Node} : FOK R (impl_braced_F rc111 a1) 74 [gNode a1] fun r => (.c (cS r) none, []) := ⟨fun {r} H => by
 unfold impl_braced_F at H
 refine fw false 65 Tryz.func74 ?_
 refine s_ ?_
 refine W_ite rfl H (fun hc H => ?_) (fun hc H => ?_)
 ·
  exact au0 H
 ·
  refine s_ ?_
  refine W_ite rfl H (fun hc H => ?_) (fun hc H => ?_)
  ·
   exact au0 H
  ·
   refine s_ ?_
   refine W_ite rfl H (fun hc H => ?_) (fun hc H => ?_)
   ·
    exact au0 H
   ·
    refine s_ ?_
    refine W_ite rfl H (fun hc H => ?_) (fun hc H => ?_)
    ·
     exact au0 H
    ·
     refine s_ ?_
     obtain ⟨t15, ht15, H⟩ := bnd H
     refine loop_rule (ls := []) 1 (fun t15 : List Str => ⟨[.no, .bp 0 0, .no, .row 0], [some [qi a1.Kind, qi a1.N, qs a1.S, .c (cL eS a1.Keys), .c (cL eR_Node a1.Kids)]], [rr 1 eS t15 true]⟩) (fun t => t15 = t) ⟨[.no, .bp 0 0, .no, .row 0, .no, .no, .no, .no, .no, .no, .no, .no, .no, .no, .no, .no, .no, .no, .no, .no, .no, .no, .no, .no, .no, .no, .no, .no, .c (cL eR_Node a1.Kids), qi (a1.Kids.length : Int), qi 0], [some [qi a1.Kind, qi a1.N, qs a1.S, .c (cL eS a1.Keys), .c (cL eR_Node a1.Kids)]], [rr 1 eS ([] : List Str) true]⟩ mO lE ?_ ?_
     ·
      rintro t1 rfl
      exact au0 H
     ·
      intro V1 hV1 hW1 hX1
      refine (impl_braced.l0.partial_correctness rc111 a1 (fun v4 v5 s' => s' = t15 → (V1 ⟨[.no, .bp 0 0, .no, .row 0, .no, .no, .no, .no, .no, .no, .no, .no, .no, .no, .no, .no, .no, .no, .no, .no, .no, .no, .no, .no, .no, .no, .no, .no, .c (cL eR_Node a1.Kids), qi (a1.Kids.length : Int), qi v4], [some [qi a1.Kind, qi a1.N, qs a1.S, .c (cL eS a1.Keys), .c (cL eR_Node a1.Kids)]], [rr 1 eS v5 true]⟩)) ?_ _ _ _ ht15 rfl)
      intro l0 IH1 v4 v5 s' H1 e
      subst e
      refine hV1 _ ?_
      have J1a := fun {v4 v5 τ} h l => hW1 _ τ ((IH1 v4 v5 _ h rfl)) l
      exact au H1 (aL @J1a hX1 (aA H trivial))⟩
theorem impl_braced_n_ok : ∀ (k : Nat) {a1 : Node} {r : Str}, impl_braced_n k a1 = some r → R 74 [gNode a1] = some ((fun r => (.c (cS r) none, [])) r)
  | 0, _, _, h => by simp [impl_braced_n] at h
  | k + 1, _, _, h => (impl_braced_F_ok (hrc111 := ⟨fun h => impl_braced_n_ok k h⟩)).ok h
instance impl_braced_ok {a1 : Node} : FOK R (impl_braced a1) 74 [gNode a1] fun r => (.c (cS r) none, []) := ⟨fun {r} H => by
 obtain ⟨k, hk⟩ := Nt.lim_ex H
 exact impl_braced_n_ok k (hk k (Nat.le_refl k))⟩
instance impl_Braced_ok  {a1 : Node} : FOK R (impl_Braced a1) 42 [gNode a1] fun r => (.c (cS r) none, []) := ⟨fun {r} H => by
 unfold impl_Braced at H
 refine fw false 8 Tryz.func42 ?_
 exact au0 H⟩
instance impl_pacedNotes_ok  {a1 : Order} : FOK R (impl_pacedNotes a1) 81 [gOrder a1] fun r => (gNode_oo r, []) := ⟨fun {r} H => by
 unfold impl_pacedNotes at H
 refine fw false 19 Tryz.func81 ?_
 refine s_ ?_
 obtain ⟨x2, hx2, H⟩ := bnd H
 refine b_ hx2 ?_
 refine s_ ?_
 obtain ⟨x3, hx3, H⟩ := bnd H
 refine b_ hx3 ?_
 refine WL_op (x := qb (!((a1.Pace.Up == x3.Up) && ((a1.Pace.Down == x3.Down) && ((a1.Pace.UpSpan == x3.UpSpan) && ((a1.Pace.DownSpan == x3.DownSpan) && true)))))) rfl rfl rfl (ev_eqT (r := ((a1.Pace.Up == x3.Up) && ((a1.Pace.Down == x3.Down) && ((a1.Pace.UpSpan == x3.UpSpan) && ((a1.Pace.DownSpan == x3.DownSpan) && true))))) rfl rfl rfl rfl (by kernel_rfl) (by kernel_rfl) rfl) (n1 ?_)
 exact au0 H⟩
instance impl_MidTree_ok  {a1 : Order} : FOK R (impl_MidTree a1) 45 [gOrder a1] fun r => (gNode_oo r, []) := ⟨fun {r} H => by
 unfold impl_MidTree at H
 refine fw false 18 Tryz.func45 ?_
 refine s_ ?_
 obtain ⟨x2, hx2, H⟩ := bnd H
 refine b_ hx2 ?_
 refine s_ ?_
 refine W_ite rfl H (fun hc H => ?_) (fun hc H => ?_)
 ·
  exact au0 H
 ·
  refine s_ ?_
  refine W_lateL [3] (by kernel_rfl) (by decide +kernel) rfl ?_; refine WL_c rfl ?_; simp only [SX.clr,List.foldl,putT,st,ev,gt,hp,ofV,constT,intT,lm]
  exact au0 H⟩
theorem slices_Clone_Simpl_Metric_impl_Metric_ok {a1 r : List Metric} (H : slices_Clone_Simpl_Metric_impl_Metric a1 = some r) : R 82 [.c (cL enc_Metric a1) none] = some (.c (cL enc_Metric r) (some (3, false)), []) := by
  unfold slices_Clone_Simpl_Metric_impl_Metric Nt.clone at H
  split at H
  · rename_i h
    obtain rfl := Option.some.inj H
    exact Fz_pr rfl (by simp only [cloneF]; rw [if_pos ⟨wide_map (en := enc_Metric) (fun _ => rfl) a1, by simpa using h⟩])
  · simp at H
instance slices_Clone_Simpl_Metric_impl_Metric_i {a1 : List Metric} : FOK R (slices_Clone_Simpl_Metric_impl_Metric a1) 82 [.c (cL enc_Metric a1) none] fun r => (.c (cL enc_Metric r) (some (3, false)), []) := ⟨fun {r} H => slices_Clone_Simpl_Metric_impl_Metric_ok H⟩
end Go.Pu
