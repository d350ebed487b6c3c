import Derived.Test.YtnjjfghnbgbclaaGreatFetchOk0
import Derived.Test.YtnjjfghnbgbclaaGreatFetchOk1
import Derived.Test.YtnjjfghnbgbclaaGreatFetchOk2
set_option linter.unusedVariables false
set_option linter.unusedSimpArgs false
set_option synthInstance.maxSize 1000000000
set_option maxRecDepth 20000
set_option maxHeartbeats 20000000
namespace Go.Pu
open Go Go.SX Go.Nt Go.Proofs
instance impl_shapeOk_ok  {a1 : Node} : FOK R (impl_shapeOk a1) 154 [gNode a1] fun r => (.c (cB r) none, []) := ⟨fun {r} H => by
 unfold impl_shapeOk at H
 refine fw false 116 Tryz.func154 ?_
 refine s_ ?_
 refine W_ite rfl H (fun hc H => ?_) (fun hc H => ?_)
 ·
  refine s_ ?_
  refine WO_op rfl rfl rfl (n1 ?_)
  refine s_ ?_
  obtain ⟨t2, ht2, H⟩ := bnd H
  refine loop_rule (ls := []) 1 (fun t2 : Unit => ⟨[.no, .bp 0 0, .no, .bp 1 0], [some [qi a1.Kind, qi a1.N, qs a1.S, .c (cL eS a1.Keys), .c (cL eR_Node a1.Kids)], some [qi a1.Kind, qi 0, qs [], .nil, .nil]], []⟩) (fun t => t2 = t) ⟨[.no, .bp 0 0, .no, .bp 1 0, .no, .no, .no, .no, .no, .no, .no, .no, .no, .no, .no, .no, .no, .no, .no, .no, .no, .no, .no, .no, .no, .no, .no, .no, .no, .no, .no, .no, .no, .no, .no, .no, .no, .no, .no, .no, .no, .no, .no, .no, .no, .no, .no, .no, .no, .no, .no, .no, .no, .no, .no, .no, .no, .no, .no, .no, .no, .nil, qi 0, qi 0], [some [qi a1.Kind, qi a1.N, qs a1.S, .c (cL eS a1.Keys), .c (cL eR_Node a1.Kids)], some [qi a1.Kind, qi 0, qs [], .nil, .nil]], []⟩ mO lE ?_ ?_
  ·
   rintro t1 rfl
   refine s_ ?_
   refine WO_iA H (fun hc H => ?_) (fun hc H => ?_)
   ·
    refine s_ ?_
    refine WO_iA H (fun hc H => ?_) (fun hc H => ?_)
    ·
     refine s_ ?_
     refine WO_want rfl rfl rfl (n1 ?_)
     refine s_ ?_
     refine WO_iA H (fun hc H => ?_) (fun hc H => ?_)
     ·
      refine s_ ?_
      refine WO_want rfl rfl rfl (n1 ?_)
      exact au0 H
     ·
      exact au0 H
    ·
     exact au0 H
   ·
    exact au0 H
  ·
   intro V1 hV1 hW1 hX1
   refine (show ∀ s', impl_shapeOk.l0 = some s' → s' = t2 → (V1 ⟨[.no, .bp 0 0, .no, .bp 1 0, .no, .no, .no, .no, .no, .no, .no, .no, .no, .no, .no, .no, .no, .no, .no, .no, .no, .no, .no, .no, .no, .no, .no, .no, .no, .no, .no, .no, .no, .no, .no, .no, .no, .no, .no, .no, .no, .no, .no, .no, .no, .no, .no, .no, .no, .no, .no, .no, .no, .no, .no, .no, .no, .no, .no, .no, .no, .nil, qi 0, qi 0], [some [qi a1.Kind, qi a1.N, qs a1.S, .c (cL eS a1.Keys), .c (cL eR_Node a1.Kids)], some [qi a1.Kind, qi 0, qs [], .nil, .nil]], []⟩) from ?_) _ ht2 rfl
   intro  s' H1 e
   unfold impl_shapeOk.l0 at H1
   subst e
   refine hV1 _ ?_
   exact au H1 (aL trivial hX1 (aA H trivial))
 ·
  refine s_ ?_
  refine W_ite rfl H (fun hc H => ?_) (fun hc H => ?_)
  ·
   refine s_ ?_
   obtain ⟨x4, hx4, H⟩ := bnd H
   refine b_ hx4 ?_
   refine s_ ?_
   refine W_ite rfl H (fun hc H => ?_) (fun hc H => ?_)
   ·
    exact au0 H
   ·
    refine s_ ?_
    refine WO_op rfl rfl rfl (n1 ?_)
    refine s_ ?_
    obtain ⟨t5, ht5, H⟩ := bnd H
    refine loop_rule (ls := []) 1 (fun t5 : Unit => ⟨[.no, .bp 0 0, .no, .bp 1 0], [some [qi a1.Kind, qi a1.N, qs a1.S, .c (cL eS a1.Keys), .c (cL eR_Node a1.Kids)], some [qi a1.Kind, qi a1.N, qs [], .nil, .nil]], []⟩) (fun t => t5 = t) ⟨[.no, .bp 0 0, .no, .bp 1 0, .no, .no, .no, .no, .no, .no, .no, .no, .no, .no, .no, .no, .no, .no, .no, .no, .no, .no, .no, .no, .no, .no, .no, .no, .no, .no, .no, .no, .no, .no, .no, .no, .no, .no, .no, .no, .no, .no, .no, .no, .no, .no, .no, .no, .no, .no, .no, .no, .no, .no, .no, .no, .no, .no, .no, .no, .no, .nil, qi 0, qi 0], [some [qi a1.Kind, qi a1.N, qs a1.S, .c (cL eS a1.Keys), .c (cL eR_Node a1.Kids)], some [qi a1.Kind, qi a1.N, qs [], .nil, .nil]], []⟩ mO lE ?_ ?_
    ·
     rintro t1 rfl
     refine s_ ?_
     refine WO_iA H (fun hc H => ?_) (fun hc H => ?_)
     ·
      refine s_ ?_
      refine WO_iA H (fun hc H => ?_) (fun hc H => ?_)
      ·
       refine s_ ?_
       refine WO_want rfl rfl rfl (n1 ?_)
       refine s_ ?_
       refine WO_iA H (fun hc H => ?_) (fun hc H => ?_)
       ·
        refine s_ ?_
        refine WO_want rfl rfl rfl (n1 ?_)
        exact au0 H
       ·
        exact au0 H
      ·
       exact au0 H
     ·
      exact au0 H
    ·
     intro V1 hV1 hW1 hX1
     refine (show ∀ s', impl_shapeOk.l1 = some s' → s' = t5 → (V1 ⟨[.no, .bp 0 0, .no, .bp 1 0, .no, .no, .no, .no, .no, .no, .no, .no, .no, .no, .no, .no, .no, .no, .no, .no, .no, .no, .no, .no, .no, .no, .no, .no, .no, .no, .no, .no, .no, .no, .no, .no, .no, .no, .no, .no, .no, .no, .no, .no, .no, .no, .no, .no, .no, .no, .no, .no, .no, .no, .no, .no, .no, .no, .no, .no, .no, .nil, qi 0, qi 0], [some [qi a1.Kind, qi a1.N, qs a1.S, .c (cL eS a1.Keys), .c (cL eR_Node a1.Kids)], some [qi a1.Kind, qi a1.N, qs [], .nil, .nil]], []⟩) from ?_) _ ht5 rfl
     intro  s' H1 e
     unfold impl_shapeOk.l1 at H1
     subst e
     refine hV1 _ ?_
     exact au H1 (aL trivial hX1 (aA H trivial))
  ·
   refine s_ ?_
   refine W_ite rfl H (fun hc H => ?_) (fun hc H => ?_)
   ·
    refine s_ ?_
    obtain ⟨x7, hx7, H⟩ := bnd H
    refine b_ hx7 ?_
    refine s_ ?_
    refine W_ite rfl H (fun hc H => ?_) (fun hc H => ?_)
    ·
     exact au0 H
    ·
     refine s_ ?_
     refine WO_op rfl rfl rfl (n1 ?_)
     refine s_ ?_
     obtain ⟨t8, ht8, H⟩ := bnd H
     refine loop_rule (ls := []) 1 (fun t8 : Unit => ⟨[.no, .bp 0 0, .no, .bp 1 0], [some [qi a1.Kind, qi a1.N, qs a1.S, .c (cL eS a1.Keys), .c (cL eR_Node a1.Kids)], some [qi a1.Kind, qi a1.N, qs [], .nil, .nil]], []⟩) (fun t => t8 = t) ⟨[.no, .bp 0 0, .no, .bp 1 0, .no, .no, .no, .no, .no, .no, .no, .no, .no, .no, .no, .no, .no, .no, .no, .no, .no, .no, .no, .no, .no, .no, .no, .no, .no, .no, .no, .no, .no, .no, .no, .no, .no, .no, .no, .no, .no, .no, .no, .no, .no, .no, .no, .no, .no, .no, .no, .no, .no, .no, .no, .no, .no, .no, .no, .no, .no, .nil, qi 0, qi 0], [some [qi a1.Kind, qi a1.N, qs a1.S, .c (cL eS a1.Keys), .c (cL eR_Node a1.Kids)], some [qi a1.Kind, qi a1.N, qs [], .nil, .nil]], []⟩ mO lE ?_ ?_
     ·
      rintro t1 rfl
      refine s_ ?_
      refine WO_iA H (fun hc H => ?_) (fun hc H => ?_)
      ·
       refine s_ ?_
       refine WO_iA H (fun hc H => ?_) (fun hc H => ?_)
       ·
        refine s_ ?_
        refine WO_want rfl rfl rfl (n1 ?_)
        refine s_ ?_
        refine WO_iA H (fun hc H => ?_) (fun hc H => ?_)
        ·
         refine s_ ?_
         refine WO_want rfl rfl rfl (n1 ?_)
         exact au0 H
        ·
         exact au0 H
       ·
        exact au0 H
      ·
       exact au0 H
     ·
      intro V1 hV1 hW1 hX1
      refine (show ∀ s', impl_shapeOk.l2 = some s' → s' = t8 → (V1 ⟨[.no, .bp 0 0, .no, .bp 1 0, .no, .no, .no, .no, .no, .no, .no, .no, .no, .no, .no, .no, .no, .no, .no, .no, .no, .no, .no, .no, .no, .no, .no, .no, .no, .no, .no, .no, .no, .no, .no, .no, .no, .no, .no, .no, .no, .no, .no, .no, .no, .no, .no, .no, .no, .no, .no, .no, .no, .no, .no, .no, .no, .no, .no, .no, .no, .nil, qi 0, qi 0], [some [qi a1.Kind, qi a1.N, qs a1.S, .c (cL eS a1.Keys), .c (cL eR_Node a1.Kids)], some [qi a1.Kind, qi a1.N, qs [], .nil, .nil]], []⟩) from ?_) _ ht8 rfl
      intro  s' H1 e
      unfold impl_shapeOk.l2 at H1
      subst e
      refine hV1 _ ?_
      exact au H1 (aL trivial hX1 (aA H trivial))
   ·
    refine s_ ?_
    refine W_ite rfl H (fun hc H => ?_) (fun hc H => ?_)
    ·
     refine s_ ?_
     obtain ⟨x10, hx10, H⟩ := bnd H
     refine b_ hx10 ?_
     refine s_ ?_
     refine W_ite rfl H (fun hc H => ?_) (fun hc H => ?_)
     ·
      exact au0 H
     ·
      refine s_ ?_
      refine WO_op rfl rfl rfl (n1 ?_)
      refine s_ ?_
      obtain ⟨t11, ht11, H⟩ := bnd H
      refine loop_rule (ls := []) 1 (fun t11 : Unit => ⟨[.no, .bp 0 0, .no, .bp 1 0], [some [qi a1.Kind, qi a1.N, qs a1.S, .c (cL eS a1.Keys), .c (cL eR_Node a1.Kids)], some [qi a1.Kind, qi 0, qs a1.S, .nil, .nil]], []⟩) (fun t => t11 = t) ⟨[.no, .bp 0 0, .no, .bp 1 0, .no, .no, .no, .no, .no, .no, .no, .no, .no, .no, .no, .no, .no, .no, .no, .no, .no, .no, .no, .no, .no, .no, .no, .no, .no, .no, .no, .no, .no, .no, .no, .no, .no, .no, .no, .no, .no, .no, .no, .no, .no, .no, .no, .no, .no, .no, .no, .no, .no, .no, .no, .no, .no, .no, .no, .no, .no, .nil, qi 0, qi 0], [some [qi a1.Kind, qi a1.N, qs a1.S, .c (cL eS a1.Keys), .c (cL eR_Node a1.Kids)], some [qi a1.Kind, qi 0, qs a1.S, .nil, .nil]], []⟩ mO lE ?_ ?_
      ·
       rintro t1 rfl
       refine s_ ?_
       refine WO_iA H (fun hc H => ?_) (fun hc H => ?_)
       ·
        refine s_ ?_
        refine WO_iA H (fun hc H => ?_) (fun hc H => ?_)
        ·
         refine s_ ?_
         refine WO_want rfl rfl rfl (n1 ?_)
         refine s_ ?_
         refine WO_iA H (fun hc H => ?_) (fun hc H => ?_)
         ·
          refine s_ ?_
          refine WO_want rfl rfl rfl (n1 ?_)
          exact au0 H
         ·
          exact au0 H
        ·
         exact au0 H
       ·
        exact au0 H
      ·
       intro V1 hV1 hW1 hX1
       refine (show ∀ s', impl_shapeOk.l3 = some s' → s' = t11 → (V1 ⟨[.no, .bp 0 0, .no, .bp 1 0, .no, .no, .no, .no, .no, .no, .no, .no, .no, .no, .no, .no, .no, .no, .no, .no, .no, .no, .no, .no, .no, .no, .no, .no, .no, .no, .no, .no, .no, .no, .no, .no, .no, .no, .no, .no, .no, .no, .no, .no, .no, .no, .no, .no, .no, .no, .no, .no, .no, .no, .no, .no, .no, .no, .no, .no, .no, .nil, qi 0, qi 0], [some [qi a1.Kind, qi a1.N, qs a1.S, .c (cL eS a1.Keys), .c (cL eR_Node a1.Kids)], some [qi a1.Kind, qi 0, qs a1.S, .nil, .nil]], []⟩) from ?_) _ ht11 rfl
       intro  s' H1 e
       unfold impl_shapeOk.l3 at H1
       subst e
       refine hV1 _ ?_
       exact au H1 (aL trivial hX1 (aA H trivial))
    ·
     refine s_ ?_
     refine W_ite rfl H (fun hc H => ?_) (fun hc H => ?_)
     ·
      refine s_ ?_
      refine WO_op rfl rfl rfl (n1 ?_)
      refine s_ ?_
      obtain ⟨t13, ht13, H⟩ := bnd H
      refine loop_rule (ls := []) 1 (fun t13 : Unit => ⟨[.no, .bp 0 0, .no, .bp 1 0], [some [qi a1.Kind, qi a1.N, qs a1.S, .c (cL eS a1.Keys), .c (cL eR_Node a1.Kids)], some [qi a1.Kind, qi 0, qs [], .nil, .c (cL eR_Node a1.Kids)]], []⟩) (fun t => t13 = t) ⟨[.no, .bp 0 0, .no, .bp 1 0, .no, .no, .no, .no, .no, .no, .no, .no, .no, .no, .no, .no, .no, .no, .no, .no, .no, .no, .no, .no, .no, .no, .no, .no, .no, .no, .no, .no, .no, .no, .no, .no, .no, .no, .no, .no, .no, .no, .no, .no, .no, .no, .no, .no, .no, .no, .no, .no, .no, .no, .no, .no, .no, .no, .no, .no, .no, .nil, qi 0, qi 0], [some [qi a1.Kind, qi a1.N, qs a1.S, .c (cL eS a1.Keys), .c (cL eR_Node a1.Kids)], some [qi a1.Kind, qi 0, qs [], .nil, .c (cL eR_Node a1.Kids)]], []⟩ mO lE ?_ ?_
      ·
       rintro t1 rfl
       refine s_ ?_
       refine WO_iA H (fun hc H => ?_) (fun hc H => ?_)
       ·
        refine s_ ?_
        refine WO_iA H (fun hc H => ?_) (fun hc H => ?_)
        ·
         refine s_ ?_
         refine WO_want rfl rfl rfl (n1 ?_)
         exact au0 H
        ·
         exact au0 H
       ·
        exact au0 H
      ·
       intro V1 hV1 hW1 hX1
       refine (show ∀ s', impl_shapeOk.l4 = some s' → s' = t13 → (V1 ⟨[.no, .bp 0 0, .no, .bp 1 0, .no, .no, .no, .no, .no, .no, .no, .no, .no, .no, .no, .no, .no, .no, .no, .no, .no, .no, .no, .no, .no, .no, .no, .no, .no, .no, .no, .no, .no, .no, .no, .no, .no, .no, .no, .no, .no, .no, .no, .no, .no, .no, .no, .no, .no, .no, .no, .no, .no, .no, .no, .no, .no, .no, .no, .no, .no, .nil, qi 0, qi 0], [some [qi a1.Kind, qi a1.N, qs a1.S, .c (cL eS a1.Keys), .c (cL eR_Node a1.Kids)], some [qi a1.Kind, qi 0, qs [], .nil, .c (cL eR_Node a1.Kids)]], []⟩) from ?_) _ ht13 rfl
       intro  s' H1 e
       unfold impl_shapeOk.l4 at H1
       subst e
       refine hV1 _ ?_
       exact au H1 (aL trivial hX1 (aA H trivial))
     ·
      refine s_ ?_
      refine W_ite rfl H (fun hc H => ?_) (fun hc H => ?_)
      ·
       refine s_ ?_
       refine W_ite rfl H (fun hc H => ?_) (fun hc H => ?_)
       ·
        exact au0 H
       ·
        refine s_ ?_
        obtain ⟨s20, hs20, H⟩ := bnd H
        refine loop_rule (ls := []) 1 (fun t19 : Unit => ⟨[.no, .bp 0 0, .no, .bp 1 0], [some [qi a1.Kind, qi a1.N, qs a1.S, .c (cL eS a1.Keys), .c (cL eR_Node a1.Kids)], some [qi a1.Kind, qi 0, qs [], .c (cL eS a1.Keys), .c (cL eR_Node a1.Kids)]], []⟩) (fun t => s20 = .inr t) ⟨[.no, .bp 0 0, .no, .bp 1 0, .no, .no, .no, .no, .no, .no, .no, .no, .no, .no, .no, .no, .no, .no, .no, .no, .no, .no, .no, .no, .no, .no, .no, .no, .no, .no, .no, .no, .no, .no, .no, .no, .no, .no, .no, .no, .no, .no, .no, .no, .no, .no, .no, .no, .no, .no, .no, .no, .no, .no, .no, .no, .no, .no, .no, .no, .no, .c (cL eS a1.Keys), qi (a1.Keys.length : Int), qi 0], [some [qi a1.Kind, qi a1.N, qs a1.S, .c (cL eS a1.Keys), .c (cL eR_Node a1.Kids)], some [qi a1.Kind, qi 0, qs [], .c (cL eS a1.Keys), .c (cL eR_Node a1.Kids)]], []⟩ mO lE ?_ ?_
        ·
         rintro t19 rfl
         exact au0 H
        ·
         intro V1 hV1 hW1 hX1
         refine (impl_shapeOk.l5.partial_correctness a1 (fun v15 s' => s' = s20 → (V1 ⟨[.no, .bp 0 0, .no, .bp 1 0, .no, .no, .no, .no, .no, .no, .no, .no, .no, .no, .no, .no, .no, .no, .no, .no, .no, .no, .no, .no, .no, .no, .no, .no, .no, .no, .no, .no, .no, .no, .no, .no, .no, .no, .no, .no, .no, .no, .no, .no, .no, .no, .no, .no, .no, .no, .no, .no, .no, .no, .no, .no, .no, .no, .no, .no, .no, .c (cL eS a1.Keys), qi (a1.Keys.length : Int), qi v15], [some [qi a1.Kind, qi a1.N, qs a1.S, .c (cL eS a1.Keys), .c (cL eR_Node a1.Kids)], some [qi a1.Kind, qi 0, qs [], .c (cL eS a1.Keys), .c (cL eR_Node a1.Kids)]], []⟩)) ?_ _ _ hs20 rfl)
         intro l0 IH1 v15 s' H1 e
         subst e
         refine hV1 _ ?_
         have J1a := fun {v15 τ} h l => hW1 _ τ ((IH1 v15 _ h rfl)) l
         exact au H1 (aL @J1a hX1 (aA H trivial))
      ·
       exact au0 H⟩
instance impl_allShapes_1_ok {rc128 : Node → Option (Bool)} [hrc128 : ∀ {a1 : Node}, FOK R (rc128 a1) 128 [gNode a1] fun r => (.c (cB r) none, [])] {a1 : Node} : FOK R (impl_allShapes_1 rc128 a1) 156 [gNode a1] fun r => (.c (cB r) none, []) := ⟨fun {r} H => by
 unfold impl_allShapes_1 at H
 refine fw false 6 Tryz.func156 ?_
 exact au0 H⟩
instance slices_IndexFunc_Simpl_Node_impl_Node_impl_allShapes_1_ok {rc128 : Node → Option (Bool)} [hrc128 : ∀ {a1 : Node}, FOK R (rc128 a1) 128 [gNode a1] fun r => (.c (cB r) none, [])] {a1 : List RNode} : FOK R (slices_IndexFunc_Simpl_Node_impl_Node_impl_allShapes_1 rc128 a1) 170 [.c (cL eR_Node a1) none, .f 156 []] fun r => (.c (cI .i64 r) none, []) := ⟨fun {r} H => by
 unfold slices_IndexFunc_Simpl_Node_impl_Node_impl_allShapes_1 at H
 refine fw false 19 Tryz.func170 ?_
 refine s_ ?_
 obtain ⟨s7, hs7, H⟩ := bnd H
 refine loop_rule (ls := []) 0 (fun t6 : Unit => ⟨[], [], []⟩) (fun t => s7 = .inr t) ⟨[.c (cL eR_Node a1), .fn 156 [], .no, .no, .no, .no, .no, qi (a1.length : Int), qi 0], [], []⟩ mO lE ?_ ?_
 ·
  rintro t6 rfl
  exact au0 H
 ·
  intro V1 hV1 hW1 hX1
  refine (slices_IndexFunc_Simpl_Node_impl_Node_impl_allShapes_1.l0.partial_correctness rc128 a1 (fun v2 s' => s' = s7 → (V1 ⟨[.c (cL eR_Node a1), .fn 156 [], .no, .no, .no, .no, .no, qi (a1.length : Int), qi v2], [], []⟩)) ?_ _ _ hs7 rfl)
  intro l0 IH1 v2 s' H1 e
  subst e
  refine hV1 _ ?_
  have J1a := fun {v2 τ} h l => hW1 _ τ ((IH1 v2 _ h rfl)) l
  exact au H1 (aL @J1a hX1 (aA H trivial))⟩
instance slices_ContainsFunc_Simpl_Node_impl_Node_impl_allShapes_1_ok {rc128 : Node → Option (Bool)} [hrc128 : ∀ {a1 : Node}, FOK R (rc128 a1) 128 [gNode a1] fun r => (.c (cB r) none, [])] {a1 : List RNode} : FOK R (slices_ContainsFunc_Simpl_Node_impl_Node_impl_allShapes_1 rc128 a1) 155 [.c (cL eR_Node a1) none, .f 156 []] fun r => (.c (cB r) none, []) := ⟨fun {r} H => by
 unfold slices_ContainsFunc_Simpl_Node_impl_Node_impl_allShapes_1 at H
 refine fw false 9 Tryz.func155 ?_
 exact au0 H⟩
instance impl_allShapes_F_ok {rc128 : Node → Option (Bool)} [hrc128 : ∀ {a1 : Node}, FOK R (rc128 a1) 128 [gNode a1] fun r => (.c (cB r) none, [])] {a1 : Node} : FOK R (impl_allShapes_F rc128 a1) 128 [gNode a1] fun r => (.c (cB r) none, []) := ⟨fun {r} H => by
 unfold impl_allShapes_F at H
 refine fw false 11 Tryz.func128 ?_
 exact au0 H⟩
theorem impl_allShapes_n_ok : ∀ (k : Nat) {a1 : Node} {r : Bool}, impl_allShapes_n k a1 = some r → R 128 [gNode a1] = some ((fun r => (.c (cB r) none, [])) r)
  | 0, _, _, h => by simp [impl_allShapes_n] at h
  | k + 1, _, _, h => (impl_allShapes_F_ok (hrc128 := ⟨fun h => impl_allShapes_n_ok k h⟩)).ok h
instance impl_allShapes_ok {a1 : Node} : FOK R (impl_allShapes a1) 128 [gNode a1] fun r => (.c (cB r) none, []) := ⟨fun {r} H => by
 obtain ⟨k, hk⟩ := Nt.lim_ex H
 exact impl_allShapes_n_ok k (hk k (Nat.le_refl k))⟩
instance impl_TreeOk_ok  {a1 : Node} : FOK R (impl_TreeOk a1) 91 [gNode a1] fun r => (.c (cB r) none, []) := ⟨fun {r} H => by
 unfold impl_TreeOk at H
 refine fw false 20 Tryz.func91 ?_
 exact au0 H⟩
instance impl_Quote_ok  {a1 : Str} : FOK R (impl_Quote a1) 130 [.c (cS a1) none] fun r => (.c (cS r) none, []) := ⟨fun {r} H => by
 unfold impl_Quote at H
 refine fw false 38 Tryz.func130 ?_
 refine s_ ?_
 obtain ⟨x2, hx2, H⟩ := bnd H
 refine b_ hx2 ?_
 refine s_ ?_
 refine W_ite rfl H (fun hc H => ?_) (fun hc H => ?_)
 ·
  exact au0 H
 ·
  refine s_ ?_
  obtain ⟨t15, ht15, H⟩ := bnd H
  refine loop_rule (ls := []) 0 (fun t15 : List Int => ⟨[.no, .no, .no, .row 0], [], [rr 1 eU t15 true]⟩) (fun t => t15 = t) ⟨[qs a1, .no, .no, .row 0, .no, .no, .no, .no, .no, .no, qi (a1.length : Int), qi 0], [], [rr 1 eU ([34] : List Int) true]⟩ mO lE ?_ ?_
  ·
   rintro t1 rfl
   exact au0 H
  ·
   intro V1 hV1 hW1 hX1
   refine (impl_Quote.l0.partial_correctness a1 (fun v3 v4 s' => s' = t15 → (V1 ⟨[qs a1, .no, .no, .row 0, .no, .no, .no, .no, .no, .no, qi (a1.length : Int), qi v3], [], [rr 1 eU v4 true]⟩)) ?_ _ _ _ ht15 rfl)
   intro l0 IH1 v3 v4 s' H1 e
   subst e
   refine hV1 _ ?_
   have J1a := fun {v3 v4 τ} h l => hW1 _ τ ((IH1 v3 v4 _ h rfl)) l
   exact au H1 (aL @J1a hX1 (aA H trivial))⟩
theorem strings_Join_ok {a1 : List Str} {a2 r : Str} (H : strings_Join a1 a2 = some r) : R 131 [.c (cL eS a1) none, .c (cS a2) none] = some (.c (cS r) none, []) :=
  Fz_pr rfl (joinF_of H)
instance strings_Join_i {a1 : List Str} {a2 : Str} : FOK R (strings_Join a1 a2) 131 [.c (cL eS a1) none, .c (cS a2) none] fun r => (.c (cS r) none, []) := ⟨fun {r} H => strings_Join_ok H⟩
instance impl_braced_F_ok {rc133 : Node → Option (Str)} [hrc133 : ∀ {a1 : Node}, FOK R (rc133 a1) 92 [gNode a1] fun r => (.c (cS r) none, [])] {a1 : Node} : FOK R (impl_braced_F rc133 a1) 92 [gNode a1] fun r => (.c (cS r) none, []) := ⟨fun {r} H => by
 unfold impl_braced_F at H
 refine fw false 65 Tryz.func92 ?_
 refine s_ ?_
 refine W_ite rfl H (fun hc H => ?_) (fun hc H => ?_)
 ·
  exact au0 H
 ·
  refine s_ ?_
  refine W_ite rfl H (fun hc H => ?_) (fun hc H => ?_)
  ·
   exact au0 H
  ·
   refine s_ ?_
   refine W_ite rfl H (fun hc H => ?_) (fun hc H => ?_)
   ·
    exact au0 H
   ·
    refine s_ ?_
    refine W_ite rfl H (fun hc H => ?_) (fun hc H => ?_)
    ·
     exact au0 H
    ·
     refine s_ ?_
     obtain ⟨t15, ht15, H⟩ := bnd H
     refine loop_rule (ls := []) 1 (fun t15 : List Str => ⟨[.no, .bp 0 0, .no, .row 0], [some [qi a1.Kind, qi a1.N, qs a1.S, .c (cL eS a1.Keys), .c (cL eR_Node a1.Kids)]], [rr 1 eS t15 true]⟩) (fun t => t15 = t) ⟨[.no, .bp 0 0, .no, .row 0, .no, .no, .no, .no, .no, .no, .no, .no, .no, .no, .no, .no, .no, .no, .no, .no, .no, .no, .no, .no, .no, .no, .no, .no, .c (cL eR_Node a1.Kids), qi (a1.Kids.length : Int), qi 0], [some [qi a1.Kind, qi a1.N, qs a1.S, .c (cL eS a1.Keys), .c (cL eR_Node a1.Kids)]], [rr 1 eS ([] : List Str) true]⟩ mO lE ?_ ?_
     ·
      rintro t1 rfl
      exact au0 H
     ·
      intro V1 hV1 hW1 hX1
      refine (impl_braced.l0.partial_correctness rc133 a1 (fun v4 v5 s' => s' = t15 → (V1 ⟨[.no, .bp 0 0, .no, .row 0, .no, .no, .no, .no, .no, .no, .no, .no, .no, .no, .no, .no, .no, .no, .no, .no, .no, .no, .no, .no, .no, .no, .no, .no, .c (cL eR_Node a1.Kids), qi (a1.Kids.length : Int), qi v4], [some [qi a1.Kind, qi a1.N, qs a1.S, .c (cL eS a1.Keys), .c (cL eR_Node a1.Kids)]], [rr 1 eS v5 true]⟩)) ?_ _ _ _ ht15 rfl)
      intro l0 IH1 v4 v5 s' H1 e
      subst e
      refine hV1 _ ?_
      have J1a := fun {v4 v5 τ} h l => hW1 _ τ ((IH1 v4 v5 _ h rfl)) l
      exact au H1 (aL @J1a hX1 (aA H trivial))⟩
theorem impl_braced_n_ok : ∀ (k : Nat) {a1 : Node} {r : Str}, impl_braced_n k a1 = some r → R 92 [gNode a1] = some ((fun r => (.c (cS r) none, [])) r)
  | 0, _, _, h => by simp [impl_braced_n] at h
  | k + 1, _, _, h => (impl_braced_F_ok (hrc133 := ⟨fun h => impl_braced_n_ok k h⟩)).ok h
instance impl_braced_ok {a1 : Node} : FOK R (impl_braced a1) 92 [gNode a1] fun r => (.c (cS r) none, []) := ⟨fun {r} H => by
 obtain ⟨k, hk⟩ := Nt.lim_ex H
 exact impl_braced_n_ok k (hk k (Nat.le_refl k))⟩
instance impl_Braced_ok  {a1 : Node} : FOK R (impl_Braced a1) 54 [gNode a1] fun r => (.c (cS r) none, []) := ⟨fun {r} H => by
 unfold impl_Braced at H
 refine fw false 8 Tryz.func54 ?_
 exact au0 H⟩
instance impl_pacedNotes_ok  {a1 : Order} : FOK R (impl_pacedNotes a1) 99 [gOrder a1] fun r => (gNode_oo r, []) := ⟨fun {r} H => by
 unfold impl_pacedNotes at H
 refine fw false 19 Tryz.func99 ?_
 refine s_ ?_
 obtain ⟨x2, hx2, H⟩ := bnd H
 refine b_ hx2 ?_
 refine s_ ?_
 obtain ⟨x3, hx3, H⟩ := bnd H
 refine b_ hx3 ?_
 refine WL_op (x := qb (!((a1.Pace.Up == x3.Up) && ((a1.Pace.Down == x3.Down) && ((a1.Pace.UpSpan == x3.UpSpan) && ((a1.Pace.DownSpan == x3.DownSpan) && true)))))) rfl rfl rfl (ev_eqT (r := ((a1.Pace.Up == x3.Up) && ((a1.Pace.Down == x3.Down) && ((a1.Pace.UpSpan == x3.UpSpan) && ((a1.Pace.DownSpan == x3.DownSpan) && true))))) rfl rfl rfl rfl (by kernel_rfl) (by kernel_rfl) rfl) (n1 ?_)
 exact au0 H⟩
instance impl_MidTree_ok  {a1 : Order} : FOK R (impl_MidTree a1) 57 [gOrder a1] fun r => (gNode_oo r, []) := ⟨fun {r} H => by
 unfold impl_MidTree at H
 refine fw false 18 Tryz.func57 ?_
 refine s_ ?_
 obtain ⟨x2, hx2, H⟩ := bnd H
 refine b_ hx2 ?_
 refine s_ ?_
 refine W_ite rfl H (fun hc H => ?_) (fun hc H => ?_)
 ·
  exact au0 H
 ·
  refine s_ ?_
  refine W_lateL [3] (by kernel_rfl) (by decide +kernel) rfl ?_; refine WL_c rfl ?_; simp only [SX.clr,List.foldl,putT,st,ev,gt,hp,ofV,constT,intT,lm]
  exact au0 H⟩
instance impl_ShareOf_ok  {a1 : List Metric} : FOK R (impl_ShareOf a1) 100 [.c (cL enc_Metric a1) none] fun r => (.tu [.c (cI .i64 r.1) none, .c (cB r.2) none], []) := ⟨fun {r} H => by
 unfold impl_ShareOf at H
 refine fw false 36 Tryz.func100 ?_
 refine s_ ?_
 obtain ⟨s6, hs6, H⟩ := bnd H
 refine loop_rule (ls := []) 0 (fun t5 : Unit => ⟨[], [], []⟩) (fun t => s6 = .inr t) ⟨[.no, .no, .no, .no, .no, .no, .c (cL enc_Metric a1), qi (a1.length : Int), qi 0], [], []⟩ mO lE ?_ ?_
 ·
  rintro t5 rfl
  exact au0 H
 ·
  intro V1 hV1 hW1 hX1
  refine (impl_ShareOf.l0.partial_correctness a1 (fun v2 s' => s' = s6 → (V1 ⟨[.no, .no, .no, .no, .no, .no, .c (cL enc_Metric a1), qi (a1.length : Int), qi v2], [], []⟩)) ?_ _ _ hs6 rfl)
  intro l0 IH1 v2 s' H1 e
  subst e
  refine hV1 _ ?_
  have J1a := fun {v2 τ} h l => hW1 _ τ ((IH1 v2 _ h rfl)) l
  exact au H1 (aL @J1a hX1 (aA H trivial))⟩
instance impl_PlainTree_1_ok  {a1 : Metric} : FOK R (impl_PlainTree_1 a1) 103 [gMetric a1] fun r => (.c (cB r) none, []) := ⟨fun {r} H => by
 unfold impl_PlainTree_1 at H
 refine fw false 6 Tryz.func103 ?_
 exact au0 H⟩
instance slices_IndexFunc_Simpl_Metric_impl_Metric_impl_PlainTree_1_ok  {a1 : List Metric} : FOK R (slices_IndexFunc_Simpl_Metric_impl_Metric_impl_PlainTree_1 a1) 145 [.c (cL enc_Metric a1) (some (3, false)), .f 103 []] fun r => (.c (cI .i64 r.1) none, [some [(cL enc_Metric r.2, some (3, false))]]) := ⟨fun {r} H => by
 unfold slices_IndexFunc_Simpl_Metric_impl_Metric_impl_PlainTree_1 at H
 refine fw false 19 Tryz.func145 ?_
 refine s_ ?_
 obtain ⟨s6, hs6, H⟩ := bnd H
 refine loop_rule (ls := [.r 0]) 0 (fun t5 : Unit => ⟨[], [], [rr 3 enc_Metric a1 true]⟩) (fun t => s6 = .inr t) ⟨[.row 0, .fn 103 [], .no, .no, .no, .no, .no, qi (a1.length : Int), qi 0], [], [rr 3 enc_Metric a1 true]⟩ mO lE ?_ ?_
 ·
  rintro t5 rfl
  exact au0 H
 ·
  intro V1 hV1 hW1 hX1
  refine (slices_IndexFunc_Simpl_Metric_impl_Metric_impl_PlainTree_1.l0.partial_correctness a1 (fun v2 s' => s' = s6 → (V1 ⟨[.row 0, .fn 103 [], .no, .no, .no, .no, .no, qi (a1.length : Int), qi v2], [], [rr 3 enc_Metric a1 true]⟩)) ?_ _ _ hs6 rfl)
  intro l0 IH1 v2 s' H1 e
  subst e
  refine hV1 _ ?_
  have J1a := fun {v2 τ} h l => hW1 _ τ ((IH1 v2 _ h rfl)) l
  exact au H1 (aL @J1a hX1 (aA H trivial))⟩
instance slices_DeleteFunc_Simpl_Metric_impl_Metric_impl_PlainTree_1_ok  {a1 : List Metric} : FOK R (slices_DeleteFunc_Simpl_Metric_impl_Metric_impl_PlainTree_1 a1) 102 [.c (cL enc_Metric a1) (some (3, false)), .f 103 []] fun r => (.c (cL enc_Metric r) (some (3, false)), [none]) := ⟨fun {r} H => by
 unfold slices_DeleteFunc_Simpl_Metric_impl_Metric_impl_PlainTree_1 at H
 refine fw false 42 Tryz.func102 ?_
 refine s_ ?_
 obtain ⟨x2, hx2, H⟩ := bnd H
 refine b_ hx2 ?_
 refine s_ ?_
 refine W_ite rfl H (fun hc H => ?_) (fun hc H => ?_)
 ·
  exact au0 H
 ·
  refine s_ ?_
  obtain ⟨t10, ht10, H⟩ := bnd H
  refine loop_rule (ls := [.r 0]) 0 (fun t10 : Int × List Metric => ⟨[.row 0, .no, .no, .no, .no, qi t10.1], [], [rr 3 enc_Metric t10.2 true]⟩) (fun t => t10 = t) ⟨[.row 0, .fn 103 [], .no, .no, .no, qi x2.1, qi (IntKind.i64.wrap (x2.1 + 1))], [], [rr 3 enc_Metric x2.2 true]⟩ mO lE ?_ ?_
  ·
   rintro t1 rfl
   refine s_ ?_
   obtain ⟨s11, hs11, H⟩ := bnd H
   refine b_ hs11 ?_
   refine WO_op (x := .tu []) (σ' := ⟨[], [], [rr 3 enc_Metric (Nt.clr t10.2 t10.1 (t10.2.length : Int) (Metric.mk [] 0 0)) true]⟩) rfl rfl (ev_clr (en := enc_Metric) (a := (Metric.mk [] 0 0)) hs11 rfl rfl rfl rfl rfl rfl rfl rfl rfl rfl rfl rfl rfl rfl rfl rfl rfl) (n1 ?_)
   refine s_ ?_
   obtain ⟨s12, hs12, H⟩ := bnd H
   refine b_ hs12 ?_
   refine s_ ?_
   obtain rfl := Option.some.inj H
   exact told5 rfl rfl rfl rfl (fitAs_nz rfl) (by simp only [outA, cut_map]; rw [← (slc_some hs12).2.2.2]; try rfl)
  ·
   intro V1 hV1 hW1 hX1
   refine (slices_DeleteFunc_Simpl_Metric_impl_Metric_impl_PlainTree_1.l0.partial_correctness (fun v3 v4 v5 s' => s' = t10 → (V1 ⟨[.row 0, .fn 103 [], .no, .no, .no, qi v3, qi v4], [], [rr 3 enc_Metric v5 true]⟩)) ?_ _ _ _ _ ht10 rfl)
   intro l0 IH1 v3 v4 v5 s' H1 e
   subst e
   refine hV1 _ ?_
   have J1a := fun {v3 v4 v5 τ} h l => hW1 _ τ ((IH1 v3 v4 v5 _ h rfl)) l
   exact au H1 (aL @J1a hX1 (aA H trivial))⟩
instance impl_PlainTree_ok  {a1 : Order} : FOK R (impl_PlainTree a1) 58 [gOrder a1] fun r => (gNode_oo r, []) := ⟨fun {r} H => by
 unfold impl_PlainTree at H
 refine fw false 44 Tryz.func58 ?_
 exact au0 H⟩
instance impl_Shape_ok  {a1 : Order} {a2 : Int} : FOK R (impl_Shape a1 a2) 34 [gOrder a1, .c (cI .i64 a2) none] fun r => (gNode_oo r, []) := ⟨fun {r} H => by
 unfold impl_Shape at H
 refine fw false 19 Tryz.func34 ?_
 exact au0 H⟩
instance impl_Inline_ok  {a1 : Node} : FOK R (impl_Inline a1) 132 [gNode a1] fun r => (.c (cS r) none, []) := ⟨fun {r} H => by
 unfold impl_Inline at H
 refine fw false 19 Tryz.func132 ?_
 exact au0 H⟩
theorem strings_Repeat_ok {a1 : Str} {a2 : Int} {r : Str} (H : strings_Repeat a1 a2 = some r) : R 133 [.c (cS a1) none, .c (cI .i64 a2) none] = some (.c (cS r) none, []) :=
  Fz_pr rfl (repeatF_of H)
instance strings_Repeat_i {a1 : Str} {a2 : Int}  : FOK R (strings_Repeat a1 a2) 133 [.c (cS a1) none, .c (cI .i64 a2) none] fun r => (.c (cS r) none, []) := ⟨fun {r} H => strings_Repeat_ok H⟩
instance impl_indented_F_ok {rc142 : Node → Int → Option (Str)} [hrc142 : ∀ {a1 : Node} {a2 : Int}, FOK R (rc142 a1 a2) 93 [gNode a1, .c (cI .i64 a2) none] fun r => (.c (cS r) none, [])] {a1 : Node} {a2 : Int} : FOK R (impl_indented_F rc142 a1 a2) 93 [gNode a1, .c (cI .i64 a2) none] fun r => (.c (cS r) none, []) := ⟨fun {r} H => by
 unfold impl_indented_F at H
 refine fw false 76 Tryz.func93 ?_
 refine s_ ?_
 refine W_ite rfl H (fun hc H => ?_) (fun hc H => ?_)
 ·
  exact au0 H
 ·
  refine s_ ?_
  obtain ⟨t42, ht42, H⟩ := bnd H
  refine loop_rule (ls := []) 0 (fun t42 : Str => ⟨[.no, .no, .no, .no, .no, qs t42], [], []⟩) (fun t => t42 = t) ⟨[.no, qi a2, .bp 0 0, .no, .no, qs [], .no, .no, .no, .no, .no, .no, .no, .no, .no, .no, .c (cL eR_Node a1.Kids), qi (a1.Kids.length : Int), qi 0], [some [qi a1.Kind, qi a1.N, qs a1.S, .c (cL eS a1.Keys), .c (cL eR_Node a1.Kids)]], []⟩ mO lE ?_ ?_
  ·
   rintro t1 rfl
   exact au0 H
  ·
   intro V1 hV1 hW1 hX1
   refine (impl_indented.l0.partial_correctness rc142 a1 a2 (fun v5 v6 s' => s' = t42 → (V1 ⟨[.no, qi a2, .bp 0 0, .no, .no, qs v5, .no, .no, .no, .no, .no, .no, .no, .no, .no, .no, .c (cL eR_Node a1.Kids), qi (a1.Kids.length : Int), qi v6], [some [qi a1.Kind, qi a1.N, qs a1.S, .c (cL eS a1.Keys), .c (cL eR_Node a1.Kids)]], []⟩)) ?_ _ _ _ ht42 rfl)
   intro l0 IH1 v5 v6 s' H1 e
   subst e
   refine hV1 _ ?_
   have J1a := fun {v5 v6 τ} h l => hW1 _ τ ((IH1 v5 v6 _ h rfl)) l
   exact au H1 (aL @J1a hX1 (aA H trivial))⟩
theorem impl_indented_n_ok : ∀ (k : Nat) {a1 : Node} {a2 : Int} {r : Str}, impl_indented_n k a1 a2 = some r → R 93 [gNode a1, .c (cI .i64 a2) none] = some ((fun r => (.c (cS r) none, [])) r)
  | 0, _, _, _, h => by simp [impl_indented_n] at h
  | k + 1, _, _, _, h => (impl_indented_F_ok (hrc142 := ⟨fun h => impl_indented_n_ok k h⟩)).ok h
instance impl_indented_ok {a1 : Node} {a2 : Int} : FOK R (impl_indented a1 a2) 93 [gNode a1, .c (cI .i64 a2) none] fun r => (.c (cS r) none, []) := ⟨fun {r} H => by
 obtain ⟨k, hk⟩ := Nt.lim_ex H
 exact impl_indented_n_ok k (hk k (Nat.le_refl k))⟩
instance impl_Indented_ok  {a1 : Node} : FOK R (impl_Indented a1) 55 [gNode a1] fun r => (.c (cS r) none, []) := ⟨fun {r} H => by
 unfold impl_Indented at H
 refine fw false 8 Tryz.func55 ?_
 exact au0 H⟩
instance impl_Said_ok  {a1 : Int} {a2 : Node} : FOK R (impl_Said a1 a2) 33 [.c (cI .i64 a1) none, gNode a2] fun r => (.c (cS r) none, []) := ⟨fun {r} H => by
 unfold impl_Said at H
 refine fw false 14 Tryz.func33 ?_
 exact au0 H⟩
instance impl_SaidOrder_ok  {a1 : Int} {a2 : Int} {a3 : Order} : FOK R (impl_SaidOrder a1 a2 a3) 17 [.c (cI .i64 a1) none, .c (cI .i64 a2) none, gOrder a3] fun r => (.c (cS r) none, []) := ⟨fun {r} H => by
 unfold impl_SaidOrder at H
 refine fw false 20 Tryz.func17 ?_
 exact au0 H⟩
instance impl_Fetch_ok  {a1 : Store} {a2 : Int} {a3 : Int} {a4 : Str} : FOK R (impl_Fetch a1 a2 a3 a4) 7 [gStore a1, .c (cI .i64 a2) none, .c (cI .i64 a3) none, .c (cS a4) none] fun r => (gAnswer r, []) := ⟨fun {r} H => by
 unfold impl_Fetch at H
 refine fw false 38 Tryz.func7 ?_
 exact au0 H⟩
instance laws_eqAnswer_ok  {a1 : Answer} {a2 : Answer} : FOK R (laws_eqAnswer a1 a2) 8 [gAnswer a1, gAnswer a2] fun r => (.c (cB r) none, []) := ⟨fun {r} H => by
 unfold laws_eqAnswer at H
 refine fw false 20 Tryz.func8 ?_
 exact au0 H⟩
instance laws_eqMetric_ok  {a1 : Metric} {a2 : Metric} : FOK R (laws_eqMetric a1 a2) 146 [gMetric a1, gMetric a2] fun r => (.c (cB r) none, []) := ⟨fun {r} H => by
 unfold laws_eqMetric at H
 refine fw false 20 Tryz.func146 ?_
 exact au0 H⟩
instance laws_eqMetricS_ok  {a1 : List Metric} {a2 : List Metric} : FOK R (laws_eqMetricS a1 a2) 105 [.c (cL enc_Metric a1) none, .c (cL enc_Metric a2) none] fun r => (.c (cB r) none, []) := ⟨fun {r} H => by
 unfold laws_eqMetricS at H
 refine fw false 27 Tryz.func105 ?_
 refine s_ ?_
 refine W_ite rfl H (fun hc H => ?_) (fun hc H => ?_)
 ·
  exact au0 H
 ·
  refine s_ ?_
  obtain ⟨s8, hs8, H⟩ := bnd H
  refine loop_rule (ls := []) 0 (fun t7 : Unit => ⟨[], [], []⟩) (fun t => s8 = .inr t) ⟨[.c (cL enc_Metric a1), .c (cL enc_Metric a2), .no, .no, .no, qi 0], [], []⟩ mO lE ?_ ?_
  ·
   rintro t7 rfl
   exact au0 H
  ·
   intro V1 hV1 hW1 hX1
   refine (laws_eqMetricS.l0.partial_correctness a1 a2 (fun v3 s' => s' = s8 → (V1 ⟨[.c (cL enc_Metric a1), .c (cL enc_Metric a2), .no, .no, .no, qi v3], [], []⟩)) ?_ _ _ hs8 rfl)
   intro l0 IH1 v3 s' H1 e
   subst e
   refine hV1 _ ?_
   have J1a := fun {v3 τ} h l => hW1 _ τ ((IH1 v3 _ h rfl)) l
   exact au H1 (aL @J1a hX1 (aA H trivial))⟩
instance laws_eqPace_ok  {a1 : Pace} {a2 : Pace} : FOK R (laws_eqPace a1 a2) 106 [gPace a1, gPace a2] fun r => (.c (cB r) none, []) := ⟨fun {r} H => by
 unfold laws_eqPace at H
 refine fw false 25 Tryz.func106 ?_
 exact au0 H⟩
instance laws_eqNote_ok  {a1 : Note} {a2 : Note} : FOK R (laws_eqNote a1 a2) 147 [gNote a1, gNote a2] fun r => (.c (cB r) none, []) := ⟨fun {r} H => by
 unfold laws_eqNote at H
 refine fw false 15 Tryz.func147 ?_
 exact au0 H⟩
instance laws_eqNoteS_ok  {a1 : List Note} {a2 : List Note} : FOK R (laws_eqNoteS a1 a2) 107 [.c (cL enc_Note a1) none, .c (cL enc_Note a2) none] fun r => (.c (cB r) none, []) := ⟨fun {r} H => by
 unfold laws_eqNoteS at H
 refine fw false 27 Tryz.func107 ?_
 refine s_ ?_
 refine W_ite rfl H (fun hc H => ?_) (fun hc H => ?_)
 ·
  exact au0 H
 ·
  refine s_ ?_
  obtain ⟨s8, hs8, H⟩ := bnd H
  refine loop_rule (ls := []) 0 (fun t7 : Unit => ⟨[], [], []⟩) (fun t => s8 = .inr t) ⟨[.c (cL enc_Note a1), .c (cL enc_Note a2), .no, .no, .no, qi 0], [], []⟩ mO lE ?_ ?_
  ·
   rintro t7 rfl
   exact au0 H
  ·
   intro V1 hV1 hW1 hX1
   refine (laws_eqNoteS.l0.partial_correctness a1 a2 (fun v3 s' => s' = s8 → (V1 ⟨[.c (cL enc_Note a1), .c (cL enc_Note a2), .no, .no, .no, qi v3], [], []⟩)) ?_ _ _ hs8 rfl)
   intro l0 IH1 v3 s' H1 e
   subst e
   refine hV1 _ ?_
   have J1a := fun {v3 τ} h l => hW1 _ τ ((IH1 v3 _ h rfl)) l
   exact au H1 (aL @J1a hX1 (aA H trivial))⟩
instance laws_eqOrder_ok  {a1 : Order} {a2 : Order} : FOK R (laws_eqOrder a1 a2) 59 [gOrder a1, gOrder a2] fun r => (.c (cB r) none, []) := ⟨fun {r} H => by
 unfold laws_eqOrder at H
 refine fw false 43 Tryz.func59 ?_
 exact au0 H⟩
instance laws_eqItem_ok  {a1 : Item} {a2 : Item} : FOK R (laws_eqItem a1 a2) 35 [gItem a1, gItem a2] fun r => (.c (cB r) none, []) := ⟨fun {r} H => by
 unfold laws_eqItem at H
 refine fw false 16 Tryz.func35 ?_
 exact au0 H⟩
instance laws_eqItemS_ok  {a1 : List Item} {a2 : List Item} : FOK R (laws_eqItemS a1 a2) 18 [.c (cL enc_Item a1) none, .c (cL enc_Item a2) none] fun r => (.c (cB r) none, []) := ⟨fun {r} H => by
 unfold laws_eqItemS at H
 refine fw false 27 Tryz.func18 ?_
 refine s_ ?_
 refine W_ite rfl H (fun hc H => ?_) (fun hc H => ?_)
 ·
  exact au0 H
 ·
  refine s_ ?_
  obtain ⟨s8, hs8, H⟩ := bnd H
  refine loop_rule (ls := []) 0 (fun t7 : Unit => ⟨[], [], []⟩) (fun t => s8 = .inr t) ⟨[.c (cL enc_Item a1), .c (cL enc_Item a2), .no, .no, .no, qi 0], [], []⟩ mO lE ?_ ?_
  ·
   rintro t7 rfl
   exact au0 H
  ·
   intro V1 hV1 hW1 hX1
   refine (laws_eqItemS.l0.partial_correctness a1 a2 (fun v3 s' => s' = s8 → (V1 ⟨[.c (cL enc_Item a1), .c (cL enc_Item a2), .no, .no, .no, qi v3], [], []⟩)) ?_ _ _ hs8 rfl)
   intro l0 IH1 v3 s' H1 e
   subst e
   refine hV1 _ ?_
   have J1a := fun {v3 τ} h l => hW1 _ τ ((IH1 v3 _ h rfl)) l
   exact au H1 (aL @J1a hX1 (aA H trivial))⟩
instance laws_eqStore_ok  {a1 : Store} {a2 : Store} : FOK R (laws_eqStore a1 a2) 9 [gStore a1, gStore a2] fun r => (.c (cB r) none, []) := ⟨fun {r} H => by
 unfold laws_eqStore at H
 refine fw false 16 Tryz.func9 ?_
 exact au0 H⟩
instance laws_FnExactFetch_ok  {a1 : Store} {a2 : Int} {a3 : Int} {a4 : Str} : FOK R (laws_FnExactFetch a1 a2 a3 a4) 3 [gStore a1, .c (cI .i64 a2) none, .c (cI .i64 a3) none, .c (cS a4) none] fun r => (.c (cB r) none, []) := ⟨fun {r} H => by
 unfold laws_FnExactFetch at H
 refine fw false 43 Tryz.func3 ?_
 exact au0 H⟩
end Go.Pu
