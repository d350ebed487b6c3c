import Derived.Test.YtbndndpimaocdaaStoreOk0
import Derived.Test.YtbndndpimaocdaaStoreOk1
import Derived.Test.YtbndndpimaocdaaStoreOk2
set_option linter.unusedVariables false
set_option linter.unusedSimpArgs false
set_option synthInstance.maxSize 1000000000
set_option maxRecDepth 20000
set_option maxHeartbeats 20000000
namespace Go.Pu
open Go Go.SX Go.Nt Go.Proofs
instance impl_StoreOk_ok  {a1 : Store} : FOK R (impl_StoreOk a1) 16 [gStore a1] fun r => (.c (cB r) none, []) := ⟨fun {r} H => by
 unfold impl_StoreOk at H
 refine fw false 61 Try.func16 ?_
 refine s_ ?_
 refine WO_iA H (fun hc H => ?_) (fun hc H => ?_)
 ·
  exact au0 H
 ·
  refine s_ ?_
  obtain ⟨x2, hx2, H⟩ := bnd H
  refine b_ hx2 ?_
  refine s_ ?_
  refine W_ite rfl H (fun hc H => ?_) (fun hc H => ?_)
  ·
   exact au0 H
  ·
   refine s_ ?_
   obtain ⟨s13, hs13, H⟩ := bnd H
   refine loop_rule (ls := []) 0 (fun t12 : Unit => ⟨[], [], []⟩) (fun t => s13 = .inr t) ⟨[.no, .bp 0 0, .no, .no, .no, .no, .no, .no, .no, .no, .no, .no, .no, .no, .no, .no, .c (cL enc_Item a1.Items), qi (a1.Items.length : Int), qi 0], [some [.c (cL enc_Item a1.Items), qi a1.Next]], []⟩ mO lE ?_ ?_
   ·
    rintro t12 rfl
    exact au0 H
   ·
    intro V1 hV1 hW1 hX1
    refine (impl_StoreOk.l0.partial_correctness a1 (fun v3 s' => s' = s13 → (V1 ⟨[.no, .bp 0 0, .no, .no, .no, .no, .no, .no, .no, .no, .no, .no, .no, .no, .no, .no, .c (cL enc_Item a1.Items), qi (a1.Items.length : Int), qi v3], [some [.c (cL enc_Item a1.Items), qi a1.Next]], []⟩)) ?_ _ _ hs13 rfl)
    intro l0 IH1 v3 s' H1 e
    subst e
    refine hV1 _ ?_
    have J1a := fun {v3 τ} h l => hW1 _ τ ((IH1 v3 _ h rfl)) l
    exact au H1 (aL @J1a hX1 (aA H trivial))⟩
instance impl_copyStore_ok  {a1 : Store} : FOK R (impl_copyStore a1) 24 [gStore a1] fun r => (gStore_o r, []) := ⟨fun {r} H => by
 unfold impl_copyStore at H
 refine fw false 9 Try.func24 ?_
 exact au0 H⟩
instance impl_Put_ok  {a1 : Store} {a2 : Order} : FOK R (impl_Put a1 a2) 6 [gStore a1, gOrder a2] fun r => (.tu [gStore_o r.1, .c (cB r.2) none], []) := ⟨fun {r} H => by
 unfold impl_Put at H
 refine fw false 29 Try.func6 ?_
 refine s_ ?_
 refine W_lateL [6] (by kernel_rfl) (by decide +kernel) rfl ?_; refine WL_c rfl ?_; simp only [SX.clr,List.foldl,putT,st,ev,gt,hp,ofV,constT,intT,lm]
 exact au0 H⟩
instance spec_l13DrawName_ok  {a1 : L1Cur} : FOK R (spec_l13DrawName a1) 30 [gPL1Cur a1] fun r => (.c (cS r.1) none, [some [(cL eU r.2.b, none), (cI .i64 r.2.i, none), (cI .i64 r.2.h, none)]]) := ⟨fun {r} H => by
 unfold spec_l13DrawName at H
 refine fw false 6 Try.func30 ?_
 exact au0 H⟩
instance spec_DrawFind_ok  {a1 : List Int} : FOK R (spec_DrawFind a1) 11 [.c (cL eU a1) none] fun r => (.tu [gStore_o r.1, .c (cS r.2) none], []) := ⟨fun {r} H => by
 unfold spec_DrawFind at H
 refine fw false 13 Try.func11 ?_
 exact au0 H⟩
instance spec_DrawDrop_ok  {a1 : List Int} : FOK R (spec_DrawDrop a1) 8 [.c (cL eU a1) none] fun r => (.tu [gStore_o r.1, .c (cS r.2) none], []) := ⟨fun {r} H => by
 unfold spec_DrawDrop at H
 refine fw false 13 Try.func8 ?_
 exact au0 H⟩
instance impl_placeOf_1_ok  {a1 : Item} {a2 : Str} : FOK R (impl_placeOf_1 a1 a2) 53 [gItem a1, .p [(cS a2, none)]] fun r => (.c (cB r.1) none, [some [(cS r.2, none)]]) := ⟨fun {r} H => by
 unfold impl_placeOf_1 at H
 refine fw false 9 Try.func53 ?_
 exact au0 H⟩
instance slices_IndexFunc_Simpl_Item_impl_Item_impl_placeOf_1_ok  {a1 : List Item} {a2 : Str} : FOK R (slices_IndexFunc_Simpl_Item_impl_Item_impl_placeOf_1 a1 a2) 50 [.c (cL enc_Item a1) none, .f 53 [[(cS a2, none)]]] fun r => (.c (cI .i64 r.1) none, [some [(cS r.2, none)]]) := ⟨fun {r} H => by
 unfold slices_IndexFunc_Simpl_Item_impl_Item_impl_placeOf_1 at H
 refine fw false 19 Try.func50 ?_
 refine s_ ?_
 obtain ⟨s8, hs8, H⟩ := bnd H
 refine loop_rule (ls := [.b 0]) 0 (fun t7 : Str => ⟨[], [some [qs t7]], []⟩) (fun t => s8 = .inr t) ⟨[.c (cL enc_Item a1), .fn 53 [0], .no, .no, .no, .no, .no, qi (a1.length : Int), qi 0], [some [qs a2]], []⟩ mO lE ?_ ?_
 ·
  rintro t7 rfl
  exact au0 H
 ·
  intro V1 hV1 hW1 hX1
  refine (slices_IndexFunc_Simpl_Item_impl_Item_impl_placeOf_1.l0.partial_correctness a1 (fun v3 v4 s' => s' = s8 → (V1 ⟨[.c (cL enc_Item a1), .fn 53 [0], .no, .no, .no, .no, .no, qi (a1.length : Int), qi v3], [some [qs v4]], []⟩)) ?_ _ _ _ hs8 rfl)
  intro l0 IH1 v3 v4 s' H1 e
  subst e
  refine hV1 _ ?_
  have J1a := fun {v3 v4 τ} h l => hW1 _ τ ((IH1 v3 v4 _ h rfl)) l
  exact au H1 (aL @J1a hX1 (aA H trivial))⟩
instance impl_placeOf_ok  {a1 : List Item} {a2 : Str} : FOK R (impl_placeOf a1 a2) 28 [.c (cL enc_Item a1) none, .c (cS a2) none] fun r => (.c (cI .i64 r) none, []) := ⟨fun {r} H => by
 unfold impl_placeOf at H
 refine fw false 8 Try.func28 ?_
 exact au0 H⟩
theorem slices_Delete_Simpl_Item_impl_Item_ok {a1 : List Item} {a2 a3 : Int} {r : List Item} (H : slices_Delete_Simpl_Item_impl_Item a1 a2 a3 = some r) : R 29 [.c (cL enc_Item a1) (some (11, false)), .c (cI .i64 a2) none, .c (cI .i64 a3) none] = some (.c (cL enc_Item r) (some (11, false)), [none]) :=
  Fz_pr rfl (delF_of H)
instance slices_Delete_Simpl_Item_impl_Item_i {a1 : List Item} {a2 a3 : Int}  : FOK R (slices_Delete_Simpl_Item_impl_Item a1 a2 a3) 29 [.c (cL enc_Item a1) (some (11, false)), .c (cI .i64 a2) none, .c (cI .i64 a3) none] fun r => (.c (cL enc_Item r) (some (11, false)), [none]) := ⟨fun {r} H => slices_Delete_Simpl_Item_impl_Item_ok H⟩
instance impl_Drop_ok  {a1 : Store} {a2 : Str} : FOK R (impl_Drop a1 a2) 9 [gStore a1, .c (cS a2) none] fun r => (.tu [gStore_o r.1, .c (cB r.2) none], []) := ⟨fun {r} H => by
 unfold impl_Drop at H
 refine fw false 29 Try.func9 ?_
 exact au0 H⟩
instance impl_Find_ok  {a1 : Store} {a2 : Str} : FOK R (impl_Find a1 a2) 12 [gStore a1, .c (cS a2) none] fun r => (.tu [gItem_oo r.1, .c (cB r.2) none], []) := ⟨fun {r} H => by
 unfold impl_Find at H
 refine fw false 20 Try.func12 ?_
 exact au0 H⟩
instance spec_Find_ok  {a1 : Store} {a2 : Str} : FOK R (spec_Find a1 a2) 13 [gStore a1, .c (cS a2) none] fun r => (.tu [gItem_oo r.1, .c (cB r.2) none], []) := ⟨fun {r} H => by
 unfold spec_Find at H
 refine fw false 27 Try.func13 ?_
 exact au0 H⟩
instance spec_OrderSame_ok  {a1 : Order} {a2 : Order} : FOK R (spec_OrderSame a1 a2) 32 [gOrder a1, gOrder a2] fun r => (.c (cB r) none, []) := ⟨fun {r} H => by
 unfold spec_OrderSame at H
 refine fw false 94 Try.func32 ?_
 refine s_ ?_
 refine WO_iA H (fun hc H => ?_) (fun hc H => ?_)
 ·
  exact au0 H
 ·
  refine s_ ?_
  refine WO_iA H (fun hc H => ?_) (fun hc H => ?_)
  ·
   exact au0 H
  ·
   refine s_ ?_
   refine WO_iA H (fun hc H => ?_) (fun hc H => ?_)
   ·
    exact au0 H
   ·
    refine s_ ?_
    refine WO_iA H (fun hc H => ?_) (fun hc H => ?_)
    ·
     exact au0 H
    ·
     refine s_ ?_
     refine WO_want (x := qb (!((a1.Pace.Up == a2.Pace.Up) && ((a1.Pace.Down == a2.Pace.Down) && ((a1.Pace.UpSpan == a2.Pace.UpSpan) && ((a1.Pace.DownSpan == a2.Pace.DownSpan) && true)))))) rfl rfl (ev_eqT (r := ((a1.Pace.Up == a2.Pace.Up) && ((a1.Pace.Down == a2.Pace.Down) && ((a1.Pace.UpSpan == a2.Pace.UpSpan) && ((a1.Pace.DownSpan == a2.Pace.DownSpan) && true))))) rfl rfl rfl rfl (by kernel_rfl) (by kernel_rfl) rfl) (n1 ?_)
     refine s_ ?_
     refine WO_iA H (fun hc H => ?_) (fun hc H => ?_)
     ·
      exact au0 H
     ·
      refine s_ ?_
      refine WO_iA H (fun hc H => ?_) (fun hc H => ?_)
      ·
       exact au0 H
      ·
       refine s_ ?_
       refine W_ite rfl H (fun hc H => ?_) (fun hc H => ?_)
       ·
        exact au0 H
       ·
        refine s_ ?_
        obtain ⟨s12, hs12, H⟩ := bnd H
        refine loop_rule (ls := []) 0 (fun t6 : Unit => ⟨[.no, .no, .bp 0 0, .bp 1 0], [some (uO a1 (.c (cL enc_Metric a1.Metrics)) (.c (cL enc_Note a1.Notes)) []), some (uO a2 (.c (cL enc_Metric a2.Metrics)) (.c (cL enc_Note a2.Notes)) [])], []⟩) (fun t => s12 = .inr t) ⟨[.no, .no, .bp 0 0, .bp 1 0, .no, qi 0], [some (uO a1 (.c (cL enc_Metric a1.Metrics)) (.c (cL enc_Note a1.Notes)) []), some (uO a2 (.c (cL enc_Metric a2.Metrics)) (.c (cL enc_Note a2.Notes)) [])], []⟩ mO lE ?_ ?_
        ·
         rintro t6 rfl
         refine s_ ?_
         obtain ⟨s11, hs11, H⟩ := bnd H
         refine loop_rule (ls := []) 2 (fun t10 : Unit => ⟨[], [], []⟩) (fun t => s11 = .inr t) ⟨[.no, .no, .bp 0 0, .bp 1 0, .no, .no, qi 0], [some (uO a1 (.c (cL enc_Metric a1.Metrics)) (.c (cL enc_Note a1.Notes)) []), some (uO a2 (.c (cL enc_Metric a2.Metrics)) (.c (cL enc_Note a2.Notes)) [])], []⟩ mO lE ?_ ?_
         ·
          rintro t10 rfl
          exact au0 H
         ·
          intro V1 hV1 hW1 hX1
          refine (spec_OrderSame.l1.partial_correctness a1 a2 (fun v7 s' => s' = s11 → (V1 ⟨[.no, .no, .bp 0 0, .bp 1 0, .no, .no, qi v7], [some (uO a1 (.c (cL enc_Metric a1.Metrics)) (.c (cL enc_Note a1.Notes)) []), some (uO a2 (.c (cL enc_Metric a2.Metrics)) (.c (cL enc_Note a2.Notes)) [])], []⟩)) ?_ _ _ hs11 rfl)
          intro l0 IH1 v7 s' H1 e
          subst e
          refine hV1 _ ?_
          have J1a := fun {v7 τ} h l => hW1 _ τ ((IH1 v7 _ h rfl)) l
          refine s_ ?_
          refine W_ite rfl H1 (fun hc H1 => ?_) (fun hc H1 => ?_)
          ·
           refine s_ ?_
           obtain ⟨x8, hx8, H1⟩ := bnd H1
           refine b_ hx8 ?_
           refine s_ ?_
           obtain ⟨x9, hx9, H1⟩ := bnd H1
           refine b_ hx9 ?_
           refine s_ ?_
           refine WO_op (x := qb (!((x8.Key == x9.Key) && ((x8.Text == x9.Text) && true)))) rfl rfl (ev_eqT (r := ((x8.Key == x9.Key) && ((x8.Text == x9.Text) && true))) rfl rfl rfl rfl (by kernel_rfl) (by simp only [← bs_beq]; kernel_rfl) rfl) (n1 ?_)
           exact au H1 (aL @J1a hX1 (aA H trivial))
          ·
           exact au H1 (aL @J1a hX1 (aA H trivial))
        ·
         intro V1 hV1 hW1 hX1
         refine (spec_OrderSame.l0.partial_correctness a1 a2 (fun v3 s' => s' = s12 → (V1 ⟨[.no, .no, .bp 0 0, .bp 1 0, .no, qi v3], [some (uO a1 (.c (cL enc_Metric a1.Metrics)) (.c (cL enc_Note a1.Notes)) []), some (uO a2 (.c (cL enc_Metric a2.Metrics)) (.c (cL enc_Note a2.Notes)) [])], []⟩)) ?_ _ _ hs12 rfl)
         intro l0 IH1 v3 s' H1 e
         subst e
         refine hV1 _ ?_
         have J1a := fun {v3 τ} h l => hW1 _ τ ((IH1 v3 _ h rfl)) l
         refine s_ ?_
         refine W_ite rfl H1 (fun hc H1 => ?_) (fun hc H1 => ?_)
         ·
          refine s_ ?_
          obtain ⟨x4, hx4, H1⟩ := bnd H1
          refine b_ hx4 ?_
          refine s_ ?_
          obtain ⟨x5, hx5, H1⟩ := bnd H1
          refine b_ hx5 ?_
          refine s_ ?_
          refine WO_op (x := qb (!((x4.Name == x5.Name) && ((x4.Kind == x5.Kind) && ((x4.Goal == x5.Goal) && true))))) rfl rfl (ev_eqT (r := ((x4.Name == x5.Name) && ((x4.Kind == x5.Kind) && ((x4.Goal == x5.Goal) && true)))) rfl rfl rfl rfl (by kernel_rfl) (by simp only [← bs_beq]; kernel_rfl) rfl) (n1 ?_)
          exact au H1 (aL @J1a hX1 (aA H trivial))
         ·
          exact au H1 (aL @J1a hX1 (aA H trivial))⟩
instance laws_sameStore_ok  {a1 : Store} {a2 : Store} : FOK R (laws_sameStore a1 a2) 14 [gStore a1, gStore a2] fun r => (.c (cB r) none, []) := ⟨fun {r} H => by
 unfold laws_sameStore at H
 refine fw false 56 Try.func14 ?_
 refine s_ ?_
 refine WO_iA H (fun hc H => ?_) (fun hc H => ?_)
 ·
  exact au0 H
 ·
  refine s_ ?_
  refine W_ite rfl H (fun hc H => ?_) (fun hc H => ?_)
  ·
   exact au0 H
  ·
   refine s_ ?_
   obtain ⟨s10, hs10, H⟩ := bnd H
   refine loop_rule (ls := []) 0 (fun t9 : Unit => ⟨[], [], []⟩) (fun t => s10 = .inr t) ⟨[.no, .no, .bp 0 0, .bp 1 0, .no, qi 0], [some [.c (cL enc_Item a1.Items), qi a1.Next], some [.c (cL enc_Item a2.Items), qi a2.Next]], []⟩ mO lE ?_ ?_
   ·
    rintro t9 rfl
    exact au0 H
   ·
    intro V1 hV1 hW1 hX1
    refine (laws_sameStore.l0.partial_correctness a1 a2 (fun v3 s' => s' = s10 → (V1 ⟨[.no, .no, .bp 0 0, .bp 1 0, .no, qi v3], [some [.c (cL enc_Item a1.Items), qi a1.Next], some [.c (cL enc_Item a2.Items), qi a2.Next]], []⟩)) ?_ _ _ hs10 rfl)
    intro l0 IH1 v3 s' H1 e
    subst e
    refine hV1 _ ?_
    have J1a := fun {v3 τ} h l => hW1 _ τ ((IH1 v3 _ h rfl)) l
    exact au H1 (aL @J1a hX1 (aA H trivial))⟩
instance slices_Equal_Simpl_Metric_impl_Metric_ok  {a1 : List Metric} {a2 : List Metric} : FOK R (slices_Equal_Simpl_Metric_impl_Metric a1 a2) 33 [.c (cL enc_Metric a1) none, .c (cL enc_Metric a2) none] fun r => (.c (cB r) none, []) := ⟨fun {r} H => by
 unfold slices_Equal_Simpl_Metric_impl_Metric at H
 refine fw false 26 Try.func33 ?_
 refine s_ ?_
 refine W_ite rfl H (fun hc H => ?_) (fun hc H => ?_)
 ·
  exact au0 H
 ·
  refine s_ ?_
  obtain ⟨s7, hs7, H⟩ := bnd H
  refine loop_rule (ls := []) 0 (fun t6 : Unit => ⟨[], [], []⟩) (fun t => s7 = .inr t) ⟨[.c (cL enc_Metric a1), .c (cL enc_Metric a2), .no, .no, .no, .no, .no, .no, .no, .no, .no, .no, qi (a1.length : Int), qi 0], [], []⟩ mO lE ?_ ?_
  ·
   rintro t6 rfl
   exact au0 H
  ·
   intro V1 hV1 hW1 hX1
   refine (slices_Equal_Simpl_Metric_impl_Metric.l0.partial_correctness a1 a2 (fun v3 s' => s' = s7 → (V1 ⟨[.c (cL enc_Metric a1), .c (cL enc_Metric a2), .no, .no, .no, .no, .no, .no, .no, .no, .no, .no, qi (a1.length : Int), qi v3], [], []⟩)) ?_ _ _ hs7 rfl)
   intro l0 IH1 v3 s' H1 e
   subst e
   refine hV1 _ ?_
   have J1a := fun {v3 τ} h l => hW1 _ τ ((IH1 v3 _ h rfl)) l
   refine s_ ?_
   refine W_ite rfl H1 (fun hc H1 => ?_) (fun hc H1 => ?_)
   ·
    refine s_ ?_
    obtain ⟨x4, hx4, H1⟩ := bnd H1
    refine b_ hx4 ?_
    refine s_ ?_
    obtain ⟨x5, hx5, H1⟩ := bnd H1
    refine b_ hx5 ?_
    refine s_ ?_
    refine WO_op (x := qb (!((x4.Name == x5.Name) && ((x4.Kind == x5.Kind) && ((x4.Goal == x5.Goal) && true))))) rfl rfl (ev_eqT (r := ((x4.Name == x5.Name) && ((x4.Kind == x5.Kind) && ((x4.Goal == x5.Goal) && true)))) rfl rfl rfl rfl (by kernel_rfl) (by simp only [← bs_beq]; kernel_rfl) rfl) (n1 ?_)
    exact au H1 (aL @J1a hX1 (aA H trivial))
   ·
    exact au H1 (aL @J1a hX1 (aA H trivial))⟩
instance slices_Equal_Simpl_Note_impl_Note_ok  {a1 : List Note} {a2 : List Note} : FOK R (slices_Equal_Simpl_Note_impl_Note a1 a2) 34 [.c (cL enc_Note a1) none, .c (cL enc_Note a2) none] fun r => (.c (cB r) none, []) := ⟨fun {r} H => by
 unfold slices_Equal_Simpl_Note_impl_Note at H
 refine fw false 26 Try.func34 ?_
 refine s_ ?_
 refine W_ite rfl H (fun hc H => ?_) (fun hc H => ?_)
 ·
  exact au0 H
 ·
  refine s_ ?_
  obtain ⟨s7, hs7, H⟩ := bnd H
  refine loop_rule (ls := []) 0 (fun t6 : Unit => ⟨[], [], []⟩) (fun t => s7 = .inr t) ⟨[.c (cL enc_Note a1), .c (cL enc_Note a2), .no, .no, .no, .no, .no, .no, .no, .no, .no, .no, qi (a1.length : Int), qi 0], [], []⟩ mO lE ?_ ?_
  ·
   rintro t6 rfl
   exact au0 H
  ·
   intro V1 hV1 hW1 hX1
   refine (slices_Equal_Simpl_Note_impl_Note.l0.partial_correctness a1 a2 (fun v3 s' => s' = s7 → (V1 ⟨[.c (cL enc_Note a1), .c (cL enc_Note a2), .no, .no, .no, .no, .no, .no, .no, .no, .no, .no, qi (a1.length : Int), qi v3], [], []⟩)) ?_ _ _ hs7 rfl)
   intro l0 IH1 v3 s' H1 e
   subst e
   refine hV1 _ ?_
   have J1a := fun {v3 τ} h l => hW1 _ τ ((IH1 v3 _ h rfl)) l
   refine s_ ?_
   refine W_ite rfl H1 (fun hc H1 => ?_) (fun hc H1 => ?_)
   ·
    refine s_ ?_
    obtain ⟨x4, hx4, H1⟩ := bnd H1
    refine b_ hx4 ?_
    refine s_ ?_
    obtain ⟨x5, hx5, H1⟩ := bnd H1
    refine b_ hx5 ?_
    refine s_ ?_
    refine WO_op (x := qb (!((x4.Key == x5.Key) && ((x4.Text == x5.Text) && true)))) rfl rfl (ev_eqT (r := ((x4.Key == x5.Key) && ((x4.Text == x5.Text) && true))) rfl rfl rfl rfl (by kernel_rfl) (by simp only [← bs_beq]; kernel_rfl) rfl) (n1 ?_)
    exact au H1 (aL @J1a hX1 (aA H trivial))
   ·
    exact au H1 (aL @J1a hX1 (aA H trivial))⟩
instance impl_OrderSame_ok  {a1 : Order} {a2 : Order} : FOK R (impl_OrderSame a1 a2) 15 [gOrder a1, gOrder a2] fun r => (.c (cB r) none, []) := ⟨fun {r} H => by
 unfold impl_OrderSame at H
 refine fw false 52 Try.func15 ?_
 refine s_ ?_
 refine WO_iA H (fun hc H => ?_) (fun hc H => ?_)
 ·
  refine s_ ?_
  refine WO_iA H (fun hc H => ?_) (fun hc H => ?_)
  ·
   refine s_ ?_
   refine WO_iA H (fun hc H => ?_) (fun hc H => ?_)
   ·
    refine s_ ?_
    refine WO_iA H (fun hc H => ?_) (fun hc H => ?_)
    ·
     refine s_ ?_
     obtain ⟨x3, hx3, H⟩ := bnd H
     refine b_ hx3 ?_
     refine s_ ?_
     refine WO_iA H (fun hc H => ?_) (fun hc H => ?_)
     ·
      refine s_ ?_
      refine WO_want (x := qb ((a1.Pace.Up == a2.Pace.Up) && ((a1.Pace.Down == a2.Pace.Down) && ((a1.Pace.UpSpan == a2.Pace.UpSpan) && ((a1.Pace.DownSpan == a2.Pace.DownSpan) && true))))) rfl rfl (ev_eqT (r := ((a1.Pace.Up == a2.Pace.Up) && ((a1.Pace.Down == a2.Pace.Down) && ((a1.Pace.UpSpan == a2.Pace.UpSpan) && ((a1.Pace.DownSpan == a2.Pace.DownSpan) && true))))) rfl rfl rfl rfl (by kernel_rfl) (by kernel_rfl) rfl) (n1 ?_)
      exact au0 H
     ·
      exact au0 H
    ·
     exact au0 H
   ·
    exact au0 H
  ·
   exact au0 H
 ·
  exact au0 H⟩
instance impl_StoreNew_ok   : FOK R (impl_StoreNew) 18 [] fun r => (gStore_o r, []) := ⟨fun {r} H => by
 unfold impl_StoreNew at H
 refine fw false 2 Try.func18 ?_
 exact au0 H⟩
end Go.Pu
