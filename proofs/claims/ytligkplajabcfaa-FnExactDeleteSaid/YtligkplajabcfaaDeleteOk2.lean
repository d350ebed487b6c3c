import Derived.Test.YtligkplajabcfaaDeleteOk0
import Derived.Test.YtligkplajabcfaaDeleteOk1
set_option linter.unusedVariables false
set_option linter.unusedSimpArgs false
set_option synthInstance.maxSize 1000000000
set_option maxRecDepth 20000
set_option maxHeartbeats 20000000
namespace Go.Pu
open Go Go.SX Go.Nt Go.Proofs
instance laws_eqOrder_ok  {a1 : Order} {a2 : Order} : FOK R (laws_eqOrder a1 a2) 26 [gOrder a1, gOrder a2] fun r => (.c (cB r) none, []) := ⟨fun {r} H => by
 unfold laws_eqOrder at H
 refine fw false 43 Try.func26 ?_
 exact au0 H⟩
instance laws_eqItem_ok  {a1 : Item} {a2 : Item} : FOK R (laws_eqItem a1 a2) 11 [gItem a1, gItem a2] fun r => (.c (cB r) none, []) := ⟨fun {r} H => by
 unfold laws_eqItem at H
 refine fw false 16 Try.func11 ?_
 exact au0 H⟩
instance laws_eqItemS_ok  {a1 : List Item} {a2 : List Item} : FOK R (laws_eqItemS a1 a2) 34 [.c (cL enc_Item a1) none, .c (cL enc_Item a2) none] fun r => (.c (cB r) none, []) := ⟨fun {r} H => by
 unfold laws_eqItemS at H
 refine fw false 27 Try.func34 ?_
 refine s_ ?_
 refine W_ite rfl H (fun hc H => ?_) (fun hc H => ?_)
 ·
  exact au0 H
 ·
  refine s_ ?_
  obtain ⟨s8, hs8, H⟩ := bnd H
  refine loop_rule (ls := []) 0 (fun t7 : Unit => ⟨[], [], []⟩) (fun t => s8 = .inr t) ⟨[.c (cL enc_Item a1), .c (cL enc_Item a2), .no, .no, .no, qi 0], [], []⟩ mO lE ?_ ?_
  ·
   rintro t7 rfl
   exact au0 H
  ·
   intro V1 hV1 hW1 hX1
   refine (laws_eqItemS.l0.partial_correctness a1 a2 (fun v3 s' => s' = s8 → (V1 ⟨[.c (cL enc_Item a1), .c (cL enc_Item a2), .no, .no, .no, qi v3], [], []⟩)) ?_ _ _ hs8 rfl)
   intro l0 IH1 v3 s' H1 e
   subst e
   refine hV1 _ ?_
   have J1a := fun {v3 τ} h l => hW1 _ τ ((IH1 v3 _ h rfl)) l
   exact au H1 (aL @J1a hX1 (aA H trivial))⟩
instance laws_eqStore_ok  {a1 : Store} {a2 : Store} : FOK R (laws_eqStore a1 a2) 12 [gStore a1, gStore a2] fun r => (.c (cB r) none, []) := ⟨fun {r} H => by
 unfold laws_eqStore at H
 refine fw false 16 Try.func12 ?_
 exact au0 H⟩
instance laws_eqAnswer_ok  {a1 : Answer} {a2 : Answer} : FOK R (laws_eqAnswer a1 a2) 21 [gAnswer a1, gAnswer a2] fun r => (.c (cB r) none, []) := ⟨fun {r} H => by
 unfold laws_eqAnswer at H
 refine fw false 20 Try.func21 ?_
 exact au0 H⟩
instance laws_markText_ok  {a1 : Int} : FOK R (laws_markText a1) 59 [.c (cI .i64 a1) none] fun r => (.c (cS r) none, []) := ⟨fun {r} H => by
 unfold laws_markText at H
 refine fw false 20 Try.func59 ?_
 refine s_ ?_
 refine W_ite rfl H (fun hc H => ?_) (fun hc H => ?_)
 ·
  exact au0 H
 ·
  refine s_ ?_
  obtain ⟨t5, ht5, H⟩ := bnd H
  refine loop_rule (ls := []) 0 (fun t5 : Str => ⟨[.no, .no, .no, qs t5], [], []⟩) (fun t => t5 = t) ⟨[qi a1, .no, .no, qs []], [], []⟩ mO lE ?_ ?_
  ·
   rintro t1 rfl
   exact au0 H
  ·
   intro V1 hV1 hW1 hX1
   refine (laws_markText.l0.partial_correctness (fun v2 v3 s' => s' = t5 → (V1 ⟨[qi v2, .no, .no, qs v3], [], []⟩)) ?_ _ _ _ ht5 rfl)
   intro l0 IH1 v2 v3 s' H1 e
   subst e
   refine hV1 _ ?_
   have J1a := fun {v2 v3 τ} h l => hW1 _ τ ((IH1 v2 v3 _ h rfl)) l
   exact au H1 (aL @J1a hX1 (aA H trivial))⟩
instance laws_markMetricS_ok  {a1 : List Metric} {a2 : Int} : FOK R (laws_markMetricS a1 a2) 52 [.c (cL enc_Metric a1) (some (3, false)), .c (cI .i64 a2) none] fun r => (.c (cI .i64 r.1) none, [some [(cL enc_Metric r.2, some (3, false))]]) := ⟨fun {r} H => by
 unfold laws_markMetricS at H
 refine fw false 35 Try.func52 ?_
 refine s_ ?_
 obtain ⟨t13, ht13, H⟩ := bnd H
 refine loop_rule (ls := [.r 0]) 0 (fun t13 : Int × List Metric => ⟨[.no, qi t13.1], [], [rr 3 enc_Metric t13.2 true]⟩) (fun t => t13 = t) ⟨[.row 0, qi a2, .no, .no, .no, qi 0], [], [rr 3 enc_Metric a1 true]⟩ mO lE ?_ ?_
 ·
  rintro t1 rfl
  exact au0 H
 ·
  intro V1 hV1 hW1 hX1
  refine (laws_markMetricS.l0.partial_correctness (fun v3 v4 v5 s' => s' = t13 → (V1 ⟨[.row 0, qi v3, .no, .no, .no, qi v4], [], [rr 3 enc_Metric v5 true]⟩)) ?_ _ _ _ _ ht13 rfl)
  intro l0 IH1 v3 v4 v5 s' H1 e
  subst e
  refine hV1 _ ?_
  have J1a := fun {v3 v4 v5 τ} h l => hW1 _ τ ((IH1 v3 v4 v5 _ h rfl)) l
  exact au H1 (aL @J1a hX1 (aA H trivial))⟩
instance laws_markNoteS_ok  {a1 : List Note} {a2 : Int} : FOK R (laws_markNoteS a1 a2) 53 [.c (cL enc_Note a1) (some (2, false)), .c (cI .i64 a2) none] fun r => (.c (cI .i64 r.1) none, [some [(cL enc_Note r.2, some (2, false))]]) := ⟨fun {r} H => by
 unfold laws_markNoteS at H
 refine fw false 29 Try.func53 ?_
 refine s_ ?_
 obtain ⟨t12, ht12, H⟩ := bnd H
 refine loop_rule (ls := [.r 0]) 0 (fun t12 : Int × List Note => ⟨[.no, qi t12.1], [], [rr 2 enc_Note t12.2 true]⟩) (fun t => t12 = t) ⟨[.row 0, qi a2, .no, .no, .no, qi 0], [], [rr 2 enc_Note a1 true]⟩ mO lE ?_ ?_
 ·
  rintro t1 rfl
  exact au0 H
 ·
  intro V1 hV1 hW1 hX1
  refine (laws_markNoteS.l0.partial_correctness (fun v3 v4 v5 s' => s' = t12 → (V1 ⟨[.row 0, qi v3, .no, .no, .no, qi v4], [], [rr 2 enc_Note v5 true]⟩)) ?_ _ _ _ _ ht12 rfl)
  intro l0 IH1 v3 v4 v5 s' H1 e
  subst e
  refine hV1 _ ?_
  have J1a := fun {v3 v4 v5 τ} h l => hW1 _ τ ((IH1 v3 v4 v5 _ h rfl)) l
  exact au H1 (aL @J1a hX1 (aA H trivial))⟩
instance laws_markItemS_d_ok  {a1 : List Item} {a2 : Int} : FOK R (laws_markItemS_d a1 a2) 35 [.c (cL enc_Item a1) (some (11, true)), .c (cI .i64 a2) none] fun r => (.c (cI .i64 r.1) none, [some [(cL enc_Item r.2, some (11, true))]]) := ⟨fun {r} H => by
 unfold laws_markItemS_d at H
 refine fw false 106 Try.func35 ?_
 refine s_ ?_
 obtain ⟨t30, ht30, H⟩ := bnd H
 refine loop_rule (ls := [.r 0]) 0 (fun t30 : Int × List Item => ⟨[.no, qi t30.1], [], [rd 11 enc_Item t30.2]⟩) (fun t => t30 = t) ⟨[.row 0, qi a2, .no, .no, .no, qi 0], [], [rd 11 enc_Item a1]⟩ mO lE ?_ ?_
 ·
  rintro t1 rfl
  exact au0 H
 ·
  intro V1 hV1 hW1 hX1
  refine (laws_markItemS_d.l0.partial_correctness (fun v3 v4 v5 s' => s' = t30 → (V1 ⟨[.row 0, qi v3, .no, .no, .no, qi v4], [], [rd 11 enc_Item v5]⟩)) ?_ _ _ _ _ ht30 rfl)
  intro l0 IH1 v3 v4 v5 s' H1 e
  subst e
  refine hV1 _ ?_
  have J1a := fun {v3 v4 v5 τ} h l => hW1 _ τ ((IH1 v3 v4 v5 _ h rfl)) l
  refine s_ ?_
  refine W_ite rfl H1 (fun hc H1 => ?_) (fun hc H1 => ?_)
  ·
   refine s_ ?_
   obtain ⟨x6, hx6, H1⟩ := bnd H1
   refine b_ hx6 ?_
   obtain ⟨x7, hx7, H1⟩ := bnd H1
   refine b_ hx7 ?_
   refine s_ ?_
   obtain ⟨m8, hm8, H1⟩ := bnd H1
   refine WO_op (x := .no) (σ' := ⟨[], [], [rd 11 enc_Item m8]⟩) rfl rfl (ev_stD (en := enc_Item) hm8 hx7 (dg_c dg_nil) rfl rfl rfl rfl rfl rfl rfl rfl) (n1 ?_)
   refine s_ ?_
   obtain ⟨x9, hx9, H1⟩ := bnd H1
   refine b_ hx9 ?_
   obtain ⟨x10, hx10, H1⟩ := bnd H1
   refine b_ hx10 ?_
   refine s_ ?_
   obtain ⟨m11, hm11, H1⟩ := bnd H1
   refine WO_op (x := .no) (σ' := ⟨[], [], [rd 11 enc_Item m11]⟩) rfl rfl (ev_stD (en := enc_Item) hm11 hx10 (dg_c dg_nil) rfl rfl rfl rfl rfl rfl rfl rfl) (n1 ?_)
   refine s_ ?_
   obtain ⟨x12, hx12, H1⟩ := bnd H1
   refine b_ hx12 ?_
   refine s_ ?_
   obtain ⟨m13, hm13, H1⟩ := bnd H1
   refine WO_op (x := .no) (σ' := ⟨[], [], [rd 11 enc_Item m13]⟩) rfl rfl (ev_stD (en := enc_Item) hm13 hx12 (dg_c dg_nil) rfl rfl rfl rfl rfl rfl rfl rfl) (n1 ?_)
   refine s_ ?_
   obtain ⟨x14, hx14, H1⟩ := bnd H1
   refine b_ hx14 ?_
   refine s_ ?_
   obtain ⟨m15, hm15, H1⟩ := bnd H1
   refine WO_op (x := .no) (σ' := ⟨[], [], [rd 11 enc_Item m15]⟩) rfl rfl (ev_stD (en := enc_Item) hm15 hx14 (dg_c dg_nil) rfl rfl rfl rfl rfl rfl rfl rfl) (n1 ?_)
   refine s_ ?_
   obtain ⟨x16, hx16, H1⟩ := bnd H1
   refine b_ hx16 ?_
   refine s_ ?_
   obtain ⟨x17, hx17, H1⟩ := bnd H1
   refine lnA (lend_A hx17 rfl rfl rfl rfl rfl rfl rfl rfl rfl rfl rfl rfl rfl rfl rfl rfl rfl rfl rfl rfl (fun _ => rfl) rfl rfl (fun _ => rfl) (fun _ => rfl) (Or.inr (fun _ => fl_Metric _)) hx16) ?_ rfl (by simp only [lendN, Nat.reduceAdd, List.drop_succ_cons, List.drop_zero]; exact rfl)
   refine s_ ?_
   obtain ⟨x18, hx18, H1⟩ := bnd H1
   refine b_ hx18 ?_
   refine s_ ?_
   obtain ⟨m19, hm19, H1⟩ := bnd H1
   refine WO_op (x := .no) (σ' := ⟨[], [], [rd 11 enc_Item m19, none]⟩) rfl rfl (ev_stD (en := enc_Item) hm19 hx18 (dg_c dg_nil) rfl rfl rfl rfl rfl rfl rfl rfl) (n1 ?_)
   refine s_ ?_
   obtain ⟨x20, hx20, H1⟩ := bnd H1
   refine b_ hx20 ?_
   refine s_ ?_
   obtain ⟨m21, hm21, H1⟩ := bnd H1
   refine WO_op (x := .no) (σ' := ⟨[], [], [rd 11 enc_Item m21, none]⟩) rfl rfl (ev_stD (en := enc_Item) hm21 hx20 (dg_c dg_nil) rfl rfl rfl rfl rfl rfl rfl rfl) (n1 ?_)
   refine s_ ?_
   obtain ⟨x22, hx22, H1⟩ := bnd H1
   refine b_ hx22 ?_
   refine s_ ?_
   obtain ⟨m23, hm23, H1⟩ := bnd H1
   refine WO_op (x := .no) (σ' := ⟨[], [], [rd 11 enc_Item m23, none]⟩) rfl rfl (ev_stD (en := enc_Item) hm23 hx22 (dg_c dg_nil) rfl rfl rfl rfl rfl rfl rfl rfl) (n1 ?_)
   refine s_ ?_
   obtain ⟨x24, hx24, H1⟩ := bnd H1
   refine b_ hx24 ?_
   refine s_ ?_
   obtain ⟨m25, hm25, H1⟩ := bnd H1
   refine WO_op (x := .no) (σ' := ⟨[], [], [rd 11 enc_Item m25, none]⟩) rfl rfl (ev_stD (en := enc_Item) hm25 hx24 (dg_c dg_nil) rfl rfl rfl rfl rfl rfl rfl rfl) (n1 ?_)
   refine s_ ?_
   obtain ⟨x26, hx26, H1⟩ := bnd H1
   refine b_ hx26 ?_
   refine s_ ?_
   obtain ⟨x27, hx27, H1⟩ := bnd H1
   refine lnA (lend_A hx27 rfl rfl rfl rfl rfl rfl rfl rfl rfl rfl rfl rfl rfl rfl rfl rfl rfl rfl rfl rfl (fun _ => rfl) rfl rfl (fun _ => rfl) (fun _ => rfl) (Or.inr (fun _ => fl_Note _)) hx26) ?_ rfl (by simp only [lendN, Nat.reduceAdd, List.drop_succ_cons, List.drop_zero]; exact rfl)
   refine s_ ?_
   obtain ⟨x28, hx28, H1⟩ := bnd H1
   refine b_ hx28 ?_
   refine s_ ?_
   obtain ⟨m29, hm29, H1⟩ := bnd H1
   refine WO_op (x := .no) (σ' := ⟨[], [], [rd 11 enc_Item m29, none, none]⟩) rfl rfl (ev_stD (en := enc_Item) hm29 hx28 (dg_c dg_nil) rfl rfl rfl rfl rfl rfl rfl rfl) (n1 ?_)
   exact au H1 (aL @J1a hX1 (aA H trivial))
  ·
   exact au H1 (aL @J1a hX1 (aA H trivial))⟩
instance laws_markStore_dn_ok  {a1 : Store} {a2 : Int} : FOK R (laws_markStore_dn a1 a2) 13 [gStore_d a1, .c (cI .i64 a2) none] fun r => (.c (cI .i64 r.1) none, [some [(cL enc_Item r.2, some (11, true))]]) := ⟨fun {r} H => by
 unfold laws_markStore_dn at H
 refine fw false 10 Try.func13 ?_
 exact au0 H⟩
instance laws_heldMetricS_ok  {a1 : List Metric} {a2 : Int} : FOK R (laws_heldMetricS a1 a2) 60 [.c (cL enc_Metric a1) none, .c (cI .i64 a2) none] fun r => (.c (cI .i64 r) none, []) := ⟨fun {r} H => by
 unfold laws_heldMetricS at H
 refine fw false 41 Try.func60 ?_
 refine s_ ?_
 obtain ⟨s10, hs10, H⟩ := bnd H
 refine loop_rule (ls := []) 0 (fun t9 : Int => ⟨[.no, qi t9], [], []⟩) (fun t => s10 = .inr t) ⟨[.c (cL enc_Metric a1), qi a2, .no, .no, .no, qi 0], [], []⟩ mO lE ?_ ?_
 ·
  rintro t9 rfl
  exact au0 H
 ·
  intro V1 hV1 hW1 hX1
  refine (laws_heldMetricS.l0.partial_correctness a1 (fun v3 v4 s' => s' = s10 → (V1 ⟨[.c (cL enc_Metric a1), qi v3, .no, .no, .no, qi v4], [], []⟩)) ?_ _ _ _ hs10 rfl)
  intro l0 IH1 v3 v4 s' H1 e
  subst e
  refine hV1 _ ?_
  have J1a := fun {v3 v4 τ} h l => hW1 _ τ ((IH1 v3 v4 _ h rfl)) l
  exact au H1 (aL @J1a hX1 (aA H trivial))⟩
instance laws_heldNoteS_ok  {a1 : List Note} {a2 : Int} : FOK R (laws_heldNoteS a1 a2) 61 [.c (cL enc_Note a1) none, .c (cI .i64 a2) none] fun r => (.c (cI .i64 r) none, []) := ⟨fun {r} H => by
 unfold laws_heldNoteS at H
 refine fw false 33 Try.func61 ?_
 refine s_ ?_
 obtain ⟨s10, hs10, H⟩ := bnd H
 refine loop_rule (ls := []) 0 (fun t9 : Int => ⟨[.no, qi t9], [], []⟩) (fun t => s10 = .inr t) ⟨[.c (cL enc_Note a1), qi a2, .no, .no, .no, qi 0], [], []⟩ mO lE ?_ ?_
 ·
  rintro t9 rfl
  exact au0 H
 ·
  intro V1 hV1 hW1 hX1
  refine (laws_heldNoteS.l0.partial_correctness a1 (fun v3 v4 s' => s' = s10 → (V1 ⟨[.c (cL enc_Note a1), qi v3, .no, .no, .no, qi v4], [], []⟩)) ?_ _ _ _ hs10 rfl)
  intro l0 IH1 v3 v4 s' H1 e
  subst e
  refine hV1 _ ?_
  have J1a := fun {v3 v4 τ} h l => hW1 _ τ ((IH1 v3 v4 _ h rfl)) l
  exact au H1 (aL @J1a hX1 (aA H trivial))⟩
instance laws_heldItemS_ok  {a1 : List Item} {a2 : Int} : FOK R (laws_heldItemS a1 a2) 42 [.c (cL enc_Item a1) none, .c (cI .i64 a2) none] fun r => (.c (cI .i64 r) none, []) := ⟨fun {r} H => by
 unfold laws_heldItemS at H
 refine fw false 128 Try.func42 ?_
 refine s_ ?_
 obtain ⟨s21, hs21, H⟩ := bnd H
 refine loop_rule (ls := []) 0 (fun t20 : Int => ⟨[.no, qi t20], [], []⟩) (fun t => s21 = .inr t) ⟨[.c (cL enc_Item a1), qi a2, .no, .no, .no, qi 0], [], []⟩ mO lE ?_ ?_
 ·
  rintro t20 rfl
  exact au0 H
 ·
  intro V1 hV1 hW1 hX1
  refine (laws_heldItemS.l0.partial_correctness a1 (fun v3 v4 s' => s' = s21 → (V1 ⟨[.c (cL enc_Item a1), qi v3, .no, .no, .no, qi v4], [], []⟩)) ?_ _ _ _ hs21 rfl)
  intro l0 IH1 v3 v4 s' H1 e
  subst e
  refine hV1 _ ?_
  have J1a := fun {v3 v4 τ} h l => hW1 _ τ ((IH1 v3 v4 _ h rfl)) l
  exact au H1 (aL @J1a hX1 (aA H trivial))⟩
instance laws_heldStore_ok  {a1 : Store} {a2 : Int} : FOK R (laws_heldStore a1 a2) 18 [gStore a1, .c (cI .i64 a2) none] fun r => (.c (cI .i64 r) none, []) := ⟨fun {r} H => by
 unfold laws_heldStore at H
 refine fw false 12 Try.func18 ?_
 exact au0 H⟩
instance laws_FnExactDelete_ok  {a1 : Store} {a2 : Str} : FOK R (laws_FnExactDelete a1 a2) 5 [gStore a1, .c (cS a2) none] fun r => (.c (cB r) none, []) := ⟨fun {r} H => by
 unfold laws_FnExactDelete at H
 refine fw false 107 Try.func5 ?_
 exact au0 H⟩
end Go.Pu
