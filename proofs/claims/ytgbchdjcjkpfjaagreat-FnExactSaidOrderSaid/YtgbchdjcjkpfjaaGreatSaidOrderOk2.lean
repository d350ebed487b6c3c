import Derived.Test.YtgbchdjcjkpfjaaGreatSaidOrderOk0
import Derived.Test.YtgbchdjcjkpfjaaGreatSaidOrderOk1
set_option linter.unusedVariables false
set_option linter.unusedSimpArgs false
set_option synthInstance.maxSize 1000000000
set_option maxRecDepth 20000
set_option maxHeartbeats 20000000
namespace Go.Pu
open Go Go.SX Go.Nt Go.Proofs
instance spec_l4Text_F_ok {rc53 : Node → Option (Str)} [hrc53 : ∀ {a1 : Node}, FOK R (rc53 a1) 54 [gNode a1] fun r => (.c (cS r) none, [])] {a1 : Node} : FOK R (spec_l4Text_F rc53 a1) 54 [gNode a1] fun r => (.c (cS r) none, []) := ⟨fun {r} H => by
 unfold spec_l4Text_F at H
 refine fw false 64 Tryz.func54 ?_
 refine s_ ?_
 refine W_ite rfl H (fun hc H => ?_) (fun hc H => ?_)
 ·
  exact au0 H
 ·
  refine s_ ?_
  refine W_ite rfl H (fun hc H => ?_) (fun hc H => ?_)
  ·
   exact au0 H
  ·
   refine s_ ?_
   refine W_ite rfl H (fun hc H => ?_) (fun hc H => ?_)
   ·
    exact au0 H
   ·
    refine s_ ?_
    refine W_ite rfl H (fun hc H => ?_) (fun hc H => ?_)
    ·
     exact au0 H
    ·
     refine s_ ?_
     refine W_ite rfl H (fun hc H => ?_) (fun hc H => ?_)
     ·
      refine s_ ?_
      obtain ⟨t31, ht31, H⟩ := bnd H
      refine loop_rule (ls := []) 1 (fun t31 : Str => ⟨[.no, .no, .no, .no, qs [125], qs t31], [], []⟩) (fun t => t31 = t) ⟨[.no, .bp 0 0, .no, .no, qs [125], qs [123], qi 0], [some [qi a1.Kind, qi a1.N, qs a1.S, .c (cL eS a1.Keys), .c (cL eR_Node a1.Kids)]], []⟩ mO lE ?_ ?_
      ·
       rintro t1 rfl
       exact au0 H
      ·
       intro V1 hV1 hW1 hX1
       refine (spec_l4Text.l0.partial_correctness rc53 a1 (fun v4 v5 s' => s' = t31 → (V1 ⟨[.no, .bp 0 0, .no, .no, qs [125], qs v4, qi v5], [some [qi a1.Kind, qi a1.N, qs a1.S, .c (cL eS a1.Keys), .c (cL eR_Node a1.Kids)]], []⟩)) ?_ _ _ _ ht31 rfl)
       intro l0 IH1 v4 v5 s' H1 e
       subst e
       refine hV1 _ ?_
       have J1a := fun {v4 v5 τ} h l => hW1 _ τ ((IH1 v4 v5 _ h rfl)) l
       exact au H1 (aL @J1a hX1 (aA H trivial))
     ·
      refine s_ ?_
      obtain ⟨t61, ht61, H⟩ := bnd H
      refine loop_rule (ls := []) 1 (fun t61 : Str => ⟨[.no, .no, .no, .no, qs [93], qs t61], [], []⟩) (fun t => t61 = t) ⟨[.no, .bp 0 0, .no, .no, qs [93], qs [91], qi 0], [some [qi a1.Kind, qi a1.N, qs a1.S, .c (cL eS a1.Keys), .c (cL eR_Node a1.Kids)]], []⟩ mO lE ?_ ?_
      ·
       rintro t1 rfl
       exact au0 H
      ·
       intro V1 hV1 hW1 hX1
       refine (spec_l4Text.l1.partial_correctness rc53 a1 (fun v34 v35 s' => s' = t61 → (V1 ⟨[.no, .bp 0 0, .no, .no, qs [93], qs v34, qi v35], [some [qi a1.Kind, qi a1.N, qs a1.S, .c (cL eS a1.Keys), .c (cL eR_Node a1.Kids)]], []⟩)) ?_ _ _ _ ht61 rfl)
       intro l0 IH1 v34 v35 s' H1 e
       subst e
       refine hV1 _ ?_
       have J1a := fun {v34 v35 τ} h l => hW1 _ τ ((IH1 v34 v35 _ h rfl)) l
       exact au H1 (aL @J1a hX1 (aA H trivial))⟩
theorem spec_l4Text_n_ok : ∀ (k : Nat) {a1 : Node} {r : Str}, spec_l4Text_n k a1 = some r → R 54 [gNode a1] = some ((fun r => (.c (cS r) none, [])) r)
  | 0, _, _, h => by simp [spec_l4Text_n] at h
  | k + 1, _, _, h => (spec_l4Text_F_ok (hrc53 := ⟨fun h => spec_l4Text_n_ok k h⟩)).ok h
instance spec_l4Text_ok {a1 : Node} : FOK R (spec_l4Text a1) 54 [gNode a1] fun r => (.c (cS r) none, []) := ⟨fun {r} H => by
 obtain ⟨k, hk⟩ := Nt.lim_ex H
 exact spec_l4Text_n_ok k (hk k (Nat.le_refl k))⟩
instance spec_Braced_ok  {a1 : Node} : FOK R (spec_Braced a1) 31 [gNode a1] fun r => (.c (cS r) none, []) := ⟨fun {r} H => by
 unfold spec_Braced at H
 refine fw false 8 Tryz.func31 ?_
 exact au0 H⟩
instance spec_l8Saved_ok  {a1 : Order} : FOK R (spec_l8Saved a1) 63 [gOrder a1] fun r => (gNode_oo r, []) := ⟨fun {r} H => by
 unfold spec_l8Saved at H
 refine fw false 19 Tryz.func63 ?_
 refine s_ ?_
 obtain ⟨x2, hx2, H⟩ := bnd H
 refine b_ hx2 ?_
 refine s_ ?_
 obtain ⟨x3, hx3, H⟩ := bnd H
 refine b_ hx3 ?_
 refine WL_op (x := qb (!((a1.Pace.Up == x3.Up) && ((a1.Pace.Down == x3.Down) && ((a1.Pace.UpSpan == x3.UpSpan) && ((a1.Pace.DownSpan == x3.DownSpan) && true)))))) rfl rfl rfl (ev_eqT (r := ((a1.Pace.Up == x3.Up) && ((a1.Pace.Down == x3.Down) && ((a1.Pace.UpSpan == x3.UpSpan) && ((a1.Pace.DownSpan == x3.DownSpan) && true))))) rfl rfl rfl rfl (by kernel_rfl) (by kernel_rfl) rfl) (n1 ?_)
 exact au0 H⟩
instance spec_MidTree_ok  {a1 : Order} : FOK R (spec_MidTree a1) 34 [gOrder a1] fun r => (gNode_oo r, []) := ⟨fun {r} H => by
 unfold spec_MidTree at H
 refine fw false 18 Tryz.func34 ?_
 refine s_ ?_
 obtain ⟨x2, hx2, H⟩ := bnd H
 refine b_ hx2 ?_
 refine s_ ?_
 refine W_ite rfl H (fun hc H => ?_) (fun hc H => ?_)
 ·
  exact au0 H
 ·
  refine s_ ?_
  refine W_lateL [3] (by kernel_rfl) (by decide +kernel) rfl ?_; refine WL_c rfl ?_; simp only [SX.clr,List.foldl,putT,st,ev,gt,hp,ofV,constT,intT,lm]
  exact au0 H⟩
instance spec_ShareOf_ok  {a1 : List Metric} : FOK R (spec_ShareOf a1) 64 [.c (cL enc_Metric a1) none] fun r => (.tu [.c (cI .i64 r.1) none, .c (cB r.2) none], []) := ⟨fun {r} H => by
 unfold spec_ShareOf at H
 refine fw false 39 Tryz.func64 ?_
 refine s_ ?_
 obtain ⟨s6, hs6, H⟩ := bnd H
 refine loop_rule (ls := []) 0 (fun t5 : Unit => ⟨[], [], []⟩) (fun t => s6 = .inr t) ⟨[.c (cL enc_Metric a1), .no, .no, .no, qi 0], [], []⟩ mO lE ?_ ?_
 ·
  rintro t5 rfl
  exact au0 H
 ·
  intro V1 hV1 hW1 hX1
  refine (spec_ShareOf.l0.partial_correctness a1 (fun v2 s' => s' = s6 → (V1 ⟨[.c (cL enc_Metric a1), .no, .no, .no, qi v2], [], []⟩)) ?_ _ _ hs6 rfl)
  intro l0 IH1 v2 s' H1 e
  subst e
  refine hV1 _ ?_
  have J1a := fun {v2 τ} h l => hW1 _ τ ((IH1 v2 _ h rfl)) l
  exact au H1 (aL @J1a hX1 (aA H trivial))⟩
instance spec_l9Others_ok  {a1 : List Metric} : FOK R (spec_l9Others a1) 66 [.c (cL enc_Metric a1) none] fun r => (.c (cL enc_Metric r) (some (3, false)), []) := ⟨fun {r} H => by
 unfold spec_l9Others at H
 refine fw false 37 Tryz.func66 ?_
 refine s_ ?_
 obtain ⟨x2, hx2, H⟩ := bnd H
 refine b_ hx2 ?_
 refine s_ ?_
 obtain ⟨t10, ht10, H⟩ := bnd H
 refine loop_rule (ls := []) 0 (fun t10 : List Metric => ⟨[.no, .no, .no, .row 0], [], [rr 3 enc_Metric t10 true]⟩) (fun t => t10 = t) ⟨[.c (cL enc_Metric a1), .no, .no, .row 0, .no, qb x2.2, qi 0], [], [rr 3 enc_Metric ([] : List Metric) true]⟩ mO lE ?_ ?_
 ·
  rintro t1 rfl
  exact au0 H
 ·
  intro V1 hV1 hW1 hX1
  refine (spec_l9Others.l0.partial_correctness a1 x2 (fun v3 v4 s' => s' = t10 → (V1 ⟨[.c (cL enc_Metric a1), .no, .no, .row 0, .no, qb x2.2, qi v3], [], [rr 3 enc_Metric v4 true]⟩)) ?_ _ _ _ ht10 rfl)
  intro l0 IH1 v3 v4 s' H1 e
  subst e
  refine hV1 _ ?_
  have J1a := fun {v3 v4 τ} h l => hW1 _ τ ((IH1 v3 v4 _ h rfl)) l
  exact au H1 (aL @J1a hX1 (aA H trivial))⟩
instance spec_PlainTree_ok  {a1 : Order} : FOK R (spec_PlainTree a1) 35 [gOrder a1] fun r => (gNode_oo r, []) := ⟨fun {r} H => by
 unfold spec_PlainTree at H
 refine fw false 42 Tryz.func35 ?_
 exact au0 H⟩
instance spec_Shape_ok  {a1 : Order} {a2 : Int} : FOK R (spec_Shape a1 a2) 14 [gOrder a1, .c (cI .i64 a2) none] fun r => (gNode_oo r, []) := ⟨fun {r} H => by
 unfold spec_Shape at H
 refine fw false 19 Tryz.func14 ?_
 exact au0 H⟩
instance spec_l5Block_ok  {a1 : Node} : FOK R (spec_l5Block a1) 55 [gNode a1] fun r => (.c (cB r) none, []) := ⟨fun {r} H => by
 unfold spec_l5Block at H
 refine fw false 17 Tryz.func55 ?_
 exact au0 H⟩
instance spec_Inline_ok  {a1 : Node} : FOK R (spec_Inline a1) 57 [gNode a1] fun r => (.c (cS r) none, []) := ⟨fun {r} H => by
 unfold spec_Inline at H
 refine fw false 19 Tryz.func57 ?_
 exact au0 H⟩
instance spec_l5Write_F_ok {rc61 : Node → Str → Option (Str)} [hrc61 : ∀ {a1 : Node} {a2 : Str}, FOK R (rc61 a1 a2) 56 [gNode a1, .c (cS a2) none] fun r => (.c (cS r) none, [])] {a1 : Node} {a2 : Str} : FOK R (spec_l5Write_F rc61 a1 a2) 56 [gNode a1, .c (cS a2) none] fun r => (.c (cS r) none, []) := ⟨fun {r} H => by
 unfold spec_l5Write_F at H
 refine fw false 70 Tryz.func56 ?_
 refine s_ ?_
 obtain ⟨t63, ht63, H⟩ := bnd H
 refine loop_rule (ls := []) 0 (fun t63 : Str => ⟨[.no, .no, .no, .no, .no, qs t63], [], []⟩) (fun t => t63 = t) ⟨[.no, qs a2, .bp 0 0, .no, .no, qs [], qi 0], [some [qi a1.Kind, qi a1.N, qs a1.S, .c (cL eS a1.Keys), .c (cL eR_Node a1.Kids)]], []⟩ mO lE ?_ ?_
 ·
  rintro t1 rfl
  exact au0 H
 ·
  intro V1 hV1 hW1 hX1
  refine (spec_l5Write.l0.partial_correctness rc61 a1 a2 (fun v3 v4 s' => s' = t63 → (V1 ⟨[.no, qs a2, .bp 0 0, .no, .no, qs v3, qi v4], [some [qi a1.Kind, qi a1.N, qs a1.S, .c (cL eS a1.Keys), .c (cL eR_Node a1.Kids)]], []⟩)) ?_ _ _ _ ht63 rfl)
  intro l0 IH1 v3 v4 s' H1 e
  subst e
  refine hV1 _ ?_
  have J1a := fun {v3 v4 τ} h l => hW1 _ τ ((IH1 v3 v4 _ h rfl)) l
  exact au H1 (aL @J1a hX1 (aA H trivial))⟩
theorem spec_l5Write_n_ok : ∀ (k : Nat) {a1 : Node} {a2 : Str} {r : Str}, spec_l5Write_n k a1 a2 = some r → R 56 [gNode a1, .c (cS a2) none] = some ((fun r => (.c (cS r) none, [])) r)
  | 0, _, _, _, h => by simp [spec_l5Write_n] at h
  | k + 1, _, _, _, h => (spec_l5Write_F_ok (hrc61 := ⟨fun h => spec_l5Write_n_ok k h⟩)).ok h
instance spec_l5Write_ok {a1 : Node} {a2 : Str} : FOK R (spec_l5Write a1 a2) 56 [gNode a1, .c (cS a2) none] fun r => (.c (cS r) none, []) := ⟨fun {r} H => by
 obtain ⟨k, hk⟩ := Nt.lim_ex H
 exact spec_l5Write_n_ok k (hk k (Nat.le_refl k))⟩
instance spec_Indented_ok  {a1 : Node} : FOK R (spec_Indented a1) 32 [gNode a1] fun r => (.c (cS r) none, []) := ⟨fun {r} H => by
 unfold spec_Indented at H
 refine fw false 13 Tryz.func32 ?_
 exact au0 H⟩
instance spec_Said_ok  {a1 : Int} {a2 : Node} : FOK R (spec_Said a1 a2) 13 [.c (cI .i64 a1) none, gNode a2] fun r => (.c (cS r) none, []) := ⟨fun {r} H => by
 unfold spec_Said at H
 refine fw false 14 Tryz.func13 ?_
 exact au0 H⟩
instance spec_SaidOrder_ok  {a1 : Int} {a2 : Int} {a3 : Order} : FOK R (spec_SaidOrder a1 a2 a3) 5 [.c (cI .i64 a1) none, .c (cI .i64 a2) none, gOrder a3] fun r => (.c (cS r) none, []) := ⟨fun {r} H => by
 unfold spec_SaidOrder at H
 refine fw false 20 Tryz.func5 ?_
 exact au0 H⟩
instance impl_isDigit_ok  {a1 : Int} : FOK R (impl_isDigit a1) 68 [.c (cI .u8 a1) none] fun r => (.c (cB r) none, []) := ⟨fun {r} H => by
 unfold impl_isDigit at H
 refine fw false 9 Tryz.func68 ?_
 exact au0 H⟩
instance impl_from_ok  {a1 : Int} {a2 : Int} {a3 : Int} : FOK R (impl_from a1 a2 a3) 19 [.c (cI .i64 a1) none, .c (cI .i64 a2) none, .c (cI .i64 a3) none] fun r => (.c (cB r) none, []) := ⟨fun {r} H => by
 unfold impl_from at H
 refine fw false 15 Tryz.func19 ?_
 exact au0 H⟩
instance impl_NameOk_ok  {a1 : Str} : FOK R (impl_NameOk a1) 39 [.c (cS a1) none] fun r => (.c (cB r) none, []) := ⟨fun {r} H => by
 unfold impl_NameOk at H
 refine fw false 43 Tryz.func39 ?_
 refine s_ ?_
 obtain ⟨s13, hs13, H⟩ := bnd H
 refine loop_rule (ls := []) 0 (fun t11 : Unit => ⟨[qs a1], [], []⟩) (fun t => s13 = .inr t) ⟨[qs a1, .no, .no, .no, .no, .no, qi (a1.length : Int), qi 0], [], []⟩ mO lE ?_ ?_
 ·
  rintro t11 rfl
  exact au0 H
 ·
  intro V1 hV1 hW1 hX1
  refine (impl_NameOk.l0.partial_correctness a1 (fun v2 s' => s' = s13 → (V1 ⟨[qs a1, .no, .no, .no, .no, .no, qi (a1.length : Int), qi v2], [], []⟩)) ?_ _ _ hs13 rfl)
  intro l0 IH1 v2 s' H1 e
  subst e
  refine hV1 _ ?_
  have J1a := fun {v2 τ} h l => hW1 _ τ ((IH1 v2 _ h rfl)) l
  exact au H1 (aL @J1a hX1 (aA H trivial))⟩
instance impl_MetricOk_ok  {a1 : Metric} : FOK R (impl_MetricOk a1) 38 [gMetric a1] fun r => (.c (cB r) none, []) := ⟨fun {r} H => by
 unfold impl_MetricOk at H
 refine fw false 16 Tryz.func38 ?_
 exact au0 H⟩
instance impl_isMany_ok  {a1 : Int} : FOK R (impl_isMany a1) 69 [.c (cI .i64 a1) none] fun r => (.c (cB r) none, []) := ⟨fun {r} H => by
 unfold impl_isMany at H
 refine fw false 5 Tryz.func69 ?_
 exact au0 H⟩
instance impl_PaceOk_ok  {a1 : Pace} : FOK R (impl_PaceOk a1) 40 [gPace a1] fun r => (.c (cB r) none, []) := ⟨fun {r} H => by
 unfold impl_PaceOk at H
 refine fw false 21 Tryz.func40 ?_
 exact au0 H⟩
instance impl_isLetter_ok  {a1 : Int} : FOK R (impl_isLetter a1) 100 [.c (cI .u8 a1) none] fun r => (.c (cB r) none, []) := ⟨fun {r} H => by
 unfold impl_isLetter at H
 refine fw false 17 Tryz.func100 ?_
 exact au0 H⟩
theorem internal_bytealg_IndexByteString_ok {a1 : Str} {a2 r : Int} (H : internal_bytealg_IndexByteString a1 a2 = some r) : R 143 [.c (cS a1) none, .c (cI .u8 a2) none] = some (.c (cI .i64 r) none, []) := by
  obtain rfl := Option.some.inj H
  exact Fz_pr rfl (by simp only [indexByteF, indexByte_lib])
instance internal_bytealg_IndexByteString_i {a1 : Str} {a2 : Int} : FOK R (internal_bytealg_IndexByteString a1 a2) 143 [.c (cS a1) none, .c (cI .u8 a2) none] fun r => (.c (cI .i64 r) none, []) := ⟨fun {r} H => internal_bytealg_IndexByteString_ok H⟩
instance internal_stringslite_IndexByte_ok  {a1 : Str} {a2 : Int} : FOK R (internal_stringslite_IndexByte a1 a2) 127 [.c (cS a1) none, .c (cI .u8 a2) none] fun r => (.c (cI .i64 r) none, []) := ⟨fun {r} H => by
 unfold internal_stringslite_IndexByte at H
 refine fw false 8 Tryz.func127 ?_
 exact au0 H⟩
instance strings_IndexByte_ok  {a1 : Str} {a2 : Int} : FOK R (strings_IndexByte a1 a2) 101 [.c (cS a1) none, .c (cI .u8 a2) none] fun r => (.c (cI .i64 r) none, []) := ⟨fun {r} H => by
 unfold strings_IndexByte at H
 refine fw false 8 Tryz.func101 ?_
 exact au0 H⟩
instance impl_PlainOk_ok  {a1 : Str} : FOK R (impl_PlainOk a1) 70 [.c (cS a1) none] fun r => (.c (cB r) none, []) := ⟨fun {r} H => by
 unfold impl_PlainOk at H
 refine fw false 48 Tryz.func70 ?_
 refine s_ ?_
 obtain ⟨s11, hs11, H⟩ := bnd H
 refine loop_rule (ls := []) 0 (fun t9 : Unit => ⟨[qs a1], [], []⟩) (fun t => s11 = .inr t) ⟨[qs a1, .no, .no, .no, .no, qi (a1.length : Int), qi 0], [], []⟩ mO lE ?_ ?_
 ·
  rintro t9 rfl
  exact au0 H
 ·
  intro V1 hV1 hW1 hX1
  refine (impl_PlainOk.l0.partial_correctness a1 (fun v2 s' => s' = s11 → (V1 ⟨[qs a1, .no, .no, .no, .no, qi (a1.length : Int), qi v2], [], []⟩)) ?_ _ _ hs11 rfl)
  intro l0 IH1 v2 s' H1 e
  subst e
  refine hV1 _ ?_
  have J1a := fun {v2 τ} h l => hW1 _ τ ((IH1 v2 _ h rfl)) l
  exact au H1 (aL @J1a hX1 (aA H trivial))⟩
instance internal_stringslite_HasPrefix_ok  {a1 : Str} {a2 : Str} : FOK R (internal_stringslite_HasPrefix a1 a2) 102 [.c (cS a1) none, .c (cS a2) none] fun r => (.c (cB r) none, []) := ⟨fun {r} H => by
 unfold internal_stringslite_HasPrefix at H
 refine fw false 18 Tryz.func102 ?_
 exact au0 H⟩
instance strings_HasPrefix_ok  {a1 : Str} {a2 : Str} : FOK R (strings_HasPrefix a1 a2) 71 [.c (cS a1) none, .c (cS a2) none] fun r => (.c (cB r) none, []) := ⟨fun {r} H => by
 unfold strings_HasPrefix at H
 refine fw false 8 Tryz.func71 ?_
 exact au0 H⟩
instance impl_TextOk_ok  {a1 : Str} : FOK R (impl_TextOk a1) 72 [.c (cS a1) none] fun r => (.c (cB r) none, []) := ⟨fun {r} H => by
 unfold impl_TextOk at H
 refine fw false 19 Tryz.func72 ?_
 refine s_ ?_
 obtain ⟨s6, hs6, H⟩ := bnd H
 refine loop_rule (ls := []) 0 (fun t5 : Unit => ⟨[qs a1], [], []⟩) (fun t => s6 = .inr t) ⟨[qs a1, .no, .no, .no, .no, qi (a1.length : Int), qi 0], [], []⟩ mO lE ?_ ?_
 ·
  rintro t5 rfl
  exact au0 H
 ·
  intro V1 hV1 hW1 hX1
  refine (impl_TextOk.l0.partial_correctness a1 (fun v2 s' => s' = s6 → (V1 ⟨[qs a1, .no, .no, .no, .no, qi (a1.length : Int), qi v2], [], []⟩)) ?_ _ _ hs6 rfl)
  intro l0 IH1 v2 s' H1 e
  subst e
  refine hV1 _ ?_
  have J1a := fun {v2 τ} h l => hW1 _ τ ((IH1 v2 _ h rfl)) l
  exact au H1 (aL @J1a hX1 (aA H trivial))⟩
instance impl_notesOk_ok  {a1 : List Note} : FOK R (impl_notesOk a1) 41 [.c (cL enc_Note a1) none] fun r => (.c (cB r) none, []) := ⟨fun {r} H => by
 unfold impl_notesOk at H
 refine fw false 52 Tryz.func41 ?_
 refine s_ ?_
 obtain ⟨s9, hs9, H⟩ := bnd H
 refine loop_rule (ls := []) 0 (fun t8 : Unit => ⟨[.c (cL enc_Note a1)], [], []⟩) (fun t => s9 = .inr t) ⟨[.c (cL enc_Note a1), .no, .no, .no, .no, .c (cL enc_Note a1), qi (a1.length : Int), qi 0], [], []⟩ mO lE ?_ ?_
 ·
  rintro t8 rfl
  exact au0 H
 ·
  intro V1 hV1 hW1 hX1
  refine (impl_notesOk.l0.partial_correctness a1 (fun v2 s' => s' = s9 → (V1 ⟨[.c (cL enc_Note a1), .no, .no, .no, .no, .c (cL enc_Note a1), qi (a1.length : Int), qi v2], [], []⟩)) ?_ _ _ hs9 rfl)
  intro l0 IH1 v2 s' H1 e
  subst e
  refine hV1 _ ?_
  have J1a := fun {v2 τ} h l => hW1 _ τ ((IH1 v2 _ h rfl)) l
  exact au H1 (aL @J1a hX1 (aA H trivial))⟩
instance impl_OrderOk_ok  {a1 : Order} : FOK R (impl_OrderOk a1) 18 [gOrder a1] fun r => (.c (cB r) none, []) := ⟨fun {r} H => by
 unfold impl_OrderOk at H
 refine fw false 69 Tryz.func18 ?_
 refine s_ ?_
 obtain ⟨s12, hs12, H⟩ := bnd H
 refine loop_rule (ls := []) 0 (fun t6 : Unit => ⟨[.no, .bp 0 0], [some (uO a1 (.c (cL enc_Metric a1.Metrics)) (.c (cL enc_Note a1.Notes)) [])], []⟩) (fun t => s12 = .inr t) ⟨[.no, .bp 0 0, .no, .no, .no, .no, .c (cL enc_Metric a1.Metrics), qi (a1.Metrics.length : Int), qi 0], [some (uO a1 (.c (cL enc_Metric a1.Metrics)) (.c (cL enc_Note a1.Notes)) [])], []⟩ mO lE ?_ ?_
 ·
  rintro t6 rfl
  exact au0 H
 ·
  intro V1 hV1 hW1 hX1
  refine (impl_OrderOk.l0.partial_correctness a1 (fun v2 s' => s' = s12 → (V1 ⟨[.no, .bp 0 0, .no, .no, .no, .no, .c (cL enc_Metric a1.Metrics), qi (a1.Metrics.length : Int), qi v2], [some (uO a1 (.c (cL enc_Metric a1.Metrics)) (.c (cL enc_Note a1.Notes)) [])], []⟩)) ?_ _ _ hs12 rfl)
  intro l0 IH1 v2 s' H1 e
  subst e
  refine hV1 _ ?_
  have J1a := fun {v2 τ} h l => hW1 _ τ ((IH1 v2 _ h rfl)) l
  exact au H1 (aL @J1a hX1 (aA H trivial))⟩
instance impl_TextOf_ok  {a1 : Str} : FOK R (impl_TextOf a1) 87 [.c (cS a1) none] fun r => (gNode_oo r, []) := ⟨fun {r} H => by
 unfold impl_TextOf at H
 refine fw false 5 Tryz.func87 ?_
 exact au0 H⟩
instance impl_IntOf_ok  {a1 : Int} : FOK R (impl_IntOf a1) 84 [.c (cI .i64 a1) none] fun r => (gNode_oo r, []) := ⟨fun {r} H => by
 unfold impl_IntOf at H
 refine fw false 5 Tryz.func84 ?_
 exact au0 H⟩
theorem slices_Clone_Sstring_string_ok {a1 r : List Str} (H : slices_Clone_Sstring_string a1 = some r) : R 136 [.c (cL eS a1) none] = some (.c (cL eS r) (some (1, false)), []) := by
  unfold slices_Clone_Sstring_string Nt.clone at H
  split at H
  · rename_i h
    obtain rfl := Option.some.inj H
    exact Fz_pr rfl (by simp only [cloneF]; rw [if_pos ⟨wide_map (en := eS) (fun _ => rfl) a1, by simpa using h⟩])
  · simp at H
instance slices_Clone_Sstring_string_i {a1 : List Str} : FOK R (slices_Clone_Sstring_string a1) 136 [.c (cL eS a1) none] fun r => (.c (cL eS r) (some (1, false)), []) := ⟨fun {r} H => slices_Clone_Sstring_string_ok H⟩
instance impl_copyTree_F_ok {rc86 : Node → Option (Node)} [hrc86 : ∀ {a1 : Node}, FOK R (rc86 a1) 111 [gNode a1] fun r => (gNode_oo r, [])] {a1 : Node} : FOK R (impl_copyTree_F rc86 a1) 111 [gNode a1] fun r => (gNode_oo r, []) := ⟨fun {r} H => by
 unfold impl_copyTree_F at H
 refine fw false 27 Tryz.func111 ?_
 refine s_ ?_
 obtain ⟨x2, hx2, H⟩ := bnd H
 refine b_ hx2 ?_
 refine s_ ?_
 obtain ⟨t9, ht9, H⟩ := bnd H
 refine loop_rule (ls := []) 0 (fun t9 : List RNode => ⟨[.no, .bp 0 0, .bp 1 0, .row 0], [some [qi a1.Kind, qi a1.N, qs a1.S, .row 1, .c (cL eR_Node a1.Kids)], some [qi 0, qi 0, qs [], .nil, .nil]], [rr 5 eR_Node t9 true, rr 1 eS x2 true]⟩) (fun t => t9 = t) ⟨[.no, .bp 0 0, .bp 1 0, .row 0, .no, .no, .no, .no, .no, .no, .no, .no, .c (cL eR_Node a1.Kids), qi (a1.Kids.length : Int), qi 0], [some [qi a1.Kind, qi a1.N, qs a1.S, .row 1, .c (cL eR_Node a1.Kids)], some [qi 0, qi 0, qs [], .nil, .nil]], [rr 5 eR_Node ([] : List RNode) true, rr 1 eS x2 true]⟩ mO lE ?_ ?_
 ·
  rintro t1 rfl
  exact au0 H
 ·
  intro V1 hV1 hW1 hX1
  refine (impl_copyTree.l0.partial_correctness rc86 a1 (fun v3 v4 s' => s' = t9 → (V1 ⟨[.no, .bp 0 0, .bp 1 0, .row 0, .no, .no, .no, .no, .no, .no, .no, .no, .c (cL eR_Node a1.Kids), qi (a1.Kids.length : Int), qi v3], [some [qi a1.Kind, qi a1.N, qs a1.S, .row 1, .c (cL eR_Node a1.Kids)], some [qi 0, qi 0, qs [], .nil, .nil]], [rr 5 eR_Node v4 true, rr 1 eS x2 true]⟩)) ?_ _ _ _ ht9 rfl)
  intro l0 IH1 v3 v4 s' H1 e
  subst e
  refine hV1 _ ?_
  have J1a := fun {v3 v4 τ} h l => hW1 _ τ ((IH1 v3 v4 _ h rfl)) l
  exact au H1 (aL @J1a hX1 (aA H trivial))⟩
theorem impl_copyTree_n_ok : ∀ (k : Nat) {a1 : Node} {r : Node}, impl_copyTree_n k a1 = some r → R 111 [gNode a1] = some ((fun r => (gNode_oo r, [])) r)
  | 0, _, _, h => by simp [impl_copyTree_n] at h
  | k + 1, _, _, h => (impl_copyTree_F_ok (hrc86 := ⟨fun h => impl_copyTree_n_ok k h⟩)).ok h
instance impl_copyTree_ok {a1 : Node} : FOK R (impl_copyTree a1) 111 [gNode a1] fun r => (gNode_oo r, []) := ⟨fun {r} H => by
 obtain ⟨k, hk⟩ := Nt.lim_ex H
 exact impl_copyTree_n_ok k (hk k (Nat.le_refl k))⟩
instance impl_isMap_ok  {a1 : Node} : FOK R (impl_isMap a1) 112 [gNode a1] fun r => (.c (cB r) none, []) := ⟨fun {r} H => by
 unfold impl_isMap at H
 refine fw false 15 Tryz.func112 ?_
 exact au0 H⟩
instance slices_Index_Sstring_string_ok  {a1 : List Str} {a2 : Str} : FOK R (slices_Index_Sstring_string a1 a2) 113 [.c (cL eS a1) none, .c (cS a2) none] fun r => (.c (cI .i64 r) none, []) := ⟨fun {r} H => by
 unfold slices_Index_Sstring_string at H
 refine fw false 19 Tryz.func113 ?_
 refine s_ ?_
 obtain ⟨s6, hs6, H⟩ := bnd H
 refine loop_rule (ls := []) 0 (fun t5 : Unit => ⟨[], [], []⟩) (fun t => s6 = .inr t) ⟨[.c (cL eS a1), qs a2, .no, .no, .no, .no, .no, qi (a1.length : Int), qi 0], [], []⟩ mO lE ?_ ?_
 ·
  rintro t5 rfl
  exact au0 H
 ·
  intro V1 hV1 hW1 hX1
  refine (slices_Index_Sstring_string.l0.partial_correctness a1 a2 (fun v3 s' => s' = s6 → (V1 ⟨[.c (cL eS a1), qs a2, .no, .no, .no, .no, .no, qi (a1.length : Int), qi v3], [], []⟩)) ?_ _ _ hs6 rfl)
  intro l0 IH1 v3 s' H1 e
  subst e
  refine hV1 _ ?_
  have J1a := fun {v3 τ} h l => hW1 _ τ ((IH1 v3 _ h rfl)) l
  exact au H1 (aL @J1a hX1 (aA H trivial))⟩
instance impl_Set_1_ok  {a1 : Str} {a2 : Str} : FOK R (impl_Set_1 a1 a2) 115 [.c (cS a1) none, .p [(cS a2, none)]] fun r => (.c (cB r.1) none, [some [(cS r.2, none)]]) := ⟨fun {r} H => by
 unfold impl_Set_1 at H
 refine fw false 7 Tryz.func115 ?_
 exact au0 H⟩
instance slices_IndexFunc_Sstring_string_impl_Set_1_ok  {a1 : List Str} {a2 : Str} : FOK R (slices_IndexFunc_Sstring_string_impl_Set_1 a1 a2) 114 [.c (cL eS a1) (some (1, false)), .f 115 [[(cS a2, none)]]] fun r => (.c (cI .i64 r.1) none, [some [(cL eS r.2.1, some (1, false))], some [(cS r.2.2, none)]]) := ⟨fun {r} H => by
 unfold slices_IndexFunc_Sstring_string_impl_Set_1 at H
 refine fw false 19 Tryz.func114 ?_
 refine s_ ?_
 obtain ⟨s8, hs8, H⟩ := bnd H
 refine loop_rule (ls := [.r 0, .b 0]) 0 (fun t7 : Str => ⟨[], [some [qs t7]], [rr 1 eS a1 true]⟩) (fun t => s8 = .inr t) ⟨[.row 0, .fn 115 [0], .no, .no, .no, .no, .no, qi (a1.length : Int), qi 0], [some [qs a2]], [rr 1 eS a1 true]⟩ mO lE ?_ ?_
 ·
  rintro t7 rfl
  exact au0 H
 ·
  intro V1 hV1 hW1 hX1
  refine (slices_IndexFunc_Sstring_string_impl_Set_1.l0.partial_correctness a1 (fun v3 v4 s' => s' = s8 → (V1 ⟨[.row 0, .fn 115 [0], .no, .no, .no, .no, .no, qi (a1.length : Int), qi v3], [some [qs v4]], [rr 1 eS a1 true]⟩)) ?_ _ _ _ hs8 rfl)
  intro l0 IH1 v3 v4 s' H1 e
  subst e
  refine hV1 _ ?_
  have J1a := fun {v3 v4 τ} h l => hW1 _ τ ((IH1 v3 v4 _ h rfl)) l
  exact au H1 (aL @J1a hX1 (aA H trivial))⟩
end Go.Pu
