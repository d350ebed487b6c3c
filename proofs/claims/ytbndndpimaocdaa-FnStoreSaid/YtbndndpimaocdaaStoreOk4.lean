import Derived.Test.YtbndndpimaocdaaStoreOk0
import Derived.Test.YtbndndpimaocdaaStoreOk1
import Derived.Test.YtbndndpimaocdaaStoreOk3
set_option linter.unusedVariables false
set_option linter.unusedSimpArgs false
set_option synthInstance.maxSize 1000000000
set_option maxRecDepth 20000
set_option maxHeartbeats 20000000
namespace Go.Pu
open Go Go.SX Go.Nt Go.Proofs
instance laws_FnStore_ok  {a1 : List Int} : FOK R (laws_FnStore a1) 3 [.c (cL eU a1) none] fun r => (.c (cB r) none, []) := ⟨fun {r} H => by
 unfold laws_FnStore at H
 refine fw false 239 Try.func3 ?_
 refine s_ ?_
 obtain ⟨x2, hx2, H⟩ := bnd H
 refine b_ hx2 ?_
 refine s_ ?_
 refine W_ite rfl H (fun hc H => ?_) (fun hc H => ?_)
 ·
  exact au0 H
 ·
  refine s_ ?_
  obtain ⟨x3, hx3, H⟩ := bnd H
  refine b_ hx3 ?_
  refine s_ ?_
  obtain ⟨x4, hx4, H⟩ := bnd H
  refine b_ hx4 ?_
  refine s_ ?_
  obtain ⟨x5, hx5, H⟩ := bnd H
  refine b_ hx5 ?_
  refine s_ ?_
  obtain ⟨x6, hx6, H⟩ := bnd H
  refine b_ hx6 ?_
  refine s_ ?_
  obtain ⟨x7, hx7, H⟩ := bnd H
  refine b_ hx7 ?_
  refine s_ ?_
  obtain ⟨x8, hx8, H⟩ := bnd H
  refine b_ hx8 ?_
  refine s_ ?_
  obtain ⟨x9, hx9, H⟩ := bnd H
  refine b_ hx9 ?_
  refine s_ ?_
  obtain ⟨x10, hx10, H⟩ := bnd H
  refine b_ hx10 ?_
  refine s_ ?_
  obtain ⟨x11, hx11, H⟩ := bnd H
  refine b_ hx11 ?_
  refine s_ ?_
  refine WL_iA H (fun hc H => ?_) (fun hc H => ?_)
  ·
   exact au0 H
  ·
   refine s_ ?_
   obtain ⟨x12, hx12, H⟩ := bnd H
   refine b_ hx12 ?_
   refine s_ ?_
   refine WL_iA H (fun hc H => ?_) (fun hc H => ?_)
   ·
    exact au0 H
   ·
    refine s_ ?_
    refine WL_iA H (fun hc H => ?_) (fun hc H => ?_)
    ·
     exact au0 H
    ·
     refine s_ ?_
     obtain ⟨x13, hx13, H⟩ := bnd H
     refine b_ hx13 ?_
     refine s_ ?_
     refine WL_iA H (fun hc H => ?_) (fun hc H => ?_)
     ·
      exact au0 H
     ·
      refine s_ ?_
      refine WL_iA H (fun hc H => ?_) (fun hc H => ?_)
      ·
       exact au0 H
      ·
       refine s_ ?_
       refine WL_iA H (fun hc H => ?_) (fun hc H => ?_)
       ·
        exact au0 H
       ·
        refine s_ ?_
        obtain ⟨x14, hx14, H⟩ := bnd H
        refine b_ hx14 ?_
        refine s_ ?_
        refine WL_iA H (fun hc H => ?_) (fun hc H => ?_)
        ·
         exact au0 H
        ·
         refine s_ ?_
         obtain ⟨x15, hx15, H⟩ := bnd H
         refine b_ hx15 ?_
         refine s_ ?_
         obtain ⟨x16, hx16, H⟩ := bnd H
         refine b_ hx16 ?_
         refine s_ ?_
         refine WL_iA H (fun hc H => ?_) (fun hc H => ?_)
         ·
          exact au0 H
         ·
          refine s_ ?_
          obtain ⟨x17, hx17, H⟩ := bnd H
          refine b_ hx17 ?_
          obtain ⟨x18, hx18, H⟩ := bnd H
          refine b_ hx18 ?_
          obtain ⟨x19, hx19, H⟩ := bnd H
          refine b_ hx19 ?_
          refine s_ ?_
          refine W_ite rfl H (fun hc H => ?_) (fun hc H => ?_)
          ·
           exact au0 H
          ·
           refine s_ ?_
           refine W_ite rfl H (fun hc H => ?_) (fun hc H => ?_)
           ·
            refine s_ ?_
            obtain ⟨x20, hx20, H⟩ := bnd H
            refine b_ hx20 ?_
            refine s_ ?_
            refine WO_iA H (fun hc H => ?_) (fun hc H => ?_)
            ·
             exact au0 H
            ·
             refine s_ ?_
             refine WO_iA H (fun hc H => ?_) (fun hc H => ?_)
             ·
              exact au0 H
             ·
              refine s_ ?_
              obtain ⟨x21, hx21, H⟩ := bnd H
              refine b_ hx21 ?_
              refine s_ ?_
              refine W_ite rfl H (fun hc H => ?_) (fun hc H => ?_)
              ·
               exact au0 H
              ·
               refine s_ ?_
               refine W_ite rfl H (fun hc H => ?_) (fun hc H => ?_)
               ·
                exact au0 H
               ·
                refine s_ ?_
                obtain ⟨x23, hx23, H⟩ := bnd H
                refine b_ hx23 ?_
                refine s_ ?_
                obtain ⟨s32, hs32, H⟩ := bnd H
                refine loop_rule (ls := []) 0 (fun t29 : Unit => ⟨[.no, .no, .no, .bp 0 0, .bp 1 0, .bp 2 0, .no, .no, .no, .no, .no, .no, .no, .no, .no, .no, .no, .no, .no, .no, .no, .no, .no, .bp 3 0, qb x23.2], [some [.row 0, qi x3.1.Next], some (uO x3.2 (.row 1) (.row 2) []), some [.row 3, qi x4.1.Next], some (uO x23.1.Order (.row 4) (.row 5) [qi x23.1.Ver])], [rr 11 enc_Item x3.1.Items false, rr 3 enc_Metric x3.2.Metrics false, rr 2 enc_Note x3.2.Notes false, rr 11 enc_Item x4.1.Items true, rr 3 enc_Metric x23.1.Order.Metrics true, rr 2 enc_Note x23.1.Order.Notes true]⟩) (fun t => s32 = .inr t) ⟨[.no, .no, .no, .bp 0 0, .bp 1 0, .bp 2 0, .no, .no, .no, .no, .no, .no, .no, .no, .no, .no, .no, .no, .no, .no, .no, .no, .no, .bp 3 0, qb x23.2, qi 0], [some [.row 0, qi x3.1.Next], some (uO x3.2 (.row 1) (.row 2) []), some [.row 3, qi x4.1.Next], some (uO x23.1.Order (.row 4) (.row 5) [qi x23.1.Ver])], [rr 11 enc_Item x3.1.Items false, rr 3 enc_Metric x3.2.Metrics false, rr 2 enc_Note x3.2.Notes false, rr 11 enc_Item x4.1.Items true, rr 3 enc_Metric x23.1.Order.Metrics true, rr 2 enc_Note x23.1.Order.Notes true]⟩ mO lE ?_ ?_
                ·
                 rintro t29 rfl
                 exact au0 H
                ·
                 intro V1 hV1 hW1 hX1
                 refine (laws_FnStore.l0.partial_correctness x3 x4 (fun v24 s' => s' = s32 → (V1 ⟨[.no, .no, .no, .bp 0 0, .bp 1 0, .bp 2 0, .no, .no, .no, .no, .no, .no, .no, .no, .no, .no, .no, .no, .no, .no, .no, .no, .no, .bp 3 0, qb x23.2, qi v24], [some [.row 0, qi x3.1.Next], some (uO x3.2 (.row 1) (.row 2) []), some [.row 3, qi x4.1.Next], some (uO x23.1.Order (.row 4) (.row 5) [qi x23.1.Ver])], [rr 11 enc_Item x3.1.Items false, rr 3 enc_Metric x3.2.Metrics false, rr 2 enc_Note x3.2.Notes false, rr 11 enc_Item x4.1.Items true, rr 3 enc_Metric x23.1.Order.Metrics true, rr 2 enc_Note x23.1.Order.Notes true]⟩)) ?_ _ _ hs32 rfl)
                 intro l0 IH1 v24 s' H1 e
                 subst e
                 refine hV1 _ ?_
                 have J1a := fun {v24 τ} h l => hW1 _ τ ((IH1 v24 _ h rfl)) l
                 refine s_ ?_
                 refine W_ite rfl H1 (fun hc H1 => ?_) (fun hc H1 => ?_)
                 ·
                  refine s_ ?_
                  refine W_late [26] (by kernel_rfl) (by kernel_rfl) rfl ?_; refine WO_c rfl ?_; simp only [SX.clr,List.foldl,putT,st,ev,gt,hp,ofV,constT,intT,lm]
                  exact au H1 (aL @J1a hX1 (aA H trivial))
                 ·
                  exact au H1 (aL @J1a hX1 (aA H trivial))
           ·
            refine s_ ?_
            refine W_ite rfl H (fun hc H => ?_) (fun hc H => ?_)
            ·
             exact au0 H
            ·
             refine s_ ?_
             obtain ⟨x34, hx34, H⟩ := bnd H
             refine b_ hx34 ?_
             refine s_ ?_
             obtain ⟨s43, hs43, H⟩ := bnd H
             refine loop_rule (ls := []) 0 (fun t40 : Unit => ⟨[.no, .no, .no, .bp 0 0, .bp 1 0, .bp 2 0, .no, .no, .no, .no, .no, .no, .no, .no, .no, .no, .no, .no, .no, .no, .no, .no, .no, .bp 3 0, qb x34.2], [some [.row 0, qi x3.1.Next], some (uO x3.2 (.row 1) (.row 2) []), some [.row 3, qi x4.1.Next], some (uO x34.1.Order (.row 4) (.row 5) [qi x34.1.Ver])], [rr 11 enc_Item x3.1.Items false, rr 3 enc_Metric x3.2.Metrics false, rr 2 enc_Note x3.2.Notes false, rr 11 enc_Item x4.1.Items true, rr 3 enc_Metric x34.1.Order.Metrics true, rr 2 enc_Note x34.1.Order.Notes true]⟩) (fun t => s43 = .inr t) ⟨[.no, .no, .no, .bp 0 0, .bp 1 0, .bp 2 0, .no, .no, .no, .no, .no, .no, .no, .no, .no, .no, .no, .no, .no, .no, .no, .no, .no, .bp 3 0, qb x34.2, qi 0], [some [.row 0, qi x3.1.Next], some (uO x3.2 (.row 1) (.row 2) []), some [.row 3, qi x4.1.Next], some (uO x34.1.Order (.row 4) (.row 5) [qi x34.1.Ver])], [rr 11 enc_Item x3.1.Items false, rr 3 enc_Metric x3.2.Metrics false, rr 2 enc_Note x3.2.Notes false, rr 11 enc_Item x4.1.Items true, rr 3 enc_Metric x34.1.Order.Metrics true, rr 2 enc_Note x34.1.Order.Notes true]⟩ mO lE ?_ ?_
             ·
              rintro t40 rfl
              exact au0 H
             ·
              intro V1 hV1 hW1 hX1
              refine (laws_FnStore.l1.partial_correctness x3 x4 (fun v35 s' => s' = s43 → (V1 ⟨[.no, .no, .no, .bp 0 0, .bp 1 0, .bp 2 0, .no, .no, .no, .no, .no, .no, .no, .no, .no, .no, .no, .no, .no, .no, .no, .no, .no, .bp 3 0, qb x34.2, qi v35], [some [.row 0, qi x3.1.Next], some (uO x3.2 (.row 1) (.row 2) []), some [.row 3, qi x4.1.Next], some (uO x34.1.Order (.row 4) (.row 5) [qi x34.1.Ver])], [rr 11 enc_Item x3.1.Items false, rr 3 enc_Metric x3.2.Metrics false, rr 2 enc_Note x3.2.Notes false, rr 11 enc_Item x4.1.Items true, rr 3 enc_Metric x34.1.Order.Metrics true, rr 2 enc_Note x34.1.Order.Notes true]⟩)) ?_ _ _ hs43 rfl)
              intro l0 IH1 v35 s' H1 e
              subst e
              refine hV1 _ ?_
              have J1a := fun {v35 τ} h l => hW1 _ τ ((IH1 v35 _ h rfl)) l
              refine s_ ?_
              refine W_ite rfl H1 (fun hc H1 => ?_) (fun hc H1 => ?_)
              ·
               refine s_ ?_
               refine W_late [26] (by kernel_rfl) (by kernel_rfl) rfl ?_; refine WO_c rfl ?_; simp only [SX.clr,List.foldl,putT,st,ev,gt,hp,ofV,constT,intT,lm]
               exact au H1 (aL @J1a hX1 (aA H trivial))
              ·
               exact au H1 (aL @J1a hX1 (aA H trivial))⟩
end Go.Pu
