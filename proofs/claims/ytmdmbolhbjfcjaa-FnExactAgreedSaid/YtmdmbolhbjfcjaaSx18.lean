import Derived.Test.YtmdmbolhbjfcjaaSx17
set_option linter.unusedVariables false
set_option linter.unusedSimpArgs false
set_option linter.unusedSectionVars false
namespace Go.SX
variable {P : Program} {K : Cfg} {F : Fun} {ρ ρ' : Operand → T} {σ σ' τ τ' τ2 : St} {V : List Lend}

/-! what acts, turns what it refers to -/
structure Same (V : List Lend) (σ σ' : St) : Prop where
  bl : σ.bx.length ≤ σ'.bx.length
  rl : σ.rw.length ≤ σ'.rw.length
  b : ∀ b, b < σ.bx.length → .b b ∉ V → boxAt σ' b = boxAt σ b
  r : ∀ i, i < σ.rw.length → .r i ∉ V → rc σ' i = rc σ i
theorem Same.refl (σ : St) : Same V σ σ := ⟨Nat.le_refl _, Nat.le_refl _, fun _ _ _ => rfl, fun _ _ _ => rfl⟩
theorem Same.trans (h : Same V σ σ') (k : Same V σ' τ) : Same V σ τ :=
  ⟨Nat.le_trans h.bl k.bl, Nat.le_trans h.rl k.rl, fun b hb hv => (k.b b (Nat.lt_of_lt_of_le hb h.bl) hv).trans (h.b b hb hv), fun b hb hv => (k.r b (Nat.lt_of_lt_of_le hb h.rl) hv).trans (h.r b hb hv)⟩
theorem Ext.same (h : Ext σ σ') : Same V σ σ' := ⟨h.bl, h.rl, fun b hb _ => h.b b hb, fun i hi _ => by simp only [rc, h.r i hi]⟩
theorem same_setBox {b : Nat} {l : Option (List T)} (h : .b b ∈ V) : Same V σ (setBox σ b l) := by
  refine ⟨by simp [setBox], Nat.le_refl _, fun b' _ hv => ?_, fun _ _ _ => rfl⟩
  rw [boxAt_set, if_neg]
  rintro ⟨rfl, _⟩; exact hv h
theorem same_setRow {i : Nat} {q : Option Row} (h : .r i ∈ V) : Same V σ (setRow σ i q) := by
  refine ⟨Nat.le_refl _, by simp [setRow], fun _ _ _ => rfl, fun i' _ hv => ?_⟩
  simp only [rc]
  rw [rowAt_set, if_neg]
  rintro ⟨rfl, _⟩; exact hv h
theorem rc_demote (x : T) (i : Nat) : rc (demote σ x) i = rc σ i := by
  have h : ∀ j q, rowAt σ j = some q → rc (setRow σ j (some { q with ow := false })) i = rc σ i := by
    intro j q hq
    simp only [rc]
    rw [rowAt_set]
    by_cases hij : j = i
    · subst hij; simp [rowAt_lt hq, hq]
    · simp [hij]
  unfold demote
  split
  · split
    · rename_i hq; exact h _ _ hq
    · rfl
  · split
    · rename_i hq; exact h _ _ hq
    · rfl
  · rfl
theorem len_demote (x : T) : (demote σ x).bx = σ.bx ∧ (demote σ x).rw.length = σ.rw.length := by
  unfold demote
  split
  · split <;> simp [setRow]
  · split <;> simp [setRow]
  · simp
theorem same_demote (x : T) : Same V σ (demote σ x) := by
  obtain ⟨h1, h2⟩ := len_demote (σ := σ) x
  exact ⟨by rw [h1]; exact Nat.le_refl _, by rw [h2]; exact Nat.le_refl _, fun b _ _ => by simp only [boxAt, h1], fun i _ _ => rc_demote x i⟩
theorem same_demotes (l : List T) : ∀ {σ : St}, Same V σ (demotes σ l) := by
  induction l with
  | nil => intro σ; exact .refl _
  | cons x l ih => intro σ; exact (same_demote x).trans ih
theorem same_give {x : T} {c} (h : give σ x = some (c, σ')) (hv : ∀ r ∈ refs x, r ∈ V) : Same V σ σ' ∧ σ'.bx = σ.bx := by
  cases x <;> simp only [give, Option.some.injEq, Prod.mk.injEq, Option.map_eq_some_iff, reduceCtorEq] at h
  case c => obtain ⟨_, rfl⟩ := h; exact ⟨.refl _, rfl⟩
  case nil => obtain ⟨_, rfl⟩ := h; exact ⟨.refl _, rfl⟩
  case row i =>
    obtain ⟨q, _, _, rfl⟩ := h
    split
    · exact ⟨same_setRow (hv _ (by simp [refs])), rfl⟩
    · exact ⟨.refl _, rfl⟩
  case sl i lo hi =>
    obtain ⟨q, _, _, rfl⟩ := h
    split
    · exact ⟨same_setRow (hv _ (by simp [refs])), rfl⟩
    · exact ⟨.refl _, rfl⟩
theorem same_gives : ∀ (l : List T) {σ σ' : St} {cs}, gives σ l = some (cs, σ') → (∀ r ∈ l.flatMap refs, r ∈ V) → Same V σ σ' ∧ σ'.bx = σ.bx
  | [], σ, σ', cs, h, _ => by simp [gives] at h; rw [h.2]; exact ⟨.refl _, rfl⟩
  | x :: l, σ, σ', cs, h, hv => by
    simp only [gives, Option.bind_eq_some_iff, Option.map_eq_some_iff, Prod.mk.injEq] at h
    obtain ⟨⟨c, σ1⟩, h1, ⟨cs', σ2⟩, h2, _, rfl⟩ := h
    obtain ⟨g1, g2⟩ := same_give h1 fun r hr => hv r (by simp [hr])
    obtain ⟨g3, g4⟩ := same_gives l h2 fun r hr => hv r (List.mem_flatMap.2 (by obtain ⟨a, b, c⟩ := List.mem_flatMap.1 hr; exact ⟨a, by simp [b], c⟩))
    exact ⟨g1.trans g3, g4.trans g2⟩
theorem same_lendAll : ∀ (ls : List Lend) {σ σ' : St} {cs}, lendAll σ ls = some (cs, σ') → (∀ b l, boxAt σ b = some l → boxAt τ b = some l) → (∀ x ∈ ls, ∀ r ∈ inBox τ x, r ∈ V) → Same V σ σ'
  | [], σ, σ', cs, h, _, _ => by simp [lendAll] at h; rw [h.2]; exact .refl _
  | .b b :: ls, σ, σ', cs, h, hb, hv => by
    simp only [lendAll, Option.bind_eq_some_iff, Option.map_eq_some_iff, Prod.mk.injEq] at h
    obtain ⟨l, hl, ⟨x, σ1⟩, h1, ⟨xs, σ2⟩, h2, _, rfl⟩ := h
    have hbv : .b b ∈ V := hv (.b b) (by simp) _ (by simp [inBox])
    obtain ⟨g1, g2⟩ := same_gives l h1 fun r hr => hv (.b b) (by simp) r (by simp only [inBox, hb b l hl, Option.getD_some]; exact List.mem_cons_of_mem _ hr)
    refine ((same_setBox hbv).trans g1).trans (same_lendAll ls h2 (fun b' l' hb' => ?_) fun y hy => hv y (by simp [hy]))
    have : boxAt (setBox σ b none) b' = some l' := by simp only [boxAt, ← g2]; exact hb'
    rw [boxAt_set] at this
    split at this
    · simp at this
    · exact hb b' l' this
  | .r i :: ls, σ, σ', cs, h, hb, hv => by
    simp only [lendAll, Option.bind_eq_some_iff] at h
    obtain ⟨q, hq, h⟩ := h
    split at h
    · simp only [Option.map_eq_some_iff, Prod.mk.injEq] at h
      obtain ⟨⟨xs, σ2⟩, h2, _, rfl⟩ := h
      exact (same_setRow (hv (.r i) (by simp) _ (by simp [inBox]))).trans (same_lendAll ls h2 hb fun y hy => hv y (by simp [hy]))
    · simp at h
theorem ext_tell (c : C × Option Nat) : Ext σ (tell σ c).2 := by
  obtain ⟨c, o⟩ := c
  cases c with
  | s v => exact .refl _
  | r x => cases o with
    | none => exact .refl _
    | some s => exact ext_newRow _
theorem ext_tells : ∀ (l : Cs) {σ : St}, Ext σ (tells σ l).2
  | [], _ => .refl _
  | c :: l, _ => (ext_tell c).trans (ext_tells l)
theorem ext_tellBs : ∀ (l : List Cs) {σ : St} {acc : List Nat}, Ext σ (tellBs σ l acc).2
  | [], _, _ => .refl _
  | c :: l, σ, acc => ((ext_tells c).trans (ext_newBox _)).trans (ext_tellBs l (acc := acc ++ [σ.bx.length]))
theorem ext_tellV (a : A) : Ext σ (tellV σ a).2 := by
  cases a with
  | c x o => exact ext_tell _
  | ag l => exact ext_tells l
  | p l => exact (ext_tells l).trans (ext_newBox _)
  | f g l => exact ext_tellBs l (acc := [])
  | tu l => exact .refl _
theorem ext_tellVs : ∀ (l : List A) {σ : St}, Ext σ (tellVs σ l).2
  | [], _ => .refl _
  | a :: l, _ => (ext_tellV a).trans (ext_tellVs l)
theorem ext_tellA (a : A) : Ext σ (tellA σ a).2 := by
  cases a with
  | tu l => exact ext_tellVs l
  | _ => exact ext_tellV _
theorem same_takeAll : ∀ (ls : List Lend) {σ σ' : St} {xs}, takeAll σ ls xs = some σ' → (∀ x ∈ ls, x ∈ V) → Same V σ σ' := by
  intro ls
  induction ls with
  | nil =>
    intro σ σ' xs h hv
    cases xs with
    | nil => simp [takeAll] at h; rw [h]; exact .refl _
    | cons x xs => simp [takeAll] at h
  | cons x ls ih =>
    intro σ σ' xs h hv
    cases xs with
    | nil => cases x <;> simp [takeAll] at h
    | cons c xs =>
      cases x with
      | b b =>
        cases c with
        | none => simp [takeAll] at h
        | some c =>
          simp only [takeAll] at h
          exact ((ext_tells c).same.trans (same_setBox (hv _ (by simp)))).trans (ih h fun y hy => hv y (by simp [hy]))
      | r i =>
        unfold takeAll at h
        split at h
        · simp_all
        · simp_all
        · rename_i h1 h2
          simp only [List.cons.injEq, Lend.r.injEq] at h1 h2
          obtain ⟨rfl, rfl⟩ := h1
          obtain ⟨_, rfl⟩ := h2
          exact (same_setRow (hv _ (by simp))).trans (ih h fun y hy => hv y (by simp [hy]))
        · rename_i h1 h2
          simp only [List.cons.injEq, Lend.r.injEq] at h1 h2
          obtain ⟨rfl, rfl⟩ := h1
          obtain ⟨_, rfl⟩ := h2
          exact ih h fun y hy => hv y (by simp [hy])
        · simp at h
theorem agLent_seenC : ∀ (l : List T) (x : Lend), x ∈ agLent (l.map (seenC σ)) → x ∈ agLent l
  | [], _, h => by simp [agLent] at h
  | y :: l, x, h => by
    cases y with
    | row i =>
      simp only [List.map_cons, seenC] at h
      simp only [agLent, List.mem_cons]
      split at h
      · split at h
        · simp only [agLent, List.mem_cons] at h; exact h.imp id (agLent_seenC l x)
        · exact .inr (agLent_seenC l x h)
      · simp only [agLent, List.mem_cons] at h; exact h.imp id (agLent_seenC l x)
    | _ => exact agLent_seenC l x h
theorem lent_refs (md : Bool) : ∀ (l : List T) (x : Lend), x ∈ lentOf md l → ∃ y ∈ l, x ∈ argRefs y
  | [], x, h => by simp [lentOf] at h
  | y :: l, x, h => by
    have rest : x ∈ lentOf md l → ∃ z ∈ y :: l, x ∈ argRefs z := fun h => let ⟨z, h1, h2⟩ := lent_refs md l x h; ⟨z, by simp [h1], h2⟩
    cases y with
    | bp b o =>
      simp only [lentOf, List.mem_cons] at h
      rcases h with rfl | h
      · exact ⟨.bp b o, by simp, by simp [argRefs, refs]⟩
      · exact rest h
    | fn g bs =>
      simp only [lentOf, List.mem_append] at h
      rcases h with h | h
      · exact ⟨.fn g bs, by simp, by simpa [argRefs] using h⟩
      · exact rest h
    | row i =>
      simp only [lentOf] at h
      split at h
      · simp only [List.mem_cons] at h
        rcases h with rfl | h
        · exact ⟨.row i, by simp, by simp [argRefs, refs]⟩
        · exact rest h
      · exact rest h
    | ag z =>
      simp only [lentOf] at h
      split at h
      · rcases List.mem_append.1 h with h | h
        · exact ⟨.ag z, by simp, h⟩
        · exact rest h
      · exact rest h
    | _ => exact rest h
theorem argRefs_seen1 {md : Bool} {y : T} {x : Lend} (h : x ∈ argRefs (seen1 md σ y)) : x ∈ argRefs y := by
  cases y <;> try exact h
  case ag l =>
    cases md with
    | false => exact h
    | true =>
      simp only [seen1, if_true, argRefs] at h ⊢
      exact agLent_seenC l x h
  simp only [seen1] at h
  split at h
  · split at h
    · simp [argRefs, refs] at h
    · exact h
  · exact h
theorem same_apply {x : T} {args : List T} {y : T} (h : apply K F σ x args = some (y, σ')) (hv : ∀ r, r ∈ (((x :: args).flatMap argRefs).flatMap (inBox σ)) → r ∈ V) : Same V σ σ' := by
  cases x <;> simp only [apply, reduceCtorEq] at h
  rename_i g bs0
  split at h
  · simp only [Option.bind_eq_some_iff] at h
    obtain ⟨⟨cs, σ1⟩, hlend, xs, hargs, ⟨r, back⟩, hcall, h⟩ := h
    split at h
    · simp only [Option.map_eq_some_iff, Prod.mk.injEq] at h
      obtain ⟨σ3, htake, _, rfl⟩ := h
      have hin : ∀ z ∈ lentOf (K.md g) (args.map (seen1 (K.md g) σ) ++ bs0.map (.bp · 0)), ∀ r ∈ inBox σ z, r ∈ V := by
        intro z hz r hr
        obtain ⟨y, hy, hzy⟩ := lent_refs _ _ _ hz
        refine hv r (List.mem_flatMap.2 ⟨z, ?_, hr⟩)
        rcases List.mem_append.1 hy with hy | hy
        · obtain ⟨y0, hy0, rfl⟩ := List.mem_map.1 hy
          exact List.mem_flatMap.2 ⟨y0, by simp [hy0], argRefs_seen1 hzy⟩
        · obtain ⟨b, hb, rfl⟩ := List.mem_map.1 hy
          refine List.mem_flatMap.2 ⟨.fn g bs0, by simp, ?_⟩
          have : z = .b b := by simpa [argRefs, refs] using hzy
          subst this
          simpa [argRefs] using hb
      have h1 := same_lendAll (V := V) _ hlend (fun _ _ h => h) hin
      have h2 : Same V σ1 (if K.nest g then demotes σ1 (seenRows (args.map (seen1 (K.md g) σ) ++ bs0.map (.bp · 0))) else σ1) := by
        split
        · exact same_demotes _
        · exact .refl _
      refine ((h1.trans h2).trans (ext_tellA r).same).trans (same_takeAll _ htake fun z hz => hin z hz z ?_)
      cases z <;> simp [inBox]
    · simp at h
  · simp at h
theorem evOp_frame {o : Oper} {y : T} (hs : still o.op = false) (h : evOp P K F ρ σ o = some (y, σ')) : Same (wrOf ρ σ o) σ σ' := by
  obtain ⟨dst, op, type, pos, after, guard⟩ := o
  have wr : ∀ x ∈ op.operands, ∀ r ∈ refs (ρ x), (∀ c, op ≠ .call c) → r ∈ wrOf ρ σ ⟨dst, op, type, pos, after, guard⟩ := by
    intro x hx r hr hc
    have : wrOf ρ σ ⟨dst, op, type, pos, after, guard⟩ = op.operands.toList.flatMap fun x => refs (ρ x) := by
      cases op <;> first | rfl | exact absurd rfl (hc _)
    rw [this]
    exact List.mem_flatMap.2 ⟨x, by simpa using hx, hr⟩
  cases op <;> simp only [still, reduceCtorEq] at hs <;> simp only [evOp, reduceCtorEq] at h
  case alloc t =>
    simp only [opAlloc, Option.bind_eq_some_iff, Option.map_eq_some_iff] at h
    obtain ⟨_, _, _, _, l, _, h⟩ := h
    rw [show σ' = (newBox σ l).2 by rw [h]]
    exact (ext_newBox l).same
  case box t x =>
    simp only [opBox, Option.bind_eq_some_iff] at h
    obtain ⟨l, _, h⟩ := h
    split at h
    · simp only [Option.some.injEq] at h
      rw [show σ' = (newBox σ l).2 by rw [h]]
      exact (ext_newBox l).same
    · simp at h
  case buildSlice t n ps =>
    simp only [opBuildSlice, Option.bind_eq_some_iff] at h
    obtain ⟨_, _, _, _, _, _, _, _, h⟩ := h
    split at h
    · simp only [Option.bind_eq_some_iff, Option.map_eq_some_iff] at h
      obtain ⟨l, _, cs, _, h⟩ := h
      have e := congrArg Prod.snd h
      simp only at e
      rw [← e]
      exact (same_demotes l).trans (ext_newRow _).same
    · simp at h
  case makeSlice t l c =>
    simp only [opMake, Option.bind_eq_some_iff] at h
    obtain ⟨_, _, _, _, _, _, z, _, cs, _, h⟩ := h
    split at h
    · split at h
      · simp only [Option.some.injEq] at h
        have e := congrArg Prod.snd h
        simp only at e
        rw [← e]
        exact (same_demotes z).trans (ext_newRow _).same
      · simp at h
    · simp at h
  case store t a x =>
    simp only [opStore, Option.bind_eq_some_iff] at h
    obtain ⟨l, _, h⟩ := h
    split at h
    · split at h
      · rename_i b off ha
        simp only [Option.bind_eq_some_iff, Option.map_eq_some_iff, Prod.mk.injEq] at h
        obtain ⟨_, _, _, _, _, rfl⟩ := h
        exact same_setBox (wr a (by simp [Op.operands]) _ (by rw [ha]; simp [refs]) (by simp))
      · rename_i i n off ha
        simp only [Option.bind_eq_some_iff] at h
        obtain ⟨_, _, _, _, h⟩ := h
        split at h
        · simp only [Option.bind_eq_some_iff, Option.map_eq_some_iff, Prod.mk.injEq] at h
          obtain ⟨_, _, _, _, _, rfl⟩ := h
          exact (same_demotes l).trans (same_setRow (wr a (by simp [Op.operands]) _ (by rw [ha]; simp [refs]) (by simp)))
        · simp at h
      · simp at h
    · simp at h
  case call c =>
    obtain ⟨callee, args, ats⟩ := c
    cases callee with
    | value f =>
      refine same_apply h fun r hr => ?_
      simp only [wrOf, Op.operands, Call.operands]
      obtain ⟨z, hz, hr⟩ := List.mem_flatMap.1 hr
      refine List.mem_flatMap.2 ⟨z, ?_, hr⟩
      obtain ⟨y0, hy0, hz⟩ := List.mem_flatMap.1 hz
      simp only [List.mem_cons, List.mem_map] at hy0
      rcases hy0 with rfl | ⟨x, hx, rfl⟩
      · exact List.mem_flatMap.2 ⟨f, by simp, hz⟩
      · exact List.mem_flatMap.2 ⟨x, by simp at hx ⊢; exact .inr hx, hz⟩
    | invoke r m => simp at h
    | builtin b =>
      cases b <;> simp only [Bool.true_eq_false, reduceCtorEq] at hs <;> simp only [isBuiltin2, Bool.false_eq_true, if_false, reduceCtorEq] at h
      split at h
      · rename_i s x t u h1 h2
        split at h
        · simp only [opAppend, Option.bind_eq_some_iff] at h
          obtain ⟨_, _, _, _, _, _, _, _, _, _, h⟩ := h
          have hsm : s ∈ args := by rw [← Array.mem_toList_iff, h1]; simp
          have key : ∀ j, .r j ∈ refs (ρ s) → .r j ∈ wrOf ρ σ ⟨dst, .call ⟨.builtin .append, args, ats⟩, type, pos, after, guard⟩ := by
            intro j hj
            simp only [wrOf, Op.operands, Call.operands]
            refine List.mem_flatMap.2 ⟨.r j, List.mem_flatMap.2 ⟨s, by simpa using hsm, ?_⟩, by simp [inBox]⟩
            generalize ρ s = y at hj
            cases y <;> simp_all [argRefs, refs]
          split at h
          · split at h
            · simp only [Option.some.injEq] at h
              have e := congrArg Prod.snd h
              simp only at e
              rw [← e]
              exact (ext_newRow _).same
            · rename_i j hj
              simp only [Option.bind_eq_some_iff] at h
              obtain ⟨_, _, h⟩ := h
              split at h
              · simp only [Option.some.injEq] at h
                have e := congrArg Prod.snd h
                simp only at e
                rw [← e]
                exact (same_setRow (key j (by rw [hj]; simp [refs]))).trans (ext_newRow _).same
              · simp at h
            · rename_i j lo hi hj
              simp only [Option.bind_eq_some_iff] at h
              obtain ⟨_, _, h⟩ := h
              split at h
              · simp only [Option.some.injEq] at h
                have e := congrArg Prod.snd h
                simp only at e
                rw [← e]
                exact (same_setRow (key j (by rw [hj]; simp [refs]))).trans (ext_newRow _).same
              · simp at h
            · simp at h
          · simp at h
        · simp at h
      · simp at h
end Go.SX
