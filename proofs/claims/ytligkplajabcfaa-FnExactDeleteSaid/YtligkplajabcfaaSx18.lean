import Derived.Test.YtligkplajabcfaaSx17
set_option linter.unusedVariables false
set_option linter.unusedSimpArgs false
set_option linter.unusedSectionVars false
namespace Go.SX
variable {P : Program} {K : Cfg} {F : Fun} {ρ ρ' : Operand → T} {σ σ' τ τ' τ2 : St} {V : List Lend}

/-! what acts, turns what it refers to -/
structure Same (V : List Lend) (σ σ' : St) : Prop where
  bl : σ.bx.length ≤ σ'.bx.length
  rl : σ.rw.length ≤ σ'.rw.length
  b : ∀ b, b < σ.bx.length → .b b ∉ V → boxAt σ' b = boxAt σ b
  r : ∀ i, i < σ.rw.length → .r i ∉ V → rc σ' i = rc σ i
theorem Same.refl (σ : St) : Same V σ σ := ⟨Nat.le_refl _, Nat.le_refl _, fun _ _ _ => rfl, fun _ _ _ => rfl⟩
theorem Same.trans (h : Same V σ σ') (k : Same V σ' τ) : Same V σ τ :=
  ⟨Nat.le_trans h.bl k.bl, Nat.le_trans h.rl k.rl, fun b hb hv => (k.b b (Nat.lt_of_lt_of_le hb h.bl) hv).trans (h.b b hb hv), fun b hb hv => (k.r b (Nat.lt_of_lt_of_le hb h.rl) hv).trans (h.r b hb hv)⟩
theorem Ext.same (h : Ext σ σ') : Same V σ σ' := ⟨h.bl, h.rl, fun b hb _ => h.b b hb, fun i hi _ => by simp only [rc, h.r i hi]⟩
theorem same_setBox {b : Nat} {l : Option (List T)} (h : .b b ∈ V) : Same V σ (setBox σ b l) := by
  refine ⟨by simp [setBox], Nat.le_refl _, fun b' _ hv => ?_, fun _ _ _ => rfl⟩
  rw [boxAt_set, if_neg]
  rintro ⟨rfl, _⟩; exact hv h
theorem same_setRow {i : Nat} {q : Option Row} (h : .r i ∈ V) : Same V σ (setRow σ i q) := by
  refine ⟨Nat.le_refl _, by simp [setRow], fun _ _ _ => rfl, fun i' _ hv => ?_⟩
  simp only [rc]
  rw [rowAt_setH, if_neg]
  rintro ⟨rfl, _⟩; exact hv h
theorem same_demote (x : T) (hv : ∀ r ∈ rowRefs x, r ∈ V) : Same V σ (demote σ x) := by
  unfold demote
  split
  · split
    · exact same_setRow (hv _ (by simp [rowRefs]))
    · exact .refl _
  · split
    · exact same_setRow (hv _ (by simp [rowRefs]))
    · exact .refl _
  · exact .refl _
theorem same_demotes (l : List T) : ∀ {σ : St}, (∀ r ∈ agR l, r ∈ V) → Same V σ (demotes σ l) := by
  induction l with
  | nil => intro σ _; exact .refl _
  | cons x l ih => intro σ h; exact (same_demote x fun r hr => h r (by simp only [agR, List.flatMap_cons, List.mem_append]; exact .inl hr)).trans (ih fun r hr => h r (by simp only [agR, List.flatMap_cons, List.mem_append]; exact .inr hr))
theorem same_thaw (x : T) (hv : ∀ r ∈ rowRefs x, r ∈ V) : Same V σ (thaw σ x) := by
  unfold thaw
  split
  · split
    · exact same_setRow (hv _ (by simp [rowRefs]))
    · exact .refl _
  · split
    · exact same_setRow (hv _ (by simp [rowRefs]))
    · exact .refl _
  · exact .refl _
theorem same_dig {x : T} {p} (h : dig σ x = some p) (hv : ∀ r ∈ rowRefs x, r ∈ V) : Same V σ p.2 := by
  unfold dig at h
  split at h
  · simp only [Option.some.injEq] at h; rw [← h]; exact .refl _
  · simp only [Option.some.injEq] at h; rw [← h]; exact .refl _
  · simp only [Option.bind_eq_some_iff] at h
    obtain ⟨q, hq, h⟩ := h
    split at h
    · simp only [Option.some.injEq] at h; rw [← h]; exact same_setRow (hv _ (by simp [rowRefs]))
    · simp at h
  · simp at h
theorem same_digs (l : List T) : ∀ {σ : St} {p}, digs σ l = some p → (∀ r ∈ agR l, r ∈ V) → Same V σ p.2 := by
  induction l with
  | nil => intro σ p h _; simp only [digs, Option.some.injEq] at h; rw [← h]; exact .refl _
  | cons x l ih =>
    intro σ p h hv
    simp only [digs, Option.bind_eq_some_iff, Option.map_eq_some_iff] at h
    obtain ⟨p1, h1, p2, h2, rfl⟩ := h
    exact (same_dig h1 fun r hr => hv r (by simp only [agR, List.flatMap_cons, List.mem_append]; exact .inl hr)).trans (ih (p := p2) h2 fun r hr => hv r (by simp only [agR, List.flatMap_cons, List.mem_append]; exact .inr hr))
theorem const_rows {z : Value} {l : List T} (h : flat (constT z) = some l) : agR l = [] := by
  have key : ∀ v, rowRefs (ofV v) = [] := by intro v; unfold ofV; split <;> rfl
  have one : ∀ v l, flat (ofV v) = some l → agR l = [] := by
    intro v l h
    unfold ofV at h
    split at h <;> simp [flat] at h <;> subst h <;> rfl
  unfold constT at h
  split at h
  · split at h
    · simp only [flat, Option.some.injEq] at h
      subst h
      simp only [agR, List.flatMap_eq_nil_iff, List.mem_map]
      rintro x ⟨v, _, rfl⟩; exact key v
    · simp [flat] at h
  · exact one _ _ h
theorem flat_rows {x : T} {l : List T} (h : flat x = some l) : ∀ r ∈ agR l, r ∈ refsW x := by
  cases x <;> simp [flat] at h <;> subst h <;> simp [agR, refsW, rowRefs, refs]
theorem splice_rows {cs n l : List T} {o : Nat} (h : splice cs o n = some l) : ∀ r ∈ agR l, r ∈ agR cs ∨ r ∈ agR n := by
  unfold splice at h
  split at h
  · simp only [Option.some.injEq] at h
    subst h
    intro r hr
    simp only [agR, List.flatMap_append, List.mem_append, List.mem_flatMap] at hr ⊢
    rcases hr with (⟨x, h1, h2⟩ | ⟨x, h1, h2⟩) | ⟨x, h1, h2⟩
    · exact .inl ⟨x, List.mem_of_mem_take h1, h2⟩
    · exact .inr ⟨x, h1, h2⟩
    · exact .inl ⟨x, List.mem_of_mem_drop h1, h2⟩
  · simp at h
theorem fill_rows {place : Nat → Option (Nat × Nat)} : ∀ (ps : List (Nat × T)) {cs l : List T}, fillT place cs ps = some l → ∀ r ∈ agR l, r ∈ agR cs ∨ ∃ p ∈ ps, r ∈ refsW p.2
  | [], cs, l, h => by simp only [fillT, Option.some.injEq] at h; subst h; exact fun r hr => .inl hr
  | (i, x) :: ps, cs, l, h => by
    simp only [fillT, Option.bind_eq_some_iff] at h
    obtain ⟨⟨off, size⟩, hpl, xs, hxs, h⟩ := h
    split at h
    · simp only [Option.bind_eq_some_iff] at h
      obtain ⟨cs', hcs, h⟩ := h
      intro r hr
      rcases fill_rows ps h r hr with h1 | ⟨p, h1, h2⟩
      · rcases splice_rows hcs r h1 with h3 | h3
        · exact .inl h3
        · exact .inr ⟨(i, x), by simp, flat_rows hxs r h3⟩
      · exact .inr ⟨p, by simp [h1], h2⟩
    · simp at h
theorem same_give {x : T} {c} (h : give σ x = some (c, σ')) (hv : ∀ r ∈ refs x, r ∈ V) : Same V σ σ' ∧ σ'.bx = σ.bx := by
  cases x <;> simp only [give, Option.some.injEq, Prod.mk.injEq, Option.map_eq_some_iff, reduceCtorEq] at h
  case c => obtain ⟨_, rfl⟩ := h; exact ⟨.refl _, rfl⟩
  case nil => obtain ⟨_, rfl⟩ := h; exact ⟨.refl _, rfl⟩
  case row i =>
    obtain ⟨q, _, _, rfl⟩ := h
    split
    · exact ⟨same_setRow (hv _ (by simp [refs])), rfl⟩
    · exact ⟨.refl _, rfl⟩
  case sl i lo hi =>
    split at h
    · simp at h
    simp only [Option.map_eq_some_iff, Prod.mk.injEq] at h
    obtain ⟨q, _, _, rfl⟩ := h
    split
    · exact ⟨same_setRow (hv _ (by simp [refs])), rfl⟩
    · exact ⟨.refl _, rfl⟩
theorem same_gives : ∀ (l : List T) {σ σ' : St} {cs}, gives σ l = some (cs, σ') → (∀ r ∈ l.flatMap refs, r ∈ V) → Same V σ σ' ∧ σ'.bx = σ.bx
  | [], σ, σ', cs, h, _ => by simp [gives] at h; rw [h.2]; exact ⟨.refl _, rfl⟩
  | x :: l, σ, σ', cs, h, hv => by
    simp only [gives, Option.bind_eq_some_iff, Option.map_eq_some_iff, Prod.mk.injEq] at h
    obtain ⟨⟨c, σ1⟩, h1, ⟨cs', σ2⟩, h2, _, rfl⟩ := h
    obtain ⟨g1, g2⟩ := same_give h1 fun r hr => hv r (by simp [hr])
    obtain ⟨g3, g4⟩ := same_gives l h2 fun r hr => hv r (List.mem_flatMap.2 (by obtain ⟨a, b, c⟩ := List.mem_flatMap.1 hr; exact ⟨a, by simp [b], c⟩))
    exact ⟨g1.trans g3, g4.trans g2⟩
theorem same_lendAll : ∀ (ls : List Lend) {σ σ' : St} {cs}, lendAll σ ls = some (cs, σ') → (∀ b l, boxAt σ b = some l → boxAt τ b = some l) → (∀ x ∈ ls, ∀ r ∈ inBox τ x, r ∈ V) → Same V σ σ'
  | [], σ, σ', cs, h, _, _ => by simp [lendAll] at h; rw [h.2]; exact .refl _
  | .b b :: ls, σ, σ', cs, h, hb, hv => by
    simp only [lendAll, Option.bind_eq_some_iff, Option.map_eq_some_iff, Prod.mk.injEq] at h
    obtain ⟨l, hl, ⟨x, σ1⟩, h1, ⟨xs, σ2⟩, h2, _, rfl⟩ := h
    have hbv : .b b ∈ V := hv (.b b) (by simp) _ (by simp [inBox])
    obtain ⟨g1, g2⟩ := same_gives l h1 fun r hr => hv (.b b) (by simp) r (by simp only [inBox, hb b l hl, Option.getD_some]; exact List.mem_cons_of_mem _ hr)
    refine ((same_setBox hbv).trans g1).trans (same_lendAll ls h2 (fun b' l' hb' => ?_) fun y hy => hv y (by simp [hy]))
    have : boxAt (setBox σ b none) b' = some l' := by simp only [boxAt, ← g2]; exact hb'
    rw [boxAt_set] at this
    split at this
    · simp at this
    · exact hb b' l' this
  | .r i :: ls, σ, σ', cs, h, hb, hv => by
    simp only [lendAll, Option.bind_eq_some_iff] at h
    obtain ⟨q, hq, h⟩ := h
    split at h
    · simp only [Option.map_eq_some_iff, Prod.mk.injEq] at h
      obtain ⟨⟨xs, σ2⟩, h2, _, rfl⟩ := h
      exact (same_setRow (hv (.r i) (by simp) _ (by simp [inBox]))).trans (same_lendAll ls h2 hb fun y hy => hv y (by simp [hy]))
    · simp at h
theorem ext_tell (c : C × Option Sz) : Ext σ (tell σ c).2 := by
  obtain ⟨c, o⟩ := c
  cases c with
  | s v => exact .refl _
  | r x => cases o with
    | none => exact .refl _
    | some s => exact ext_newRow _
theorem ext_tells : ∀ (l : Cs) {σ : St}, Ext σ (tells σ l).2
  | [], _ => .refl _
  | c :: l, _ => (ext_tell c).trans (ext_tells l)
theorem ext_tellBs : ∀ (l : List Cs) {σ : St} {acc : List Nat}, Ext σ (tellBs σ l acc).2
  | [], _, _ => .refl _
  | c :: l, σ, acc => ((ext_tells c).trans (ext_newBox _)).trans (ext_tellBs l (acc := acc ++ [σ.bx.length]))
theorem ext_tellV (a : A) : Ext σ (tellV σ a).2 := by
  cases a with
  | c x o => exact ext_tell _
  | ag l => exact ext_tells l
  | p l => exact (ext_tells l).trans (ext_newBox _)
  | f g l => exact ext_tellBs l (acc := [])
  | tu l => exact .refl _
theorem ext_tellVs : ∀ (l : List A) {σ : St}, Ext σ (tellVs σ l).2
  | [], _ => .refl _
  | a :: l, _ => (ext_tellV a).trans (ext_tellVs l)
theorem ext_tellA (a : A) : Ext σ (tellA σ a).2 := by
  cases a with
  | tu l => exact ext_tellVs l
  | _ => exact ext_tellV _
theorem same_takeAll : ∀ (ls : List Lend) {σ σ' : St} {xs}, takeAll σ ls xs = some σ' → (∀ x ∈ ls, x ∈ V) → Same V σ σ' := by
  intro ls
  induction ls with
  | nil =>
    intro σ σ' xs h hv
    cases xs with
    | nil => simp [takeAll] at h; rw [h]; exact .refl _
    | cons x xs => simp [takeAll] at h
  | cons x ls ih =>
    intro σ σ' xs h hv
    cases xs with
    | nil => cases x <;> simp [takeAll] at h
    | cons c xs =>
      cases x with
      | b b =>
        cases c with
        | none => simp [takeAll] at h
        | some c =>
          simp only [takeAll] at h
          exact ((ext_tells c).same.trans (same_setBox (hv _ (by simp)))).trans (ih h fun y hy => hv y (by simp [hy]))
      | r i =>
        unfold takeAll at h
        split at h
        · simp_all
        · simp_all
        · rename_i h1 h2
          simp only [List.cons.injEq, Lend.r.injEq] at h1 h2
          obtain ⟨rfl, rfl⟩ := h1
          obtain ⟨_, rfl⟩ := h2
          exact (same_setRow (hv _ (by simp))).trans (ih h fun y hy => hv y (by simp [hy]))
        · rename_i h1 h2
          simp only [List.cons.injEq, Lend.r.injEq] at h1 h2
          obtain ⟨rfl, rfl⟩ := h1
          obtain ⟨_, rfl⟩ := h2
          exact ih h fun y hy => hv y (by simp [hy])
        · simp at h
theorem agLent_R : ∀ (l : List T) (x : Lend), x ∈ agLent l → x ∈ agR l
  | [], _, h => by simp [agLent] at h
  | y :: l, x, h => by
    simp only [agR, List.flatMap_cons, List.mem_append]
    cases y with
    | row i =>
      simp only [agLent, List.mem_cons] at h
      rcases h with rfl | h
      · exact .inl (by simp [rowRefs])
      · exact .inr (agLent_R l x h)
    | _ => exact .inr (agLent_R l x h)
theorem agR_seenC : ∀ (l : List T) (x : Lend), x ∈ agR (l.map (seenC σ)) → x ∈ agR l
  | [], _, h => by simp [agR] at h
  | y :: l, x, h => by
    simp only [agR, List.map_cons, List.flatMap_cons, List.mem_append] at h ⊢
    rcases h with h | h
    · refine .inl ?_
      cases y <;> try exact h
      simp only [seenC] at h
      split at h
      · split at h
        · exact h
        · simp [rowRefs] at h
      · exact h
    · exact .inr (agR_seenC l x h)
theorem lent_refs (md : Bool) : ∀ (l : List T) (x : Lend), x ∈ lentOf md l → ∃ y ∈ l, x ∈ argRefs y
  | [], x, h => by simp [lentOf] at h
  | y :: l, x, h => by
    have rest : x ∈ lentOf md l → ∃ z ∈ y :: l, x ∈ argRefs z := fun h => let ⟨z, h1, h2⟩ := lent_refs md l x h; ⟨z, by simp [h1], h2⟩
    cases y with
    | bp b o =>
      simp only [lentOf, List.mem_cons] at h
      rcases h with rfl | h
      · exact ⟨.bp b o, by simp, by simp [argRefs, refs]⟩
      · exact rest h
    | fn g bs =>
      simp only [lentOf, List.mem_append] at h
      rcases h with h | h
      · exact ⟨.fn g bs, by simp, by simpa [argRefs] using h⟩
      · exact rest h
    | row i =>
      simp only [lentOf] at h
      split at h
      · simp only [List.mem_cons] at h
        rcases h with rfl | h
        · exact ⟨.row i, by simp, by simp [argRefs, refs]⟩
        · exact rest h
      · exact rest h
    | ag z =>
      simp only [lentOf] at h
      split at h
      · rcases List.mem_append.1 h with h | h
        · exact ⟨.ag z, by simp, agLent_R z x h⟩
        · exact rest h
      · exact rest h
    | _ => exact rest h
theorem argRefs_seen1 {md : Bool} {y : T} {x : Lend} (h : x ∈ argRefs (seen1 md σ y)) : x ∈ argRefs y := by
  cases y <;> try exact h
  case ag l =>
    cases md with
    | false => exact h
    | true =>
      simp only [seen1, if_true, argRefs] at h ⊢
      exact agR_seenC l x h
  simp only [seen1] at h
  split at h
  · split at h
    · simp [argRefs, refs] at h
    · exact h
  · exact h
theorem same_apply {x : T} {args : List T} {y : T} (h : apply K F σ x args = some (y, σ')) (hv : ∀ r, r ∈ (((x :: args).flatMap argRefs).flatMap (inBox σ)) → r ∈ V) : Same V σ σ' := by
  cases x <;> simp only [apply, reduceCtorEq] at h
  rename_i g bs0
  split at h
  · simp only [Option.bind_eq_some_iff] at h
    obtain ⟨⟨cs, σ1⟩, hlend, xs, hargs, ⟨r, back⟩, hcall, h⟩ := h
    split at h
    · simp only [Option.map_eq_some_iff, Prod.mk.injEq] at h
      obtain ⟨σ3, htake, _, rfl⟩ := h
      have hin : ∀ z ∈ lentOf (K.md g) (args.map (seen1 (K.md g) σ) ++ bs0.map (.bp · 0)), ∀ r ∈ inBox σ z, r ∈ V := by
        intro z hz r hr
        obtain ⟨y, hy, hzy⟩ := lent_refs _ _ _ hz
        refine hv r (List.mem_flatMap.2 ⟨z, ?_, hr⟩)
        rcases List.mem_append.1 hy with hy | hy
        · obtain ⟨y0, hy0, rfl⟩ := List.mem_map.1 hy
          exact List.mem_flatMap.2 ⟨y0, by simp [hy0], argRefs_seen1 hzy⟩
        · obtain ⟨b, hb, rfl⟩ := List.mem_map.1 hy
          refine List.mem_flatMap.2 ⟨.fn g bs0, by simp, ?_⟩
          have : z = .b b := by simpa [argRefs, refs] using hzy
          subst this
          simpa [argRefs] using hb
      have h1 := same_lendAll (V := V) _ hlend (fun _ _ h => h) hin
      have h2 : Same V σ1 (if K.nest g then demotes σ1 (seenRows (args.map (seen1 (K.md g) σ) ++ bs0.map (.bp · 0))) else σ1) := by
        split
        · refine same_demotes _ fun r hr => ?_
          have hmem : ∃ y ∈ args.map (seen1 (K.md g) σ) ++ bs0.map (.bp · 0), r ∈ argRefs y ∧ ∃ i, r = .r i := by
            generalize args.map (seen1 (K.md g) σ) ++ bs0.map (.bp · 0) = as at hr
            have rr : ∀ {y : T}, r ∈ rowRefs y → ∃ i, r = .r i := by
              intro y h; cases y <;> simp [rowRefs] at h <;> exact ⟨_, h⟩
            have rr2 : ∀ {y : T}, r ∈ rowRefs y → r ∈ refs y := by
              intro y h; cases y <;> simp [rowRefs] at h <;> simp [refs, h]
            induction as with
            | nil => simp [seenRows, agR] at hr
            | cons y as ih =>
              cases y with
              | ag z =>
                simp only [seenRows, agR, List.flatMap_append, List.mem_append] at hr
                rcases hr with hr | hr
                · obtain ⟨y, h3, h4⟩ := List.mem_flatMap.1 hr
                  exact ⟨.ag z, by simp, hr, rr h4⟩
                · obtain ⟨y, h3, h4⟩ := ih hr; exact ⟨y, by simp [h3], h4⟩
              | _ =>
                simp only [seenRows, agR, List.flatMap_cons, List.mem_append] at hr
                rcases hr with hr | hr
                · exact ⟨_, List.mem_cons_self, (by first | exact rr2 hr | (simp [rowRefs] at hr)), rr hr⟩
                · obtain ⟨y, h3, h4⟩ := ih hr; exact ⟨y, by simp [h3], h4⟩
          obtain ⟨y, hy, hzy, i, rfl⟩ := hmem
          refine hv _ (List.mem_flatMap.2 ⟨.r i, ?_, by simp [inBox]⟩)
          rcases List.mem_append.1 hy with hy | hy
          · obtain ⟨y0, hy0, rfl⟩ := List.mem_map.1 hy
            exact List.mem_flatMap.2 ⟨y0, by simp [hy0], argRefs_seen1 hzy⟩
          · obtain ⟨b, hb, rfl⟩ := List.mem_map.1 hy
            simp [argRefs, refs] at hzy
        · exact .refl _
      refine ((h1.trans h2).trans (ext_tellA r).same).trans (same_takeAll _ htake fun z hz => hin z hz z ?_)
      cases z <;> simp [inBox]
    · simp at h
  · simp at h
theorem same_append0 {t : TypeId} {s x : T} {p : T × St} (h : opAppend0 P σ t s x = some p) (hs : ∀ r ∈ rowRefs s, r ∈ V) : Same V σ p.2 := by
  simp only [opAppend0, Option.bind_eq_some_iff] at h
  obtain ⟨_, _, _, _, _, _, _, _, _, _, h⟩ := h
  split at h
  · split at h
    · simp only [Option.some.injEq] at h
      rw [← h]
      exact (ext_newRow _).same
    · simp only [Option.bind_eq_some_iff] at h
      obtain ⟨_, _, h⟩ := h
      split at h
      · simp only [Option.some.injEq] at h
        rw [← h]
        exact (same_setRow (hs _ (by simp [rowRefs]))).trans (ext_newRow _).same
      · simp at h
    · simp only [Option.bind_eq_some_iff] at h
      obtain ⟨_, _, h⟩ := h
      split at h
      · simp only [Option.some.injEq] at h
        rw [← h]
        exact (same_setRow (hs _ (by simp [rowRefs]))).trans (ext_newRow _).same
      · simp at h
    · simp at h
  · simp at h
theorem deep_meltS {s x : T} (h : deepT (meltS σ s) x = true) : deepT σ x = true := by
  have key : ∀ {i : Nat} {r : Row}, rowAt σ i = some r → deepT (setRow σ i (some { r with dp := .f })) x = true → deepT σ x = true := by
    intro i r hr h
    cases x <;> simp only [deepT, Bool.false_eq_true] at h ⊢
    all_goals
      rw [rowAt_set rfl] at h
      split at h
      · rename_i r' heq
        split at heq
        · simp only [Option.some.injEq] at heq; subst heq; simp [Dp.q] at h
        · rw [heq]; exact h
      · simp at h
  unfold meltS at h
  split at h
  · cases s <;> simp only [thaw] at h <;> try exact h
    all_goals
      split at h
      · rename_i r hr; exact key hr h
      · exact h
  · exact h
theorem same_append {t : TypeId} {s x : T} {p : T × St} (h : opAppend P σ t s x = some p) (hs : ∀ r ∈ rowRefs s, r ∈ V) (hx : deepT σ x = true → ∀ r ∈ rowRefs x, r ∈ V) : Same V σ p.2 := by
  unfold opAppend at h
  split at h
  · rename_i jx hj
    have hw : isWhole x = some jx := by
      generalize (deepT σ x && (deepT σ s || isNil s)) = b at hj
      cases b <;> simp_all
    have hd : deepT σ x = true := by
      cases hdx : deepT σ x with
      | true => rfl
      | false => rw [hdx] at hj; simp at hj
    cases x <;> simp [isWhole] at hw
    subst hw
    simp only [opAppendD, Option.bind_eq_some_iff] at h
    obtain ⟨_, _, _, _, _, _, _, _, h⟩ := h
    split at h
    · split at h
      · split at h
        · simp only [Option.some.injEq] at h
          rw [← h]
          exact (same_setRow (hx hd _ (by simp [rowRefs]))).trans (ext_newRow _).same
        · simp at h
      · split at h
        · simp at h
        · simp only [Option.bind_eq_some_iff] at h
          obtain ⟨_, _, h⟩ := h
          split at h
          · simp only [Option.some.injEq] at h
            rw [← h]
            exact ((same_setRow (hs _ (by simp [rowRefs]))).trans (same_setRow (hx hd _ (by simp [rowRefs])))).trans (ext_newRow _).same
          · simp at h
      · simp at h
    · simp at h
  · refine Same.trans ?_ (same_append0 h hs)
    refine Same.trans (σ' := meltS σ s) ?_ ?_
    · unfold meltS; split
      · exact same_thaw s hs
      · exact .refl _
    · unfold meltX; split
      · rename_i hd; exact same_demote x (hx (deep_meltS hd))
      · exact .refl _
theorem evOp_frame {o : Oper} {y : T} (hs : still o.op = false) (h : evOp P K F ρ σ o = some (y, σ')) : Same (wrOf ρ σ o) σ σ' := by
  obtain ⟨dst, op, type, pos, after, guard⟩ := o
  cases op <;> simp only [still, reduceCtorEq] at hs <;> simp only [evOp, reduceCtorEq] at h
  case alloc t =>
    simp only [opAlloc, Option.bind_eq_some_iff, Option.map_eq_some_iff] at h
    obtain ⟨_, _, _, _, l, _, h⟩ := h
    rw [show σ' = (newBox σ l).2 by rw [h]]
    exact (ext_newBox l).same
  case box t x =>
    simp only [opBox, Option.bind_eq_some_iff] at h
    obtain ⟨l, _, h⟩ := h
    split at h
    · simp only [Option.some.injEq] at h
      rw [show σ' = (newBox σ l).2 by rw [h]]
      exact (ext_newBox l).same
    · simp at h
  case buildSlice t n ps =>
    simp only [opBuildSlice, Option.bind_eq_some_iff] at h
    obtain ⟨_, _, _, _, z, _, zl, hzl, h⟩ := h
    split at h
    · simp only [Option.bind_eq_some_iff] at h
      obtain ⟨l, hl, h⟩ := h
      have hrows : ∀ r ∈ agR l, r ∈ wrOf ρ σ ⟨dst, .buildSlice t n ps, type, pos, after, guard⟩ := by
        intro r hr
        rcases fill_rows _ hl r hr with h1 | ⟨p, h1, h2⟩
        · simp only [agR, List.mem_flatMap] at h1
          obtain ⟨y, h3, h4⟩ := h1
          have h5 := const_rows hzl
          simp only [agR, List.flatMap_eq_nil_iff] at h5
          have : y ∈ zl := by
            obtain ⟨l', h6, h7⟩ := List.mem_flatten.1 h3
            rw [List.eq_of_mem_replicate h6] at h7; exact h7
          rw [h5 y this] at h4; simp at h4
        · obtain ⟨q, h3, rfl⟩ := List.mem_map.1 h1
          simp only [wrOf]
          exact List.mem_flatMap.2 ⟨q.2, by simp only [Op.operands]; exact List.mem_map.2 ⟨q, h3, rfl⟩, h2⟩
      split at h
      · simp only [Option.map_eq_some_iff] at h
        obtain ⟨q, hq, h⟩ := h
        have e := congrArg Prod.snd h
        simp only at e
        rw [← e]
        exact (same_digs l hq hrows).trans (ext_newRow _).same
      · simp only [Option.map_eq_some_iff] at h
        obtain ⟨cs, _, h⟩ := h
        have e := congrArg Prod.snd h
        simp only at e
        rw [← e]
        exact (same_demotes l hrows).trans (ext_newRow _).same
    · simp at h
  case makeSlice t l c =>
    simp only [opMake, Option.bind_eq_some_iff] at h
    obtain ⟨_, _, _, _, _, _, z, hzl, cs, _, h⟩ := h
    split at h
    · split at h
      · simp only [Option.some.injEq] at h
        have e := congrArg Prod.snd h
        simp only at e
        rw [← e]
        exact (same_demotes z (by rw [const_rows hzl]; simp)).trans (ext_newRow _).same
      · simp at h
    · simp at h
  case store t a x =>
    simp only [opStore, Option.bind_eq_some_iff] at h
    obtain ⟨l, hl, h⟩ := h
    have hrows : ∀ {i n off}, ρ a = .rp i n off → ∀ r ∈ agR l, r ∈ wrOf ρ σ ⟨dst, .store t a x, type, pos, after, guard⟩ := fun {i n off} ha r hr => by
      simp only [wrOf, ha]; exact List.mem_append.2 (.inr (flat_rows hl r hr))
    split at h
    · split at h
      · rename_i b off ha
        simp only [Option.bind_eq_some_iff, Option.map_eq_some_iff, Prod.mk.injEq] at h
        obtain ⟨_, _, _, _, _, rfl⟩ := h
        exact same_setBox (by simp [wrOf, ha, refs])
      · rename_i i n off ha
        split at h
        · simp only [Option.bind_eq_some_iff] at h
          obtain ⟨p, hp, _, _, h⟩ := h
          split at h
          · simp only [Option.bind_eq_some_iff, Option.map_eq_some_iff, Prod.mk.injEq] at h
            obtain ⟨_, _, _, _, _, rfl⟩ := h
            exact (same_digs l hp (hrows ha)).trans (same_setRow (by simp [wrOf, ha, refs]))
          · simp at h
        simp only [Option.bind_eq_some_iff] at h
        obtain ⟨_, _, _, _, h⟩ := h
        split at h
        · simp only [Option.bind_eq_some_iff, Option.map_eq_some_iff, Prod.mk.injEq] at h
          obtain ⟨_, _, _, _, _, rfl⟩ := h
          exact (same_demotes l (hrows ha)).trans (same_setRow (by simp [wrOf, ha, refs]))
        · simp at h
      · simp at h
    · simp at h
  case call c =>
    obtain ⟨callee, args, ats⟩ := c
    cases callee with
    | value f =>
      refine same_apply h fun r hr => ?_
      simp only [wrOf, turns, Op.operands, Call.operands]
      obtain ⟨z, hz, hr⟩ := List.mem_flatMap.1 hr
      refine List.mem_flatMap.2 ⟨z, ?_, hr⟩
      obtain ⟨y0, hy0, hz⟩ := List.mem_flatMap.1 hz
      simp only [List.mem_cons, List.mem_map] at hy0
      rcases hy0 with rfl | ⟨x, hx, rfl⟩
      · exact List.mem_flatMap.2 ⟨f, by simp, hz⟩
      · exact List.mem_flatMap.2 ⟨x, by simp at hx ⊢; exact .inr hx, hz⟩
    | invoke r m => simp at h
    | builtin b =>
      have key : ∀ x ∈ turns ρ σ ⟨.builtin b, args, ats⟩, ∀ r ∈ rowRefs (ρ x), r ∈ wrOf ρ σ ⟨dst, .call ⟨.builtin b, args, ats⟩, type, pos, after, guard⟩ := by
        intro x hx r hr
        simp only [wrOf]
        have : ∃ i, r = .r i ∧ r ∈ argRefs (ρ x) := by
          generalize ρ x = y at hr
          cases y <;> simp_all [argRefs, refs, rowRefs]
        obtain ⟨i, rfl, h1⟩ := this
        exact List.mem_flatMap.2 ⟨.r i, List.mem_flatMap.2 ⟨x, hx, h1⟩, by simp [inBox]⟩
      cases b <;> simp only [Bool.true_eq_false, reduceCtorEq] at hs <;> simp only [isBuiltin2, Bool.false_eq_true, if_false, reduceCtorEq] at h
      case append =>
        split at h
        · rename_i s x t u h1 h2
          have hsm : s ∈ turns ρ σ ⟨.builtin .append, args, ats⟩ := by simp only [turns, h1]; split <;> simp
          have hxm : deepT σ (ρ x) = true → x ∈ turns ρ σ ⟨.builtin .append, args, ats⟩ := fun hd => by simp only [turns, h1, hd, if_true]; simp
          split at h
          · exact same_append h (key s hsm) (fun hd => key x (hxm hd))
          · simp at h
        · simp at h
      case clear =>
        split at h
        · rename_i x t h1 h2
          have hxm : x ∈ turns ρ σ ⟨.builtin .clear, args, ats⟩ := by
            have hm : x ∈ args.toList := by rw [h1]; simp
            simp only [turns, Op.operands, Call.operands]; simpa using hm
          simp only [opClear, Option.bind_eq_some_iff] at h
          obtain ⟨_, _, _, _, z, _, zl, hzl, _, _, h⟩ := h
          split at h
          · split at h
            · rename_i j lo hi hj
              simp only [Option.bind_eq_some_iff] at h
              obtain ⟨_, _, h⟩ := h
              split at h
              · simp only [Option.some.injEq, Prod.mk.injEq] at h
                rw [← h.2]
                exact (same_demotes zl (by rw [const_rows hzl]; simp)).trans (same_setRow (key x hxm _ (by rw [hj]; simp [rowRefs])))
              · simp at h
            · simp at h
          · simp at h
        · simp at h
end Go.SX
