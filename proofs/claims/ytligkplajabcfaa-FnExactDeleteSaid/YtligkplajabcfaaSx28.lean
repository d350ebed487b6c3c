import Derived.Test.YtligkplajabcfaaSx27
set_option linter.unusedVariables false
set_option linter.unusedSimpArgs false
set_option linter.unusedSectionVars false
set_option linter.unusedVariables false
set_option linter.unusedSimpArgs false
namespace Go.SX
variable {P : Program} {K : Cfg} {F : Fun} {n : Nat} {ops : Array Oper}

theorem entry_sim {f : Rn} {σ τ : St} (H : Sim f σ τ) (o : Oper) {r} (h : evOp P K F (ev σ) (hp σ) o = some r) : EnR f o (entry σ o) (entry τ o) := by
  refine ⟨fun hh => ?_, fun hh => act_sim (ev_sim H) H.h.hp o h hh, fun x hx => ?_⟩
  · exact flatMap_sim _ fun x hx => refs_sim (ev_sim H x) (hang_no o h hh x hx)
  · cases x with
    | b b =>
      simp only [inRange, decide_eq_true_eq] at hx
      have : b < f.nb := by rw [H.h.nb]; exact hx
      exact ⟨this, by simpa [Rn.l, inRange] using H.h.bl b this⟩
    | r i =>
      simp only [inRange, decide_eq_true_eq] at hx
      have : i < f.nr := by rw [H.h.nr]; exact hx
      exact ⟨this, by simpa [Rn.l, inRange] using H.h.rl i this⟩
def LogR (f : Rn) (l : List Oper) (g g' : List Entry) : Prop := ∀ i, EnR f (l.getD i default) (g.getD i none) (g'.getD i none)
theorem evLog_sim : ∀ (l done : List Oper) {f : Rn} {σ τ : St} {g g' : List Entry}, Sim f σ τ → g.length = done.length → g'.length = done.length → LogR f (done ++ l) g g' → ∀ {e σ'}, evLog P K F n ops l σ g = some (e, σ') → ∃ f' e' τ', evLog P K F n ops l τ g' = some (e', τ') ∧ Sim f' σ' τ' ∧ Wid f f' ∧ LogR f' (done ++ l) e e'
  | [], done, f, σ, τ, g, g', H, _, _, hl, e, σ', h => by
    simp only [evLog, Option.some.injEq, Prod.mk.injEq] at h
    obtain ⟨rfl, rfl⟩ := h
    exact ⟨f, g', τ, rfl, H, .refl f, hl⟩
  | o :: l, done, f, σ, τ, g, g', H, h1, h2, hl, e, σ', h => by
    rw [evLog_cons] at h
    obtain ⟨b, hb, h⟩ := Option.bind_eq_some_iff.1 h
    obtain ⟨σ1, h3, h4⟩ := Option.bind_eq_some_iff.1 h
    obtain ⟨f1, τ1, g1, H1, e1⟩ := evStep_sim H o h3
    have hen : EnR f1 o (if b then entry σ o else none) (if b then entry τ o else none) := by
      cases b with
      | false => trivial
      | true =>
        simp only [if_true]
        unfold evStep at h3
        split at h3
        · rw [hb] at h3
          simp only [Option.bind_some] at h3
          obtain ⟨p, hp, _⟩ := Option.map_eq_some_iff.1 h3
          exact (entry_sim H o hp).ext e1
        · simp at h3
    have hl1 : LogR f1 ((done ++ [o]) ++ l) (g ++ [if b then entry σ o else none]) (g' ++ [if b then entry τ o else none]) := by
      intro i
      rw [List.append_assoc, List.singleton_append]
      by_cases hi : i < done.length
      · have := hl i
        rw [List.getD_eq_getElem?_getD (l := g ++ _), List.getD_eq_getElem?_getD (l := g' ++ _), List.getElem?_append_left (by omega), List.getElem?_append_left (by omega), ← List.getD_eq_getElem?_getD, ← List.getD_eq_getElem?_getD]
        exact this.ext e1
      · by_cases hi2 : i = done.length
        · subst hi2
          have ha : (done ++ o :: l).getD done.length default = o := by simp
          have hb2 : (g ++ [if b then entry σ o else none]).getD done.length none = if b then entry σ o else none := by rw [← h1]; simp
          have hc2 : (g' ++ [if b then entry τ o else none]).getD done.length none = if b then entry τ o else none := by rw [← h2]; simp
          rw [ha, hb2, hc2]; exact hen
        · have hb2 : (g ++ [if b then entry σ o else none]).getD i none = none := by
            simp only [List.getD_eq_getElem?_getD]
            rw [List.getElem?_eq_none (by simp; omega)]; rfl
          have hc2 : (g' ++ [if b then entry τ o else none]).getD i none = none := by
            simp only [List.getD_eq_getElem?_getD]
            rw [List.getElem?_eq_none (by simp; omega)]; rfl
          rw [hb2, hc2]; trivial
    obtain ⟨f2, e', τ', g2, H2, e2, hl2⟩ := evLog_sim l (done ++ [o]) H1 (by simp [h1]) (by simp [h2]) hl1 h4
    refine ⟨f2, e', τ', ?_, H2, e1.trans e2, ?_⟩
    · rw [evLog_cons, wanted_sim H o hb]
      simp only [Option.bind_some, g1]; exact g2
    · rw [List.append_assoc] at hl2; exact hl2
theorem clear_sim {f : Rn} {σ τ : St} (H : HR f σ τ) {o o2 : Oper} (h1 : hangs o.op = true) (h2 : still o2.op = false) {x x' y y' : Entry} (hx : EnR f o x x') (hy : EnR f o2 y y') (h : clearQ x y = true) : clearQ x' y' = true := by
  cases x with
  | none => cases x' with
    | none => rfl
    | some x' => exact hx.elim
  | some x => cases x' with
    | none => exact hx.elim
    | some x' => cases y with
      | none => cases y' with
        | none => rfl
        | some y' => exact hy.elim
      | some y => cases y' with
        | none => exact hy.elim
        | some y' =>
          obtain ⟨rd, wr, nb, nr⟩ := x
          obtain ⟨rd', wr', nb', nr'⟩ := x'
          obtain ⟨rd2, wr2, nb2, nr2⟩ := y
          obtain ⟨rd2', wr2', nb2', nr2'⟩ := y'
          obtain ⟨a, a2⟩ := hx.1 h1
          obtain ⟨b, b2⟩ := hy.2.1 h2
          subst a b
          simp only [clearQ, List.all_eq_true, Bool.and_eq_true, Bool.not_eq_true', List.contains_eq_mem, decide_eq_false_iff_not] at h ⊢
          intro r hr
          obtain ⟨r, hr2, rfl⟩ := List.mem_map.1 hr
          obtain ⟨c1, c2⟩ := h r hr2
          refine ⟨fun hm => ?_, (hy.2.2 r c2).2⟩
          obtain ⟨z, hz, e⟩ := List.mem_map.1 hm
          exact c1 (l_inj H (b2 z hz) (a2 r hr2) e ▸ hz)
theorem evDraw0_sim {f : Rn} {σ τ : St} (H : Sim f σ τ) {σ'} (h : evDraw0 P K F n ops σ = some σ') : ∃ f' τ', evDraw0 P K F n ops τ = some τ' ∧ Sim f' σ' τ' ∧ Wid f f' := by
  unfold evDraw0 at h ⊢
  split at h
  · rename_i hd
    rw [if_pos hd]
    split at h
    · rename_i hu
      rw [if_pos hu]
      exact evOps_sim _ H h
    · rename_i hu
      rw [if_neg hu]
      obtain ⟨⟨g, σ1⟩, h1, h⟩ := Option.bind_eq_some_iff.1 h
      simp only at h
      split at h
      · rename_i ha
        simp only [Option.some.injEq] at h; subst h
        obtain ⟨f', g', τ', e1, H1, w, hl⟩ := evLog_sim ops.toList [] (g' := []) H rfl rfl (fun i => by simp [EnR]) h1
        refine ⟨f', τ', ?_, H1, w⟩
        rw [e1]
        simp only [Option.bind_some]
        rw [if_pos ?_]
        simp only [List.all_eq_true] at ha ⊢
        intro p hp
        have hpa := ha p hp
        have hop : ∀ i, ([] ++ ops.toList).getD i default = opAt ops i := by intro i; simp [opAt]
        have hen : ∀ i, EnR f' (opAt ops i) (g.getD i none) (g'.getD i none) := fun i => by rw [← hop i]; exact hl i
        have hq : (hangs (opAt ops p.1).op = true ∧ still (opAt ops p.2).op = false) ∨ (still (opAt ops p.1).op = false ∧ hangs (opAt ops p.2).op = true) := by
          simp only [unord, List.mem_flatMap, List.mem_filterMap] at hp
          obtain ⟨j, _, i, _, hp⟩ := hp
          split at hp
          · simp at hp
          · split at hp
            · rename_i hc
              simp only [Option.some.injEq] at hp; subst hp
              simpa using hc
            · simp at hp
        unfold apartQ at hpa ⊢
        rcases hq with ⟨a, b⟩ | ⟨a, b⟩
        · rw [if_pos (hangs_still a)] at hpa ⊢
          exact clear_sim H1.h a b (hen _) (hen _) hpa
        · rw [if_neg (by simp [a])] at hpa ⊢
          exact clear_sim H1.h b a (hen _) (hen _) hpa
      · simp at h
  · simp at h
theorem st_sim {f : Rn} : ∀ (l m : List T) (d : Nat), (∀ i, TR f (gt l i) (gt m i)) → ∀ i, TR f (gt (st l d .no) i) (gt (st m d .no) i) := by
  intro l m d h i
  by_cases hi : d = i
  · subst hi; rw [gt_st_eq]; exact .no _
  · rw [gt_st_ne _ _ _ _ hi, gt_st_ne _ _ _ _ hi]; exact h i
theorem clr_sim {f : Rn} {σ τ : St} (ds : List Tmp) (H : Sim f σ τ) : Sim f (clr ds σ) (clr ds τ) := by
  refine ⟨⟨H.h.nb, H.h.nr, H.h.bi, H.h.ri, H.h.bl, H.h.rl, H.h.row, H.h.box⟩, ?_⟩
  have key : ∀ (ds : List Tmp) (l m : List T), (∀ i, TR f (gt l i) (gt m i)) → ∀ i, TR f (gt (ds.foldl (fun ts d => st ts d .no) l) i) (gt (ds.foldl (fun ts d => st ts d .no) m) i) := by
    intro ds
    induction ds with
    | nil => intro l m h; exact h
    | cons d ds ih => intro l m h; exact ih _ _ (st_sim l m d h)
  exact key ds _ _ H.t
theorem evDraw_sim {f : Rn} {σ τ : St} (H : Sim f σ τ) {σ'} (h : evDraw P K F n ops σ = some σ') : ∃ f' τ', evDraw P K F n ops τ = some τ' ∧ Sim f' σ' τ' ∧ Wid f f' := by
  unfold evDraw at h ⊢
  split at h
  · rename_i hl; rw [if_pos hl]; exact evDraw0_sim (clr_sim _ H) h
  · rename_i hl
    rw [if_neg hl]
    split at h
    · rename_i hl2; rw [if_pos hl2]; exact evDraw0_sim (clr_sim _ H) h
    · rename_i hl2; rw [if_neg hl2]; exact evDraw0_sim H h
theorem evC_sim : ∀ (k : Nat) (c : Code) {f : Rn} {σ τ : St}, Sim f σ τ → ∀ {e σ'}, evC P K F n k c σ = some (e, σ') → ∃ f' τ', evC P K F n k c τ = some (e, τ') ∧ Sim f' σ' τ' ∧ Wid f f'
  | 0, _, _, _, _, _, _, _, h => by simp [evC] at h
  | k + 1, c, f, σ, τ, H, e, σ', h => by
    cases c <;> simp only [evC, reduceCtorEq] at h ⊢
    case skip => simp only [Option.some.injEq, Prod.mk.injEq] at h; obtain ⟨rfl, rfl⟩ := h; exact ⟨f, τ, rfl, H, .refl f⟩
    case exit => simp only [Option.some.injEq, Prod.mk.injEq] at h; obtain ⟨rfl, rfl⟩ := h; exact ⟨f, τ, rfl, H, .refl f⟩
    case ret => simp only [Option.some.injEq, Prod.mk.injEq] at h; obtain ⟨rfl, rfl⟩ := h; exact ⟨f, τ, rfl, H, .refl f⟩
    case region id ops d =>
      simp only [Option.map_eq_some_iff] at h
      obtain ⟨σ1, h, h2⟩ := h
      simp only [Prod.mk.injEq] at h2; obtain ⟨rfl, rfl⟩ := h2
      cases d with
      | true =>
        simp only [if_true] at h ⊢
        obtain ⟨f', τ', g, H1, w⟩ := evDraw_sim H h
        exact ⟨f', τ', by rw [g]; rfl, H1, w⟩
      | false =>
        simp only [Bool.false_eq_true, if_false] at h ⊢
        obtain ⟨f', τ', g, H1, w⟩ := evSeq_sim _ H h
        exact ⟨f', τ', by rw [g]; rfl, H1, w⟩
    case seq x y =>
      obtain ⟨⟨e1, σ1⟩, h1, h2⟩ := Option.bind_eq_some_iff.1 h
      obtain ⟨f1, τ1, g1, H1, w1⟩ := evC_sim k x H h1
      cases e1 with
      | normal =>
        obtain ⟨f2, τ2, g2, H2, w2⟩ := evC_sim k y H1 h2
        exact ⟨f2, τ2, by rw [g1]; exact g2, H2, w1.trans w2⟩
      | exit i => simp only [thenC, Option.some.injEq, Prod.mk.injEq] at h2; obtain ⟨rfl, rfl⟩ := h2; exact ⟨f1, τ1, by rw [g1]; rfl, H1, w1⟩
      | ret => simp only [thenC, Option.some.injEq, Prod.mk.injEq] at h2; obtain ⟨rfl, rfl⟩ := h2; exact ⟨f1, τ1, by rw [g1]; rfl, H1, w1⟩
    case cond x y z =>
      split at h
      · rename_i t ht
        rw [sc_sim (ev_sim H x) ht]
        cases t with
        | true => exact evC_sim k y H h
        | false => exact evC_sim k z H h
      · simp at h
    case block id b =>
      simp only [Option.map_eq_some_iff] at h
      obtain ⟨⟨e1, σ1⟩, h1, h2⟩ := h
      obtain ⟨f1, τ1, g1, H1, w1⟩ := evC_sim k b H h1
      have : (outOf id (e1, σ1)).2 = σ1 ∧ ∀ τ : St, outOf id (e1, τ) = ((outOf id (e1, σ1)).1, τ) := by
        cases e1 with
        | exit i => simp only [outOf]; split <;> simp
        | normal => simp [outOf]
        | ret => simp [outOf]
      refine ⟨f1, τ1, ?_, ?_, w1⟩
      · rw [g1]; simp only [Option.map_some, this.2 τ1, h2]
      · rw [← this.1, h2] at H1; exact H1
    case loop b =>
      obtain ⟨⟨e1, σ1⟩, h1, h2⟩ := Option.bind_eq_some_iff.1 h
      obtain ⟨f1, τ1, g1, H1, w1⟩ := evC_sim k b H h1
      cases e1 with
      | normal =>
        obtain ⟨f2, τ2, g2, H2, w2⟩ := evC_sim k (.loop b) H1 h2
        exact ⟨f2, τ2, by rw [g1]; exact g2, H2, w1.trans w2⟩
      | exit i => simp only [thenC, Option.some.injEq, Prod.mk.injEq] at h2; obtain ⟨rfl, rfl⟩ := h2; exact ⟨f1, τ1, by rw [g1]; rfl, H1, w1⟩
      | ret => simp only [thenC, Option.some.injEq, Prod.mk.injEq] at h2; obtain ⟨rfl, rfl⟩ := h2; exact ⟨f1, τ1, by rw [g1]; rfl, H1, w1⟩

/-! how a body ends -/
theorem resVar_sim {f : Rn} {σ τ : St} (H : Sim f σ τ) (r : ResultVar) {x} (h : resVar P σ r = some x) : ∃ y, resVar P τ r = some y ∧ TR f x y := by
  cases r with
  | tmp t => simp only [resVar, Option.some.injEq] at h ⊢; subst h; exact ⟨_, rfl, H.t t⟩
  | cell a t =>
    simp only [resVar] at h ⊢
    obtain ⟨cs, h1, h⟩ := Option.bind_eq_some_iff.1 h
    obtain ⟨n, hn, h⟩ := Option.bind_eq_some_iff.1 h
    obtain ⟨g, hg, h⟩ := Option.bind_eq_some_iff.1 h
    obtain ⟨ds, g1, t1⟩ := cells_sim H.h (H.t a) h1
    simp only [g1, hn, hg, Option.bind_some]
    split at h
    · rename_i h0
      rw [if_pos h0]
      split at h
      · rename_i hl
        rw [if_pos (by rw [← t1.len]; exact hl)]
        simp only [Option.some.injEq] at h; subst h
        exact ⟨_, rfl, .ag (t1.take n)⟩
      · simp at h
    · rename_i h0
      rw [if_neg h0]
      cases t1 with
      | nil => simp at h
      | cons a t => simp only [List.head?_cons, Option.some.injEq] at h ⊢; subst h; exact ⟨_, rfl, a⟩
theorem resVars_sim {f : Rn} {σ τ : St} (H : Sim f σ τ) : ∀ (l : List ResultVar) {xs}, resVars P σ l = some xs → ∃ ys, resVars P τ l = some ys ∧ All2 (TR f) xs ys
  | [], xs, h => by simp only [resVars, Option.some.injEq] at h; subst h; exact ⟨[], rfl, .nil⟩
  | r :: l, xs, h => by
    simp only [resVars] at h ⊢
    obtain ⟨x, h1, h⟩ := Option.bind_eq_some_iff.1 h
    obtain ⟨xs', h2, h⟩ := Option.map_eq_some_iff.1 h
    obtain ⟨y, g1, t1⟩ := resVar_sim H r h1
    obtain ⟨ys, g2, t2⟩ := resVars_sim H l h2
    simp only [g1, Option.bind_some, g2, Option.map_some]
    subst h
    exact ⟨_, rfl, .cons t1 t2⟩
theorem resV_sim {f : Rn} {σ τ : St} (H : HR f σ τ) {x y : T} (h : TR f x y) {a σ'} (hr : resV σ x = some (a, σ')) : ∃ τ', resV τ y = some (a, τ') ∧ HR f σ' τ' := by
  have one : ∀ {x y : T}, TR f x y → ((give σ x).map fun (c, σ) => (A.c c.1 c.2, σ)) = some (a, σ') → ∃ τ', ((give τ y).map fun (c, σ) => (A.c c.1 c.2, σ)) = some (a, τ') ∧ HR f σ' τ' := by
    intro x y h hr
    obtain ⟨⟨c, σ1⟩, h1, h2⟩ := Option.map_eq_some_iff.1 hr
    simp only [Prod.mk.injEq] at h2; obtain ⟨h3, rfl⟩ := h2
    obtain ⟨τ', g1, H1⟩ := give_sim H h h1
    exact ⟨τ', by rw [g1]; simp [h3], H1⟩
  cases h with
  | ag h =>
    simp only [resV] at hr ⊢
    obtain ⟨⟨c, σ1⟩, h1, h2⟩ := Option.map_eq_some_iff.1 hr
    simp only [Prod.mk.injEq] at h2; obtain ⟨h3, rfl⟩ := h2
    obtain ⟨τ', g1, H1⟩ := gives_sim H h h1
    exact ⟨τ', by rw [g1]; simp [h3], H1⟩
  | bp b o hb =>
    simp only [resV] at hr ⊢
    split at hr
    · rename_i ho
      rw [if_pos ho]
      obtain ⟨l, h0, hr⟩ := Option.bind_eq_some_iff.1 hr
      obtain ⟨⟨c, σ1⟩, h1, h2⟩ := Option.map_eq_some_iff.1 hr
      simp only [Prod.mk.injEq] at h2; obtain ⟨h3, rfl⟩ := h2
      obtain ⟨m, g0, t1⟩ := H.box _ _ h0
      obtain ⟨τ', g1, H1⟩ := gives_sim (setBoxN_sim H hb) t1 h1
      exact ⟨τ', by rw [g0]; simp only [Option.bind_some, g1]; simp [h3], H1⟩
    · simp at hr
  | no y => simp [resV] at hr
  | c x => exact one (.c x) hr
  | nil => exact one .nil hr
  | row i h => exact one (.row i h) hr
  | sl i lo hi h => exact one (.sl i lo hi h) hr
  | rp i k o h => simp [resV] at hr
  | cp l o => simp [resV] at hr
  | tu h => simp [resV] at hr
  | fn g bs h => simp [resV] at hr
theorem resVs_sim {f : Rn} : ∀ {l m : List T} {σ τ : St}, HR f σ τ → All2 (TR f) l m → ∀ {a σ'}, resVs σ l = some (a, σ') → ∃ τ', resVs τ m = some (a, τ') ∧ HR f σ' τ'
  | _, _, σ, τ, H, .nil, a, σ', h => by simp only [resVs, Option.some.injEq, Prod.mk.injEq] at h; obtain ⟨rfl, rfl⟩ := h; exact ⟨τ, rfl, H⟩
  | _, _, σ, τ, H, .cons hx t, a, σ', h => by
    simp only [resVs] at h ⊢
    obtain ⟨⟨c, σ1⟩, h1, h⟩ := Option.bind_eq_some_iff.1 h
    obtain ⟨⟨cs, σ2⟩, h2, h⟩ := Option.map_eq_some_iff.1 h
    simp only [Prod.mk.injEq] at h; obtain ⟨rfl, rfl⟩ := h
    obtain ⟨τ1, g1, H1⟩ := resV_sim H hx h1
    obtain ⟨τ2, g2, H2⟩ := resVs_sim H1 t h2
    exact ⟨τ2, by rw [g1]; simp only [Option.bind_some, g2, Option.map_some], H2⟩
def Fix (f : Rn) (ls : List Lend) : Prop := ∀ x ∈ ls, InL f x ∧ f.l x = x
theorem backs_sim {f : Rn} : ∀ (ls : List Lend) {σ τ : St}, HR f σ τ → Fix f ls → ∀ {a σ'}, backs σ ls = some (a, σ') → ∃ τ', backs τ ls = some (a, τ') ∧ HR f σ' τ'
  | [], σ, τ, H, _, a, σ', h => by simp only [backs, Option.some.injEq, Prod.mk.injEq] at h; obtain ⟨rfl, rfl⟩ := h; exact ⟨τ, rfl, H⟩
  | .b b :: ls, σ, τ, H, hf, a, σ', h => by
    simp only [backs] at h ⊢
    obtain ⟨hb, eb⟩ := hf (.b b) (by simp)
    simp only [Rn.l, Lend.b.injEq] at eb
    simp only [InL] at hb
    obtain ⟨l, h0, h⟩ := Option.bind_eq_some_iff.1 h
    obtain ⟨⟨c, σ1⟩, h1, h⟩ := Option.bind_eq_some_iff.1 h
    obtain ⟨⟨cs, σ2⟩, h2, h⟩ := Option.map_eq_some_iff.1 h
    simp only [Prod.mk.injEq] at h; obtain ⟨rfl, rfl⟩ := h
    obtain ⟨m, g0, t1⟩ := H.box _ _ h0
    have H0 := setBoxN_sim H hb
    rw [eb] at g0 H0
    obtain ⟨τ1, g1, H1⟩ := gives_sim H0 t1 h1
    obtain ⟨τ2, g2, H2⟩ := backs_sim ls H1 (fun x hx => hf x (by simp [hx])) h2
    exact ⟨τ2, by rw [g0]; simp only [Option.bind_some, g1, g2, Option.map_some], H2⟩
  | .r i :: ls, σ, τ, H, hf, a, σ', h => by
    obtain ⟨hi, ei⟩ := hf (.r i) (by simp)
    simp only [Rn.l, Lend.r.injEq] at ei
    simp only [InL] at hi
    have hrow := H.row i hi
    rw [ei] at hrow
    simp only [backs, hrow] at h ⊢
    cases hr : rowAt σ i with
    | none =>
      simp only [hr] at h ⊢
      obtain ⟨⟨cs, σ2⟩, h2, h⟩ := Option.map_eq_some_iff.1 h
      simp only [Prod.mk.injEq] at h; obtain ⟨rfl, rfl⟩ := h
      obtain ⟨τ2, g2, H2⟩ := backs_sim ls H (fun x hx => hf x (by simp [hx])) h2
      exact ⟨τ2, by simp only [g2, Option.map_some], H2⟩
    | some q =>
      simp only [hr] at h ⊢
      split at h
      · rename_i ho
        rw [if_pos ho]
        obtain ⟨⟨cs, σ2⟩, h2, h⟩ := Option.map_eq_some_iff.1 h
        simp only [Prod.mk.injEq] at h; obtain ⟨rfl, rfl⟩ := h
        have H0 := setRow_sim H hi none
        rw [ei] at H0
        obtain ⟨τ2, g2, H2⟩ := backs_sim ls H0 (fun x hx => hf x (by simp [hx])) h2
        exact ⟨τ2, by simp only [g2, Option.map_some], H2⟩
      · simp at h
/-- the one knows less than the other; what is lent bears the same name in both -/
def Le (ls : List Lend) (σ τ : St) : Prop := ∃ f, Sim f σ τ ∧ Fix f ls
def Mono (ls : List Lend) (Q : Ex → St → Prop) : Prop := ∀ e σ τ, Le ls σ τ → Q e σ → Q e τ
theorem Fix.wid {f g : Rn} {ls : List Lend} (h : Fix f ls) (w : Wid f g) : Fix g ls := fun x hx => ⟨wid_in w (h x hx).1, by rw [wid_l w (h x hx).1]; exact (h x hx).2⟩
theorem W_le {ls : List Lend} {c : Code} {σ τ : St} {Q : Ex → St → Prop} (hm : Mono ls Q) (hl : Le ls σ τ) (h : W P K F n c σ Q) : W P K F n c τ Q := by
  obtain ⟨f, H, hf⟩ := hl
  obtain ⟨k, e, σ', h1, q⟩ := h
  obtain ⟨f', τ', g, H1, w⟩ := evC_sim k c H h1
  exact ⟨k, e, τ', g, hm e σ' τ' ⟨f', H1, hf.wid w⟩ q⟩
theorem mono_told {ls : List Lend} {fn : Func} {w : Bool} {r : A × List (Option Cs)} : Mono ls (Told2 P K fn ls w r) := by
  rintro e σ τ ⟨f, H, hf⟩ ⟨r', h, rfl⟩
  have key : finish P K fn ls σ = some r' → finish P K fn ls τ = some r' := by
    intro h
    simp only [finish] at h ⊢
    obtain ⟨rs, h1, h⟩ := Option.bind_eq_some_iff.1 h
    obtain ⟨⟨as, σ1⟩, h2, h⟩ := Option.bind_eq_some_iff.1 h
    obtain ⟨⟨xs, σ2⟩, h3, h⟩ := Option.map_eq_some_iff.1 h
    simp only at h3 h
    obtain ⟨ys, g1, t1⟩ := resVars_sim H _ h1
    obtain ⟨τ1, g2, H1⟩ := resVs_sim H.h t1 h2
    obtain ⟨τ2, g3, H2⟩ := backs_sim ls H1 hf h3
    rw [g1]; simp only [Option.bind_some, g2, g3, Option.map_some, h]
  cases e with
  | exit i => simp [endC] at h
  | normal => exact ⟨r', key h, rfl⟩
  | ret => exact ⟨r', key h, rfl⟩
theorem mono_seq {ls : List Lend} {b : Code} {Q : Ex → St → Prop} (hm : Mono ls Q) : Mono ls (Seq P K F n b Q) := by
  intro e σ τ hl h
  cases e with
  | normal => exact W_le hm hl h
  | exit i => exact hm _ _ _ hl h
  | ret => exact hm _ _ _ hl h
theorem mono_blk {ls : List Lend} {id : Nat} {Q : Ex → St → Prop} (hm : Mono ls Q) : Mono ls (Blk id Q) := by
  intro e σ τ hl h
  cases e with
  | exit i =>
    simp only [Blk] at h ⊢
    split
    · rename_i hi; rw [if_pos hi] at h; exact hm _ _ _ hl h
    · rename_i hi; rw [if_neg hi] at h; exact hm _ _ _ hl h
  | normal => exact hm _ _ _ hl h
  | ret => exact hm _ _ _ hl h
/-- one round of a loop -/
def Lp (P : Program) (K : Cfg) (F : Fun) (n : Nat) (b : Code) (Q : Ex → St → Prop) : Ex → St → Prop
  | .normal, σ => W P K F n (.loop b) σ Q
  | e, σ => Q e σ
theorem mono_lp {ls : List Lend} {b : Code} {Q : Ex → St → Prop} (hm : Mono ls Q) : Mono ls (Lp P K F n b Q) := by
  intro e σ τ hl h
  cases e with
  | normal => exact W_le hm hl h
  | exit i => exact hm _ _ _ hl h
  | ret => exact hm _ _ _ hl h
theorem W_round {b : Code} {σ : St} {Q : Ex → St → Prop} (h : W P K F n b σ (Lp P K F n b Q)) : W P K F n (.loop b) σ Q := by
  obtain ⟨k, e, σ', h, q⟩ := h
  cases e with
  | normal =>
    obtain ⟨k2, e2, s2, h2, q2⟩ := q
    refine ⟨max k k2 + 1, e2, s2, ?_, q2⟩
    rw [evC, evC_le (Nat.le_max_left _ _) h]
    exact evC_le (Nat.le_max_right _ _) h2
  | exit i => exact ⟨k + 1, _, _, by rw [evC, h]; rfl, q⟩
  | ret => exact ⟨k + 1, _, _, by rw [evC, h]; rfl, q⟩
end Go.SX
