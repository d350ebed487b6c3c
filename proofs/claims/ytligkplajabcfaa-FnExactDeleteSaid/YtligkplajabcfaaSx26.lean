import Derived.Test.YtligkplajabcfaaSx25
set_option linter.unusedVariables false
set_option linter.unusedSimpArgs false
set_option linter.unusedSectionVars false
set_option linter.unusedVariables false
set_option linter.unusedSimpArgs false
namespace Go.SX
variable {P : Program} {K : Cfg} {F : Fun} {n : Nat} {ops : Array Oper}

structure Sim (f : Rn) (σ τ : St) : Prop where
  h : HR f σ τ
  t : ∀ i, TR f (gt σ.ts i) (gt τ.ts i)
theorem HR.hp {f : Rn} {σ τ : St} (H : HR f σ τ) : HR f (hp σ) (hp τ) := ⟨H.nb, H.nr, H.bi, H.ri, H.bl, H.rl, H.row, H.box⟩
theorem ev_sim {f : Rn} {σ τ : St} (H : Sim f σ τ) (x : Operand) : TR f (ev σ x) (ev τ x) := by
  cases x with
  | tmp t => exact H.t t
  | const v => exact constT_refl v
  | global g => exact .no _
  | func g => exact .fn g [] (by simp)
theorem put_sim {f f' : Rn} {σ τ σ1 τ1 : St} (e : Wid f f') (H : Sim f σ τ) (H1 : HR f' σ1 τ1) (d : Option Tmp) {x y : T} (h : TR f' x y) : Sim f' (putT σ.ts σ1 d x) (putT τ.ts τ1 d y) := by
  refine ⟨⟨H1.nb, H1.nr, H1.bi, H1.ri, H1.bl, H1.rl, H1.row, H1.box⟩, fun i => ?_⟩
  cases d with
  | none => exact TR.ext e _ (H.t i)
  | some d =>
    simp only [putT]
    by_cases hd : d = i
    · subst hd; rw [gt_st_eq, gt_st_eq]; exact h
    · rw [gt_st_ne _ _ _ _ hd, gt_st_ne _ _ _ _ hd]; exact TR.ext e _ (H.t i)
theorem wanted_sim {f : Rn} {σ τ : St} (H : Sim f σ τ) (o : Oper) {b} (h : wantedT ops σ o = some b) : wantedT ops τ o = some b := by
  unfold wantedT at h ⊢
  split at h
  · exact h
  · split at h
    · rename_i d hd
      have ht := H.t d
      generalize gt σ.ts d = u at ht h
      generalize gt τ.ts d = v at ht
      cases ht with
      | c x => exact h
      | tu t => cases t with
        | nil => exact h
        | cons a t => simp at h
      | _ => simp at h
    · rename_i hd
      simp at h
theorem evStep_sim {f : Rn} {σ τ : St} (H : Sim f σ τ) (o : Oper) {σ'} (h : evStep P K F n ops o σ = some σ') : ∃ f' τ', evStep P K F n ops o τ = some τ' ∧ Sim f' σ' τ' ∧ Wid f f' := by
  unfold evStep at h ⊢
  split at h
  · rename_i hq
    rw [if_pos hq]
    obtain ⟨b, hb, h⟩ := Option.bind_eq_some_iff.1 h
    rw [wanted_sim H o hb]
    simp only [Option.bind_some]
    cases b with
    | true =>
      obtain ⟨⟨x, σ1⟩, h1, h⟩ := Option.map_eq_some_iff.1 h
      obtain ⟨f', ⟨y, τ1⟩, g1, H1, e, t1⟩ := evOp_sim (ev_sim H) H.h.hp o h1
      simp only [g1, Option.map_some]
      subst h
      exact ⟨f', _, rfl, put_sim e H H1 _ t1, e⟩
    | false =>
      simp only [Option.some.injEq] at h
      subst h
      exact ⟨f, _, rfl, put_sim (.refl f) H H.h _ (.tu .nil), .refl f⟩
  · simp at h
theorem evOps_sim : ∀ (l : List Oper) {f : Rn} {σ τ : St}, Sim f σ τ → ∀ {σ'}, evOps P K F n ops l σ = some σ' → ∃ f' τ', evOps P K F n ops l τ = some τ' ∧ Sim f' σ' τ' ∧ Wid f f'
  | [], f, σ, τ, H, σ', h => by simp only [evOps, Option.some.injEq] at h; subst h; exact ⟨f, τ, rfl, H, .refl f⟩
  | o :: l, f, σ, τ, H, σ', h => by
    rw [evOps_cons] at h
    obtain ⟨σ1, h1, h2⟩ := Option.bind_eq_some_iff.1 h
    obtain ⟨f1, τ1, g1, H1, e1⟩ := evStep_sim H o h1
    obtain ⟨f2, τ2, g2, H2, e2⟩ := evOps_sim l H1 h2
    exact ⟨f2, τ2, by rw [evOps_cons, g1]; exact g2, H2, e1.trans e2⟩

theorem noRow_sim {f : Rn} {σ τ : St} (H : HR f σ τ) : ∃ f', HR f' { σ with rw := σ.rw ++ [none] } { τ with rw := τ.rw ++ [none] } ∧ Wid f f' := by
  obtain ⟨f', H', w, t⟩ := newRow_sim H ⟨0, [], false, .f⟩
  have hk : σ.rw.length < f'.nr ∧ f'.r σ.rw.length = τ.rw.length := by
    have : TR f' (.row σ.rw.length) (.row τ.rw.length) := t
    generalize hx : T.row σ.rw.length = x at this
    generalize hy : T.row τ.rw.length = y at this
    cases this <;> simp only [T.row.injEq, reduceCtorEq] at hx hy
    rename_i i hi
    subst hx; exact ⟨hi, hy.symm⟩
  have H2 := setRow_sim H' hk.1 none
  rw [hk.2] at H2
  refine ⟨f', ?_, w⟩
  have e : ∀ σ : St, setRow (newRow σ ⟨0, [], false, .f⟩).2 σ.rw.length none = { σ with rw := σ.rw ++ [none] } := fun σ => by
    simp [setRow, newRow]
  rw [e, e] at H2; exact H2
theorem st_no_sim {f : Rn} {σ τ : St} (H : Sim f σ τ) (d : Nat) : Sim f ⟨st σ.ts d .no, σ.bx, σ.rw⟩ ⟨st τ.ts d .no, τ.bx, τ.rw⟩ :=
  put_sim (.refl f) H H.h (some d) (.no _)
theorem cellAt_sim {f : Rn} {σ τ : St} (H : HR f σ τ) {x y : T} (h : TR f x y) {j i c q el z} (hc : cellAt σ x = some (j, i, c, q, el, z)) : j < f.nr ∧ cellAt τ y = some (f.r j, i, c, q, el, z) := by
  unfold cellAt at hc
  split at hc
  · rename_i j0 i0 c0
    cases h with
    | rp _ _ _ hj =>
      simp only [Option.bind_eq_some_iff] at hc
      obtain ⟨q0, hq, hc⟩ := hc
      split at hc
      · rename_i hh
        simp only [Option.bind_eq_some_iff] at hc
        obtain ⟨el0, hel, hc⟩ := hc
        split at hc
        · rename_i z0 hz
          simp only [Option.some.injEq, Prod.mk.injEq] at hc
          obtain ⟨rfl, rfl, rfl, rfl, rfl, rfl⟩ := hc
          refine ⟨hj, ?_⟩
          simp only [cellAt, H.row _ hj, hq, Option.bind_some, if_pos hh, hel, hz]
        · simp at hc
      · simp at hc
  · simp at hc
theorem evNest_sim {f : Rn} {σ τ : St} (H : Sim f σ τ) {o : Oper} {m : List Oper} {σ'} (h : evNest P K F n ops o m σ = some σ') : ∃ f' τ', evNest P K F n ops o m τ = some τ' ∧ Sim f' σ' τ' ∧ Wid f f' := by
  unfold evNest at h ⊢
  split at h
  · rename_i t a d h1 h2 h3
    simp only [Option.bind_eq_some_iff] at h
    obtain ⟨⟨j, i, c, q, el, x⟩, h4, s, h5, h⟩ := h
    simp only at h
    split at h
    case isFalse => simp at h
    rename_i hc
    obtain ⟨hj, h6⟩ := cellAt_sim H.h (ev_sim H a) h4
    simp only [h1, h2, h3, h6, Option.bind_some, Option.bind_eq_some_iff.2 h5, if_pos hc]
    cases x with
    | nil =>
      simp only at h ⊢
      obtain ⟨σ2, h7, rfl⟩ := Option.map_eq_some_iff.1 h
      obtain ⟨f1, H1, w1⟩ := noRow_sim H.h
      obtain ⟨f2, τ2, g2, H2, w2⟩ := evOps_sim m (put_sim w1 H H1 (some d) (.c (.r []))) h7
      exact ⟨f2, _, by rw [show (⟨st τ.ts d (.c (.r [])), τ.bx, τ.rw ++ [none]⟩ : St) = putT τ.ts { τ with rw := τ.rw ++ [none] } (some d) (.c (.r [])) from rfl, g2]; rfl, st_no_sim H2 d, w1.trans w2⟩
    | cons e0 x1 =>
      simp only at h ⊢
      split at h
      case isFalse => simp at h
      rename_i hf
      rw [if_pos hf]
      obtain ⟨σ2, h7, h8⟩ := Option.bind_eq_some_iff.1 h
      have H0 := setRow_sim H.h hj none
      obtain ⟨f1, H1, w1, t1⟩ := newRow_sim H0 ⟨s, e0 :: x1, true, .of (K.dp t)⟩
      have hl : ∀ (σ : St) (j : Nat), (setRow σ j none).rw.length = σ.rw.length := fun σ j => by simp [setRow]
      have t2 : TR f1 (.row σ.rw.length) (.row τ.rw.length) := by
        have : TR f1 (.row (setRow σ j none).rw.length) (.row (setRow τ (f.r j) none).rw.length) := t1
        rwa [hl, hl] at this
      have hk : σ.rw.length < f1.nr ∧ f1.r σ.rw.length = τ.rw.length := by
        generalize hx : T.row σ.rw.length = x at t2
        generalize hy : T.row τ.rw.length = y at t2
        cases t2 <;> simp only [T.row.injEq, reduceCtorEq] at hx hy
        rename_i i hi
        subst hx; exact ⟨hi, hy.symm⟩
      obtain ⟨f2, τ2, g2, H2, w2⟩ := evOps_sim m (put_sim (σ1 := (newRow (setRow σ j none) ⟨s, e0 :: x1, true, .of (K.dp t)⟩).2) (τ1 := (newRow (setRow τ (f.r j) none) ⟨s, e0 :: x1, true, .of (K.dp t)⟩).2) w1 H H1 (some d) t2) h7
      have g2' : evOps P K F n ops m ⟨st τ.ts d (.row τ.rw.length), τ.bx, (setRow τ (f.r j) none).rw ++ [some ⟨s, e0 :: x1, true, .of (K.dp t)⟩]⟩ = some τ2 := g2
      rw [g2']
      simp only [Option.bind_some]
      unfold joinS at h8 ⊢
      obtain ⟨r, h9, h8⟩ := Option.bind_eq_some_iff.1 h8
      split at h8
      case isFalse => simp at h8
      rename_i hr
      simp only [Option.some.injEq] at h8
      subst h8
      have hk2 : σ.rw.length < f2.nr := Nat.lt_of_lt_of_le hk.1 w2.nr
      have ek : f2.r σ.rw.length = τ.rw.length := (w2.r _ hk.1).trans hk.2
      have hj2 : j < f2.nr := Nat.lt_of_lt_of_le hj (Nat.le_trans w1.nr w2.nr)
      have ej : f2.r j = f.r j := (w2.r _ (Nat.lt_of_lt_of_le hj w1.nr)).trans (w1.r _ hj)
      have h10 := H2.h.row _ hk2
      rw [ek, h9] at h10
      rw [h10]
      simp only [Option.bind_some, if_pos hr]
      refine ⟨f2, _, rfl, ?_, w1.trans w2⟩
      have H3 := setRow_sim (setRow_sim H2.h hk2 none) hj2 (some { q with l := q.l.set i (el.set c (.r r.l)) })
      rw [ek, ej] at H3
      exact put_sim (.refl f2) H2 H3 (some d) (.no _)
  · simp at h
theorem evSeq_sim : ∀ (l : List Oper) {f : Rn} {σ τ : St}, Sim f σ τ → ∀ {σ'}, evSeq P K F n ops l σ = some σ' → ∃ f' τ', evSeq P K F n ops l τ = some τ' ∧ Sim f' σ' τ' ∧ Wid f f'
  | [], f, σ, τ, H, σ', h => by simp only [evSeq, Option.some.injEq] at h; subst h; exact ⟨f, τ, rfl, H, .refl f⟩
  | o :: l, f, σ, τ, H, σ', h => by
    rw [evSeq] at h ⊢
    split at h
    · rename_i σ1 h1
      obtain ⟨f1, τ1, g1, H1, e1⟩ := evOps_sim _ H h1
      obtain ⟨f2, τ2, g2, H2, e2⟩ := evSeq_sim l H1 h
      exact ⟨f2, τ2, by rw [g1]; exact g2, H2, e1.trans e2⟩
    · obtain ⟨σ1, h1, h2⟩ := Option.bind_eq_some_iff.1 h
      obtain ⟨f1, τ1, g1, H1, e1⟩ := evNest_sim H h1
      obtain ⟨f2, τ2, g2, H2, e2⟩ := evOps_sim _ H1 h2
      obtain ⟨t, x, d, ho, hg, hd, p, hp⟩ := evNest_load g1
      exact ⟨f2, τ2, by rw [nest_stuck ho hg hp]; simp only [g1, Option.bind_some]; exact g2, H2, e1.trans e2⟩

/-! logs -/
def EnR (f : Rn) (o : Oper) : Entry → Entry → Prop
  | none, none => True
  | some (rd, wr, nb, nr), some (rd', wr', nb', nr') => (hangs o.op = true → rd' = rd.map f.l ∧ ∀ x ∈ rd, InL f x) ∧ (still o.op = false → wr' = wr.map f.l ∧ ∀ x ∈ wr, InL f x) ∧ ∀ x, inRange x nb nr = true → InL f x ∧ inRange (f.l x) nb' nr' = true
  | _, _ => False
theorem EnR.ext {f g : Rn} (e : Wid f g) {o : Oper} {a b : Entry} (h : EnR f o a b) : EnR g o a b := by
  cases a with
  | none => cases b with
    | none => trivial
    | some b => exact h.elim
  | some a => cases b with
    | none => exact h.elim
    | some b =>
      obtain ⟨rd, wr, nb, nr⟩ := a
      obtain ⟨rd', wr', nb', nr'⟩ := b
      obtain ⟨h1, h2, h3⟩ := h
      refine ⟨fun h => ?_, fun h => ?_, fun x hx => ?_⟩
      · obtain ⟨a, b⟩ := h1 h
        exact ⟨by rw [a, List.map_congr_left fun x hx => (wid_l e (b x hx)).symm], fun x hx => wid_in e (b x hx)⟩
      · obtain ⟨a, b⟩ := h2 h
        exact ⟨by rw [a, List.map_congr_left fun x hx => (wid_l e (b x hx)).symm], fun x hx => wid_in e (b x hx)⟩
      · obtain ⟨a, b⟩ := h3 x hx
        exact ⟨wid_in e a, by rw [wid_l e a]; exact b⟩
theorem refs_sim {f : Rn} {x y : T} (h : TR f x y) (hn : x ≠ .no) : refs y = (refs x).map f.l ∧ ∀ z ∈ refs x, InL f z := by
  cases h with
  | no y => exact absurd rfl hn
  | row i h => exact ⟨rfl, by simp [refs, InL, h]⟩
  | sl i lo hi h => exact ⟨rfl, by simp [refs, InL, h]⟩
  | bp b o h => exact ⟨rfl, by simp [refs, InL, h]⟩
  | rp i k o h => exact ⟨rfl, by simp [refs, InL, h]⟩
  | _ => exact ⟨rfl, by simp [refs]⟩
def Seen (x : T) : Prop := x ≠ .no ∧ ∀ l, x = .ag l → ∀ z ∈ l, z ≠ .no
theorem rowRefs_sim {f : Rn} {x y : T} (h : TR f x y) (hn : x ≠ .no) : rowRefs y = (rowRefs x).map f.l ∧ ∀ z ∈ rowRefs x, InL f z := by
  cases h with
  | no x => exact absurd rfl hn
  | row i hi => exact ⟨rfl, fun z hz => by simp [rowRefs] at hz; subst hz; exact hi⟩
  | sl i lo hi' hi => exact ⟨rfl, fun z hz => by simp [rowRefs] at hz; subst hz; exact hi⟩
  | _ => exact ⟨rfl, by simp [rowRefs]⟩
theorem agR_sim {f : Rn} {l m : List T} (h : All2 (TR f) l m) (hn : ∀ x ∈ l, x ≠ .no) : agR m = (agR l).map f.l ∧ ∀ z ∈ agR l, InL f z := by
  induction h with
  | nil => exact ⟨rfl, by simp [agR]⟩
  | cons h _ ih =>
    obtain ⟨a1, a2⟩ := rowRefs_sim h (hn _ (by simp))
    obtain ⟨b1, b2⟩ := ih fun x hx => hn x (by simp [hx])
    simp only [agR] at b1 b2 ⊢
    simp only [List.flatMap_cons, List.map_append, List.mem_append]
    exact ⟨by rw [a1, b1], fun z hz => hz.elim (a2 z) (b2 z)⟩
theorem refsW_sim {f : Rn} {x y : T} (h : TR f x y) (hn : x ≠ .no) (hl : ∀ l, x = .ag l → ∀ z ∈ l, z ≠ .no) : refsW y = (refsW x).map f.l ∧ ∀ z ∈ refsW x, InL f z := by
  cases h with
  | ag h => exact agR_sim h (hl _ rfl)
  | no x => exact absurd rfl hn
  | c x => exact refs_sim (.c x) hn
  | nil => exact refs_sim .nil hn
  | row i hi => exact refs_sim (.row i hi) hn
  | sl i lo hi' hi => exact refs_sim (.sl i lo hi' hi) hn
  | bp b o hb => exact refs_sim (.bp b o hb) hn
  | rp i k o hi => exact refs_sim (.rp i k o hi) hn
  | cp l o => exact refs_sim (.cp l o) hn
  | tu h => exact refs_sim (.tu h) hn
  | fn g bs hb => exact refs_sim (.fn g bs hb) hn
theorem agR_b : ∀ (l : List T) (b : Nat), Lend.b b ∉ agR l := by
  intro l b h
  obtain ⟨x, _, h2⟩ := List.mem_flatMap.1 h
  cases x <;> simp [rowRefs] at h2
theorem argRefs_sim {f : Rn} {x y : T} (h : TR f x y) (hn : Seen x) : argRefs y = (argRefs x).map f.l ∧ ∀ z ∈ argRefs x, InL f z := by
  cases h with
  | fn g bs h =>
    refine ⟨by simp only [argRefs, List.map_map]; rfl, fun z hz => ?_⟩
    simp only [argRefs, List.mem_map] at hz
    obtain ⟨b, hb, rfl⟩ := hz
    exact h b hb
  | no y => exact absurd rfl hn.1
  | c x => exact refs_sim (.c x) (by simp)
  | nil => exact refs_sim .nil (by simp)
  | row i h => exact refs_sim (.row i h) (by simp)
  | sl i lo hi h => exact refs_sim (.sl i lo hi h) (by simp)
  | bp b o h => exact refs_sim (.bp b o h) (by simp)
  | rp i k o h => exact refs_sim (.rp i k o h) (by simp)
  | cp l o => exact refs_sim (.cp l o) (by simp)
  | ag h => exact agR_sim h (hn.2 _ rfl)
  | tu h => exact refs_sim (.tu h) (by simp)
theorem flatMap_sim {α : Type} {f : Rn} {g g' : α → List Lend} : ∀ (l : List α), (∀ x ∈ l, g' x = (g x).map f.l ∧ ∀ z ∈ g x, InL f z) → l.flatMap g' = (l.flatMap g).map f.l ∧ ∀ z ∈ l.flatMap g, InL f z
  | [], _ => ⟨rfl, by simp⟩
  | x :: l, h => by
    obtain ⟨h1, h2⟩ := h x (by simp)
    obtain ⟨h3, h4⟩ := flatMap_sim l fun y hy => h y (by simp [hy])
    refine ⟨by simp only [List.flatMap_cons, h1, h3, List.map_append], fun z hz => ?_⟩
    simp only [List.flatMap_cons, List.mem_append] at hz
    rcases hz with hz | hz
    · exact h2 z hz
    · exact h4 z hz
theorem give_no {σ : St} {x : T} {r} (h : give σ x = some r) : x ≠ .no := by rintro rfl; simp [give] at h
theorem give_bx {σ : St} {x : T} {c σ'} (h : give σ x = some (c, σ')) : σ'.bx = σ.bx := by
  cases x <;> simp only [give, reduceCtorEq, Option.some.injEq, Prod.mk.injEq, Option.map_eq_some_iff] at h
  · rw [← h.2]
  · rw [← h.2]
  · obtain ⟨r, _, _, rfl⟩ := h; split <;> rfl
  · split at h
    · simp at h
    simp only [Option.map_eq_some_iff, Prod.mk.injEq] at h
    obtain ⟨r, _, _, rfl⟩ := h; split <;> rfl
theorem gives_no : ∀ {l : List T} {σ : St} {c σ'}, gives σ l = some (c, σ') → (∀ x ∈ l, x ≠ .no) ∧ σ'.bx = σ.bx
  | [], σ, c, σ', h => by simp only [gives, Option.some.injEq, Prod.mk.injEq] at h; exact ⟨by simp, by rw [← h.2]⟩
  | x :: l, σ, c, σ', h => by
    simp only [gives, Option.bind_eq_some_iff, Option.map_eq_some_iff] at h
    obtain ⟨⟨c1, σ1⟩, h1, ⟨cs, σ2⟩, h2, h3⟩ := h
    simp only [Prod.mk.injEq] at h3
    obtain ⟨rfl, rfl⟩ := h3
    obtain ⟨a, b⟩ := gives_no h2
    refine ⟨fun y hy => ?_, by rw [b, give_bx h1]⟩
    rcases List.mem_cons.1 hy with rfl | hy
    · exact give_no h1
    · exact a y hy
theorem lendAll_no : ∀ {ls : List Lend} {σ : St} {cs σ'}, lendAll σ ls = some (cs, σ') → ∀ b, .b b ∈ ls → ∃ l, boxAt σ b = some l ∧ ∀ x ∈ l, x ≠ .no
  | [], _, _, _, _, _, hb => by simp at hb
  | .b b0 :: ls, σ, cs, σ', h, b, hb => by
    simp only [lendAll, Option.bind_eq_some_iff, Option.map_eq_some_iff] at h
    obtain ⟨l, h1, ⟨x, σ1⟩, h2, ⟨xs, σ2⟩, h3, h4⟩ := h
    obtain ⟨g1, g2⟩ := gives_no h2
    by_cases e : b0 = b
    · subst e; exact ⟨l, h1, g1⟩
    · have hb' : Lend.b b ∈ ls := by
        rcases List.mem_cons.1 hb with h | h
        · simp only [Lend.b.injEq] at h; exact absurd h.symm e
        · exact h
      obtain ⟨m, h5, h6⟩ := lendAll_no h3 b hb'
      refine ⟨m, ?_, h6⟩
      have : boxAt σ1 b = boxAt (setBox σ b0 none) b := by simp only [boxAt, g2]
      rw [this, boxAt_set, if_neg (fun h => e h.1)] at h5
      exact h5
  | .r i :: ls, σ, cs, σ', h, b, hb => by
    simp only [lendAll, Option.bind_eq_some_iff] at h
    obtain ⟨q, h1, h2⟩ := h
    split at h2
    · obtain ⟨⟨xs, σ2⟩, h3, h4⟩ := Option.map_eq_some_iff.1 h2
      exact lendAll_no (σ := setRow σ i none) h3 b (by simpa using hb)
    · simp at h2
theorem lent_bp (md : Bool) {b : Nat} : ∀ {bs : List Nat}, b ∈ bs → Lend.b b ∈ lentOf md (bs.map (T.bp · 0))
  | c :: bs, h => by
    simp only [List.map_cons, lentOf]
    rcases List.mem_cons.1 h with rfl | h
    · simp
    · exact List.mem_cons_of_mem _ (lent_bp md h)
theorem seen1_no {md : Bool} {σ : St} {y : T} (h : Seen (seen1 md σ y)) : Seen y := by
  cases y <;> try exact h
  case row i => exact ⟨by simp, by simp⟩
  case ag l =>
    cases md with
    | false => exact h
    | true =>
      refine ⟨by simp, fun l' e z hz => ?_⟩
      cases e
      rintro rfl
      exact h.2 _ rfl (seenC σ .no) (List.mem_map.2 ⟨_, hz, rfl⟩) rfl
/-- what a call looks at -/
theorem apply_no {σ : St} {x : T} {args : List T} {r} (h : apply K F σ x args = some r) : (∀ y ∈ x :: args, Seen y) ∧ ∀ y ∈ x :: args, ∀ b, Lend.b b ∈ argRefs y → ∃ l, boxAt σ b = some l ∧ ∀ z ∈ l, z ≠ .no := by
  cases x <;> simp only [apply, reduceCtorEq] at h
  rename_i g bs
  split at h
  · simp only [Option.bind_eq_some_iff] at h
    obtain ⟨⟨cs, σ1⟩, h1, xs, h2, _⟩ := h
    simp only at h2
    have hn := argsA_no _ h2
    have hmem : ∀ {y : T} {b : Nat} {l : List T}, y ∈ l → Lend.b b ∈ argRefs y → Lend.b b ∈ lentOf (K.md g) (l.map (seen1 (K.md g) σ)) := by
      intro y b l
      induction l with
      | nil => intro h; simp at h
      | cons z l ih =>
        intro hy hb
        rcases List.mem_cons.1 hy with rfl | hy
        · cases y with
          | bp b' o => simp only [argRefs, refs, List.mem_singleton] at hb; simp only [List.map_cons, seen1, lentOf]; rw [← hb]; simp
          | fn g' bs' => simp only [argRefs] at hb; simp only [List.map_cons, seen1, lentOf]; exact List.mem_append_left _ hb
          | ag z =>
            simp only [argRefs] at hb
            exact absurd hb (agR_b z b)
          | _ => simp [argRefs, refs] at hb
        · have := ih hy hb
          simp only [List.map_cons]
          generalize seen1 (K.md g) σ z = u
          cases u <;> simp only [lentOf] <;> first | exact this | (split <;> first | exact List.mem_cons_of_mem _ this | exact List.mem_append_right _ this | exact this) | exact List.mem_cons_of_mem _ this | exact List.mem_append_right _ this
    have happ : ∀ (l m : List T), lentOf (K.md g) (l ++ m) = lentOf (K.md g) l ++ lentOf (K.md g) m := by
      intro l m
      induction l with
      | nil => rfl
      | cons z l ih => cases z <;> simp only [List.cons_append, lentOf, ih, List.append_assoc] <;> split <;> simp [ih]
    refine ⟨fun y hy => ?_, fun y hy b hb => ?_⟩
    · rcases List.mem_cons.1 hy with rfl | hy
      · exact ⟨by simp, by simp⟩
      · have hm := List.mem_append_left (bs.map (T.bp · 0)) (List.mem_map.2 ⟨y, hy, rfl⟩ : seen1 (K.md g) σ y ∈ args.map (seen1 (K.md g) σ))
        exact seen1_no ⟨hn _ hm, fun l e => argsA_noI _ h2 _ l e hm⟩
    · refine lendAll_no h1 b ?_
      rw [happ]
      rcases List.mem_cons.1 hy with rfl | hy
      · refine List.mem_append_right _ ?_
        simp only [argRefs, List.mem_map] at hb
        obtain ⟨b', hb', e⟩ := hb
        simp only [Lend.b.injEq] at e; subst e
        exact lent_bp _ hb'
      · exact List.mem_append_left _ (hmem hy hb)
  · simp at h
end Go.SX
