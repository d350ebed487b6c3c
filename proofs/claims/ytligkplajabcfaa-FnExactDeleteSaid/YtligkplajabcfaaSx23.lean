import Derived.Test.YtligkplajabcfaaSx22
set_option linter.unusedVariables false
set_option linter.unusedSimpArgs false
set_option linter.unusedSectionVars false
set_option linter.unusedVariables false
set_option linter.unusedSimpArgs false
namespace Go.SX
variable {P : Program} {K : Cfg} {F : Fun}

/-! a state that knows less: boxes and rows under other names, slots left empty -/
structure Rn where
  b : Nat → Nat
  r : Nat → Nat
  nb : Nat
  nr : Nat

inductive TR (f : Rn) : T → T → Prop
  | no (x : T) : TR f .no x
  | c (x : C) : TR f (.c x) (.c x)
  | nil : TR f .nil .nil
  | row (i : Nat) (h : i < f.nr) : TR f (.row i) (.row (f.r i))
  | sl (i lo hi : Nat) (h : i < f.nr) : TR f (.sl i lo hi) (.sl (f.r i) lo hi)
  | bp (b o : Nat) (h : b < f.nb) : TR f (.bp b o) (.bp (f.b b) o)
  | rp (i k o : Nat) (h : i < f.nr) : TR f (.rp i k o) (.rp (f.r i) k o)
  | cp (l : List C) (o : Nat) : TR f (.cp l o) (.cp l o)
  | ag {l m : List T} (h : All2 (TR f) l m) : TR f (.ag l) (.ag m)
  | tu {l m : List T} (h : All2 (TR f) l m) : TR f (.tu l) (.tu m)
  | fn (g : FuncId) (bs : List Nat) (h : ∀ b, b ∈ bs → b < f.nb) : TR f (.fn g bs) (.fn g (bs.map f.b))

structure HR (f : Rn) (σ τ : St) : Prop where
  nb : f.nb = σ.bx.length
  nr : f.nr = σ.rw.length
  bi : ∀ i j, i < f.nb → j < f.nb → f.b i = f.b j → i = j
  ri : ∀ i j, i < f.nr → j < f.nr → f.r i = f.r j → i = j
  bl : ∀ i, i < f.nb → f.b i < τ.bx.length
  rl : ∀ i, i < f.nr → f.r i < τ.rw.length
  row : ∀ i, i < f.nr → rowAt τ (f.r i) = rowAt σ i
  box : ∀ i l, boxAt σ i = some l → ∃ m, boxAt τ (f.b i) = some m ∧ All2 (TR f) l m

structure Wid (f g : Rn) : Prop where
  nb : f.nb ≤ g.nb
  nr : f.nr ≤ g.nr
  b : ∀ i, i < f.nb → g.b i = f.b i
  r : ∀ i, i < f.nr → g.r i = f.r i
theorem Wid.refl (f : Rn) : Wid f f := ⟨Nat.le_refl _, Nat.le_refl _, fun _ _ => rfl, fun _ _ => rfl⟩
theorem Wid.trans {f g h : Rn} (a : Wid f g) (b : Wid g h) : Wid f h :=
  ⟨Nat.le_trans a.nb b.nb, Nat.le_trans a.nr b.nr, fun i hi => by rw [b.b i (Nat.lt_of_lt_of_le hi a.nb), a.b i hi], fun i hi => by rw [b.r i (Nat.lt_of_lt_of_le hi a.nr), a.r i hi]⟩
mutual
theorem TR.ext {f g : Rn} (e : Wid f g) : ∀ (x : T) {y : T}, TR f x y → TR g x y
  | .no, _, .no x => .no x
  | .c x, _, .c _ => .c x
  | .nil, _, .nil => .nil
  | .row i, _, .row _ h => by rw [← e.r i h]; exact .row i (Nat.lt_of_lt_of_le h e.nr)
  | .sl i lo hi, _, .sl _ _ _ h => by rw [← e.r i h]; exact .sl i lo hi (Nat.lt_of_lt_of_le h e.nr)
  | .bp b o, _, .bp _ _ h => by rw [← e.b b h]; exact .bp b o (Nat.lt_of_lt_of_le h e.nb)
  | .rp i k o, _, .rp _ _ _ h => by rw [← e.r i h]; exact .rp i k o (Nat.lt_of_lt_of_le h e.nr)
  | .cp l o, _, .cp _ _ => .cp l o
  | .ag l, _, .ag h => .ag (TRs.ext e l h)
  | .tu l, _, .tu h => .tu (TRs.ext e l h)
  | .fn k bs, _, .fn _ _ h => by
    rw [← List.map_congr_left (fun b hb => e.b b (h b hb))]; exact .fn k bs fun b hb => Nat.lt_of_lt_of_le (h b hb) e.nb
theorem TRs.ext {f g : Rn} (e : Wid f g) : ∀ (l : List T) {m : List T}, All2 (TR f) l m → All2 (TR g) l m
  | [], _, .nil => .nil
  | x :: l, _, .cons h t => .cons (TR.ext e x h) (TRs.ext e l t)
end

variable {f : Rn} {σ τ : St}

theorem elems_sim (H : HR f σ τ) {x y : T} (h : TR f x y) {l} (hl : elems σ x = some l) : elems τ y = some l := by
  cases h with
  | c x => cases x <;> exact hl
  | row i hi => simp only [elems] at hl ⊢; rw [H.row i hi]; exact hl
  | sl i lo hi' hi => simp only [elems] at hl ⊢; rw [H.row i hi]; exact hl
  | no x => simp [elems] at hl
  | nil => exact hl
  | _ => simp [elems] at hl
theorem view_sim (H : HR f σ τ) {x y : T} (h : TR f x y) {c} (hl : view σ x = some c) : view τ y = some c := by
  have key : ∀ {x y : T}, TR f x y → (elems σ x).map C.r = some c → (elems τ y).map C.r = some c := by
    intro x y h h1
    obtain ⟨l, h1, h2⟩ := Option.map_eq_some_iff.1 h1
    rw [elems_sim H h h1]; exact congrArg some h2
  cases h with
  | c x => exact hl
  | no x => simp [view, elems] at hl
  | nil => exact key .nil hl
  | row i h => exact key (.row i h) hl
  | sl i lo hi h => exact key (.sl i lo hi h) hl
  | bp b o h => exact key (.bp b o h) hl
  | rp i k o h => exact key (.rp i k o h) hl
  | cp l o => exact key (.cp l o) hl
  | ag h => exact key (.ag h) hl
  | tu h => exact key (.tu h) hl
  | fn g bs h => exact key (.fn g bs h) hl
theorem views_sim (H : HR f σ τ) : ∀ {l m : List T}, All2 (TR f) l m → ∀ {cs}, views σ l = some cs → views τ m = some cs
  | _, _, .nil, cs, h => h
  | _, _, .cons hx t, cs, h => by
    simp only [views, Option.bind_eq_some_iff, Option.map_eq_some_iff] at h ⊢
    obtain ⟨c, h1, l, h2, h3⟩ := h
    exact ⟨c, view_sim H hx h1, l, views_sim H t h2, h3⟩
theorem setRow_len (i : Nat) (r : Option Row) : (setRow σ i r).rw.length = σ.rw.length := by simp [setRow]
theorem setBox_len (i : Nat) (r : Option (List T)) : (setBox σ i r).bx.length = σ.bx.length := by simp [setBox]
theorem setRow_sim (H : HR f σ τ) {i : Nat} (hi : i < f.nr) (r : Option Row) : HR f (setRow σ i r) (setRow τ (f.r i) r) where
  nb := H.nb
  nr := by rw [setRow_len]; exact H.nr
  bi := H.bi
  ri := H.ri
  bl := H.bl
  rl := fun j hj => by rw [setRow_len]; exact H.rl j hj
  row := fun j hj => by
    rw [rowAt_setH, rowAt_setH]
    by_cases e : i = j
    · subst e
      rw [if_pos ⟨rfl, H.rl i hi⟩, if_pos ⟨rfl, by rw [← H.nr]; exact hi⟩]
    · rw [if_neg (fun h => e (H.ri _ _ hi hj h.1)), if_neg (fun h => e h.1)]
      exact H.row j hj
  box := H.box
theorem setBox_sim (H : HR f σ τ) {i : Nat} (hi : i < f.nb) {l m : List T} (h : All2 (TR f) l m) : HR f (setBox σ i (some l)) (setBox τ (f.b i) (some m)) where
  nb := by rw [setBox_len]; exact H.nb
  nr := H.nr
  bi := H.bi
  ri := H.ri
  bl := fun j hj => by rw [setBox_len]; exact H.bl j hj
  rl := H.rl
  row := H.row
  box := fun j k hk => by
    rw [boxAt_set] at hk ⊢
    by_cases e : i = j
    · subst e
      rw [if_pos ⟨rfl, by rw [← H.nb]; exact hi⟩] at hk
      rw [if_pos ⟨rfl, H.bl i hi⟩]
      simp only [Option.some.injEq] at hk; subst hk
      exact ⟨m, rfl, h⟩
    · rw [if_neg (fun h => e h.1)] at hk
      have hj : j < f.nb := by rw [H.nb]; exact boxAt_lt hk
      rw [if_neg (fun h => e (H.bi _ _ hi hj h.1))]
      exact H.box j k hk
theorem setBoxN_sim (H : HR f σ τ) {i : Nat} (hi : i < f.nb) : HR f (setBox σ i none) (setBox τ (f.b i) none) where
  nb := by rw [setBox_len]; exact H.nb
  nr := H.nr
  bi := H.bi
  ri := H.ri
  bl := fun j hj => by rw [setBox_len]; exact H.bl j hj
  rl := H.rl
  row := H.row
  box := fun j k hk => by
    rw [boxAt_set] at hk ⊢
    by_cases e : i = j
    · subst e
      rw [if_pos ⟨rfl, by rw [← H.nb]; exact hi⟩] at hk
      simp at hk
    · rw [if_neg (fun h => e h.1)] at hk
      have hj : j < f.nb := by rw [H.nb]; exact boxAt_lt hk
      rw [if_neg (fun h => e (H.bi _ _ hi hj h.1))]
      exact H.box j k hk
theorem demote_sim (H : HR f σ τ) {x y : T} (h : TR f x y) (hx : x ≠ .no) : HR f (demote σ x) (demote τ y) := by
  cases h <;> simp only [demote] <;> try exact H
  · exact absurd rfl hx
  · rename_i i hi
    rw [H.row i hi]
    cases hr : rowAt σ i with
    | none => exact H
    | some r => exact setRow_sim H hi _
  · rename_i i lo hi' hi
    rw [H.row i hi]
    cases hr : rowAt σ i with
    | none => exact H
    | some r => exact setRow_sim H hi _
theorem demotes_sim : ∀ {l m : List T} {σ τ : St}, HR f σ τ → All2 (TR f) l m → (∀ x ∈ l, x ≠ .no) → HR f (demotes σ l) (demotes τ m)
  | _, _, _, _, H, .nil, _ => H
  | _, _, _, _, H, .cons h t, hn => by
    simp only [demotes, List.foldl_cons]
    exact demotes_sim (demote_sim H h (hn _ (by simp))) t fun x hx => hn x (by simp [hx])
theorem view_no {x : T} {c} (h : view σ x = some c) : x ≠ .no := by rintro rfl; simp [view, elems] at h
theorem views_no : ∀ {l : List T} {cs}, views σ l = some cs → ∀ x ∈ l, x ≠ .no
  | [], _, _, _, hx => by simp at hx
  | y :: l, cs, h, x, hx => by
    simp only [views, Option.bind_eq_some_iff, Option.map_eq_some_iff] at h
    obtain ⟨c, h1, m, h2, _⟩ := h
    rcases List.mem_cons.1 hx with rfl | hx
    · exact view_no h1
    · exact views_no h2 x hx
theorem deep_sim (H : HR f σ τ) {x y : T} (h : TR f x y) (hx : x ≠ .no) : deepT τ y = deepT σ x := by
  cases h with
  | row i hi => simp only [deepT, H.row i hi]
  | sl i lo hi' hi => simp only [deepT, H.row i hi]
  | no x => exact absurd rfl hx
  | _ => rfl
theorem give_sim (H : HR f σ τ) {x y : T} (h : TR f x y) {c σ'} (hg : give σ x = some (c, σ')) : ∃ τ', give τ y = some (c, τ') ∧ HR f σ' τ' := by
  cases h <;> simp only [give, reduceCtorEq, Option.some.injEq, Prod.mk.injEq, Option.map_eq_some_iff] at hg ⊢
  · obtain ⟨h1, rfl⟩ := hg; exact ⟨τ, ⟨h1, rfl⟩, H⟩
  · obtain ⟨h1, rfl⟩ := hg; exact ⟨τ, ⟨h1, rfl⟩, H⟩
  · rename_i i hi
    obtain ⟨r, hr, h1, rfl⟩ := hg
    rw [H.row i hi]
    cases ho : r.ow with
    | true => exact ⟨_, ⟨r, hr, h1, rfl⟩, by simp only [ho, if_true]; exact setRow_sim H hi none⟩
    | false => exact ⟨_, ⟨r, hr, h1, rfl⟩, by simp only [ho, Bool.false_eq_true, if_false]; exact H⟩
  · rename_i i lo hi' hi
    have hd := deep_sim H (.sl i lo hi' hi) (by simp)
    rw [hd]
    split at hg
    · simp at hg
    rename_i hdd
    rw [if_neg hdd]
    simp only [Option.map_eq_some_iff, Prod.mk.injEq] at hg ⊢
    obtain ⟨r, hr, h1, rfl⟩ := hg
    rw [H.row i hi]
    cases ho : r.ow with
    | true => exact ⟨_, ⟨r, hr, h1, rfl⟩, by simp only [ho, if_true]; exact setRow_sim H hi none⟩
    | false => exact ⟨_, ⟨r, hr, h1, rfl⟩, by simp only [ho, Bool.false_eq_true, if_false]; exact H⟩
theorem gives_sim : ∀ {l m : List T} {σ τ : St}, HR f σ τ → All2 (TR f) l m → ∀ {c σ'}, gives σ l = some (c, σ') → ∃ τ', gives τ m = some (c, τ') ∧ HR f σ' τ'
  | _, _, σ, τ, H, .nil, c, σ', h => by simp only [gives, Option.some.injEq, Prod.mk.injEq] at h; obtain ⟨rfl, rfl⟩ := h; exact ⟨τ, rfl, H⟩
  | _, _, σ, τ, H, .cons hx t, c, σ', h => by
    simp only [gives, Option.bind_eq_some_iff, Option.map_eq_some_iff] at h
    obtain ⟨⟨c1, σ1⟩, h1, ⟨cs, σ2⟩, h2, h3⟩ := h
    obtain ⟨τ1, g1, H1⟩ := give_sim H hx h1
    obtain ⟨τ2, g2, H2⟩ := gives_sim H1 t h2
    simp only [Prod.mk.injEq] at h3
    obtain ⟨rfl, rfl⟩ := h3
    exact ⟨τ2, by simp only [gives, g1, Option.bind_some, g2, Option.map_some], H2⟩
/-- one row more -/
def Rn.addR (f : Rn) (j : Nat) : Rn := { f with r := fun i => if i = f.nr then j else f.r i, nr := f.nr + 1 }
def Rn.addB (f : Rn) (j : Nat) : Rn := { f with b := fun i => if i = f.nb then j else f.b i, nb := f.nb + 1 }
theorem wid_addR (f : Rn) (j : Nat) : Wid f (f.addR j) := ⟨Nat.le_refl _, Nat.le_succ _, fun _ _ => rfl, fun i hi => by simp only [Rn.addR]; rw [if_neg (by omega)]⟩
theorem wid_addB (f : Rn) (j : Nat) : Wid f (f.addB j) := ⟨Nat.le_succ _, Nat.le_refl _, fun i hi => by simp only [Rn.addB]; rw [if_neg (by omega)], fun _ _ => rfl⟩
theorem newRow_sim (H : HR f σ τ) (r : Row) : ∃ f', HR f' (newRow σ r).2 (newRow τ r).2 ∧ Wid f f' ∧ TR f' (newRow σ r).1 (newRow τ r).1 := by
  refine ⟨f.addR τ.rw.length, ?_, wid_addR _ _, ?_⟩
  · have hr : ∀ i, i < f.nr → (f.addR τ.rw.length).r i = f.r i := (wid_addR f _).r
    have hn : (f.addR τ.rw.length).r f.nr = τ.rw.length := by simp [Rn.addR]
    refine ⟨H.nb, by simp [newRow, Rn.addR, H.nr], H.bi, ?_, H.bl, ?_, ?_, ?_⟩
    · intro i j hi hj e
      simp only [Rn.addR] at hi hj
      rcases Nat.lt_or_ge i f.nr with h1 | h1 <;> rcases Nat.lt_or_ge j f.nr with h2 | h2
      · rw [hr i h1, hr j h2] at e; exact H.ri i j h1 h2 e
      · obtain rfl : j = f.nr := by omega
        rw [hr i h1, hn] at e; have := H.rl i h1; omega
      · obtain rfl : i = f.nr := by omega
        rw [hr j h2, hn] at e; have := H.rl j h2; omega
      · omega
    · intro i hi
      simp only [Rn.addR] at hi
      simp only [newRow, List.length_append, List.length_cons, List.length_nil]
      rcases Nat.lt_or_ge i f.nr with h1 | h1
      · rw [hr i h1]; have := H.rl i h1; omega
      · obtain rfl : i = f.nr := by omega
        rw [hn]; omega
    · intro i hi
      simp only [Rn.addR] at hi
      rcases Nat.lt_or_ge i f.nr with h1 | h1
      · rw [hr i h1]
        have := H.row i h1
        simp only [rowAt, rawAt, newRow] at this ⊢
        rw [List.getElem?_append_left (H.rl i h1), List.getElem?_append_left (by rw [← H.nr]; exact h1)]
        exact this
      · obtain rfl : i = f.nr := by omega
        rw [hn]
        simp [rowAt, rawAt, newRow, H.nr]
    · intro i l hl
      obtain ⟨m, h1, h2⟩ := H.box i l hl
      exact ⟨m, h1, TRs.ext (wid_addR _ _) _ h2⟩
  · simp only [newRow, ← H.nr]
    have := TR.row (f := f.addR τ.rw.length) f.nr (by simp [Rn.addR])
    simpa [Rn.addR] using this
theorem newBox_sim (H : HR f σ τ) {l m : List T} (hl : All2 (TR f) l m) : ∃ f', HR f' (newBox σ l).2 (newBox τ m).2 ∧ Wid f f' ∧ TR f' (newBox σ l).1 (newBox τ m).1 := by
  refine ⟨f.addB τ.bx.length, ?_, wid_addB _ _, ?_⟩
  · have hr : ∀ i, i < f.nb → (f.addB τ.bx.length).b i = f.b i := (wid_addB f _).b
    have hn : (f.addB τ.bx.length).b f.nb = τ.bx.length := by simp [Rn.addB]
    refine ⟨by simp [newBox, Rn.addB, H.nb], H.nr, ?_, H.ri, ?_, H.rl, H.row, ?_⟩
    · intro i j hi hj e
      simp only [Rn.addB] at hi hj
      rcases Nat.lt_or_ge i f.nb with h1 | h1 <;> rcases Nat.lt_or_ge j f.nb with h2 | h2
      · rw [hr i h1, hr j h2] at e; exact H.bi i j h1 h2 e
      · obtain rfl : j = f.nb := by omega
        rw [hr i h1, hn] at e; have := H.bl i h1; omega
      · obtain rfl : i = f.nb := by omega
        rw [hr j h2, hn] at e; have := H.bl j h2; omega
      · omega
    · intro i hi
      simp only [Rn.addB] at hi
      simp only [newBox, List.length_append, List.length_cons, List.length_nil]
      rcases Nat.lt_or_ge i f.nb with h1 | h1
      · rw [hr i h1]; have := H.bl i h1; omega
      · obtain rfl : i = f.nb := by omega
        rw [hn]; omega
    · intro i k hk
      have hlt := boxAt_lt hk
      simp only [newBox, List.length_append, List.length_cons, List.length_nil] at hlt
      rcases Nat.lt_or_ge i f.nb with h1 | h1
      · rw [hr i h1]
        simp only [boxAt, newBox] at hk ⊢
        rw [List.getElem?_append_left (by rw [← H.nb]; exact h1)] at hk
        rw [List.getElem?_append_left (H.bl i h1)]
        obtain ⟨m', h1, h2⟩ := H.box i k hk
        exact ⟨m', h1, TRs.ext (wid_addB _ _) _ h2⟩
      · obtain rfl : i = f.nb := by rw [H.nb] at h1 ⊢; omega
        rw [hn]
        simp only [boxAt, newBox, H.nb] at hk ⊢
        simp at hk
        subst hk
        exact ⟨m, by simp, TRs.ext (wid_addB _ _) _ hl⟩
  · simp only [newBox, ← H.nb]
    have := TR.bp (f := f.addB τ.bx.length) f.nb 0 (by simp [Rn.addB])
    simpa [Rn.addB] using this
theorem tell_sim (H : HR f σ τ) (c : C × Option Sz) : ∃ f', HR f' (tell σ c).2 (tell τ c).2 ∧ Wid f f' ∧ TR f' (tell σ c).1 (tell τ c).1 := by
  obtain ⟨c, o⟩ := c
  cases c with
  | s v => exact ⟨f, H, .refl f, .c _⟩
  | r l => cases o with
    | none => exact ⟨f, H, .refl f, .c _⟩
    | some s => exact newRow_sim H _
theorem tells_sim : ∀ (l : Cs) {f : Rn} {σ τ : St}, HR f σ τ → ∃ f', HR f' (tells σ l).2 (tells τ l).2 ∧ Wid f f' ∧ All2 (TR f') (tells σ l).1 (tells τ l).1
  | [], f, σ, τ, H => ⟨f, H, .refl f, .nil⟩
  | c :: l, f, σ, τ, H => by
    obtain ⟨f1, H1, e1, t1⟩ := tell_sim H c
    obtain ⟨f2, H2, e2, t2⟩ := tells_sim l H1
    exact ⟨f2, H2, e1.trans e2, .cons (TR.ext e2 _ t1) t2⟩
theorem tellV_sim (H : HR f σ τ) (a : A) : ∃ f', HR f' (tellV σ a).2 (tellV τ a).2 ∧ Wid f f' ∧ TR f' (tellV σ a).1 (tellV τ a).1 := by
  cases a with
  | c x o => exact tell_sim H (x, o)
  | ag l => obtain ⟨f', h1, h2, h3⟩ := tells_sim l H; exact ⟨f', h1, h2, .ag h3⟩
  | tu l => exact ⟨f, H, .refl f, .no _⟩
  | p l =>
    obtain ⟨f1, h1, e1, t1⟩ := tells_sim l H
    obtain ⟨f2, h2, e2, t2⟩ := newBox_sim h1 t1
    exact ⟨f2, h2, e1.trans e2, t2⟩
  | f g l =>
    have key : ∀ (l : List Cs) {f : Rn} {σ τ : St} (bs : List Nat), HR f σ τ → (∀ b, b ∈ bs → b < f.nb) →
        ∃ f', HR f' (l.foldl (fun (p : List Nat × St) c => (p.1 ++ [p.2.bx.length], (newBox (tells p.2 c).2 (tells p.2 c).1).2)) (bs, σ)).2 (l.foldl (fun (p : List Nat × St) c => (p.1 ++ [p.2.bx.length], (newBox (tells p.2 c).2 (tells p.2 c).1).2)) (bs.map f.b, τ)).2 ∧ Wid f f' ∧
          (∀ b, b ∈ (l.foldl (fun (p : List Nat × St) c => (p.1 ++ [p.2.bx.length], (newBox (tells p.2 c).2 (tells p.2 c).1).2)) (bs, σ)).1 → b < f'.nb) ∧
          (l.foldl (fun (p : List Nat × St) c => (p.1 ++ [p.2.bx.length], (newBox (tells p.2 c).2 (tells p.2 c).1).2)) (bs.map f.b, τ)).1 = (l.foldl (fun (p : List Nat × St) c => (p.1 ++ [p.2.bx.length], (newBox (tells p.2 c).2 (tells p.2 c).1).2)) (bs, σ)).1.map f'.b := by
      intro l
      induction l with
      | nil => intro f σ τ bs H hb; exact ⟨f, H, .refl f, hb, rfl⟩
      | cons c l ih =>
        intro f σ τ bs H hb
        obtain ⟨f1, h1, e1, t1⟩ := tells_sim c H
        obtain ⟨f2, h2, e2, t2⟩ := newBox_sim h1 t1
        have e := e1.trans e2
        have hlen : ∀ (σ : St) (c : Cs), (tells σ c).2.bx.length = σ.bx.length := by
          intro σ c
          induction c generalizing σ with
          | nil => rfl
          | cons c cs ih =>
            simp only [tells]
            rw [ih]
            obtain ⟨c, o⟩ := c
            cases c with
            | s v => rfl
            | r l => cases o <;> rfl
        have hb2 : ∀ b, b ∈ bs ++ [σ.bx.length] → b < f2.nb := by
          intro b hb'
          rcases List.mem_append.1 hb' with h | h
          · exact Nat.lt_of_lt_of_le (hb b h) e.nb
          · simp only [List.mem_singleton] at h
            subst h
            have := h2.nb
            simp only [newBox, List.length_append, List.length_cons, List.length_nil, hlen] at this
            omega
        obtain ⟨f3, h3, e3, hb3, hm3⟩ := ih (bs ++ [σ.bx.length]) h2 hb2
        have hmap : (bs ++ [σ.bx.length]).map f2.b = bs.map f.b ++ [τ.bx.length] := by
          rw [List.map_append, List.map_congr_left (fun b h => e.b b (hb b h))]
          congr 1
          simp only [List.map_cons, List.map_nil, List.cons.injEq, and_true]
          simp only [newBox] at t2
          rw [hlen, hlen] at t2
          generalize τ.bx.length = k at t2
          generalize σ.bx.length = j at t2
          cases t2
          rfl
        simp only [List.foldl_cons]
        rw [hmap] at h3 hm3
        exact ⟨f3, h3, e.trans e3, hb3, hm3⟩
    obtain ⟨f', h1, e, h2, h3⟩ := key l [] H (by simp)
    refine ⟨f', h1, e, ?_⟩
    simp only [tellV]
    simp only [List.map_nil] at h3
    rw [h3]
    exact .fn g _ h2
end Go.SX
