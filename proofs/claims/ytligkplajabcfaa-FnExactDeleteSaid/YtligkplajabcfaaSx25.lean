import Derived.Test.YtligkplajabcfaaSx24
set_option linter.unusedVariables false
set_option linter.unusedSimpArgs false
set_option linter.unusedSectionVars false
set_option linter.unusedVariables false
set_option linter.unusedSimpArgs false
namespace Go.SX
variable {P : Program} {K : Cfg} {F : Fun} {f : Rn} {σ τ : St}

theorem ofV_refl (v : Value) : TR f (ofV v) (ofV v) := by
  unfold ofV; split
  · exact .no _
  · exact .no _
  · exact .nil
  · exact .c _
theorem constT_refl (v : Value) : TR f (constT v) (constT v) := by
  unfold constT
  split
  · split
    · refine .ag ?_
      rename_i cs _
      generalize cs.toList = l
      induction l with
      | nil => exact .nil
      | cons v l ih => exact .cons (ofV_refl v) ih
    · exact .no _
  · exact ofV_refl _
theorem flat_sim {x y : T} (h : TR f x y) {l} (hl : flat x = some l) : ∃ m, flat y = some m ∧ All2 (TR f) l m := by
  cases h with
  | no x => simp [flat] at hl
  | tu h => simp [flat] at hl
  | ag h => simp only [flat, Option.some.injEq] at hl; subst hl; exact ⟨_, rfl, h⟩
  | c x => simp only [flat, Option.some.injEq] at hl; subst hl; exact ⟨_, rfl, .cons (.c x) .nil⟩
  | nil => simp only [flat, Option.some.injEq] at hl; subst hl; exact ⟨_, rfl, .cons .nil .nil⟩
  | row i h => simp only [flat, Option.some.injEq] at hl; subst hl; exact ⟨_, rfl, .cons (.row i h) .nil⟩
  | sl i lo hi h => simp only [flat, Option.some.injEq] at hl; subst hl; exact ⟨_, rfl, .cons (.sl i lo hi h) .nil⟩
  | bp b o h => simp only [flat, Option.some.injEq] at hl; subst hl; exact ⟨_, rfl, .cons (.bp b o h) .nil⟩
  | rp i k o h => simp only [flat, Option.some.injEq] at hl; subst hl; exact ⟨_, rfl, .cons (.rp i k o h) .nil⟩
  | cp l o => simp only [flat, Option.some.injEq] at hl; subst hl; exact ⟨_, rfl, .cons (.cp l o) .nil⟩
  | fn g bs h => simp only [flat, Option.some.injEq] at hl; subst hl; exact ⟨_, rfl, .cons (.fn g bs h) .nil⟩
theorem consts_sim {z : Value} {l} (hl : flat (constT z) = some l) : All2 (TR f) l l := by
  obtain ⟨m, h1, h2⟩ := flat_sim (f := f) (constT_refl z) hl
  rw [hl] at h1
  simp only [Option.some.injEq] at h1
  subst h1; exact h2
theorem cs_refl (l : List C) : All2 (TR f) (l.map T.c) (l.map T.c) := by
  induction l with
  | nil => exact .nil
  | cons x l ih => exact .cons (.c x) ih
theorem cells_sim (H : HR f σ τ) {x y : T} (h : TR f x y) {l} (hl : cells σ x = some l) : ∃ m, cells τ y = some m ∧ All2 (TR f) l m := by
  cases h <;> simp only [cells, reduceCtorEq] at hl ⊢
  · obtain ⟨k, h1, rfl⟩ := Option.map_eq_some_iff.1 hl
    obtain ⟨m, h2, h3⟩ := H.box _ _ h1
    exact ⟨_, by rw [h2]; rfl, h3.drop _⟩
  · rename_i i k o hi
    rw [H.row i hi, hl]
    refine ⟨l, rfl, ?_⟩
    obtain ⟨q, _, h2⟩ := Option.bind_eq_some_iff.1 hl
    split at h2
    · simp at h2
    obtain ⟨el, _, rfl⟩ := Option.map_eq_some_iff.1 h2
    exact cs_refl _
  · simp only [Option.some.injEq] at hl; subst hl; exact ⟨_, rfl, cs_refl _⟩
def okT : T → Bool
  | .no => false
  | _ => true
theorem seen_ag (l : List T) : seenQ (.ag l) = l.all okT := by
  simp only [seenQ]
  congr 1
theorem no_sim {x y : T} (h : TR f x y) (hx : okT x = true) : okT y = true := by
  cases h <;> first | rfl | simp [okT] at hx
theorem seenQ_sim {x y : T} (h : TR f x y) (hx : seenQ x = true) : seenQ y = true := by
  cases h with
  | ag h =>
    rw [seen_ag] at hx ⊢
    induction h with
    | nil => rfl
    | cons h _ ih =>
      simp only [List.all_cons, Bool.and_eq_true] at hx ⊢
      exact ⟨no_sim h hx.1, ih hx.2⟩
  | no x => simp [seenQ] at hx
  | _ => rfl
theorem dig_sim (H : HR f σ τ) {x y : T} (h : TR f x y) {p} (hd : dig σ x = some p) : ∃ τ', dig τ y = some (p.1, τ') ∧ HR f p.2 τ' := by
  cases h <;> simp only [dig, reduceCtorEq] at hd ⊢
  · rename_i c
    cases c with
    | s v => simp only [dig, Option.some.injEq] at hd ⊢; subst hd; exact ⟨τ, rfl, H⟩
    | r l => simp [dig] at hd
  · simp only [Option.some.injEq] at hd ⊢; subst hd; exact ⟨τ, rfl, H⟩
  · rename_i i hi
    rw [H.row i hi]
    obtain ⟨q, h1, hd⟩ := Option.bind_eq_some_iff.1 hd
    rw [h1]; simp only [Option.bind_some]
    split at hd
    · rename_i hc
      rw [if_pos hc]
      simp only [Option.some.injEq] at hd; subst hd
      exact ⟨_, rfl, setRow_sim H hi none⟩
    · simp at hd
theorem digs_sim : ∀ {l m : List T} {σ τ : St}, HR f σ τ → All2 (TR f) l m → ∀ {p}, digs σ l = some p → ∃ τ', digs τ m = some (p.1, τ') ∧ HR f p.2 τ'
  | _, _, σ, τ, H, .nil, p, h => by simp only [digs, Option.some.injEq] at h ⊢; subst h; exact ⟨τ, rfl, H⟩
  | _, _, σ, τ, H, .cons hx t, p, h => by
    simp only [digs] at h ⊢
    obtain ⟨p1, h1, h⟩ := Option.bind_eq_some_iff.1 h
    obtain ⟨p2, h2, rfl⟩ := Option.map_eq_some_iff.1 h
    obtain ⟨τ1, g1, H1⟩ := dig_sim H hx h1
    obtain ⟨τ2, g2, H2⟩ := digs_sim H1 t h2
    exact ⟨τ2, by rw [g1]; simp only [Option.bind_some, g2, Option.map_some], H2⟩
theorem thaw_sim (H : HR f σ τ) {x y : T} (h : TR f x y) (hn : x ≠ .no) : HR f (thaw σ x) (thaw τ y) := by
  have key : ∀ {i : Nat}, i < f.nr → HR f (match rowAt σ i with | some r => setRow σ i (some { r with dp := .f }) | none => σ) (match rowAt τ (f.r i) with | some r => setRow τ (f.r i) (some { r with dp := .f }) | none => τ) := by
    intro i hi
    rw [H.row i hi]
    split
    · exact setRow_sim H hi _
    · exact H
  cases h <;> simp only [thaw] <;> first | exact H | exact absurd rfl hn | exact key (by assumption)
theorem splice_sim {l l' n n' : List T} (h1 : All2 (TR f) l l') (h2 : All2 (TR f) n n') {o : Nat} {r} (h : splice l o n = some r) : ∃ r', splice l' o n' = some r' ∧ All2 (TR f) r r' := by
  unfold splice at h ⊢
  rw [h1.len, h2.len] at h
  split at h
  · rename_i hc
    simp only [Option.some.injEq] at h; subst h
    exact ⟨_, if_pos hc, ((h1.take o).append h2).append (h1.drop _)⟩
  · simp at h
theorem fillT_sim {place : Nat → Option (Nat × Nat)} : ∀ {ps qs : List (Nat × T)}, All2 (fun p q => p.1 = q.1 ∧ TR f p.2 q.2) ps qs → ∀ {cs cs' : List T}, All2 (TR f) cs cs' → ∀ {r}, fillT place cs ps = some r → ∃ r', fillT place cs' qs = some r' ∧ All2 (TR f) r r'
  | _, _, .nil, cs, cs', hc, r, h => by simp only [fillT, Option.some.injEq] at h; subst h; exact ⟨_, rfl, hc⟩
  | (i, x) :: _, (j, y) :: _, .cons hx t, cs, cs', hc, r, h => by
    obtain ⟨e, hx⟩ := hx
    simp only at e hx; subst e
    simp only [fillT, Option.bind_eq_some_iff] at h
    obtain ⟨⟨off, size⟩, h1, fl, h2, h3⟩ := h
    obtain ⟨m, h4, h5⟩ := flat_sim hx h2
    simp only at h3
    split at h3
    · rename_i hs
      obtain ⟨cs1, h6, h7⟩ := Option.bind_eq_some_iff.1 h3
      obtain ⟨cs2, h8, h9⟩ := splice_sim hc h5 h6
      obtain ⟨r', h10, h11⟩ := fillT_sim t h9 h7
      refine ⟨r', ?_, h11⟩
      simp only [fillT, h1, Option.bind_some, h4]
      rw [if_pos (by rw [← h5.len]; exact hs), h8]; exact h10
    · simp at h3
theorem eqFs_sim {g : TypeId → List T → List T → Option Bool} (hg : ∀ t {l l' m m' : List T} {b}, All2 (TR f) l l' → All2 (TR f) m m' → g t l m = some b → g t l' m' = some b) {l l' m m' : List T} (h1 : All2 (TR f) l l') (h2 : All2 (TR f) m m') : ∀ (fs : List Field) {b}, eqFs P g l m fs = some b → eqFs P g l' m' fs = some b
  | [], b, h => h
  | fd :: fs, b, h => by
    simp only [eqFs] at h ⊢
    split at h
    · simp at h
    · rename_i hn
      rw [if_neg hn]
      obtain ⟨a, ha, h⟩ := Option.bind_eq_some_iff.1 h
      rw [ha]
      simp only [Option.bind_some] at h ⊢
      obtain ⟨r, hr, h⟩ := Option.bind_eq_some_iff.1 h
      obtain ⟨b', hb, h⟩ := Option.map_eq_some_iff.1 h
      have : (if a = true then (szOf P fd.type).bind fun n => g fd.type (List.take n (List.drop fd.offset l')) (List.take n (List.drop fd.offset m')) else l'[fd.offset]?.bind fun x => m'[fd.offset]?.bind fun y => g fd.type [x] [y]) = some r := by
        split at hr
        · rename_i h0
          rw [if_pos h0]
          obtain ⟨n, hn, hr⟩ := Option.bind_eq_some_iff.1 hr
          rw [hn]; exact hg _ ((h1.drop _).take n) ((h2.drop _).take n) hr
        · rename_i h0
          rw [if_neg h0]
          obtain ⟨x, hx, hr⟩ := Option.bind_eq_some_iff.1 hr
          obtain ⟨y, hy, hr⟩ := Option.bind_eq_some_iff.1 hr
          obtain ⟨x', hx', tx⟩ := h1.get _ _ hx
          obtain ⟨y', hy', ty⟩ := h2.get _ _ hy
          rw [hx', hy']; exact hg _ (.cons tx .nil) (.cons ty .nil) hr
      rw [this]
      simp only [Option.bind_some]
      rw [eqFs_sim hg h1 h2 fs hb]; exact congrArg some h
theorem eqT_sim : ∀ (d : Nat) (t : TypeId) {l l' m m' : List T} {b}, All2 (TR f) l l' → All2 (TR f) m m' → eqT P d t l m = some b → eqT P d t l' m' = some b
  | 0, _, _, _, _, _, _, _, _, h => by simp [eqT] at h
  | d + 1, t, l, l', m, m', b, h1, h2, h => by
    simp only [eqT] at h ⊢
    split at h
    · split at h
      · cases h1 with | cons a a' => cases a' with | nil => cases a with | c x => cases h2 with | cons c c' => cases c' with | nil => cases c with | c y => exact h
      · simp at h
    · split at h
      · cases h1 with | cons a a' => cases a' with | nil => cases a with | c x => cases h2 with | cons c c' => cases c' with | nil => cases c with | c y => exact h
      · simp at h
    · split at h
      · cases h1 with | cons a a' => cases a' with | nil => cases a with | c x => cases h2 with | cons c c' => cases c' with | nil => cases c with | c y => exact h
      · simp at h
    · split at h
      · simp at h
      · rename_i hs
        rw [if_neg hs]
        exact eqFs_sim (fun t _ _ _ _ _ a b c => eqT_sim d t a b c) h1 h2 _ h
    · simp at h
theorem sc_sim {x y : T} {v : Value} (h : TR f x y) (e : x = .c (.s v)) : y = .c (.s v) := by subst e; cases h; rfl
theorem cc_sim {x y : T} {v : C} (h : TR f x y) (e : x = .c v) : y = .c v := by subst e; cases h; rfl
theorem scals_sim {ρ ρ' : Operand → T} (hρ : ∀ x, TR f (ρ x) (ρ' x)) : ∀ (l : List Operand) {vs}, scals ρ l = some vs → scals ρ' l = some vs
  | [], _, h => h
  | x :: l, vs, h => by
    simp only [scals] at h ⊢
    split at h
    · rename_i v e
      rw [sc_sim (hρ x) e]
      obtain ⟨w, h1, h2⟩ := Option.map_eq_some_iff.1 h
      simp only [scals_sim hρ l h1]; exact congrArg some h2
    · simp at h
theorem bound_sim {ρ ρ' : Operand → T} (hρ : ∀ x, TR f (ρ x) (ρ' x)) (x : Option Operand) (d : Nat) {n} (h : bound ρ x d = some n) : bound ρ' x d = some n := by
  cases x with
  | none => exact h
  | some x =>
    simp only [bound] at h ⊢
    split at h
    · rename_i k i e
      rw [sc_sim (hρ x) e]; exact h
    · simp at h
section
variable {ρ ρ' : Operand → T} (hρ : ∀ x, TR f (ρ x) (ρ' x)) (H : HR f σ τ)
include hρ H
set_option linter.unusedSectionVars false
theorem parts_sim (l : List (Nat × Operand)) : All2 (fun p q => p.1 = q.1 ∧ TR f p.2 q.2) (l.map fun p => (p.1, ρ p.2)) (l.map fun p => (p.1, ρ' p.2)) := by
  induction l with
  | nil => exact .nil
  | cons p l ih => exact .cons ⟨rfl, hρ _⟩ ih
theorem opBuildSlice_sim {t : TypeId} {len : Nat} {l : List (Nat × Operand)} {r} {dp : Bool} (h : opBuildSlice P dp σ t len (l.map fun p => (p.1, ρ p.2)) = some r) : Out f r (opBuildSlice P dp τ t len (l.map fun p => (p.1, ρ' p.2))) := by
  unfold opBuildSlice at h ⊢
  obtain ⟨e, he, h⟩ := Option.bind_eq_some_iff.1 h
  obtain ⟨i, hi, h⟩ := Option.bind_eq_some_iff.1 h
  obtain ⟨z, hz, h⟩ := Option.bind_eq_some_iff.1 h
  obtain ⟨zl, hzl, h⟩ := Option.bind_eq_some_iff.1 h
  simp only [he, Option.bind_some, hi, hz, hzl]
  split at h
  · rename_i hc
    have hc' : 0 < i.size ∧ zl.length = i.size ∧ len * i.size ≤ 2 ^ 24 ∧ ((l.map fun p => (p.1, ρ' p.2)).all fun p => seenQ p.2) = true := by
      refine ⟨hc.1, hc.2.1, hc.2.2.1, ?_⟩
      have h4 := hc.2.2.2
      simp only [List.all_eq_true, List.mem_map] at h4 ⊢
      rintro _ ⟨p, hp, rfl⟩
      exact seenQ_sim (hρ p.2) (h4 _ ⟨p, hp, rfl⟩)
    rw [if_pos hc']
    obtain ⟨fl, hf, h⟩ := Option.bind_eq_some_iff.1 h
    have hz2 : ∀ n : Nat, All2 (TR f) (List.replicate n zl).flatten (List.replicate n zl).flatten := by
      intro n
      induction n with
      | zero => exact .nil
      | succ n ih => simp only [List.replicate_succ, List.flatten_cons]; exact (consts_sim hzl).append ih
    obtain ⟨fl', hf', t'⟩ := fillT_sim (parts_sim hρ H l) (hz2 len) hf
    rw [hf']
    split at h
    · rename_i hdp
      obtain ⟨p, hp, h⟩ := Option.map_eq_some_iff.1 h
      obtain ⟨τ1, g1, H1⟩ := digs_sim H t' hp
      simp only [Option.bind_some, hdp, if_true, g1, Option.map_some]
      subst h
      obtain ⟨f', a, b, c⟩ := newRow_sim H1 ⟨i.size, chunk i.size len p.1, true, .d⟩
      exact ⟨f', _, rfl, a, b, c⟩
    rename_i hdp
    obtain ⟨cs, hcs, h⟩ := Option.map_eq_some_iff.1 h
    simp only [Option.bind_some, hdp, if_false, Bool.false_eq_true, views_sim H t' hcs, Option.map_some]
    subst h
    obtain ⟨f', a, b, c⟩ := newRow_sim (demotes_sim H t' (views_no hcs)) ⟨i.size, chunk i.size len cs, true, .f⟩
    exact ⟨f', _, rfl, a, b, c⟩
  · simp at h
theorem opStore_sim {t : TypeId} {a x : Operand} {r} (h : opStore P σ t (ρ a) (ρ x) = some r) : Out f r (opStore P τ t (ρ' a) (ρ' x)) := by
  unfold opStore at h ⊢
  obtain ⟨l, hl, h⟩ := Option.bind_eq_some_iff.1 h
  obtain ⟨m, hm, t1⟩ := flat_sim (hρ x) hl
  simp only [hm, Option.bind_some]
  split at h
  · rename_i hs
    rw [if_pos (by rw [← t1.len]; exact hs)]
    have ha := hρ a
    generalize ρ a = u at ha h
    generalize ρ' a = v at ha
    cases ha <;> simp only [reduceCtorEq] at h ⊢
    · rename_i b o hb
      obtain ⟨cs, h1, h⟩ := Option.bind_eq_some_iff.1 h
      obtain ⟨cs', h2, h⟩ := Option.map_eq_some_iff.1 h
      obtain ⟨ds, g1, t2⟩ := H.box _ _ h1
      obtain ⟨ds', g2, t3⟩ := splice_sim t2 t1 h2
      rw [g1]
      simp only [Option.bind_some, g2, Option.map_some]
      subst h
      exact ⟨f, _, rfl, setBox_sim H hb t3, .refl f, .no _⟩
    · rename_i i k o hi
      rw [deep_sim H (.row i hi) (by simp)]
      split at h
      · rename_i hdd
        rw [if_pos hdd]
        obtain ⟨p, hp, h⟩ := Option.bind_eq_some_iff.1 h
        obtain ⟨τ1, g1, H1⟩ := digs_sim H t1 hp
        rw [g1]; simp only [Option.bind_some]
        obtain ⟨q, h2, h⟩ := Option.bind_eq_some_iff.1 h
        simp only [H1.row i hi, h2, Option.bind_some]
        split at h
        · rename_i ho
          rw [if_pos ho]
          obtain ⟨el, h3, h⟩ := Option.bind_eq_some_iff.1 h
          obtain ⟨el', h4, h⟩ := Option.map_eq_some_iff.1 h
          simp only [h3, Option.bind_some, h4, Option.map_some]
          subst h
          exact ⟨f, _, rfl, setRow_sim H1 hi _, .refl f, .no _⟩
        · simp at h
      rename_i hdd
      rw [if_neg hdd]
      obtain ⟨vs, h1, h⟩ := Option.bind_eq_some_iff.1 h
      obtain ⟨q, h2, h⟩ := Option.bind_eq_some_iff.1 h
      have H1 := demotes_sim H t1 (views_no h1)
      simp only [views_sim H t1 h1, Option.bind_some, H1.row i hi, h2]
      split at h
      · rename_i ho
        rw [if_pos ho]
        obtain ⟨el, h3, h⟩ := Option.bind_eq_some_iff.1 h
        obtain ⟨el', h4, h⟩ := Option.map_eq_some_iff.1 h
        simp only [h3, Option.bind_some, h4, Option.map_some]
        subst h
        exact ⟨f, _, rfl, setRow_sim H1 hi _, .refl f, .no _⟩
      · simp at h
  · simp at h
theorem opSlice_sim {t : TypeId} {x : Operand} {lo hi : Option Operand} {r} (h : opSlice P ρ σ t (ρ x) lo hi = some r) : Out f r (opSlice P ρ' τ t (ρ' x) lo hi) := by
  have hx := hρ x
  generalize ρ x = u at hx h
  generalize ρ' x = v at hx
  have hopt : ∀ (lo : Option Operand) {w : Option Value}, (match (motive := Option Operand → Option (Option Value)) lo with | none => some none | some y => (match ρ y with | .c (.s v) => some (some v) | _ => none)) = some w → (match (motive := Option Operand → Option (Option Value)) lo with | none => some none | some y => (match ρ' y with | .c (.s v) => some (some v) | _ => none)) = some w := by
    intro lo w h
    cases lo with
    | none => exact h
    | some y =>
      simp only at h ⊢
      split at h
      · rename_i v e; rw [sc_sim (hρ y) e]; exact h
      · simp at h
  have row : ∀ {u v : T}, TR f u v → (∀ s, u ≠ .c (.s s)) → ((elOf P t).bind fun e => (szOf P e).bind fun n => (elems σ u).bind fun l => (bound ρ hi l.length).bind fun h => (bound ρ lo 0).bind fun lo =>
    if lo ≤ h ∧ h ≤ l.length then (match u with
      | .c (.r xs) => if wide n xs then some (.c (.r (cut xs lo h)), σ) else none
      | .nil => some (.nil, σ)
      | .row i => (rowAt σ i).bind fun r => if r.sz = n then some (.sl i lo h, σ) else none
      | .sl i a _ => (rowAt σ i).bind fun r => if r.sz = n then some (.sl i (a + lo) (a + h), σ) else none
      | _ => none)
    else none) = some r → Out f r ((elOf P t).bind fun e => (szOf P e).bind fun n => (elems τ v).bind fun l => (bound ρ' hi l.length).bind fun h => (bound ρ' lo 0).bind fun lo =>
    if lo ≤ h ∧ h ≤ l.length then (match v with
      | .c (.r xs) => if wide n xs then some (.c (.r (cut xs lo h)), τ) else none
      | .nil => some (.nil, τ)
      | .row i => (rowAt τ i).bind fun r => if r.sz = n then some (.sl i lo h, τ) else none
      | .sl i a _ => (rowAt τ i).bind fun r => if r.sz = n then some (.sl i (a + lo) (a + h), τ) else none
      | _ => none)
    else none) := by
    intro u v huv hns h
    obtain ⟨e, he, h⟩ := Option.bind_eq_some_iff.1 h
    obtain ⟨n, hn, h⟩ := Option.bind_eq_some_iff.1 h
    obtain ⟨l, hl, h⟩ := Option.bind_eq_some_iff.1 h
    obtain ⟨b, hb, h⟩ := Option.bind_eq_some_iff.1 h
    obtain ⟨a, ha, h⟩ := Option.bind_eq_some_iff.1 h
    simp only [he, hn, elems_sim H huv hl, bound_sim hρ hi _ hb, bound_sim hρ lo _ ha, Option.bind_some]
    split at h
    · rename_i hc
      rw [if_pos hc]
      cases huv with
      | c x => cases x with
        | s v => exact absurd rfl (hns v)
        | r xs =>
          simp only at h ⊢
          split at h
          · rename_i hw; rw [if_pos hw]; simp only [Option.some.injEq] at h; subst h; exact out_same H (.c _)
          · simp at h
      | nil => simp only [Option.some.injEq] at h; subst h; exact out_same H .nil
      | row i hi =>
        simp only at h ⊢
        rw [H.row i hi]
        obtain ⟨q, h1, h⟩ := Option.bind_eq_some_iff.1 h
        rw [h1]; simp only [Option.bind_some]
        split at h
        · rename_i hw; rw [if_pos hw]; simp only [Option.some.injEq] at h; subst h; exact out_same H (.sl _ _ _ hi)
        · simp at h
      | sl i lo' hi' hi =>
        simp only at h ⊢
        rw [H.row i hi]
        obtain ⟨q, h1, h⟩ := Option.bind_eq_some_iff.1 h
        rw [h1]; simp only [Option.bind_some]
        split at h
        · rename_i hw; rw [if_pos hw]; simp only [Option.some.injEq] at h; subst h; exact out_same H (.sl _ _ _ hi)
        · simp at h
      | no x => simp [elems] at hl
      | _ => simp at h
    · simp at h
  cases hx with
  | c x => cases x with
    | s v =>
      simp only [opSlice] at h ⊢
      obtain ⟨a, ha, h⟩ := Option.bind_eq_some_iff.1 h
      obtain ⟨b, hb, h⟩ := Option.bind_eq_some_iff.1 h
      obtain ⟨w, hw, h⟩ := Option.map_eq_some_iff.1 h
      subst h
      exact ⟨f, (ofV w, τ), Option.bind_eq_some_iff.2 ⟨a, hopt lo ha, Option.bind_eq_some_iff.2 ⟨b, hopt hi hb, by rw [hw]; rfl⟩⟩, H, .refl f, ofV_refl w⟩
    | r l => exact row (.c _) (by simp) h
  | no _ =>
    simp only [opSlice] at h
    obtain ⟨e, he, h⟩ := Option.bind_eq_some_iff.1 h
    obtain ⟨n, hn, h⟩ := Option.bind_eq_some_iff.1 h
    simp [elems] at h
  | nil => exact row .nil (by simp) h
  | row i hh => exact row (.row i hh) (by simp) h
  | sl i lo hi hh => exact row (.sl i lo hi hh) (by simp) h
  | bp b o hh => exact row (.bp b o hh) (by simp) h
  | rp i k o hh => exact row (.rp i k o hh) (by simp) h
  | cp l o => exact row (.cp l o) (by simp) h
  | ag hh => exact row (.ag hh) (by simp) h
  | tu hh => exact row (.tu hh) (by simp) h
  | fn g bs hh => exact row (.fn g bs hh) (by simp) h
end
theorem opAppend0_sim {f : Rn} {σ τ : St} (H : HR f σ τ) {t : TypeId} {s s' x x' : T} (hs : TR f s s') (hx : TR f x x') {r} (h : opAppend0 P σ t s x = some r) : Out f r (opAppend0 P τ t s' x') := by
  unfold opAppend0 at h ⊢
  obtain ⟨e, he, h⟩ := Option.bind_eq_some_iff.1 h
  obtain ⟨i, hi, h⟩ := Option.bind_eq_some_iff.1 h
  obtain ⟨z, hz, h⟩ := Option.bind_eq_some_iff.1 h
  obtain ⟨xs, hxs, h⟩ := Option.bind_eq_some_iff.1 h
  obtain ⟨old, ho, h⟩ := Option.bind_eq_some_iff.1 h
  simp only [he, hi, hz, elems_sim H hx hxs, elems_sim H hs ho, Option.bind_some]
  split at h
  · rename_i hc
    rw [if_pos hc]
    have one : ∀ {j : Nat}, j < f.nr → ((rowAt σ j).bind fun r => if r.ow ∧ (r.sz = 0 ∨ r.sz = i.size) then some (newRow (setRow σ j none) ⟨i.size, old ++ xs, true, .f⟩) else none) = some r → Out f r ((rowAt τ (f.r j)).bind fun r => if r.ow ∧ (r.sz = 0 ∨ r.sz = i.size) then some (newRow (setRow τ (f.r j) none) ⟨i.size, old ++ xs, true, .f⟩) else none) := by
      intro j hj h
      rw [H.row j hj]
      obtain ⟨q, h1, h⟩ := Option.bind_eq_some_iff.1 h
      rw [h1]; simp only [Option.bind_some]
      split at h
      · rename_i hw
        rw [if_pos hw]
        simp only [Option.some.injEq] at h; subst h
        obtain ⟨f', a, b, c⟩ := newRow_sim (setRow_sim H hj none) ⟨i.size, old ++ xs, true, .f⟩
        exact ⟨f', _, rfl, a, b, c⟩
      · simp at h
    cases hs <;> simp only [reduceCtorEq] at h ⊢
    · simp only [Option.some.injEq] at h; subst h
      obtain ⟨f', a, b, c⟩ := newRow_sim H ⟨i.size, xs, true, .f⟩
      exact ⟨f', _, rfl, a, b, c⟩
    · exact one (by assumption) h
    · exact one (by assumption) h
  · simp at h
theorem opAppendD_sim {f : Rn} {σ τ : St} (H : HR f σ τ) {t : TypeId} {s s' : T} {jx : Nat} (hs : TR f s s') (hj : jx < f.nr) {r} (h : opAppendD P σ t s jx = some r) : Out f r (opAppendD P τ t s' (f.r jx)) := by
  unfold opAppendD at h ⊢
  obtain ⟨e, he, h⟩ := Option.bind_eq_some_iff.1 h
  obtain ⟨i, hi, h⟩ := Option.bind_eq_some_iff.1 h
  obtain ⟨z, hz, h⟩ := Option.bind_eq_some_iff.1 h
  obtain ⟨qx, hqx, h⟩ := Option.bind_eq_some_iff.1 h
  simp only [he, hi, hz, H.row jx hj, hqx, Option.bind_some]
  split at h
  · rename_i hc
    rw [if_pos hc]
    cases hs with
    | nil =>
      simp only at h ⊢
      split at h
      · rename_i hb
        rw [if_pos hb]
        simp only [Option.some.injEq] at h; subst h
        obtain ⟨f', a, b, c⟩ := newRow_sim (setRow_sim H hj none) ⟨i.size, qx.l, true, .d⟩
        exact ⟨f', _, rfl, a, b, c⟩
      · simp at h
    | no y => simp at h
    | c y => simp at h
    | sl => simp at h
    | bp => simp at h
    | rp => simp at h
    | cp => simp at h
    | ag => simp at h
    | tu => simp at h
    | fn => simp at h
    | row j hj' =>
      simp only at h ⊢
      split at h
      · simp at h
      rename_i hne
      rw [if_neg (fun e => hne (H.ri _ _ hj' hj e)), H.row j hj']
      obtain ⟨q, hq, h⟩ := Option.bind_eq_some_iff.1 h
      rw [hq]; simp only [Option.bind_some]
      split at h
      · rename_i hb
        rw [if_pos hb]
        simp only [Option.some.injEq] at h; subst h
        obtain ⟨f', a, b, c⟩ := newRow_sim (setRow_sim (setRow_sim H hj' none) hj none) ⟨i.size, q.l ++ qx.l, true, .d⟩
        exact ⟨f', _, rfl, a, b, c⟩
      · simp at h
  · simp at h
theorem isWhole_sim {f : Rn} {x x' : T} (hx : TR f x x') (hn : x ≠ .no) : isWhole x' = (isWhole x).map f.r ∧ ∀ j, isWhole x = some j → j < f.nr := by
  cases hx <;> simp_all [isWhole]
theorem opAppend_sim {f : Rn} {σ τ : St} (H : HR f σ τ) {t : TypeId} {s s' x x' : T} (hs : TR f s s') (hx : TR f x x') {r} (h : opAppend P σ t s x = some r) : Out f r (opAppend P τ t s' x') := by
  by_cases hsn : s = .no
  · subst hsn
    exfalso
    unfold opAppend at h
    split at h
    · simp [opAppendD] at h
    · simp [opAppend0, elems] at h
  by_cases hxn : x = .no
  · subst hxn
    exfalso
    unfold opAppend at h
    rw [show deepT σ T.no = false from rfl, Bool.false_and] at h
    simp [opAppend0, elems] at h
  have d1 := deep_sim H hs hsn
  have d2 := deep_sim H hx hxn
  have hnil : isNil s' = isNil s := by
    cases hs <;> first | rfl | exact absurd rfl hsn
  obtain ⟨w1, w2⟩ := isWhole_sim hx hxn
  have HS : HR f (meltS σ s) (meltS τ s') := by
    unfold meltS
    rw [d1]
    split
    · exact thaw_sim H hs hsn
    · exact H
  have HX : HR f (meltX (meltS σ s) x) (meltX (meltS τ s') x') := by
    unfold meltX
    rw [deep_sim HS hx hxn]
    split
    · exact demote_sim HS hx hxn
    · exact HS
  unfold opAppend at h ⊢
  rw [d1, d2, hnil, w1]
  split at h
  · rename_i jx hj
    have hw : isWhole x = some jx ∧ (deepT σ x && (deepT σ s || isNil s)) = true := by
      generalize (deepT σ x && (deepT σ s || isNil s)) = b at hj
      cases b <;> simp_all
    rw [hw.2, hw.1]
    exact opAppendD_sim H hs (w2 _ hw.1) h
  · rename_i hj
    have hz : (if (deepT σ x && (deepT σ s || isNil s)) = true then Option.map f.r (isWhole x) else none) = none := by
      generalize (deepT σ x && (deepT σ s || isNil s)) = b at hj
      cases b <;> simp_all
    rw [hz]
    exact opAppend0_sim HX hs hx h
theorem opClear_sim {f : Rn} {σ τ : St} (H : HR f σ τ) {t : TypeId} {x x' : T} (hx : TR f x x') {r} (h : opClear P σ t x = some r) : Out f r (opClear P τ t x') := by
  unfold opClear at h ⊢
  obtain ⟨e, he, h⟩ := Option.bind_eq_some_iff.1 h
  obtain ⟨i, hi, h⟩ := Option.bind_eq_some_iff.1 h
  obtain ⟨z, hz, h⟩ := Option.bind_eq_some_iff.1 h
  obtain ⟨zl, hzl, h⟩ := Option.bind_eq_some_iff.1 h
  obtain ⟨cs, hcs, h⟩ := Option.bind_eq_some_iff.1 h
  simp only [he, hi, hz, hzl, views_sim H (consts_sim hzl) hcs, Option.bind_some]
  split at h
  · rename_i hc
    rw [if_pos hc]
    cases hx with
    | nil => simp at h
    | no y => simp at h
    | c y => simp at h
    | row => simp at h
    | bp => simp at h
    | rp => simp at h
    | cp => simp at h
    | ag => simp at h
    | tu => simp at h
    | fn => simp at h
    | sl j lo hi' hj =>
    simp only at h ⊢
    have H1 := demotes_sim H (consts_sim (f := f) hzl) (views_no hcs)
    rw [H1.row j hj]
    obtain ⟨q, hq, h⟩ := Option.bind_eq_some_iff.1 h
    rw [hq]; simp only [Option.bind_some]
    split at h
    · rename_i hb
      rw [if_pos hb]
      simp only [Option.some.injEq] at h; subst h
      exact ⟨f, _, rfl, setRow_sim H1 hj _, .refl f, .tu .nil⟩
    · simp at h
  · simp at h
theorem evOp_sim {ρ ρ' : Operand → T} (hρ : ∀ x, TR f (ρ x) (ρ' x)) (H : HR f σ τ) (o : Oper) {r : T × St} (h : evOp P K F ρ σ o = some r) : Out f r (evOp P K F ρ' τ o) := by
  obtain ⟨dst, op, type, pos, after, guard⟩ := o
  cases op <;> simp only [evOp, reduceCtorEq] at h ⊢
  case move x => simp only [Option.some.injEq] at h; subst h; exact out_same H (hρ x)
  case assign x => simp only [Option.some.injEq] at h; subst h; exact out_same H (hρ x)
  case pick c a b =>
    split at h
    · rename_i t e
      rw [sc_sim (hρ c) e]
      simp only [Option.some.injEq] at h ⊢; subst h
      cases t
      · exact out_same H (hρ b)
      · exact out_same H (hρ a)
    · simp at h
  case alloc t =>
    unfold opAlloc at h ⊢
    obtain ⟨i, hi, h⟩ := Option.bind_eq_some_iff.1 h
    obtain ⟨z, hz, h⟩ := Option.bind_eq_some_iff.1 h
    obtain ⟨l, hl, h⟩ := Option.map_eq_some_iff.1 h
    simp only [hi, hz, hl, Option.bind_some, Option.map_some]
    subst h
    obtain ⟨f', a, b, c⟩ := newBox_sim H (consts_sim hl)
    exact ⟨f', _, rfl, a, b, c⟩
  case box t x =>
    unfold opBox at h ⊢
    obtain ⟨l, hl, h⟩ := Option.bind_eq_some_iff.1 h
    obtain ⟨m, hm, t1⟩ := flat_sim (hρ x) hl
    rw [hm]; simp only [Option.bind_some]
    split at h
    · rename_i hc
      rw [if_pos (by rw [← t1.len]; exact hc)]
      simp only [Option.some.injEq] at h; subst h
      obtain ⟨f', a, b, c⟩ := newBox_sim H t1
      exact ⟨f', _, rfl, a, b, c⟩
    · simp at h
  case build t parts =>
    unfold opBuild at h ⊢
    obtain ⟨i, hi, h⟩ := Option.bind_eq_some_iff.1 h
    obtain ⟨z, hz, h⟩ := Option.bind_eq_some_iff.1 h
    simp only [hi, hz, Option.bind_some]
    split at h
    · rename_i cs e
      obtain ⟨ps, hps, h⟩ := Option.bind_eq_some_iff.1 h
      obtain ⟨l, hl, h⟩ := Option.map_eq_some_iff.1 h
      have hc : All2 (TR f) cs cs := by
        have := constT_refl (f := f) z
        rw [e] at this
        cases this; assumption
      obtain ⟨l', h1, t1⟩ := fillT_sim (parts_sim hρ H parts.toList) hc hl
      simp only [hps, Option.bind_some, h1, Option.map_some]
      subst h
      exact out_same H (.ag t1)
    · simp at h
  case buildSlice t len parts => exact opBuildSlice_sim hρ H h
  case load t a =>
    unfold opLoad at h ⊢
    obtain ⟨cs, h1, h⟩ := Option.bind_eq_some_iff.1 h
    obtain ⟨n, hn, h⟩ := Option.bind_eq_some_iff.1 h
    obtain ⟨g, hg, h⟩ := Option.bind_eq_some_iff.1 h
    obtain ⟨ds, g1, t1⟩ := cells_sim H (hρ a) h1
    simp only [g1, hn, hg, Option.bind_some]
    split at h
    · rename_i h0
      rw [if_pos h0]
      split at h
      · rename_i hl
        rw [if_pos (by rw [← t1.len]; exact hl)]
        simp only [Option.some.injEq] at h; subst h
        exact out_same H (.ag (t1.take n))
      · simp at h
    · rename_i h0
      rw [if_neg h0]
      cases t1 with
      | nil => simp at h
      | cons a t => simp only [List.head?_cons, Option.map_some, Option.some.injEq] at h ⊢; subst h; exact out_same H a
  case store t a x => exact opStore_sim hρ H h
  case nilCheck x =>
    have hx := hρ x
    generalize ρ x = u at hx h
    generalize ρ' x = v at hx
    cases hx <;> simp only [Option.some.injEq, reduceCtorEq] at h ⊢ <;> subst h
    · exact out_same H (.bp _ _ (by assumption))
    · exact out_same H (.rp _ _ _ (by assumption))
    · exact out_same H (.cp _ _)
    · exact out_same H (.fn _ _ (by assumption))
  case binOp op t x y u =>
    split at h
    · rename_i l m e1 e2
      have hx := hρ x
      have hy := hρ y
      rw [e1] at hx
      rw [e2] at hy
      generalize ρ' x = v at hx
      generalize ρ' y = w at hy
      cases hx with
      | ag t1 => cases hy with
        | ag t2 =>
          simp only [opEq] at h ⊢
          split at h
          · rename_i hc
            rw [if_pos hc]
            split at h
            · obtain ⟨b, hb, h⟩ := Option.map_eq_some_iff.1 h
              simp only [eqT_sim 8 t t1 t2 hb, Option.map_some]
              subst h; exact out_same H (.c _)
            · obtain ⟨b, hb, h⟩ := Option.map_eq_some_iff.1 h
              simp only [eqT_sim 8 t t1 t2 hb, Option.map_some]
              subst h; exact out_same H (.c _)
            · simp at h
          · simp at h
    · rename_i a b e1 e2
      rw [sc_sim (hρ x) e1, sc_sim (hρ y) e2]
      obtain ⟨v, hv, h⟩ := Option.map_eq_some_iff.1 h
      simp only [hv, Option.map_some]
      subst h; exact out_same H (ofV_refl v)
    · simp at h
  case unOp op t x =>
    split at h
    · rename_i a e1
      rw [sc_sim (hρ x) e1]
      obtain ⟨v, hv, h⟩ := Option.map_eq_some_iff.1 h
      simp only [hv, Option.map_some]
      subst h; exact out_same H (ofV_refl v)
    · simp at h
  case convert src dst x =>
    have hx := hρ x
    have two : ∀ {u v : T}, TR f u v → ((match P.underlying dst, (elOf P src).bind (P.underlying ·) with
      | some .string, some (.int .u8) => (elems σ u).bind fun l => (bytesOf l).map fun b => ((.c (.s (.string ⟨b.toArray⟩)) : T), σ)
      | _, _ => none) = some r) → Out f r (match P.underlying dst, (elOf P src).bind (P.underlying ·) with
      | some .string, some (.int .u8) => (elems τ v).bind fun l => (bytesOf l).map fun b => (.c (.s (.string ⟨b.toArray⟩)), τ)
      | _, _ => none) := by
      intro u v hx h
      split at h
      · rename_i h1 h2
        obtain ⟨l, hl, h⟩ := Option.bind_eq_some_iff.1 h
        obtain ⟨b, hb, h⟩ := Option.map_eq_some_iff.1 h
        simp only [elems_sim H hx hl, Option.bind_some, hb, Option.map_some]
        subst h; exact out_same H (.c _)
      · simp at h
    generalize ρ x = u at hx h
    generalize ρ' x = v at hx
    cases hx with
    | c x => cases x with
      | s a =>
        simp only [opConv] at h ⊢
        obtain ⟨v, hv, h⟩ := Option.map_eq_some_iff.1 h
        simp only [hv, Option.map_some]
        subst h; exact out_same H (ofV_refl v)
      | r l => exact two (.c _) h
    | no v =>
      have : ((elems σ T.no).bind fun l => (bytesOf l).map fun b => ((.c (.s (.string ⟨b.toArray⟩)) : T), σ)) = none := rfl
      simp only [opConv, this, show deepT σ T.no = false from rfl, Bool.false_eq_true, if_false] at h
      split at h <;> simp at h
    | nil => exact two .nil h
    | row i hh =>
      have hd := deep_sim H (.row i hh) (by simp)
      simp only [opConv, hd] at h ⊢
      split at h
      · simp at h
      · rename_i hdd; rw [if_neg hdd]; exact two (.row i hh) h
    | sl i lo hi hh =>
      have hd := deep_sim H (.sl i lo hi hh) (by simp)
      simp only [opConv, hd] at h ⊢
      split at h
      · simp at h
      · rename_i hdd; rw [if_neg hdd]; exact two (.sl i lo hi hh) h
    | bp b o hh => exact two (.bp b o hh) h
    | rp i k o hh => exact two (.rp i k o hh) h
    | cp l o => exact two (.cp l o) h
    | ag hh => exact two (.ag hh) h
    | tu hh => exact two (.tu hh) h
    | fn g bs hh => exact two (.fn g bs hh) h
  case makeFunc fn first cap =>
    cases fn <;> simp only [reduceCtorEq] at h ⊢
    split at h
    · rename_i g hf
      obtain ⟨bs, hb, h⟩ := Option.map_eq_some_iff.1 h
      have key : ∀ (l : List Operand) {bs}, (l.mapM fun x => bp0 (ρ x)) = some bs → (l.mapM fun x => bp0 (ρ' x)) = some (bs.map f.b) ∧ ∀ b ∈ bs, b < f.nb := by
        intro l
        induction l with
        | nil => intro bs h; simp at h; subst h; exact ⟨rfl, by simp⟩
        | cons x l ih =>
          intro bs h
          simp only [List.mapM_cons, bind, Option.bind_eq_some_iff, pure, Option.some.injEq] at h
          obtain ⟨b, h1, bs', h2, rfl⟩ := h
          obtain ⟨g1, g2⟩ := ih h2
          have one : ∀ {u v : T}, TR f u v → bp0 u = some b → bp0 v = some (f.b b) ∧ b < f.nb := by
            intro u v hx h1
            cases hx <;> simp only [bp0, reduceCtorEq] at h1
            rename_i b' o hb
            cases o with
            | zero => simp only [Option.some.injEq] at h1; subst h1; exact ⟨rfl, hb⟩
            | succ o => simp at h1
          obtain ⟨k1, k2⟩ := one (hρ x) h1
          refine ⟨?_, fun c hc => ?_⟩
          · simp only [List.mapM_cons, k1, g1, bind, Option.bind_some, pure, List.map_cons]
          · rcases List.mem_cons.1 hc with rfl | hc
            · exact k2
            · exact g2 c hc
      obtain ⟨g1, g2⟩ := key _ hb
      rw [if_pos hf]
      simp only [g1, Option.map_some]
      subst h
      exact out_same H (.fn _ _ g2)
    · simp at h
  case makeSlice t l c =>
    unfold opMake at h ⊢
    obtain ⟨e, he, h⟩ := Option.bind_eq_some_iff.1 h
    obtain ⟨i, hi, h⟩ := Option.bind_eq_some_iff.1 h
    obtain ⟨z, hz, h⟩ := Option.bind_eq_some_iff.1 h
    obtain ⟨zl, hzl, h⟩ := Option.bind_eq_some_iff.1 h
    obtain ⟨cs, hcs, h⟩ := Option.bind_eq_some_iff.1 h
    simp only [he, hi, hz, hzl, views_sim H (consts_sim hzl) hcs, Option.bind_some]
    split at h
    · rename_i n m e1 e2
      rw [sc_sim (hρ l) e1, sc_sim (hρ c) e2]
      simp only
      split at h
      · rename_i hc
        rw [if_pos hc]
        simp only [Option.some.injEq] at h; subst h
        obtain ⟨f', a, b, c⟩ := newRow_sim (demotes_sim H (consts_sim hzl) (views_no hcs)) ⟨i.size, List.replicate n.toNat cs, true, .of (K.dp t)⟩
        exact ⟨f', _, rfl, a, b, c⟩
      · simp at h
    · simp at h
  case slice t x lo hi mx =>
    split at h
    · rename_i hm
      rw [if_pos hm]
      exact opSlice_sim hρ H h
    · simp at h
  case fieldAddr s x fi =>
    unfold opFieldAddr at h ⊢
    obtain ⟨fd, hfd, h⟩ := Option.bind_eq_some_iff.1 h
    obtain ⟨n, hn, h⟩ := Option.bind_eq_some_iff.1 h
    simp only [hfd, hn, Option.bind_some]
    split at h
    · simp at h
    · rename_i h0
      rw [if_neg h0]
      have hx := hρ x
      generalize ρ x = u at hx h
      generalize ρ' x = v at hx
      cases hx <;> simp only [Option.some.injEq, reduceCtorEq] at h ⊢ <;> subst h
      · exact out_same H (.bp _ _ (by assumption))
      · exact out_same H (.rp _ _ _ (by assumption))
      · exact out_same H (.cp _ _)
  case field s x fi =>
    unfold opField at h ⊢
    obtain ⟨fd, hfd, h⟩ := Option.bind_eq_some_iff.1 h
    obtain ⟨n, hn, h⟩ := Option.bind_eq_some_iff.1 h
    obtain ⟨g, hg, h⟩ := Option.bind_eq_some_iff.1 h
    simp only [hfd, hn, hg, Option.bind_some]
    have hx := hρ x
    generalize ρ x = u at hx h
    generalize ρ' x = v at hx
    cases hx <;> simp only [reduceCtorEq] at h ⊢
    rename_i l m t1
    split at h
    · rename_i hc
      rw [if_pos (by rw [← t1.len]; exact hc)]
      split at h
      · rename_i h0
        rw [if_pos h0]
        simp only [Option.some.injEq] at h; subst h
        exact out_same H (.ag ((t1.drop _).take _))
      · rename_i h0
        rw [if_neg h0]
        obtain ⟨y, hy, h⟩ := Option.map_eq_some_iff.1 h
        obtain ⟨y', hy', ty⟩ := t1.get _ _ hy
        simp only [hy', Option.map_some]
        subst h; exact out_same H ty
    · simp at h
  case indexAddr t x ix =>
    unfold opIndexAddr at h ⊢
    obtain ⟨e, he, h⟩ := Option.bind_eq_some_iff.1 h
    obtain ⟨n, hn, h⟩ := Option.bind_eq_some_iff.1 h
    simp only [he, hn, Option.bind_some]
    split at h
    · simp at h
    · rename_i h0
      rw [if_neg h0]
      have hx := hρ x
      have hi := hρ ix
      split at h
      · rename_i k i l e1 e2
        rw [sc_sim hi e1]
        have hx2 : ρ' x = .c (.r l) := cc_sim hx e2
        rw [hx2]
        simp only
        split at h
        · rename_i h1
          rw [if_pos h1]
          obtain ⟨el, hel, h⟩ := Option.bind_eq_some_iff.1 h
          simp only [hel, Option.bind_some]
          split at h
          · rename_i h2
            rw [if_pos h2]
            simp only [Option.some.injEq] at h; subst h
            exact out_same H (.cp _ _)
          · simp at h
        · simp at h
      · rename_i k i j e1 e2
        rw [sc_sim hi e1]
        rw [e2] at hx
        generalize ρ' x = v at hx
        cases hx with
        | row _ hj =>
          simp only [H.row j hj]
          obtain ⟨q, hq, h⟩ := Option.bind_eq_some_iff.1 h
          simp only [hq, Option.bind_some]
          split at h
          · rename_i h2
            rw [if_pos h2]
            simp only [Option.some.injEq] at h; subst h
            exact out_same H (.rp _ _ _ hj)
          · simp at h
      · rename_i k i j lo hi' e1 e2
        rw [sc_sim hi e1]
        rw [e2] at hx
        generalize ρ' x = v at hx
        cases hx with
        | sl _ _ _ hj =>
          simp only [H.row j hj]
          obtain ⟨q, hq, h⟩ := Option.bind_eq_some_iff.1 h
          simp only [hq, Option.bind_some]
          split at h
          · rename_i h2
            rw [if_pos h2]
            simp only [Option.some.injEq] at h; subst h
            exact out_same H (.rp _ _ _ hj)
          · simp at h
      · simp at h
  case index t x ix =>
    split at h
    · rename_i a b e1 e2
      rw [sc_sim (hρ x) e1, sc_sim (hρ ix) e2]
      obtain ⟨v, hv, h⟩ := Option.map_eq_some_iff.1 h
      simp only [hv, Option.map_some]
      subst h; exact out_same H (ofV_refl v)
    · simp at h
  case extract x i =>
    have hx := hρ x
    generalize ρ x = u at hx h
    generalize ρ' x = v at hx
    cases hx <;> simp only [reduceCtorEq] at h ⊢
    rename_i l m t1
    obtain ⟨y, hy, h⟩ := Option.map_eq_some_iff.1 h
    obtain ⟨y', hy', ty⟩ := t1.get _ _ hy
    simp only [hy', Option.map_some]
    subst h; exact out_same H ty
  case call c =>
    obtain ⟨callee, args, ats⟩ := c
    cases callee with
    | value fo =>
      simp only at h ⊢
      refine apply_sim H (hρ fo) ?_ h
      generalize args.toList = l
      induction l with
      | nil => exact .nil
      | cons x l ih => exact .cons (hρ x) ih
    | invoke => simp at h
    | builtin b =>
      cases b <;> simp only [isBuiltin2, Bool.false_eq_true, if_false, if_true, reduceCtorEq] at h ⊢
      case append =>
        split at h
        · rename_i s x t u e1 e2
          split at h
          · rename_i hc
            rw [if_pos hc]
            exact opAppend_sim H (hρ s) (hρ x) h
          · simp at h
        · simp at h
      case clear =>
        split at h
        · rename_i x t e1 e2
          exact opClear_sim H (hρ x) h
        · simp at h
      case len =>
        split at h
        · rename_i x t e1 e2
          have hx := hρ x
          generalize ρ x = u at hx h
          generalize ρ' x = v at hx
          have two : ∀ {u v : T}, TR f u v → ((elOf P t).bind fun _ => (elems σ u).map fun l => (intT l.length, σ)) = some r → Out f r ((elOf P t).bind fun _ => (elems τ v).map fun l => (intT l.length, τ)) := by
            intro u v hx h
            obtain ⟨e, he, h⟩ := Option.bind_eq_some_iff.1 h
            obtain ⟨l, hl, h⟩ := Option.map_eq_some_iff.1 h
            simp only [he, Option.bind_some, elems_sim H hx hl, Option.map_some]
            subst h; exact out_same H (.c _)
          cases hx with
          | c x => cases x with
            | s a =>
              cases a
              case string s =>
                simp only at h ⊢
                split at h
                · simp only [if_true, Option.some.injEq] at h ⊢; subst h; exact out_same H (.c _)
                · simp at h
              all_goals exact two (.c _) h
            | r l => exact two (.c _) h
          | no v =>
            have : ((elOf P t).bind fun _ => (elems σ T.no).map fun l => (intT l.length, σ)) = none := by cases elOf P t <;> rfl
            simp only [this, reduceCtorEq] at h
          | nil => exact two .nil h
          | row i hh => exact two (.row i hh) h
          | sl i lo hi hh => exact two (.sl i lo hi hh) h
          | bp b o hh => exact two (.bp b o hh) h
          | rp i k o hh => exact two (.rp i k o hh) h
          | cp l o => exact two (.cp l o) h
          | ag hh => exact two (.ag hh) h
          | tu hh => exact two (.tu hh) h
          | fn g bs hh => exact two (.fn g bs hh) h
        · simp at h
      case max =>
        obtain ⟨vs, hvs, h⟩ := Option.bind_eq_some_iff.1 h
        obtain ⟨v, hv, h⟩ := Option.map_eq_some_iff.1 h
        simp only [scals_sim hρ _ hvs, Option.bind_some, hv, Option.map_some]
        subst h; exact out_same H (ofV_refl v)
      case min =>
        obtain ⟨vs, hvs, h⟩ := Option.bind_eq_some_iff.1 h
        obtain ⟨v, hv, h⟩ := Option.map_eq_some_iff.1 h
        simp only [scals_sim hρ _ hvs, Option.bind_some, hv, Option.map_some]
        subst h; exact out_same H (ofV_refl v)
end Go.SX
