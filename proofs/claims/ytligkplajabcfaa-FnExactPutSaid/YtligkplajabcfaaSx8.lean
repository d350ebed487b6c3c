import Derived.Test.YtligkplajabcfaaSx7
import Derived.Deep.Upon
set_option linter.unusedVariables false
set_option linter.unusedSimpArgs false
set_option linter.unusedSectionVars false
namespace Go.SX
variable {P : Program} {w w' w0 : World} {ok ok' : Nat → Prop} {E E' : Env} {B : Bd} {σ σ' : St}

theorem over_get {cs : Array Value} {o k : Nat} {vs : List Value} (h : o + vs.length ≤ cs.size) : (over cs o vs)[k]? = if o ≤ k ∧ k < o + vs.length then vs[k - o]? else cs[k]? := by
  unfold over
  simp only [List.getElem?_toArray]
  have hl : (cs.toList.take o).length = o := by simp; omega
  by_cases h1 : k < o
  · rw [List.append_assoc, List.getElem?_append_left (by omega), List.getElem?_take, if_pos h1, if_neg (by omega)]; simp
  · rw [List.append_assoc, List.getElem?_append_right (by omega), hl]
    by_cases h2 : k < o + vs.length
    · rw [List.getElem?_append_left (by omega), if_pos ⟨by omega, h2⟩]
    · rw [List.getElem?_append_right (by omega), if_neg (by omega), List.getElem?_drop, show o + vs.length + (k - o - vs.length) = k by omega]; simp
theorem over_size {cs : Array Value} {o : Nat} {vs : List Value} (h : o + vs.length ≤ cs.size) : (over cs o vs).size = cs.size := by unfold over; simp; omega

theorem Mem.poke (M : Mem w0 B σ E ok w) {k : Nat} {cs : Array Value} (hp : Poked w k cs w') (hd : ∀ x, mutAt σ E x ≠ some k) (hk : ¬ ok k) (hh : w0.heap.size ≤ k ∨ B.L k) : Mem w0 B σ E ok w' ∧ Keep w w' ok ok := by
  have kp : Keep w w' ok ok := fun j hj _ => ⟨hp.other j (fun e => hk (e ▸ hj)), hj⟩
  refine ⟨M.go kp M.okin ?_ (by rw [hp.size]; exact Nat.le_refl _) fun x j hj => ⟨hp.other j (fun e => hd x (e ▸ hj)), (M.mine x j hj).1⟩, kp⟩
  refine ⟨hp.os.trans M.fr.os, hp.tape.trans M.fr.tape, hp.output.trans M.fr.output, by rw [hp.size]; exact M.fr.size, fun j hj hl => ?_⟩
  have : j ≠ k := by
    rintro rfl
    rcases hh with h | h
    · omega
    · exact hl h
  rw [hp.other j this]; exact M.fr.old j hj hl
theorem mut_killB {b : Nat} {x : Mt} {k : Nat} (h : mutAt (setBox σ b none) E x = some k) : x ≠ .b b ∧ mutAt σ E x = some k := by
  cases x with
  | r i => exact ⟨by simp, h⟩
  | d i m => exact ⟨by simp, h⟩
  | b j =>
    simp only [mutAt, boxAt_set] at h
    by_cases hij : b = j
    · subst hij
      by_cases hlt : b < σ.bx.length
      · simp [hlt] at h
      · simp only [hlt, and_false, if_false] at h
        cases hb : boxAt σ b with
        | none => simp [hb] at h
        | some l => exact absurd (boxAt_lt hb) hlt
    · simp only [hij, false_and, if_false] at h; exact ⟨by simpa using Ne.symm hij, h⟩
theorem mut_killR {i : Nat} {x : Mt} {k : Nat} (h : mutAt (setRow σ i none) E x = some k) : x ≠ .r i ∧ mutAt σ E x = some k := by
  refine ⟨?_, mut_kill_le h⟩
  rintro rfl
  simp only [mutAt, rawAt_set] at h
  by_cases hlt : i < σ.rw.length
  · simp [hlt] at h
  · simp only [hlt, and_false, if_false] at h
    cases hb : rawAt σ i with
    | none => simp [hb] at h
    | some l => exact absurd (rawAt_lt hb) hlt
theorem demR {q : Row} : here (some { q with ow := false, dp := .f }) = some { q with ow := false, dp := .f } := rfl

theorem elems_demote (x y : T) : elems (demote σ x) y = elems σ y := by
  have key : ∀ i, (rowAt (demote σ x) i).map (·.l) = (rowAt σ i).map (·.l) := by
    intro i
    have h : ∀ j q, rowAt σ j = some q → (rowAt (setRow σ j (some { q with ow := false, dp := .f })) i).map (·.l) = (rowAt σ i).map (·.l) := by
      intro j q hq
      rw [rowAt_set demR]
      by_cases hij : j = i
      · subst hij; simp [rowAt_lt hq, hq]
      · simp [hij]
    unfold demote
    split
    · split
      · rename_i hq; exact h _ _ hq
      · rfl
    · split
      · rename_i hq; exact h _ _ hq
      · rfl
    · rfl
  have key2 : ∀ i lo hi, (rowAt (demote σ x) i).map (fun r => cut r.l lo hi) = (rowAt σ i).map (fun r => cut r.l lo hi) := by
    intro i lo hi
    have := congrArg (Option.map fun l => cut l lo hi) (key i)
    simpa [Option.map_map, Function.comp_def] using this
  cases y
  case row i => exact key _
  case sl i lo hi => exact key2 _ _ _
  case c y => cases y <;> rfl
  all_goals rfl
theorem view_demote (x y : T) : view (demote σ x) y = view σ y := by
  cases y <;> simp only [view, elems_demote]
theorem views_demote (x : T) : ∀ l, views (demote σ x) l = views σ l
  | [] => rfl
  | y :: l => by simp only [views, view_demote, views_demote x l]

/-- demoted, nothing gets to be deep -/
theorem dp_demote {x : T} {i : Nat} {q : Row} (h : rowAt (demote σ x) i = some q) (hd : q.dp = .d) : rowAt σ i = some q := by
  have key : ∀ {j q'}, rowAt σ j = some q' → rowAt (setRow σ j (some { q' with ow := false, dp := .f })) i = some q → rowAt σ i = some q := by
    intro j q' hq' h
    rw [rowAt_set demR] at h
    split at h
    · simp only [Option.some.injEq] at h; rw [← h] at hd; simp at hd
    · exact h
  unfold SX.demote at h
  split at h
  · split at h
    · rename_i hq; exact key hq h
    · exact h
  · split at h
    · rename_i hq; exact key hq h
    · exact h
  · exact h
theorem dp_demotes : ∀ (l : List T) {σ : St} {i : Nat} {q : Row}, rowAt (demotes σ l) i = some q → q.dp = .d → rowAt σ i = some q
  | [], _, _, _, h, _ => h
  | x :: l, σ, _, _, h, hd => dp_demote (dp_demotes l h hd) hd
theorem dp_after {l : List T} {i : Nat} {q : Row} (h : rowAt (demotes σ l) i = some q) (hn : deepT σ (.row i) = false) : q.dp = .f := by
  rcases dp_cases h with h1 | h1
  · exact h1
  · have := dp_demotes l h h1
    simp [deepT, this, h1, Dp.q] at hn
theorem sh_holds {r : RV} {l : List (List C)} (h : ShAt w ok r l) : Holds w ok (.r l) (.slice r.a r.n r.cap) := by
  obtain ⟨h1, h2, h3, _, f, h4, h5⟩ := h
  exact .r l r.a r.n r.cap r.sz f h1 h2 h3 h4 h5
theorem sl_holds {r : RV} {l : List (List C)} {lo hi : Nat} {a' : Option Addr} (h : ShAt w ok r l) (h1 : lo ≤ hi) (h2 : hi ≤ r.n) (ha : r.cap - lo ≠ 0 → ∃ ad, r.a = some ad ∧ a' = some (ad.add (lo * r.sz))) : Holds w ok (.r (cut l lo hi)) (.slice a' (hi - lo) (r.cap - lo)) := by
  have hc := h.2.1
  refine holds_cut (sh_holds h) h1 h2 h.2.2.1 (by omega) fun h0 ad e => ?_
  obtain ⟨ad', e1, e2⟩ := ha (by omega)
  rw [e] at e1; cases e1; exact e2
theorem view_rel (M : Mem w0 B σ E ok w) {x : T} {u : Value} {c : C} (hx : XRel w ok E x u) (h : view σ x = some c) : ∃ ok', Mem w0 B (SX.demote σ x) E ok' w ∧ (∀ k, ok k → ok' k) ∧ (∀ k, ok' k → ok k ∨ Muts σ E k) ∧ Holds w ok' c u := by
  have eq : ∀ {i}, ∀ {q}, rowAt σ i = some q → ∃ r, E.ρ[i]? = some r := fun {i q} hq => ⟨_, List.getElem?_eq_getElem (by rw [M.lr]; exact rowAt_lt hq)⟩
  cases x <;> simp only [view, elems, Option.map_some, Option.some.injEq, Option.map_eq_some_iff, Option.map_none, reduceCtorEq, false_and, exists_false, exists_eq_left'] at h
  case c x => subst h; exact ⟨ok, M, fun _ h => h, fun _ h => .inl h, hx⟩
  case nil => subst h; rw [show u = _ from hx]; exact ⟨ok, M, fun _ h => h, fun _ h => .inl h, .r [] none 0 0 0 (fun _ _ => undef) rfl (Nat.le_refl _) (by simp) (by omega) (by simp)⟩
  case row i =>
    obtain ⟨l, ⟨q, hq, rfl⟩, rfl⟩ := h
    obtain ⟨r, hr, rfl⟩ := hx
    obtain ⟨ok', M', hu, hu2, hS⟩ := M.demoteR hq
    refine ⟨ok', ?_, hu, hu2, sh_holds (hS r hr)⟩
    simp only [SX.demote, hq]; exact M'
  case sl i lo hi =>
    obtain ⟨l, ⟨q, hq, rfl⟩, rfl⟩ := h
    obtain ⟨r, a', hr, h1, h2, rfl, ha⟩ := hx
    obtain ⟨ok', M', hu, hu2, hS⟩ := M.demoteR hq
    refine ⟨ok', ?_, hu, hu2, sl_holds (hS r hr) h1 h2 ha⟩
    simp only [SX.demote, hq]; exact M'
theorem views_rel : ∀ (l : List T) {σ : St} {ok : Nat → Prop} (us : List Value) (cs : List C), Mem w0 B σ E ok w → All2 (XRel w ok E) l us → views σ l = some cs → ∃ ok', Mem w0 B (demotes σ l) E ok' w ∧ (∀ k, ok k → ok' k) ∧ (∀ k, ok' k → ok k ∨ Muts σ E k) ∧ All2 (Holds w ok') cs us
  | [], σ, ok, us, cs, M, hx, h => by cases hx; simp [views] at h; subst h; exact ⟨ok, M, fun _ h => h, fun _ h => .inl h, .nil⟩
  | x :: l, σ, ok, us, cs, M, hx, h => by
    cases hx with
    | cons hx hl =>
      simp only [views, Option.bind_eq_some_iff, Option.map_eq_some_iff] at h
      obtain ⟨c, hc, cs, hcs, rfl⟩ := h
      obtain ⟨ok1, M1, h1, h1', hc1⟩ := view_rel M hx hc
      obtain ⟨ok2, M2, h2, h2', h3⟩ := views_rel l _ cs M1 (hl.imp fun _ _ h => h.keep (fun k h _ => ⟨rfl, h1 k h⟩) (.refl _)) (by rw [views_demote]; exact hcs)
      exact ⟨ok2, M2, fun k h => h2 k (h1 k h), fun k h => (h2' k h).elim (fun h => h1' k h) (fun ⟨x, hx⟩ => .inr ⟨x, mut_demote hx⟩), .cons (hc1.keep fun k h _ => ⟨rfl, h2 k h⟩) h3⟩

/-! deep rows -/
def nub : List Nat → List Nat
  | [] => []
  | x :: l => if x ∈ nub l then nub l else x :: nub l
theorem mem_nub {b : Nat} : ∀ {l : List Nat}, b ∈ nub l ↔ b ∈ l
  | [] => Iff.rfl
  | x :: l => by
    simp only [nub]
    split
    · rename_i h
      rw [mem_nub, List.mem_cons]
      exact ⟨.inr, fun h' => h'.elim (fun e => e ▸ mem_nub.1 h) id⟩
    · rw [List.mem_cons, List.mem_cons, mem_nub]
theorem nodup_nub : ∀ (l : List Nat), (nub l).Nodup
  | [] => List.nodup_nil
  | x :: l => by
    simp only [nub]
    split
    · exact nodup_nub l
    · exact List.nodup_cons.2 ⟨by assumption, nodup_nub l⟩
theorem gather (n sz : Nat) (P : Nat → Nat → Prop) (f : Nat → Nat → List Nat) : ∃ δ : List Nat, δ.Nodup ∧ ∀ b, b ∈ δ ↔ ∃ i j, i < n ∧ j < sz ∧ P i j ∧ b ∈ f i j := by
  classical
  refine ⟨nub ((List.range n).flatMap fun i => (List.range sz).flatMap fun j => if P i j then f i j else []), nodup_nub _, fun b => ?_⟩
  rw [mem_nub]
  simp only [List.mem_flatMap, List.mem_range]
  constructor
  · rintro ⟨i, hi, j, hj, h⟩
    split at h
    · exact ⟨i, j, hi, hj, by assumption, h⟩
    · simp at h
  · rintro ⟨i, j, hi, hj, hp, h⟩
    exact ⟨i, hi, j, hj, by rw [if_pos hp]; exact h⟩
/-- of a row's cell: i-th element, j-th cell are there -/
theorem cell_in {r : RV} {l : List (List C)} {i j : Nat} {el : List C} {c : C} (h1 : l.length = r.n) (h2 : ∀ el ∈ l, el.length = r.sz) (hi : l[i]? = some el) (hj : el[j]? = some c) : i < r.n ∧ j < r.sz :=
  ⟨by rw [← h1]; exact (List.getElem?_eq_some_iff.mp hi).1, by rw [← h2 el (List.mem_of_getElem? hi)]; exact (List.getElem?_eq_some_iff.mp hj).1⟩
theorem deep_dh {r : RV} {l : List (List C)} {δ : List Nat} (h : DeepAt w r l δ none) : DH w (.r l) (.slice r.a r.n r.cap) (r.κ.toList ++ δ) := by
  obtain ⟨off, t, cs, u, f, a1, a2, a3, a4, a5, a6, a7, a8, a9, a10, a11, _⟩ := h
  refine .r l r.a r.n r.cap r.sz r.κ off t cs _ u f a1 a2 a3 a4 a5 a6 a7 (fun i j el c hi hj => (a8 i j el c hi hj (by simp)).1) (fun b => ?_) (fun i j hi hj => a10 i j hi hj (by simp)) (fun i j i' j' h1 h2 h3 h4 => a11 i j i' j' h1 h2 h3 h4 (by simp) (by simp)) (fun i j el hi hj => (a8 i j el _ hi hj (by simp)).2 rfl)
  rw [List.mem_append, a9]
  simp
theorem dh_deep {l : List (List C)} {v : Value} {D : List Nat} (h : DH w (.r l) v D) : ∃ r δ, v = .slice r.a r.n r.cap ∧ DeepAt w r l δ none ∧ ∀ b, b ∈ D ↔ r.κ = some b ∨ b ∈ δ := by
  cases h with
  | r _ a n cap sz κ off t cs _ u f hn hc hz h0 hN hS hu hf hD hkk hd hE =>
    obtain ⟨δ, d1, d2⟩ := gather n sz (fun _ _ => True) f
    refine ⟨⟨a, n, cap, sz, κ⟩, δ, rfl, ⟨off, t, cs, u, f, hn, hc, hz, h0, hN, hS, hu, fun i j el c hi hj _ => ⟨hf i j el c hi hj, fun e => hE i j el hi (e ▸ hj)⟩, fun b => by rw [d2]; simp, fun i j hi hj _ => hkk i j hi hj, fun i j i' j' h1 h2 h3 h4 _ _ => hd i j i' j' h1 h2 h3 h4, d1⟩, fun b => ?_⟩
    rw [hD, d2]; simp
/-- a flat row of ours that bears no rows -/
theorem flat_deep {r : RV} {l : List (List C)} (h : OwnAt w ok r l) (hf : flatRow l = true) : DeepAt w r l [] none := by
  obtain ⟨h1, h2, h3, h4, h5⟩ := h
  cases hκ : r.κ with
  | none =>
    simp only [hκ] at h5
    exact ⟨0, default, #[], fun _ _ => undef, fun _ _ => [], h1, h2, h3, fun _ => hκ, fun _ => h5, fun k hk => by rw [hκ] at hk; simp at hk, fun i j hi => by omega, fun i j el c hi hj _ => by have := (cell_in h1 h3 hi hj).1; omega, by simp, by simp, by simp, List.nodup_nil⟩
  | some k =>
    simp only [hκ] at h5
    obtain ⟨off, t, cs, q1, q2, q3, q4⟩ := h5
    have hget : ∀ i j, i < r.n → j < r.sz → ∃ el c, l[i]? = some el ∧ el[j]? = some c := fun i j hi hj =>
      ⟨_, _, List.getElem?_eq_getElem (by omega), List.getElem?_eq_getElem (by rw [h3 _ (List.getElem_mem _)]; exact hj)⟩
    refine ⟨off, t, cs, fun i j => (cs[off + (i * r.sz + j)]?).getD undef, fun _ _ => [], h1, h2, h3, fun h => by rw [h4 h] at hκ; simp at hκ, fun h => by rw [h] at hκ; simp at hκ, fun k' hk' => by rw [hκ] at hk'; cases hk'; exact ⟨q1, q2, q3⟩, fun i j hi hj => ?_, fun i j el c hi hj _ => ?_, by simp, by simp, by simp, List.nodup_nil⟩
    · obtain ⟨el, c, e1, e2⟩ := hget i j hi hj
      obtain ⟨u, e3, _⟩ := q4 i j el c e1 e2
      simp only [e3, Option.getD_some]
    · obtain ⟨u, e3, e4⟩ := q4 i j el c hi hj
      simp only [e3, Option.getD_some]
      simp only [flatRow, List.all_eq_true] at hf
      have := hf el (List.mem_of_getElem? hi) c (List.mem_of_getElem? hj)
      cases e4 with
      | s v hv => exact ⟨.s _ hv, by simp⟩
      | r => simp [rowC] at this
/-- things that are handed over, and are gone here -/
structure Gone (w0 : World) (B : Bd) (ok : Nat → Prop) (w : World) (E : Env) (σ : St) (D : List Nat) (σ' : St) : Prop where
  mem : Mem w0 B σ' E ok w
  was : ∀ k ∈ D, Muts σ E k ∧ ¬ Muts σ' E k
  sub : ∀ k, Muts σ' E k → Muts σ E k
  row : ∀ i q, rowAt σ' i = some q → rowAt σ i = some q
theorem gone_killR (M : Mem w0 B σ E ok w) {i : Nat} {r : RV} {q : Row} {D : List Nat} (hr : E.ρ[i]? = some r) (hq : rowAt σ i = some q) (hD : ∀ k ∈ D, blks r q (E.δ i) k) : Gone w0 B ok w E σ D (setRow σ i none) := by
  refine ⟨M.killR i, fun k hk => ⟨?_, fun ⟨x, hx⟩ => blks_dead M hr (row_raw hq) (hD k hk) x hx⟩, fun k ⟨x, hx⟩ => ⟨x, mut_kill_le hx⟩, fun i' q' h => ?_⟩
  · obtain ⟨y, h1, _⟩ := blks_mut hr (row_raw hq) (hD k hk)
    exact ⟨y, h1⟩
  · rw [rowAt_set here_none] at h; split at h
    · simp at h
    · exact h
theorem dig_rel (M : Mem w0 B σ E ok w) {x : T} {v : Value} {c : C} (hx : XRel w ok E x v) (h : dig σ x = some (c, σ')) : ∃ D, DH w c v D ∧ Gone w0 B ok w E σ D σ' := by
  cases x <;> try (simp [dig] at h; done)
  case c x =>
    cases x with
    | r l => simp [dig] at h
    | s u =>
      simp only [dig, Option.some.injEq, Prod.mk.injEq] at h
      obtain ⟨rfl, rfl⟩ := h
      cases (hx : Holds w ok (.s u) v) with
      | s _ hv => exact ⟨[], .s _ hv, M, by simp, fun _ h => h, fun _ _ h => h⟩
  case nil =>
    simp only [dig, Option.some.injEq, Prod.mk.injEq] at h
    obtain ⟨rfl, rfl⟩ := h
    rw [show v = _ from hx]
    exact ⟨[], .r [] none 0 0 0 none 0 default #[] [] (fun _ _ => undef) (fun _ _ => []) rfl (Nat.le_refl _) (by simp) (fun _ => rfl) (fun _ => rfl) (by simp) (by omega) (by simp) (by simp) (by omega) (by omega) (by simp), M, by simp, fun _ h => h, fun _ _ h => h⟩
  case row j =>
    simp only [dig, Option.bind_eq_some_iff] at h
    obtain ⟨q, hq, h⟩ := h
    split at h
    case isFalse => simp at h
    rename_i hc
    simp only [Bool.and_eq_true, Bool.or_eq_true] at hc
    simp only [Option.some.injEq, Prod.mk.injEq] at h
    obtain ⟨rfl, rfl⟩ := h
    obtain ⟨r, hr, rfl⟩ := hx
    have hR := M.row j r q hr hq
    obtain ⟨ho, hc⟩ := hc
    rcases dp_cases hq with hp | hp
    · have hf : flatRow q.l = true := by
        rcases hc with h | h
        · rw [hp] at h; simp [Dp.q] at h
        · exact h
      refine ⟨_, deep_dh (flat_deep (M.own hr hq ho hp) hf), gone_killR M hr hq fun k hk => ⟨ho, .inl (by simpa using hk)⟩⟩
    · have h2 := hR.2
      rw [ho, if_pos rfl, hp] at h2
      refine ⟨_, deep_dh h2, gone_killR M hr hq fun k hk => ⟨ho, ?_⟩⟩
      rcases List.mem_append.1 hk with h | h
      · exact .inl (by simpa using h)
      · exact .inr ⟨by rw [hp]; simp, h⟩
theorem digs_rel : ∀ (l : List T) {σ σ' : St} {vs : List Value} {cs : List C}, Mem w0 B σ E ok w → All2 (XRel w ok E) l vs → digs σ l = some (cs, σ') →
    ∃ f : Nat → List Nat, cs.length = l.length ∧ (∀ j c, cs[j]? = some c → ∃ v, vs[j]? = some v ∧ DH w c v (f j)) ∧ (∀ j j', j < cs.length → j' < cs.length → ∀ b, b ∈ f j → b ∈ f j' → j = j') ∧
      Mem w0 B σ' E ok w ∧ (∀ j, j < cs.length → ∀ k ∈ f j, Muts σ E k ∧ ¬ Muts σ' E k) ∧ (∀ k, Muts σ' E k → Muts σ E k) ∧ ∀ i q, rowAt σ' i = some q → rowAt σ i = some q
  | [], σ, σ', vs, cs, M, hx, h => by
    simp only [digs, Option.some.injEq, Prod.mk.injEq] at h
    obtain ⟨rfl, rfl⟩ := h
    exact ⟨fun _ => [], rfl, by simp, by simp, M, by simp, fun _ h => h, fun _ _ h => h⟩
  | x :: l, σ, σ', vs, cs, M, hx, h => by
    cases hx with
    | @cons _ v _ vs hx hl =>
      simp only [digs, Option.bind_eq_some_iff, Option.map_eq_some_iff, Prod.mk.injEq] at h
      obtain ⟨⟨c, σ1⟩, hc, ⟨cs', σ2⟩, hcs, rfl, rfl⟩ := h
      obtain ⟨D, hD, G⟩ := dig_rel M hx hc
      obtain ⟨f, f1, f2, f3, M2, f4, f5, f6⟩ := digs_rel l G.mem hl hcs
      simp only at *
      refine ⟨fun j => match j with | 0 => D | j + 1 => f j, by simp [f1], fun j c' hj => ?_, fun j j' hj hj' b hb hb' => ?_, M2, fun j hj k hk => ?_, fun k hk => G.sub k (f5 k hk), fun i q h => G.row i q (f6 i q h)⟩
      · cases j with
        | zero => simp only [List.getElem?_cons_zero, Option.some.injEq] at hj; subst hj; exact ⟨v, rfl, hD⟩
        | succ j => simp only [List.getElem?_cons_succ] at hj; obtain ⟨u, h1, h2⟩ := f2 j c' hj; exact ⟨u, by simpa using h1, h2⟩
      · simp only [List.length_cons] at hj hj'
        cases j with
        | zero => cases j' with
          | zero => rfl
          | succ j' => exact absurd ((f4 j' (by omega) b hb').1) (G.was b hb).2
        | succ j => cases j' with
          | zero => exact absurd ((f4 j (by omega) b hb).1) (G.was b hb').2
          | succ j' => rw [f3 j j' (by omega) (by omega) b hb hb']
      · simp only [List.length_cons] at hj
        cases j with
        | zero => exact ⟨(G.was k hk).1, fun h => (G.was k hk).2 (f5 k h)⟩
        | succ j => exact ⟨G.sub k (f4 j (by omega) k hk).1, (f4 j (by omega) k hk).2⟩
/-- empty rows that are handed over have room where they are to have it -/
theorem room_rel (M : Mem w0 B σ E ok w) {x : T} {v : Value} {z : Nat} {c : C} {σ1 σ2 : St} (hx : XRel w ok E x v) (hq : colQ σ z x = true) (hs : ∀ i q, rowAt σ1 i = some q → rowAt σ i = some q) (h : dig σ1 x = some (c, σ2)) (hc : c = .r []) : Room w z v := by
  cases x <;> try (simp [dig] at h; done)
  case c x =>
    cases x with
    | r l => simp [dig] at h
    | s u => simp only [dig, Option.some.injEq, Prod.mk.injEq] at h; rw [← h.1] at hc; simp at hc
  case nil => rw [show v = _ from hx]; exact .inr (.inl rfl)
  case row j =>
    simp only [dig, Option.bind_eq_some_iff] at h
    obtain ⟨q, hq1, h⟩ := h
    split at h
    case isFalse => simp at h
    rename_i ho
    simp only [Bool.and_eq_true] at ho
    have hq2 := hs j q hq1
    obtain ⟨r, hr, rfl⟩ := hx
    have hR := M.row j r q hr hq2
    have hz := hR.1
    simp only [colQ, row_raw hq2, Bool.or_eq_true] at hq
    have hS : (r.sz = 0 → r.κ = none) ∧ (r.κ = none → r.cap = 0) ∧ ∀ k, r.κ = some k → ∃ off t cs, r.a = some ⟨k, off, none⟩ ∧ w.heap[k]? = some (.cells cs t (0, 0)) ∧ off + r.cap * r.sz ≤ cs.size := by
      rcases dp_cases hq2 with hp | hp
      · obtain ⟨_, _, _, g1, g2⟩ := M.own hr hq2 ho.1 hp
        refine ⟨g1, fun h => by rw [h] at g2; exact g2, fun k hk => ?_⟩
        rw [hk] at g2
        obtain ⟨off, t, cs, g3, g4, g5, _⟩ := g2
        exact ⟨off, t, cs, g3, g4, g5⟩
      · have h2 := hR.2
        rw [ho.1, if_pos rfl, hp] at h2
        obtain ⟨off, t, cs, _, _, _, _, _, g1, g2, g3, _⟩ := h2
        exact ⟨g1, g2, fun k hk => ⟨off, t, cs, g3 k hk⟩⟩
    rcases hq with h | h | h
    · exact .inl (Nat.eq_of_beq_eq_true h)
    · exact .inr (.inl (hS.2.1 (hS.1 (by rw [← hz]; exact Nat.eq_of_beq_eq_true h))))
    · cases hκ : r.κ with
      | none => exact .inr (.inl (hS.2.1 hκ))
      | some k =>
        obtain ⟨off, t, cs, g1, g2, g3⟩ := hS.2.2 k hκ
        rw [← hz, Nat.eq_of_beq_eq_true h] at g3
        exact .inr (.inr ⟨k, off, t, cs, g1, g2, g3⟩)
theorem digs_room (M : Mem w0 B σ E ok w) {z : Nat} : ∀ (l : List T) {σ1 σ2 : St} {vs : List Value} {cs : List C} {o : Nat}, All2 (XRel w ok E) l vs → colsQ σ z o l = true → (∀ i q, rowAt σ1 i = some q → rowAt σ i = some q) → digs σ1 l = some (cs, σ2) → ∀ j, cs[j]? = some (.r []) → ∃ v, vs[j]? = some v ∧ Room w (colZ z ((o + j) % z)) v
  | [], σ1, σ2, vs, cs, o, hx, hq, hs, h => by
    simp only [digs, Option.some.injEq, Prod.mk.injEq] at h
    obtain ⟨rfl, rfl⟩ := h
    simp
  | x :: l, σ1, σ2, vs, cs, o, hx, hq, hs, h => by
    cases hx with
    | @cons _ v _ vs hx hl =>
      simp only [digs, Option.bind_eq_some_iff, Option.map_eq_some_iff, Prod.mk.injEq] at h
      obtain ⟨⟨c, σ3⟩, hc, ⟨cs', σ4⟩, hcs, rfl, rfl⟩ := h
      simp only [colsQ, Bool.and_eq_true] at hq
      intro j hj
      cases j with
      | zero =>
        simp only [List.getElem?_cons_zero, Option.some.injEq] at hj
        exact ⟨v, rfl, room_rel M hx hq.1 hs hc hj⟩
      | succ j =>
        have hs3 : ∀ i q, rowAt σ3 i = some q → rowAt σ i = some q := fun i q h3 => by
          refine hs i q ?_
          unfold dig at hc
          split at hc
          · simp only [Option.some.injEq, Prod.mk.injEq] at hc; rw [hc.2]; exact h3
          · simp only [Option.some.injEq, Prod.mk.injEq] at hc; rw [hc.2]; exact h3
          · simp only [Option.bind_eq_some_iff] at hc
            obtain ⟨q', _, hc⟩ := hc
            split at hc
            · simp only [Option.some.injEq, Prod.mk.injEq] at hc
              rw [← hc.2] at h3
              rw [rowAt_set here_none] at h3
              split at h3
              · simp at h3
              · exact h3
            · simp at hc
          · simp at hc
        obtain ⟨v', h1, h2⟩ := digs_room M l (o := o + 1) hl hq.2 hs3 hcs j (by simpa using hj)
        exact ⟨v', by simpa using h1, by rw [show o + (j + 1) = o + 1 + j by omega]; exact h2⟩
theorem store_deep (M : Mem w0 B σ E ok w) {i n o : Nat} {av xv : Value} {l : List T} {t : TypeId} {p : List C × St} {q : Row} {el el' : List C} (ha : TRel w ok E (.rp i n o) av) (hfl : All2 (XRel w ok E) l xv.cells.toList) (hsz : szOf P t = some l.length) (hcs : xv.cells.size = l.length) (hone : ∀ u ∈ xv.cells.toList, u.oneCell' = true)
    (hp : digs σ l = some p) (hq : rowAt p.2 i = some q) (how : q.ow = true) (hdp : q.dp = .d) (hel : q.l[n]? = some el) (hsp : splice el o p.1 = some el') (hcq : colsQ σ q.sz o l = true) :
    ∃ w', (Instr.storeAt t av xv).run P w = .ok () w' ∧ StepR w0 B w ok E (setRow p.2 i (some { q with l := q.l.set n el' })) .no undef w' := by
  obtain ⟨cs, σ1⟩ := p
  simp only at *
  obtain ⟨g, g1, g2, g3, M1, g4, g5, g6⟩ := digs_rel l M hfl hp
  have hroom := digs_room M l hfl hcq (fun _ _ h => h) hp
  obtain ⟨r, ad, hr, had, hn, rfl⟩ := ha
  have hR := M1.row i r q hr hq
  rw [hR.1] at hroom
  have hO : DeepAt w r q.l (E.δ i) none := by have := hR.2; rw [how, if_pos rfl, hdp] at this; exact this
  have hblk := fun k (hk : blks r q (E.δ i) k) => blks_dead M1 hr (row_raw hq) hk
  obtain ⟨off, t0, c0, u, f, a1, a2, a3, a4, a5, a6, a7, a8, a9, a10, a11, a12⟩ := hO
  have hellen : el.length = r.sz := a3 el (List.mem_of_getElem? hel)
  cases hκ : r.κ with
  | none => have := a5 hκ; omega
  | some k =>
    obtain ⟨b1, b2, b3⟩ := a6 k hκ
    rw [had] at b1; cases b1
    unfold splice at hsp
    split at hsp
    case isFalse => simp at hsp
    rename_i hle
    simp only [Option.some.injEq] at hsp
    have hmul : (n + 1) * r.sz ≤ r.cap * r.sz := Nat.mul_le_mul_right _ (by omega)
    rw [Nat.add_mul, Nat.one_mul] at hmul
    have hcl : xv.cells.toList.length = cs.length := by rw [g1, ← hcs]; simp
    have hfit : off + (n * r.sz + o) + l.length ≤ c0.size := by rw [← g1]; omega
    obtain ⟨w', h3, h4, h5⟩ := run_storeVar (P := P) (o := off + (n * r.sz + o)) b2 hsz hcs hfit hone
    have hm := M1.mine (.r i) k (mut_r hr hq how hκ)
    obtain ⟨M2, kp⟩ := (M1.killR i).poke h4 (hblk k ⟨how, .inl hκ⟩) hm.1 hm.2.1
    have hother : ∀ b, b ≠ k → w'.heap[b]? = w.heap[b]? := h4.other
    have hel' : el'.length = r.sz := by rw [← hsp]; simp; omega
    -- whose blocks lie where
    let f' : Nat → Nat → List Nat := fun a b => if a = n ∧ o ≤ b ∧ b < o + cs.length then g (b - o) else f a b
    let u' : Nat → Nat → Value := fun a b => if a = n ∧ o ≤ b ∧ b < o + cs.length then (xv.cells.toList[b - o]?).getD undef else u a b
    obtain ⟨δ', d1, d2⟩ := gather r.n r.sz (fun _ _ => True) f'
    have hold : ∀ b ∈ E.δ i, r.κ ≠ some b := fun b hb e => by
      obtain ⟨a, c, h1, h2, h3, h4⟩ := (a9 b).1 hb
      exact a10 a c h1 h2 (by simp) b h4 e
    have hnew : ∀ j, j < cs.length → ∀ b ∈ g j, ¬ Muts σ1 E b := fun j hj b hb => (g4 j hj b hb).2
    have hgk : ∀ j, j < cs.length → ∀ b ∈ g j, b ≠ k := fun j hj b hb e => hnew j hj b hb ⟨.r i, by rw [e]; exact mut_r hr hq how hκ⟩
    have hgd : ∀ j, j < cs.length → ∀ b ∈ g j, b ∉ E.δ i := fun j hj b hb hb' => by
      obtain ⟨m, hm⟩ := mut_mem (E := E) (row_raw hq) how (by rw [hdp]; simp) hb'
      exact hnew j hj b hb ⟨_, hm⟩
    have hf : ∀ a c, a < r.n → c < r.sz → ∀ b ∈ f a c, b ∈ E.δ i := fun a c h1 h2 b hb => (a9 b).2 ⟨a, c, h1, h2, by simp, hb⟩
    have hD : DeepAt w' r (q.l.set n el') δ' none := by
      refine ⟨off, t0, over c0 (off + (n * r.sz + o)) xv.cells.toList, u', f', by simpa using a1, a2, fun e he => ?_, a4, a5, fun k' hk' => ?_, fun a b hA hB => ?_, fun a b e c hi hj _ => ?_, fun b => by rw [d2]; simp, fun a b hA hB _ x hx => ?_, fun a b a' b' h1 h2 h3 h4 _ _ x hx hx' => ?_, d1⟩
      · rcases List.mem_or_eq_of_mem_set he with h | h
        · exact a3 e h
        · rw [h]; exact hel'
      · rw [hκ] at hk'; cases hk'
        exact ⟨had, h5, by rw [over_size (by omega)]; exact b3⟩
      · rw [over_get (by omega)]
        simp only [u']
        by_cases hin : a = n ∧ o ≤ b ∧ b < o + cs.length
        · obtain ⟨rfl, hb1, hb2⟩ := hin
          rw [if_pos (by omega), if_pos ⟨rfl, hb1, hb2⟩, show off + (a * r.sz + b) - (off + (a * r.sz + o)) = b - o by omega]
          rw [List.getElem?_eq_getElem (by omega)]; rfl
        · rw [if_neg hin]
          rw [if_neg, a7 a b hA hB]
          intro hc
          apply hin
          rcases Nat.lt_trichotomy a n with hlt | heq | hgt
          · have := Nat.mul_le_mul_right r.sz (show a + 1 ≤ n by omega); rw [Nat.add_mul, Nat.one_mul] at this; omega
          · subst heq; exact ⟨rfl, by omega, by omega⟩
          · have := Nat.mul_le_mul_right r.sz (show n + 1 ≤ a by omega); rw [Nat.add_mul, Nat.one_mul] at this; omega
      · have hnl : n < q.l.length := (List.getElem?_eq_some_iff.mp hel).1
        rw [List.getElem?_set] at hi
        simp only [u', f']
        by_cases hna : n = a
        · subst hna
          simp only [if_true, hnl, Option.some.injEq] at hi
          subst hi
          rw [← hsp] at hj
          by_cases hin : o ≤ b ∧ b < o + cs.length
          · rw [if_pos ⟨rfl, hin⟩, if_pos ⟨rfl, hin⟩]
            rw [List.append_assoc, List.getElem?_append_right (by simp; omega), List.getElem?_append_left (by simp; omega)] at hj
            rw [show b - (el.take o).length = b - o by simp; omega] at hj
            obtain ⟨v, h6, h7⟩ := g2 _ _ hj
            rw [h6]
            refine DHc.keep ⟨h7, fun e => ?_⟩ fun x hx => hother x (hgk _ (by omega) x hx)
            rw [e] at hj
            obtain ⟨v2, h8, h9⟩ := hroom _ hj
            rw [h6] at h8; cases h8
            rw [show o + (b - o) = b by omega, Nat.mod_eq_of_lt (by omega)] at h9
            exact h9
          · rw [if_neg (fun h => hin h.2), if_neg (fun h => hin h.2)]
            have hj2 : el[b]? = some c := by
              by_cases hlt : b < o
              · rw [List.append_assoc, List.getElem?_append_left (by simp; omega), List.getElem?_take, if_pos hlt] at hj; exact hj
              · rw [List.getElem?_append_right (by simp; omega), List.getElem?_drop] at hj
                rw [show o + cs.length + (b - (el.take o ++ cs).length) = b by simp; omega] at hj; exact hj
            have hin2 := cell_in a1 a3 hel hj2
            exact (a8 n b el c hel hj2 (by simp)).keep fun x hx => hother x fun e => hold x (hf n b hin2.1 hin2.2 x hx) (by rw [hκ, e])
        · simp only [hna, if_false] at hi
          rw [if_neg (fun h => hna h.1.symm), if_neg (fun h => hna h.1.symm)]
          have hin2 := cell_in a1 a3 hi hj
          exact (a8 a b e c hi hj (by simp)).keep fun x hx => hother x fun e => hold x (hf a b hin2.1 hin2.2 x hx) (by rw [hκ, e])
      · simp only [f'] at hx
        split at hx
        · rename_i hc
          rw [hκ]; intro e; cases e
          exact hgk _ (by omega) _ hx rfl
        · exact a10 a b hA hB (by simp) x hx
      · simp only [f'] at hx hx'
        split at hx <;> split at hx'
        · rename_i c1 c2
          have := g3 _ _ (by omega) (by omega) x hx hx'
          exact ⟨c1.1.trans c2.1.symm, by omega⟩
        · rename_i c1 c2
          exact absurd (hf a' b' h3 h4 x hx') (hgd _ (by omega) x hx)
        · rename_i c1 c2
          exact absurd (hf a b h1 h2 x hx) (hgd _ (by omega) x hx')
        · exact a11 a b a' b' h1 h2 h3 h4 (by simp) (by simp) x hx hx'
    have M3 := M2.setRD (q := { q with l := q.l.set n el' }) (D := δ') hr ⟨hR.1, by simp only [how, if_true, hdp]; exact hD⟩ (fun k' _ hk' => by
        rw [hκ] at hk'; cases hk'
        exact ⟨hm.1, hm.2.1, by rw [h4.size]; exact hm.2.2, fun x hx => hblk k ⟨how, .inl hκ⟩ x (mut_kill_le hx)⟩) fun _ _ => ⟨d1, fun b hb => by
        obtain ⟨a, c, h1, h2, _, hx⟩ := (d2 b).1 hb
        simp only [f'] at hx
        split at hx
        · rename_i hc
          have hj : c - o < cs.length := by omega
          obtain ⟨x, hx'⟩ := (g4 _ hj b hx).1
          have hmm := M.mine x b hx'
          exact ⟨fun e => hgk _ hj b hx (by rw [hκ] at e; cases e; rfl), hmm.1, hmm.2.1, by rw [h4.size]; exact hmm.2.2, fun y hy => hnew _ hj b hx ⟨y, mut_kill_le (mut_kill_le hy)⟩⟩
        · have hbd := hf a c h1 h2 b hx
          obtain ⟨m, hm'⟩ := mut_mem (E := E) (row_raw hq) how (by rw [hdp]; simp) hbd
          have hmm := M1.mine _ b hm'
          exact ⟨hold b hbd, hmm.1, hmm.2.1, by rw [h4.size]; exact hmm.2.2, fun y hy => hblk b ⟨how, .inr ⟨by rw [hdp]; simp, hbd⟩⟩ y (mut_kill_le hy)⟩⟩
    rw [setRow_none_some] at M3
    exact ⟨w', by simp only [Instr.storeAt, Instr.sureAddr, Sem.run_bind, Sem.run_pure, Result.andThen_ok, add_none]; exact h3, _, ok, M3, ⟨fun _ _ h => h, fun _ _ h => h⟩, kp, trivial⟩

theorem ok_store (M : Mem w0 B σ E ok w) {a x y : T} {av xv : Value} {t : TypeId} (ha : TRel w ok E a av) (hx : TRel w ok E x xv) (h : opStore P σ t a x = some (y, σ')) :
    ∃ w', (Instr.storeAt t av xv).run P w = .ok () w' ∧ StepR w0 B w ok E σ' y undef w' := by
  unfold opStore at h
  simp only [Option.bind_eq_some_iff] at h
  obtain ⟨l, hl, h⟩ := h
  have hfl := hx.flat hl
  split at h
  · rename_i hsz
    have hcs : xv.cells.size = l.length := by simpa using hfl.len.symm
    have hone : ∀ u ∈ xv.cells.toList, u.oneCell' = true := by
      intro u hu
      obtain ⟨i, hi⟩ := List.getElem?_of_mem hu
      have hlt : i < l.length := by rw [← hcs]; simpa using (List.getElem?_eq_some_iff.mp hi).1
      obtain ⟨u', h1, h2⟩ := hfl.get i _ (List.getElem?_eq_getElem hlt)
      rw [hi] at h1; cases h1; exact h2.one
    cases a <;> try (simp at h; done)
    case bp b o =>
      simp only [Option.bind_eq_some_iff, Option.map_eq_some_iff, Prod.mk.injEq] at h
      obtain ⟨cs, hb, cs', hs, rfl, rfl⟩ := h
      obtain ⟨k, hk, rfl⟩ := ha
      obtain ⟨t0, c0, h1, h2⟩ := M.box b k cs hk hb
      obtain ⟨hle, hr⟩ := splice_rel hs h2 hfl
      obtain ⟨w', h3, h4, h5⟩ := run_storeVar (P := P) h1 hsz hcs (by simpa [hcs] using hle) hone
      have hm := M.mine (.b b) k (mut_b hk hb)
      have hd : ∀ x, mutAt (setBox σ b none) E x ≠ some k := fun x hx => (mut_killB hx).1 (M.dis x (.b b) k (mut_killB hx).2 (mut_b hk hb))
      obtain ⟨M1, kp⟩ := (M.killB b).poke h4 hd hm.1 hm.2.1
      have hr' : All2 (XRel w' ok E) cs' (over c0 o xv.cells.toList).toList := hr.imp fun _ _ h => h.keep kp (.refl _)
      have M2 := M1.setB hk (by rw [boxAt_set]; simp [boxAt_lt hb]) ⟨t0, _, h5, hr'⟩ hm.1 hm.2.1 hd
      refine ⟨w', by simp only [Instr.storeAt, Instr.sureAddr, Sem.run_bind, Sem.run_pure, Result.andThen_ok]; exact h3, E, ok, ?_, .refl _, kp, trivial⟩
      simpa [setBox] using M2
    case rp i n o =>
      simp only at h
      split at h
      · rename_i hdeep
        simp only [Option.bind_eq_some_iff] at h
        obtain ⟨p, hp, q, hq, h⟩ := h
        split at h
        · rename_i hc
          simp only [Option.bind_eq_some_iff, Option.map_eq_some_iff, Prod.mk.injEq] at h
          obtain ⟨el, hel, el', hsp, rfl, rfl⟩ := h
          exact store_deep M ha hfl hsz hcs hone hp hq hc.1 hc.2.1 hel hsp hc.2.2
        · simp at h
      rename_i hdeep
      simp only [Option.bind_eq_some_iff] at h
      obtain ⟨vs, hvs, q, hq, h⟩ := h
      split at h
      · rename_i how
        simp only [Option.bind_eq_some_iff, Option.map_eq_some_iff, Prod.mk.injEq] at h
        obtain ⟨el, hel, el', hsp, rfl, rfl⟩ := h
        obtain ⟨ok1, M1, hup, _, hv1⟩ := views_rel l _ vs M hfl hvs
        obtain ⟨r, ad, hr, had, hn, rfl⟩ := ha
        have hR := M1.row i r q hr hq
        have hqf := dp_after hq (by simpa using hdeep)
        have hO : OwnAt w ok1 r q.l := M1.own hr hq how hqf
        obtain ⟨o1, o2, o3, o4, o5⟩ := hO
        cases hκ : r.κ with
        | none => simp only [hκ] at o5; omega
        | some k =>
          simp only [hκ] at o5
          obtain ⟨off, t0, c0, o5, o6, o7, o8⟩ := o5
          rw [had] at o5; cases o5
          have hvl : vs.length = l.length := by rw [hv1.len, ← hfl.len]
          unfold splice at hsp
          split at hsp
          · rename_i hle
            simp only [Option.some.injEq] at hsp
            have hellen : el.length = r.sz := o3 el (List.mem_of_getElem? hel)
            have hnl : n < q.l.length := (List.getElem?_eq_some_iff.mp hel).1
            have hmul : (n + 1) * r.sz ≤ r.cap * r.sz := Nat.mul_le_mul_right _ (by omega)
            rw [Nat.add_mul, Nat.one_mul] at hmul
            have hfit : off + (n * r.sz + o) + l.length ≤ c0.size := by omega
            obtain ⟨w', h3, h4, h5⟩ := run_storeVar (P := P) (o := off + (n * r.sz + o)) o6 hsz hcs hfit hone
            have hm := M1.mine (.r i) k (mut_r hr hq how hκ)
            have hd : ∀ x, mutAt (setRow (demotes σ l) i none) E x ≠ some k := fun x hx => (mut_killR hx).1 (M1.dis x (.r i) k (mut_killR hx).2 (mut_r hr hq how hκ))
            obtain ⟨M2, kp⟩ := (M1.killR i).poke h4 hd hm.1 hm.2.1
            have hcl : xv.cells.toList.length = l.length := by simpa using hcs
            have hrow : RowOk w' ok1 [] r { q with l := q.l.set n el' } := by
              refine ⟨hR.1, ?_⟩
              simp only [how, if_true, hqf]
              have hel' : el'.length = r.sz := by rw [← hsp]; simp; omega
              refine ⟨by simpa using o1, o2, fun e he => ?_, o4, ?_⟩
              · rcases List.mem_or_eq_of_mem_set he with h | h
                · exact o3 e h
                · rw [h]; exact hel'
              · simp only [hκ]
                refine ⟨off, t0, _, had, h5, by rw [over_size (by omega)]; exact o7, fun i' j' e c hi' hj' => ?_⟩
                rw [over_get (by omega)]
                rw [List.getElem?_set] at hi'
                by_cases hni : n = i'
                · subst hni
                  simp only [if_true, hnl, Option.some.injEq] at hi'
                  subst hi'
                  rw [← hsp] at hj'
                  have hjl : j' < r.sz := by rw [← hel', ← hsp]; exact (List.getElem?_eq_some_iff.mp hj').1
                  by_cases hin : o ≤ j' ∧ j' < o + vs.length
                  · rw [if_pos (by omega)]
                    rw [List.append_assoc, List.getElem?_append_right (by simp; omega), List.getElem?_append_left (by simp; omega)] at hj'
                    rw [show j' - (el.take o).length = j' - o by simp; omega] at hj'
                    obtain ⟨u, hu1, hu2⟩ := hv1.get _ _ hj'
                    exact ⟨u, by rw [show off + (n * r.sz + j') - (off + (n * r.sz + o)) = j' - o by omega]; exact hu1, hu2.keep kp⟩
                  · rw [if_neg (by omega)]
                    have hj2 : el[j']? = some c := by
                      by_cases hlt : j' < o
                      · rw [List.append_assoc, List.getElem?_append_left (by simp; omega), List.getElem?_take, if_pos hlt] at hj'; exact hj'
                      · rw [List.getElem?_append_right (by simp; omega), List.getElem?_drop] at hj'
                        rw [show o + vs.length + (j' - (el.take o ++ vs).length) = j' by simp; omega] at hj'; exact hj'
                    obtain ⟨u, hu1, hu2⟩ := o8 n j' el c hel hj2
                    exact ⟨u, hu1, hu2.keep kp⟩
                · simp only [hni, if_false] at hi'
                  have hjl : j' < r.sz := by rw [← o3 e (List.mem_of_getElem? hi')]; exact (List.getElem?_eq_some_iff.mp hj').1
                  rw [if_neg (by
                    rcases Nat.lt_or_ge i' n with hlt | hge
                    · have := Nat.mul_le_mul_right r.sz (show i' + 1 ≤ n by omega); rw [Nat.add_mul, Nat.one_mul] at this; omega
                    · have := Nat.mul_le_mul_right r.sz (show n + 1 ≤ i' by omega); rw [Nat.add_mul, Nat.one_mul] at this; omega)]
                  obtain ⟨u, hu1, hu2⟩ := o8 i' j' e c hi' hj'
                  exact ⟨u, hu1, hu2.keep kp⟩
            have M3 := M2.setR (q := { q with l := q.l.set n el' }) hr hqf hrow fun k' _ hk' => by
              rw [hκ] at hk'; cases hk'; exact ⟨hm.1, hm.2.1, hd⟩
            rw [setRow_none_some] at M3
            refine ⟨w', by simp only [Instr.storeAt, Instr.sureAddr, Sem.run_bind, Sem.run_pure, Result.andThen_ok, add_none]; exact h3, E, ok1, M3, .refl _, fun j hj hl => ⟨(kp j (hup j hj) hl).1, hup j hj⟩, trivial⟩
          · simp at hsp
      · simp at h
  · simp at h
end Go.SX
