import Derived.Test.YtligkplajabcfaaSx6
set_option linter.unusedVariables false
set_option linter.unusedSimpArgs false
set_option linter.unusedSectionVars false
namespace Go.SX
variable {P : Program} {w w' w0 : World} {ok ok' : Nat → Prop} {E E' : Env} {B : Bd} {σ σ' : St}

theorem push_same {o : Obj} {k : Nat} (h : k < w.heap.size) : (w.alloc o).heap[k]? = w.heap[k]? := by
  show (w.heap.push o)[k]? = _
  rw [Array.getElem?_push, if_neg (by omega)]
theorem push_new {o : Obj} : (w.alloc o).heap[w.heap.size]? = some o := by
  show (w.heap.push o)[w.heap.size]? = _
  simp
theorem Fr.push (h : Fr w0 B.L w) (o : Obj) : Fr w0 B.L (w.alloc o) := ⟨h.os, h.tape, h.output, by have := h.size; simp; omega, fun k hk hl => by rw [push_same (by have := h.size; omega)]; exact h.old k hk hl⟩
def lt (w : World) (ok : Nat → Prop) : Nat → Prop := fun k => ok k ∧ k < w.heap.size
theorem keep_push (o : Obj) : Keep w (w.alloc o) ok (lt w ok) := fun _ h1 h2 => ⟨push_same h2, h1, h2⟩
theorem Mem.push (M : Mem w0 B σ E ok w) (o : Obj) : Mem w0 B σ E (lt w ok) (w.alloc o) :=
  M.go (keep_push o) (fun k h => M.okin k h.1) (M.fr.push o) (by simp) fun x k h => ⟨push_same (M.mine x k h).2.2, fun hk => (M.mine x k h).1 hk.1⟩
theorem newBox_eq (l : List T) : (newBox σ l).2 = setBox { σ with bx := σ.bx ++ [none] } σ.bx.length (some l) := by simp [newBox, setBox]
theorem newRow_eq (q : Row) : (newRow σ q).2 = setRow { σ with rw := σ.rw ++ [none] } σ.rw.length (some q) := by simp [newRow, setRow]
theorem Mem.newB (M : Mem w0 B σ E ok w) {k : Nat} {l : List T} (hb : BoxOk w ok E k l) (ho : ¬ ok k) (hh : w0.heap.size ≤ k ∨ B.L k) (hd : ∀ x, mutAt σ E x ≠ some k) :
    Mem w0 B (newBox σ l).2 ⟨E.β ++ [k], E.ρ, E.δ⟩ ok w ∧ E.Le ⟨E.β ++ [k], E.ρ, E.δ⟩ ∧ TRel w ok ⟨E.β ++ [k], E.ρ, E.δ⟩ (newBox σ l).1 (ptr k) := by
  obtain ⟨M1, hle⟩ := M.roomB k
  have hE : (E.β ++ [k])[σ.bx.length]? = some k := by rw [← M.lb]; simp
  refine ⟨?_, hle, k, hE, rfl⟩
  rw [newBox_eq]
  refine M1.setB hE ?_ (hb.keep (fun _ h _ => ⟨rfl, h⟩) hle rfl) ho hh fun x hx => ?_
  · simp [boxAt]
  · cases x with
    | b b =>
      simp only [mutAt] at hx
      cases hb' : boxAt { σ with bx := σ.bx ++ [none] } b with
      | none => simp [hb'] at hx
      | some l' =>
        have hlt : b < σ.bx.length := by
          have h1 := boxAt_lt hb'
          simp at h1
          rcases Nat.lt_or_ge b σ.bx.length with h | h
          · exact h
          · have : b = σ.bx.length := by omega
            subst this; simp [boxAt] at hb'
        have h2 : boxAt σ b = some l' := by unfold boxAt at hb' ⊢; rw [List.getElem?_append_left hlt] at hb'; exact hb'
        rw [hb'] at hx
        exact hd (.b b) (by simp only [mutAt, h2]; rw [← hx, List.getElem?_append_left (by rw [M.lb]; exact hlt)])
    | r i => exact hd (.r i) hx
    | d i m => exact hd (.d i m) hx
theorem mut_room (M : Mem w0 B σ E ok w) {r : RV} {D : Nat → List Nat} {x : Mt} {k : Nat} (h : mutAt { σ with rw := σ.rw ++ [none] } ⟨E.β, E.ρ ++ [r], E.δ⟩ x = some k) : mutAt σ E x = some k := by
  have key : ∀ {i q'}, rawAt { σ with rw := σ.rw ++ [none] } i = some q' → i < σ.rw.length ∧ rawAt σ i = some q' := by
    intro i q' hb'
    have hlt : i < σ.rw.length := by
      have h1 := rawAt_lt hb'
      simp at h1
      rcases Nat.lt_or_ge i σ.rw.length with h | h
      · exact h
      · have : i = σ.rw.length := by omega
        subst this; simp [rawAt] at hb'
    exact ⟨hlt, by unfold rawAt at hb' ⊢; rw [List.getElem?_append_left hlt] at hb'; exact hb'⟩
  cases x with
  | b b => exact h
  | r i =>
    simp only [mutAt] at h ⊢
    cases hb' : rawAt { σ with rw := σ.rw ++ [none] } i with
    | none => simp [hb'] at h
    | some q' =>
      obtain ⟨hlt, h2⟩ := key hb'
      rw [hb'] at h
      rw [h2]; simp only at h ⊢
      rw [← h, List.getElem?_append_left (by rw [M.lr]; exact hlt)]
  | d i m =>
    simp only [mutAt] at h ⊢
    cases hb' : rawAt { σ with rw := σ.rw ++ [none] } i with
    | none => simp [hb'] at h
    | some q' =>
      obtain ⟨hlt, h2⟩ := key hb'
      rw [hb'] at h
      rw [h2]; exact h
theorem Mem.newRD (M : Mem w0 B σ E ok w) {r : RV} {q : Row} {D : List Nat} (hb : RowOk w ok D r q) (hd : ∀ k, q.ow = true → r.κ = some k → ¬ ok k ∧ (w0.heap.size ≤ k ∨ B.L k) ∧ ∀ x, mutAt σ E x ≠ some k)
    (hD : q.ow = true → q.dp ≠ .f → D.Nodup ∧ ∀ k ∈ D, r.κ ≠ some k ∧ ¬ ok k ∧ (w0.heap.size ≤ k ∨ B.L k) ∧ k < w.heap.size ∧ ∀ x, mutAt σ E x ≠ some k) :
    Mem w0 B (newRow σ q).2 ⟨E.β, E.ρ ++ [r], upd E.δ σ.rw.length D⟩ ok w ∧ E.Le ⟨E.β, E.ρ ++ [r], upd E.δ σ.rw.length D⟩ ∧ TRel w ok ⟨E.β, E.ρ ++ [r], upd E.δ σ.rw.length D⟩ (newRow σ q).1 (.slice r.a r.n r.cap) := by
  obtain ⟨M1, hle⟩ := M.roomR r
  have hE : (E.ρ ++ [r])[σ.rw.length]? = some r := by rw [← M.lr]; simp
  refine ⟨?_, ⟨hle.b, hle.r⟩, r, hE, rfl⟩
  rw [newRow_eq]
  have hk : ∀ {x k}, mutAt (setRow { σ with rw := σ.rw ++ [none] } σ.rw.length none) ⟨E.β, E.ρ ++ [r], E.δ⟩ x = some k → mutAt σ E x = some k := fun h => mut_room M (D := E.δ) (mut_kill_le h)
  exact M1.setRD hE hb (fun k h1 h2 => ⟨(hd k h1 h2).1, (hd k h1 h2).2.1, own_lt hb h1 h2, fun x hx => (hd k h1 h2).2.2 x (hk hx)⟩) fun h1 h2 => ⟨(hD h1 h2).1, fun k hkk => by
    obtain ⟨a1, a2, a3, a4, a5⟩ := (hD h1 h2).2 k hkk
    exact ⟨a1, a2, a3, a4, fun x hx => a5 x (hk hx)⟩⟩
theorem Mem.newR (M : Mem w0 B σ E ok w) {r : RV} {q : Row} (hf : q.dp = .f) (hb : RowOk w ok [] r q) (hd : ∀ k, q.ow = true → r.κ = some k → ¬ ok k ∧ (w0.heap.size ≤ k ∨ B.L k) ∧ ∀ x, mutAt σ E x ≠ some k) :
    Mem w0 B (newRow σ q).2 ⟨E.β, E.ρ ++ [r], upd E.δ σ.rw.length []⟩ ok w ∧ E.Le ⟨E.β, E.ρ ++ [r], upd E.δ σ.rw.length []⟩ ∧ TRel w ok ⟨E.β, E.ρ ++ [r], upd E.δ σ.rw.length []⟩ (newRow σ q).1 (.slice r.a r.n r.cap) :=
  M.newRD hb hd fun _ h => absurd hf h

/-- how an operation ends -/
def StepR (w0 : World) (B : Bd) (w : World) (ok : Nat → Prop) (E : Env) (σ' : St) (x : T) (v : Value) (w' : World) : Prop :=
  ∃ E' ok', Mem w0 B σ' E' ok' w' ∧ E.Le E' ∧ Keep w w' ok ok' ∧ TRel w' ok' E' x v
theorem keep_refl : Keep w w ok ok := fun _ h _ => ⟨rfl, h⟩
theorem StepR.still (M : Mem w0 B σ E ok w) {x : T} {v : Value} (h : TRel w ok E x v) : StepR w0 B w ok E σ x v w := ⟨E, ok, M, .refl _, keep_refl, h⟩

theorem step_newBox (M : Mem w0 B σ E ok w) {l : List T} {cs : Array Value} (t : TypeId) (h : All2 (XRel w ok E) l cs.toList) : StepR w0 B w ok E (newBox σ l).2 (newBox σ l).1 (ptr w.heap.size) (w.alloc (.cells cs t)) := by
  obtain ⟨h1, h2, h3⟩ := (M.push (.cells cs t)).newB (k := w.heap.size) (l := l) ⟨t, cs, push_new, h.imp fun _ _ h => h.keep (keep_push _) (.refl _)⟩ (fun hk => by have := hk.2; omega) (.inl M.fr.size) (fun x hx => by have := (M.mine x _ hx).2.2; omega)
  exact ⟨_, _, h1, h2, keep_push _, h3⟩
theorem ok_box (M : Mem w0 B σ E ok w) {x y : T} {av : Value} {t : TypeId} (hx : TRel w ok E x av) (h : opBox P σ t x = some (y, σ')) :
    ∃ v w', (Instr.box t av).run P w = .ok v w' ∧ StepR w0 B w ok E σ' y v w' := by
  unfold opBox at h
  simp only [Option.bind_eq_some_iff] at h
  obtain ⟨l, hl, h⟩ := h
  split at h
  · simp only [Option.some.injEq] at h
    have := step_newBox M t (hx.flat hl)
    rw [h] at this
    exact ⟨_, _, by simp [Instr.box, newVar, Go.newRow]; rfl, this⟩
  · simp at h
theorem ok_alloc (M : Mem w0 B σ E ok w) {y : T} {t : TypeId} {u : Value} (h : opAlloc P σ t = some (y, σ')) :
    ∃ v w', (Instr.alloc t true u).run P w = .ok v w' ∧ StepR w0 B w ok E σ' y v w' := by
  unfold opAlloc at h
  simp only [Option.bind_eq_some_iff, Option.map_eq_some_iff] at h
  obtain ⟨i, hi, z, hz, l, hl, h⟩ := h
  have hzr := constT_rel (w := w) (ok := ok) (E := E) z
  have := step_newBox M t (hzr.flat hl)
  rw [h] at this
  exact ⟨_, _, by simp [Instr.alloc, run_zero hi hz, newVar, Go.newRow]; rfl, this⟩

/-- what is ours alone -/
def Muts (σ : St) (E : Env) (k : Nat) : Prop := ∃ x, mutAt σ E x = some k
/-! seen from now on -/
theorem own_sh {r : RV} {l : List (List C)} (h : OwnAt w ok r l) (hk : ∀ k, ok k → ok' k) (hκ : ∀ k, r.κ = some k → ok' k) : ShAt w ok' r l := by
  obtain ⟨h1, h2, h3, h3', h4⟩ := h
  have hup : ∀ {c : C} {v : Value}, Holds w ok c v → Holds w ok' c v := fun h => h.keep fun k h _ => ⟨rfl, hk k h⟩
  cases hκ' : r.κ with
  | none =>
    simp only [hκ'] at h4
    exact ⟨h1, h2, h3, fun h => absurd h4 h, fun _ _ => undef, fun i j hi => by omega, fun i j el c hi => by have := (List.getElem?_eq_some_iff.mp hi).1; omega⟩
  | some k =>
    simp only [hκ'] at h4
    obtain ⟨off, t, c0, h5, h6, h7, h8⟩ := h4
    refine ⟨h1, h2, h3, fun _ => ⟨_, h5⟩, fun i j => (c0[off + (i * r.sz + j)]?).getD undef, fun i j hi hj => ⟨_, h5, hκ k hκ', ?_⟩, fun i j el c hi hj => ?_⟩
    · have hel : l[i]? = some (l[i]'(by omega)) := List.getElem?_eq_getElem _
      have hc : (l[i]'(by omega))[j]? = some ((l[i]'(by omega))[j]'(by rw [h3 _ (List.mem_of_getElem? hel)]; omega)) := List.getElem?_eq_getElem _
      obtain ⟨u, h9, _⟩ := h8 i j _ _ hel hc
      rw [add_none, cell_block h6, h9]; simp only [h9, Option.getD_some]
    · obtain ⟨u, h9, h10⟩ := h8 i j el c hi hj
      simp only [h9, Option.getD_some]; exact hup h10
theorem dh_holds {c : C} {v : Value} {D : List Nat} (h : DH w c v D) (hk : ∀ b ∈ D, ok b) : Holds w ok c v := by
  induction h with
  | s v h => exact .s v h
  | r l a n cap sz κ off t cs D u f hn hc hz h0 hN hS hu hf hD hkk hd ih =>
    refine .r l a n cap sz u hn hc hz (fun i j hi hj => ?_) (fun i j el c hi hj => ih i j el c hi hj fun b hb => hk b ((hD b).2 (.inr ⟨i, j, ?_, ?_, hb⟩)))
    · cases hκ : κ with
      | none =>
        have := hN hκ
        omega
      | some k =>
        obtain ⟨h1, h2, h3⟩ := hS k hκ
        exact ⟨_, h1, hk k ((hD k).2 (.inl hκ)), by rw [add_none, cell_block h2]; exact hu i j hi hj⟩
    · rw [← hn]; exact (List.getElem?_eq_some_iff.mp hi).1
    · rw [← hz el (List.mem_of_getElem? hi)]; exact (List.getElem?_eq_some_iff.mp hj).1
theorem deep_sh {r : RV} {l : List (List C)} {δ : List Nat} (h : DeepAt w r l δ none) (hκ : ∀ k, r.κ = some k → ok k) (hδ : ∀ k ∈ δ, ok k) : ShAt w ok r l := by
  obtain ⟨off, t, cs, u, f, a1, a2, a3, a4, a5, a6, a7, a8, a9, _⟩ := h
  refine ⟨a1, a2, a3, fun h0 => ?_, u, fun i j hi hj => ?_, fun i j el c hi hj => dh_holds (a8 i j el c hi hj (by simp)) fun b hb => hδ b ((a9 b).2 ⟨i, j, ?_, ?_, by simp, hb⟩)⟩
  · cases hk : r.κ with
    | none => exact absurd (a5 hk) h0
    | some k => exact ⟨_, (a6 k hk).1⟩
  · cases hk : r.κ with
    | none =>
      have := a5 hk
      omega
    | some k =>
      obtain ⟨h1, h2, h3⟩ := a6 k hk
      exact ⟨_, h1, hκ k hk, by rw [add_none, cell_block h2]; exact a7 i j hi hj⟩
  · rw [← a1]; exact (List.getElem?_eq_some_iff.mp hi).1
  · rw [← a3 el (List.mem_of_getElem? hi)]; exact (List.getElem?_eq_some_iff.mp hj).1
/-- a row of ours, all below it seen from elsewhere too from now on -/
theorem deep_own {r : RV} {l : List (List C)} {δ : List Nat} (h : DeepAt w r l δ none) (hδ : ∀ k ∈ δ, ok k) : OwnAt w ok r l := by
  obtain ⟨off, t, cs, u, f, a1, a2, a3, a4, a5, a6, a7, a8, a9, _⟩ := h
  refine ⟨a1, a2, a3, a4, ?_⟩
  cases hk : r.κ with
  | none => exact a5 hk
  | some k =>
    obtain ⟨h1, h2, h3⟩ := a6 k hk
    refine ⟨off, t, cs, h1, h2, h3, fun i j el c hi hj => ?_⟩
    have hi' : i < r.n := by rw [← a1]; exact (List.getElem?_eq_some_iff.mp hi).1
    have hj' : j < r.sz := by rw [← a3 el (List.mem_of_getElem? hi)]; exact (List.getElem?_eq_some_iff.mp hj).1
    exact ⟨u i j, a7 i j hi' hj', dh_holds (a8 i j el c hi hj (by simp)) fun b hb => hδ b ((a9 b).2 ⟨i, j, hi', hj', by simp, hb⟩)⟩
theorem setRow_none_some {i : Nat} {q : Row} : setRow (setRow σ i none) i (some q) = setRow σ i (some q) := by simp [setRow]
theorem mut_killR0 {i : Nat} {x : Mt} {k : Nat} (hlt : i < σ.rw.length) (h : mutAt (setRow σ i none) E x = some k) : x ≠ .r i ∧ (∀ m, x ≠ .d i m) ∧ mutAt σ E x = some k := by
  refine ⟨?_, ?_, mut_kill_le h⟩
  · rintro rfl; simp [mutAt, rawAt_set, hlt] at h
  · rintro m rfl; simp [mutAt, rawAt_set, hlt] at h
/-- all of a row's blocks -/
def blks (r : RV) (q : Row) (δ : List Nat) (k : Nat) : Prop := q.ow = true ∧ (r.κ = some k ∨ (q.dp ≠ .f ∧ k ∈ δ))
theorem blks_mut {i : Nat} {r : RV} {q : Row} {k : Nat} (hr : E.ρ[i]? = some r) (hq : rawAt σ i = some q) (h : blks r q (E.δ i) k) : ∃ x, mutAt σ E x = some k ∧ (x = .r i ∨ ∃ m, x = .d i m) := by
  obtain ⟨ho, h | ⟨h1, h2⟩⟩ := h
  · exact ⟨.r i, mut_raw hr hq ho h, .inl rfl⟩
  · obtain ⟨m, hm⟩ := mut_mem (E := E) hq ho h1 h2
    exact ⟨.d i m, hm, .inr ⟨m, rfl⟩⟩
theorem blks_dead (M : Mem w0 B σ E ok w) {i : Nat} {r : RV} {q : Row} {k : Nat} (hr : E.ρ[i]? = some r) (hq : rawAt σ i = some q) (h : blks r q (E.δ i) k) (x : Mt) : mutAt (setRow σ i none) E x ≠ some k := by
  intro hx
  obtain ⟨h1, h2, h3⟩ := mut_killR0 (rawAt_lt hq) hx
  obtain ⟨y, h4, h5⟩ := blks_mut hr hq h
  have := M.dis x y k h3 h4
  subst this
  rcases h5 with h5 | ⟨m, h5⟩
  · exact h1 h5
  · exact h2 m h5
/-- a row is not written any more: one may look at it from anywhere -/
theorem Mem.demoteR (M : Mem w0 B σ E ok w) {i : Nat} {q : Row} (hq : rowAt σ i = some q) : ∃ ok', Mem w0 B (setRow σ i (some { q with ow := false, dp := .f })) E ok' w ∧ (∀ k, ok k → ok' k) ∧ (∀ k, ok' k → ok k ∨ Muts σ E k) ∧ ∀ r, E.ρ[i]? = some r → ShAt w ok' r q.l := by
  have hlt := rowAt_lt hq
  obtain ⟨r, hr⟩ : ∃ r, E.ρ[i]? = some r := ⟨_, List.getElem?_eq_getElem (by rw [M.lr]; exact hlt)⟩
  have hR := M.row i r q hr hq
  have M1 := M.killR i
  have hrest : ∀ okN : Nat → Prop, (∀ k, ok k → okN k) → (∀ k, okN k → ok k ∨ blks r q (E.δ i) k) → ShAt w okN r q.l → ∃ ok', Mem w0 B (setRow σ i (some { q with ow := false, dp := .f })) E ok' w ∧ (∀ k, ok k → ok' k) ∧ (∀ k, ok' k → ok k ∨ Muts σ E k) ∧ ∀ r, E.ρ[i]? = some r → ShAt w ok' r q.l := by
    intro okN hup hdn hS
    have M2 : Mem w0 B (setRow σ i none) E okN w := by
      refine M1.okUp (fun k h _ => hup k h) (fun k h => ?_) fun x k h hk => ?_
      · rcases hdn k h with h | h
        · exact M.okin k h
        · obtain ⟨y, h1, _⟩ := blks_mut hr (row_raw hq) h
          exact .inr (M.mine y k h1).2.1
      · rcases hdn k hk with h3 | h3
        · exact (M1.mine x k h).1 h3
        · exact blks_dead M hr (row_raw hq) h3 x h
    refine ⟨okN, ?_, hup, fun k h => (hdn k h).imp id fun h => ?_, fun r' h' => by rw [hr] at h'; cases h'; exact hS⟩
    · rw [← setRow_none_some]
      exact M2.setR hr rfl ⟨hR.1, by simpa using hS⟩ (by simp)
    · obtain ⟨y, h1, _⟩ := blks_mut hr (row_raw hq) h
      exact ⟨y, h1⟩
  cases ho : q.ow with
  | false =>
    have := hR.2; rw [ho, if_neg (by simp)] at this
    exact hrest ok (fun _ h => h) (fun _ h => .inl h) this.2
  | true =>
    have h2 := hR.2
    rw [ho, if_pos rfl] at h2
    rcases dp_cases hq with hp | hp
    · rw [hp] at h2
      exact hrest (fun k => ok k ∨ r.κ = some k) (fun k h => .inl h) (fun k h => h.imp id fun h => ⟨ho, .inl h⟩) (own_sh h2 (fun k h => .inl h) fun k h => .inr h)
    · rw [hp] at h2
      exact hrest (fun k => ok k ∨ r.κ = some k ∨ k ∈ E.δ i) (fun k h => .inl h) (fun k h => h.imp id fun h => ⟨ho, h.imp id fun h => ⟨by rw [hp]; simp, h⟩⟩) (deep_sh h2 (fun k h => .inr (.inl h)) fun k h => .inr (.inr h))
/-- what lies below a row of ours may be seen from anywhere from now on -/
theorem Mem.thawR (M : Mem w0 B σ E ok w) {i : Nat} {q : Row} (hq : rowAt σ i = some q) (ho : q.ow = true) : ∃ ok', Mem w0 B (setRow σ i (some { q with dp := .f })) E ok' w ∧ (∀ k, ok k → ok' k) ∧ (∀ k, ok' k → ok k ∨ Muts σ E k) := by
  have hlt := rowAt_lt hq
  obtain ⟨r, hr⟩ : ∃ r, E.ρ[i]? = some r := ⟨_, List.getElem?_eq_getElem (by rw [M.lr]; exact hlt)⟩
  have hR := M.row i r q hr hq
  have M1 := M.killR i
  have hrest : ∀ okN : Nat → Prop, (∀ k, ok k → okN k) → (∀ k, okN k → ok k ∨ (blks r q (E.δ i) k ∧ r.κ ≠ some k)) → OwnAt w okN r q.l → ∃ ok', Mem w0 B (setRow σ i (some { q with dp := .f })) E ok' w ∧ (∀ k, ok k → ok' k) ∧ (∀ k, ok' k → ok k ∨ Muts σ E k) := by
    intro okN hup hdn hS
    have M2 : Mem w0 B (setRow σ i none) E okN w := by
      refine M1.okUp (fun k h _ => hup k h) (fun k h => ?_) fun x k h hk => ?_
      · rcases hdn k h with h | h
        · exact M.okin k h
        · obtain ⟨y, h1, _⟩ := blks_mut hr (row_raw hq) h.1
          exact .inr (M.mine y k h1).2.1
      · rcases hdn k hk with h3 | h3
        · exact (M1.mine x k h).1 h3
        · exact blks_dead M hr (row_raw hq) h3.1 x h
    refine ⟨okN, ?_, hup, fun k h => (hdn k h).imp id fun h => ?_⟩
    · rw [← setRow_none_some]
      refine M2.setR hr rfl ⟨hR.1, by simp only [ho, if_true]; exact hS⟩ fun k _ hk => ⟨fun hk' => ?_, (M.mine _ k (mut_r hr hq ho hk)).2.1, blks_dead M hr (row_raw hq) ⟨ho, .inl hk⟩⟩
      rcases hdn k hk' with h | h
      · exact (M.mine _ k (mut_r hr hq ho hk)).1 h
      · exact h.2 hk
    · obtain ⟨y, h1, _⟩ := blks_mut hr (row_raw hq) h.1
      exact ⟨y, h1⟩
  have h2 := hR.2
  rw [ho, if_pos rfl] at h2
  rcases dp_cases hq with hp | hp
  · rw [hp] at h2
    exact hrest ok (fun _ h => h) (fun _ h => .inl h) h2
  · rw [hp] at h2
    have hne : ∀ k ∈ E.δ i, r.κ ≠ some k := by
      intro k hk e
      obtain ⟨m, hm⟩ := mut_mem (E := E) (row_raw hq) ho (by rw [hp]; simp) hk
      have := M.dis _ _ _ hm (mut_r hr hq ho e)
      cases this
    exact hrest (fun k => ok k ∨ k ∈ E.δ i) (fun k h => .inl h) (fun k h => h.imp id fun h => ⟨⟨ho, .inr ⟨by rw [hp]; simp, h⟩⟩, hne k h⟩) (deep_own h2 fun k h => .inr h)
theorem mut_demoteR {i : Nat} {q : Row} {x : Mt} {k : Nat} (h : mutAt (setRow σ i (some { q with ow := false, dp := .f })) E x = some k) : mutAt σ E x = some k := by
  cases x with
  | b b => exact h
  | r j =>
    simp only [mutAt, rawAt_set] at h
    by_cases hij : i = j ∧ i < σ.rw.length
    · obtain ⟨rfl, hlt⟩ := hij; simp [hlt] at h
    · simp only [hij, if_false] at h; exact h
  | d j m =>
    simp only [mutAt, rawAt_set] at h
    by_cases hij : i = j ∧ i < σ.rw.length
    · obtain ⟨rfl, hlt⟩ := hij; simp [hlt] at h
    · simp only [hij, if_false] at h; exact h
theorem mut_demote {y : T} {x : Mt} {k : Nat} (h : mutAt (demote σ y) E x = some k) : mutAt σ E x = some k := by
  unfold SX.demote at h
  split at h
  · split at h
    · exact mut_demoteR h
    · exact h
  · split at h
    · exact mut_demoteR h
    · exact h
  · exact h
theorem Mem.demote (M : Mem w0 B σ E ok w) (x : T) : ∃ ok', Mem w0 B (demote σ x) E ok' w ∧ (∀ k, ok k → ok' k) ∧ (∀ k, ok' k → ok k ∨ Muts σ E k) := by
  unfold SX.demote
  split
  · split
    · rename_i i q hq; obtain ⟨ok', h1, h2, h3, _⟩ := M.demoteR hq; exact ⟨ok', h1, h2, h3⟩
    · exact ⟨ok, M, fun _ h => h, fun _ h => .inl h⟩
  · split
    · rename_i i _ _ q hq; obtain ⟨ok', h1, h2, h3, _⟩ := M.demoteR hq; exact ⟨ok', h1, h2, h3⟩
    · exact ⟨ok, M, fun _ h => h, fun _ h => .inl h⟩
  · exact ⟨ok, M, fun _ h => h, fun _ h => .inl h⟩
end Go.SX
