import Derived.Test.YtmdmbolhbjfcjaaSx6
set_option linter.unusedVariables false
set_option linter.unusedSimpArgs false
set_option linter.unusedSectionVars false
namespace Go.SX
variable {P : Program} {w w' w0 : World} {ok ok' : Nat → Prop} {E E' : Env} {B : Bd} {σ σ' : St}

theorem push_same {o : Obj} {k : Nat} (h : k < w.heap.size) : (w.alloc o).heap[k]? = w.heap[k]? := by
  show (w.heap.push o)[k]? = _
  rw [Array.getElem?_push, if_neg (by omega)]
theorem push_new {o : Obj} : (w.alloc o).heap[w.heap.size]? = some o := by
  show (w.heap.push o)[w.heap.size]? = _
  simp
theorem Fr.push (h : Fr w0 B.L w) (o : Obj) : Fr w0 B.L (w.alloc o) := ⟨h.os, h.tape, h.output, by have := h.size; simp; omega, fun k hk hl => by rw [push_same (by have := h.size; omega)]; exact h.old k hk hl⟩
def lt (w : World) (ok : Nat → Prop) : Nat → Prop := fun k => ok k ∧ k < w.heap.size
theorem keep_push (o : Obj) : Keep w (w.alloc o) ok (lt w ok) := fun _ h1 h2 => ⟨push_same h2, h1, h2⟩
theorem Mem.push (M : Mem w0 B σ E ok w) (o : Obj) : Mem w0 B σ E (lt w ok) (w.alloc o) :=
  M.go (keep_push o) (fun k h => M.okin k h.1) (M.fr.push o) (by simp) fun x k h => ⟨push_same (M.mine x k h).2.2, fun hk => (M.mine x k h).1 hk.1⟩
theorem newBox_eq (l : List T) : (newBox σ l).2 = setBox { σ with bx := σ.bx ++ [none] } σ.bx.length (some l) := by simp [newBox, setBox]
theorem newRow_eq (q : Row) : (newRow σ q).2 = setRow { σ with rw := σ.rw ++ [none] } σ.rw.length (some q) := by simp [newRow, setRow]
theorem Mem.newB (M : Mem w0 B σ E ok w) {k : Nat} {l : List T} (hb : BoxOk w ok E k l) (ho : ¬ ok k) (hh : w0.heap.size ≤ k ∨ B.L k) (hd : ∀ x, mutAt σ E x ≠ some k) :
    Mem w0 B (newBox σ l).2 ⟨E.β ++ [k], E.ρ⟩ ok w ∧ E.Le ⟨E.β ++ [k], E.ρ⟩ ∧ TRel w ok ⟨E.β ++ [k], E.ρ⟩ (newBox σ l).1 (ptr k) := by
  obtain ⟨M1, hle⟩ := M.roomB k
  have hE : (E.β ++ [k])[σ.bx.length]? = some k := by rw [← M.lb]; simp
  refine ⟨?_, hle, k, hE, rfl⟩
  rw [newBox_eq]
  refine M1.setB hE ?_ (hb.keep (fun _ h _ => ⟨rfl, h⟩) hle rfl) ho hh fun x hx => ?_
  · simp [boxAt]
  · cases x with
    | b b =>
      simp only [mutAt] at hx
      cases hb' : boxAt { σ with bx := σ.bx ++ [none] } b with
      | none => simp [hb'] at hx
      | some l' =>
        have hlt : b < σ.bx.length := by
          have h1 := boxAt_lt hb'
          simp at h1
          rcases Nat.lt_or_ge b σ.bx.length with h | h
          · exact h
          · have : b = σ.bx.length := by omega
            subst this; simp [boxAt] at hb'
        have h2 : boxAt σ b = some l' := by unfold boxAt at hb' ⊢; rw [List.getElem?_append_left hlt] at hb'; exact hb'
        rw [hb'] at hx
        exact hd (.b b) (by simp only [mutAt, h2]; rw [← hx, List.getElem?_append_left (by rw [M.lb]; exact hlt)])
    | r i => exact hd (.r i) hx
theorem Mem.newR (M : Mem w0 B σ E ok w) {r : RV} {q : Row} (hb : RowOk w ok r q) (hd : ∀ k, q.ow = true → r.κ = some k → ¬ ok k ∧ (w0.heap.size ≤ k ∨ B.L k) ∧ ∀ x, mutAt σ E x ≠ some k) :
    Mem w0 B (newRow σ q).2 ⟨E.β, E.ρ ++ [r]⟩ ok w ∧ E.Le ⟨E.β, E.ρ ++ [r]⟩ ∧ TRel w ok ⟨E.β, E.ρ ++ [r]⟩ (newRow σ q).1 (.slice r.a r.n r.cap) := by
  obtain ⟨M1, hle⟩ := M.roomR r
  have hE : (E.ρ ++ [r])[σ.rw.length]? = some r := by rw [← M.lr]; simp
  refine ⟨?_, hle, r, hE, rfl⟩
  rw [newRow_eq]
  refine M1.setR hE (by simp [rowAt]) hb fun k h1 h2 => ?_
  obtain ⟨h3, h4, h5⟩ := hd k h1 h2
  refine ⟨h3, h4, fun x hx => ?_⟩
  cases x with
  | r i =>
    simp only [mutAt] at hx
    cases hb' : rowAt { σ with rw := σ.rw ++ [none] } i with
    | none => simp [hb'] at hx
    | some q' =>
      have hlt : i < σ.rw.length := by
        have h1 := rowAt_lt hb'
        simp at h1
        rcases Nat.lt_or_ge i σ.rw.length with h | h
        · exact h
        · have : i = σ.rw.length := by omega
          subst this; simp [rowAt] at hb'
      have h2 : rowAt σ i = some q' := by unfold rowAt at hb' ⊢; rw [List.getElem?_append_left hlt] at hb'; exact hb'
      rw [hb'] at hx
      exact h5 (.r i) (by simp only [mutAt, h2]; rw [← hx, List.getElem?_append_left (by rw [M.lr]; exact hlt)])
  | b b => exact h5 (.b b) hx

/-- how an operation ends -/
def StepR (w0 : World) (B : Bd) (w : World) (ok : Nat → Prop) (E : Env) (σ' : St) (x : T) (v : Value) (w' : World) : Prop :=
  ∃ E' ok', Mem w0 B σ' E' ok' w' ∧ E.Le E' ∧ Keep w w' ok ok' ∧ TRel w' ok' E' x v
theorem keep_refl : Keep w w ok ok := fun _ h _ => ⟨rfl, h⟩
theorem StepR.still (M : Mem w0 B σ E ok w) {x : T} {v : Value} (h : TRel w ok E x v) : StepR w0 B w ok E σ x v w := ⟨E, ok, M, .refl _, keep_refl, h⟩

theorem step_newBox (M : Mem w0 B σ E ok w) {l : List T} {cs : Array Value} (t : TypeId) (h : All2 (XRel w ok E) l cs.toList) : StepR w0 B w ok E (newBox σ l).2 (newBox σ l).1 (ptr w.heap.size) (w.alloc (.cells cs t)) := by
  obtain ⟨h1, h2, h3⟩ := (M.push (.cells cs t)).newB (k := w.heap.size) (l := l) ⟨t, cs, push_new, h.imp fun _ _ h => h.keep (keep_push _) (.refl _)⟩ (fun hk => by have := hk.2; omega) (.inl M.fr.size) (fun x hx => by have := (M.mine x _ hx).2.2; omega)
  exact ⟨_, _, h1, h2, keep_push _, h3⟩
theorem ok_box (M : Mem w0 B σ E ok w) {x y : T} {av : Value} {t : TypeId} (hx : TRel w ok E x av) (h : opBox P σ t x = some (y, σ')) :
    ∃ v w', (Instr.box t av).run P w = .ok v w' ∧ StepR w0 B w ok E σ' y v w' := by
  unfold opBox at h
  simp only [Option.bind_eq_some_iff] at h
  obtain ⟨l, hl, h⟩ := h
  split at h
  · simp only [Option.some.injEq] at h
    have := step_newBox M t (hx.flat hl)
    rw [h] at this
    exact ⟨_, _, by simp [Instr.box, newVar, Go.newRow]; rfl, this⟩
  · simp at h
theorem ok_alloc (M : Mem w0 B σ E ok w) {y : T} {t : TypeId} {u : Value} (h : opAlloc P σ t = some (y, σ')) :
    ∃ v w', (Instr.alloc t true u).run P w = .ok v w' ∧ StepR w0 B w ok E σ' y v w' := by
  unfold opAlloc at h
  simp only [Option.bind_eq_some_iff, Option.map_eq_some_iff] at h
  obtain ⟨i, hi, z, hz, l, hl, h⟩ := h
  have hzr := constT_rel (w := w) (ok := ok) (E := E) z
  have := step_newBox M t (hzr.flat hl)
  rw [h] at this
  exact ⟨_, _, by simp [Instr.alloc, run_zero hi hz, newVar, Go.newRow]; rfl, this⟩

/-- what is ours alone -/
def Muts (σ : St) (E : Env) (k : Nat) : Prop := ∃ x, mutAt σ E x = some k
/-! seen from now on -/
theorem own_sh {r : RV} {l : List (List C)} (h : OwnAt w ok r l) (hk : ∀ k, ok k → ok' k) (hκ : ∀ k, r.κ = some k → ok' k) : ShAt w ok' r l := by
  obtain ⟨h1, h2, h3, h3', h4⟩ := h
  have hup : ∀ {c : C} {v : Value}, Holds w ok c v → Holds w ok' c v := fun h => h.keep fun k h _ => ⟨rfl, hk k h⟩
  cases hκ' : r.κ with
  | none =>
    simp only [hκ'] at h4
    exact ⟨h1, h2, h3, fun h => absurd h4 h, fun _ _ => undef, fun i j hi => by omega, fun i j el c hi => by have := (List.getElem?_eq_some_iff.mp hi).1; omega⟩
  | some k =>
    simp only [hκ'] at h4
    obtain ⟨off, t, c0, h5, h6, h7, h8⟩ := h4
    refine ⟨h1, h2, h3, fun _ => ⟨_, h5⟩, fun i j => (c0[off + (i * r.sz + j)]?).getD undef, fun i j hi hj => ⟨_, h5, hκ k hκ', ?_⟩, fun i j el c hi hj => ?_⟩
    · have hel : l[i]? = some (l[i]'(by omega)) := List.getElem?_eq_getElem _
      have hc : (l[i]'(by omega))[j]? = some ((l[i]'(by omega))[j]'(by rw [h3 _ (List.mem_of_getElem? hel)]; omega)) := List.getElem?_eq_getElem _
      obtain ⟨u, h9, _⟩ := h8 i j _ _ hel hc
      rw [add_none, cell_block h6, h9]; simp only [h9, Option.getD_some]
    · obtain ⟨u, h9, h10⟩ := h8 i j el c hi hj
      simp only [h9, Option.getD_some]; exact hup h10
theorem setRow_none_some {i : Nat} {q : Row} : setRow (setRow σ i none) i (some q) = setRow σ i (some q) := by simp [setRow]
/-- a row is not written any more: one may look at it from anywhere -/
theorem Mem.demoteR (M : Mem w0 B σ E ok w) {i : Nat} {q : Row} (hq : rowAt σ i = some q) : ∃ ok', Mem w0 B (setRow σ i (some { q with ow := false })) E ok' w ∧ (∀ k, ok k → ok' k) ∧ (∀ k, ok' k → ok k ∨ Muts σ E k) ∧ ∀ r, E.ρ[i]? = some r → ShAt w ok' r q.l := by
  have hlt := rowAt_lt hq
  obtain ⟨r, hr⟩ : ∃ r, E.ρ[i]? = some r := ⟨_, List.getElem?_eq_getElem (by rw [M.lr]; exact hlt)⟩
  have hR := M.row i r q hr hq
  have M1 := M.killR i
  have hn : rowAt (setRow σ i none) i = none := by rw [rowAt_set]; simp [hlt]
  cases ho : q.ow with
  | false =>
    refine ⟨ok, ?_, fun _ h => h, fun _ h => .inl h, fun r' h' => ?_⟩
    · rw [← setRow_none_some]
      exact M1.setR hr hn ⟨hR.1, by have := hR.2; rw [ho] at this; simpa using this⟩ (by simp)
    · rw [hr] at h'; cases h'; have := hR.2; rw [ho] at this; simpa using this
  | true =>
    have hO : OwnAt w ok r q.l := by have := hR.2; rw [ho] at this; simpa using this
    let ok' : Nat → Prop := fun k => ok k ∨ r.κ = some k
    have hmut : ∀ x k, mutAt (setRow σ i none) E x = some k → x ≠ .r i ∧ mutAt σ E x = some k := by
      intro x k h
      cases x with
      | b b => exact ⟨by simp, h⟩
      | r j =>
        simp only [mutAt, rowAt_set] at h
        by_cases hij : i = j
        · subst hij; simp [hlt] at h
        · simp only [hij, false_and, if_false] at h; exact ⟨by simpa using Ne.symm hij, h⟩
    have M2 : Mem w0 B (setRow σ i none) E ok' w := by
      refine M1.okUp (fun k h _ => .inl h) (fun k h => ?_) fun x k h => ?_
      · rcases h with h | h
        · exact M.okin k h
        · exact .inr (M.mine (.r i) k (mut_r hr hq ho h)).2.1
      · obtain ⟨h1, h2⟩ := hmut x k h
        rintro (h3 | h3)
        · exact (M.mine x k h2).1 h3
        · exact h1 (M.dis x (.r i) k h2 (mut_r hr hq ho h3))
    have hS : ShAt w ok' r q.l := own_sh hO (fun k h => .inl h) fun k h => .inr h
    refine ⟨ok', ?_, fun k h => .inl h, fun k h => h.imp id fun h => ⟨.r i, mut_r hr hq ho h⟩, fun r' h' => by rw [hr] at h'; cases h'; exact hS⟩
    rw [← setRow_none_some]
    exact M2.setR hr hn ⟨hR.1, by simpa using hS⟩ (by simp)
theorem mut_demoteR {i : Nat} {q : Row} {x : Lend} {k : Nat} (h : mutAt (setRow σ i (some { q with ow := false })) E x = some k) : mutAt σ E x = some k := by
  cases x with
  | b b => exact h
  | r j =>
    simp only [mutAt, rowAt_set] at h
    by_cases hij : i = j ∧ i < σ.rw.length
    · obtain ⟨rfl, hlt⟩ := hij; simp [hlt] at h
    · simp only [hij, if_false] at h; exact h
theorem mut_demote {y : T} {x : Lend} {k : Nat} (h : mutAt (demote σ y) E x = some k) : mutAt σ E x = some k := by
  unfold SX.demote at h
  split at h
  · split at h
    · exact mut_demoteR h
    · exact h
  · split at h
    · exact mut_demoteR h
    · exact h
  · exact h
theorem Mem.demote (M : Mem w0 B σ E ok w) (x : T) : ∃ ok', Mem w0 B (demote σ x) E ok' w ∧ (∀ k, ok k → ok' k) ∧ (∀ k, ok' k → ok k ∨ Muts σ E k) := by
  unfold SX.demote
  split
  · split
    · rename_i i q hq; obtain ⟨ok', h1, h2, h3, _⟩ := M.demoteR hq; exact ⟨ok', h1, h2, h3⟩
    · exact ⟨ok, M, fun _ h => h, fun _ h => .inl h⟩
  · split
    · rename_i i _ _ q hq; obtain ⟨ok', h1, h2, h3, _⟩ := M.demoteR hq; exact ⟨ok', h1, h2, h3⟩
    · exact ⟨ok, M, fun _ h => h, fun _ h => .inl h⟩
  · exact ⟨ok, M, fun _ h => h, fun _ h => .inl h⟩
end Go.SX
