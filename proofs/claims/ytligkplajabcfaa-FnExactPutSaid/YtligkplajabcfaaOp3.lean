import Derived.Shelf.Slices.Delete
import Derived.Test.YtligkplajabcfaaIn2
set_option linter.unusedVariables false
set_option linter.unusedSimpArgs false
set_option linter.unusedSectionVars false
set_option linter.unusedVariables false
set_option linter.unusedSimpArgs false
namespace Go.SX
open Go.Shelf Go.Proofs Go.RowKit Go.Lib
variable {P : Program} {ρ : Ren}
/-! slices.Delete, at elements of z cells -/
structure DelL (P : Program) (ρ : Ren) (z : Nat) (i0 : TypeInfo) (z0 : Value) (nm : String) : Prop where
  mixed : P.follows .mixedOrders = true
  f24 : P.funcs[ρ.f 24]? = some { Body2.n24 ρ with name := nm }
  hnm : (nm == "runtime.NumGoroutine") = false
  t3 : P.underlying (ρ.t 3) = some (TypeDesc.int IntKind.i64)
  t4 : P.underlying (ρ.t 4) = some TypeDesc.bool
  t24 : P.underlying (ρ.t 24) = some (TypeDesc.slice (ρ.t 9))
  i9 : P.info? (ρ.t 9) = some i0
  hz : i0.size = z
  h0 : 0 < z
  hz0 : i0.zero = some z0
  hzc : z0.cells.size = z
  h1 : ∀ u ∈ z0.cells.toList, u.oneCell' = true
end Go.SX

set_option linter.unusedVariables false
set_option linter.unusedSimpArgs false
set_option linter.unusedSectionVars false
set_option linter.unusedVariables false
set_option linter.unusedSimpArgs false
namespace Go.SX
variable {P : Program} {w w' : World} {ok ok' okc : Nat → Prop}
/-! a function that moves elements of a row as they are: known of rows whose cells it can't look into, it is known of rows all below which is ours -/
def opC (u : Value) : C → C
  | .s v => .s v
  | .r _ => .s u
def opE (u : Nat → Value) : Nat → List C → List C
  | _, [] => []
  | q, c :: l => opC (u q) c :: opE u (q + 1) l
def opR (u : Nat → Nat → Value) : Nat → List (List C) → List (List C)
  | _, [] => []
  | p, el :: l => opE (u p) 0 el :: opR u (p + 1) l
def opA (u : Nat → Nat → Value) : A → A
  | .c (.r l) (some (s, true)) => .c (.r (opR u 0 l)) (some (s, false))
  | a => a
def opAs (U : Nat → Nat → Nat → Value) : Nat → List A → List A
  | _, [] => []
  | k, a :: l => opA (U k) a :: opAs U (k + 1) l
def rowsA : A → List (List C)
  | .c (.r l) (some (_, true)) => l
  | _ => []
def atA (xs : List A) (i : Nat × Nat) : Option (List C) := (xs[i.1]?).bind fun a => (rowsA a)[i.2]?
def opat (U : Nat → Nat → Nat → Value) (xs : List A) (i : Nat × Nat) : Option (List C) := (atA xs i).map (opE (U i.1 i.2) 0)
def OneU (U : Nat → Nat → Nat → Value) : Prop := ∀ k p q, (U k p q).oneCell' = true
structure Lifts (G : List A → Option (A × List (Option Cs))) (xs : List A) (s : Nat) (φ : List (Nat × Nat)) (back : List (Option Cs)) : Prop where
  nodup : φ.Nodup
  mem : ∀ i ∈ φ, (atA xs i).isSome = true
  run : ∀ U, OneU U → G (opAs U 0 xs) = some (.c (.r (φ.filterMap (opat U xs))) (some (s, false)), back)
open Classical in
noncomputable def deepen (G : List A → Option (A × List (Option Cs))) : List A → Option (A × List (Option Cs)) := fun xs =>
  if h : ∃ p : Nat × List (Nat × Nat) × List (Option Cs), Lifts G xs p.1 p.2.1 p.2.2 then some (.c (.r (h.choose.2.1.filterMap (atA xs))) (some (h.choose.1, true)), h.choose.2.2) else none
theorem opE_len (u : Nat → Value) : ∀ (q : Nat) (el : List C), (opE u q el).length = el.length
  | _, [] => rfl
  | q, c :: l => by simp [opE, opE_len u (q + 1) l]
theorem opE_get (u : Nat → Value) : ∀ (q : Nat) (el : List C) (j : Nat), (opE u q el)[j]? = (el[j]?).map (opC (u (q + j)))
  | _, [], j => by simp [opE]
  | q, c :: l, 0 => by simp [opE]
  | q, c :: l, j + 1 => by simp [opE, opE_get u (q + 1) l j, Nat.add_assoc, Nat.add_comm 1 j]
theorem opR_len (u : Nat → Nat → Value) : ∀ (p : Nat) (l : List (List C)), (opR u p l).length = l.length
  | _, [] => rfl
  | p, c :: l => by simp [opR, opR_len u (p + 1) l]
theorem opR_get (u : Nat → Nat → Value) : ∀ (p : Nat) (l : List (List C)) (j : Nat), (opR u p l)[j]? = (l[j]?).map (opE (u (p + j)) 0)
  | _, [], j => by simp [opR]
  | p, c :: l, 0 => by simp [opR]
  | p, c :: l, j + 1 => by simp [opR, opR_get u (p + 1) l j, Nat.add_assoc, Nat.add_comm 1 j]
theorem opAs_congr {U V : Nat → Nat → Nat → Value} : ∀ (l : List A) (k : Nat), (∀ k', k ≤ k' → U k' = V k') → opAs U k l = opAs V k l
  | [], _, _ => rfl
  | a :: l, k, h => by simp only [opAs]; rw [h k (Nat.le_refl _), opAs_congr l (k + 1) fun k' h' => h k' (by omega)]
/-- an element's cells, told apart -/
theorem opE_inj {el el' : List C} {i i' : Nat × Nat} (h : ∀ U, OneU U → opE (U i.1 i.2) 0 el = opE (U i'.1 i'.2) 0 el') : el = el' ∨ i = i' := by
  by_cases hi : i = i'
  · exact .inr hi
  · refine .inl ?_
    have hl : el.length = el'.length := by
      have := congrArg List.length (h (fun _ _ _ => .int .i64 0) (fun _ _ _ => rfl))
      simpa [opE_len] using this
    refine List.ext_getElem? fun q => ?_
    have hc : ∀ U, OneU U → (el[q]?).map (opC (U i.1 i.2 q)) = (el'[q]?).map (opC (U i'.1 i'.2 q)) := fun U hU => by
      have := congrArg (fun l : List C => l[q]?) (h U hU)
      simpa [opE_get] using this
    have c0 := hc (fun _ _ _ => .int .i64 0) (fun _ _ _ => rfl)
    have c1 := hc (fun _ _ _ => .int .i64 1) (fun _ _ _ => rfl)
    have c2 := hc (fun k p _ => if (k, p) = i then .int .i64 0 else .int .i64 1) (fun k p _ => by show (if (k, p) = i then Value.int .i64 0 else Value.int .i64 1).oneCell' = true; split <;> rfl)
    cases e1 : el[q]? with
    | none => cases e2 : el'[q]? with
      | none => rfl
      | some d => rw [e1, e2] at c0; simp at c0
    | some c => cases e2 : el'[q]? with
      | none => rw [e1, e2] at c0; simp at c0
      | some d =>
        rw [e1, e2] at c0 c1 c2
        simp only [Option.map_some, Option.some.injEq] at c0 c1 c2
        cases c <;> cases d <;> simp only [opC, C.s.injEq] at c0 c1 c2
        · rw [c0]
        · rw [c0] at c1; simp at c1
        · rw [← c0] at c1; simp at c1
        · simp only [if_true] at c2; rw [if_neg (fun e => hi e.symm)] at c2; simp at c2
theorem fm_map {α β : Type} {f : α → Option β} : ∀ {φ : List α}, (∀ i ∈ φ, (f i).isSome = true) → ∃ g : List β, φ.filterMap f = g ∧ g.length = φ.length ∧ ∀ j : Nat, g[j]? = (φ[j]?).bind f
  | [], _ => ⟨[], rfl, rfl, fun j => by simp⟩
  | a :: φ, h => by
    obtain ⟨b, hb⟩ := Option.isSome_iff_exists.1 (h a (by simp))
    obtain ⟨g, h1, h2, h3⟩ := fm_map (f := f) (φ := φ) fun i hi => h i (by simp [hi])
    refine ⟨b :: g, by simp [List.filterMap_cons, hb, h1], by simp [h2], fun j => ?_⟩
    cases j with
    | zero => simp [hb]
    | succ j => simp [h3]
theorem Lifts.someU {G xs s φ back} (L : Lifts G xs s φ back) (U) : ∀ i ∈ φ, (opat U xs i).isSome = true := fun i hi => by
  have := L.mem i hi
  simp only [opat, Option.isSome_map]; exact this
theorem Lifts.uniq {G : List A → Option (A × List (Option Cs))} {xs : List A} {s s' : Nat} {φ φ' : List (Nat × Nat)} {back back' : List (Option Cs)} (L : Lifts G xs s φ back) (L' : Lifts G xs s' φ' back') : s = s' ∧ φ.filterMap (atA xs) = φ'.filterMap (atA xs) ∧ back = back' := by
  have hr : ∀ U, OneU U → φ.filterMap (opat U xs) = φ'.filterMap (opat U xs) ∧ s = s' ∧ back = back' := fun U hU => by
    have := (L.run U hU).symm.trans (L'.run U hU)
    simp only [Option.some.injEq, Prod.mk.injEq, A.c.injEq, C.r.injEq, and_true] at this
    exact ⟨this.1.1, this.1.2, this.2⟩
  have h0 := hr (fun _ _ _ => .int .i64 0) (fun _ _ _ => rfl)
  refine ⟨h0.2.1, ?_, h0.2.2⟩
  obtain ⟨g, e1, l1, g1⟩ := fm_map L.mem
  obtain ⟨g', e2, l2, g2⟩ := fm_map L'.mem
  have hlen : φ.length = φ'.length := by
    obtain ⟨a, f1, f2, _⟩ := fm_map (L.someU fun _ _ _ => .int .i64 0)
    obtain ⟨b, f3, f4, _⟩ := fm_map (L'.someU fun _ _ _ => .int .i64 0)
    rw [← f2, ← f4, ← f1, ← f3, h0.1]
  rw [e1, e2]
  refine List.ext_getElem? fun j => ?_
  rw [g1, g2]
  cases hj : φ[j]? with
  | none =>
    have : φ'[j]? = none := by rw [List.getElem?_eq_none_iff] at hj ⊢; omega
    rw [this]
  | some i =>
    have hjl : j < φ'.length := by rw [← hlen]; exact (List.getElem?_eq_some_iff.1 hj).1
    have hj' : φ'[j]? = some φ'[j] := List.getElem?_eq_getElem hjl
    rw [hj']
    simp only [Option.bind_some]
    obtain ⟨el, he⟩ := Option.isSome_iff_exists.1 (L.mem i (List.mem_of_getElem? hj))
    obtain ⟨el', he'⟩ := Option.isSome_iff_exists.1 (L'.mem φ'[j] (List.getElem_mem hjl))
    have := opE_inj (el := el) (el' := el') (i := i) (i' := φ'[j]) fun U hU => by
      obtain ⟨a, f1, f2, f3⟩ := fm_map (L.someU U)
      obtain ⟨b, f4, f5, f6⟩ := fm_map (L'.someU U)
      have h1 : a = b := by rw [← f1, ← f4]; exact (hr U hU).1
      have h2 := f3 j
      rw [h1, f6 j, hj, hj'] at h2
      simp only [Option.bind_some, opat, he, he', Option.map_some, Option.some.injEq] at h2
      exact h2.symm
    rw [he, he']
    rcases this with h | h
    · rw [h]
    · rw [h, he'] at he; cases he; rfl
theorem deepen_of {G : List A → Option (A × List (Option Cs))} {xs : List A} {s : Nat} {φ : List (Nat × Nat)} {back : List (Option Cs)} (L : Lifts G xs s φ back) : deepen G xs = some (.c (.r (φ.filterMap (atA xs))) (some (s, true)), back) := by
  have h : ∃ p : Nat × List (Nat × Nat) × List (Option Cs), Lifts G xs p.1 p.2.1 p.2.2 := ⟨(s, φ, back), L⟩
  unfold deepen
  rw [dif_pos h]
  obtain ⟨h1, h2, h3⟩ := h.choose_spec.uniq L
  rw [h1, h2, h3]
/-- what is below the rows, of whose blocks they are, when they are seen from above alone -/
structure Hid (w : World) (xs : List A) (k0 : Nat) (U : Nat → Nat → Nat → Value) (f : Nat → Nat → Nat → List Nat) (bs bs' : List Nat) : Prop where
  sub : ∀ b ∈ bs', b ∈ bs
  nodup : bs'.Nodup
  blk : ∀ k p q b, b ∈ f k p q → b ∈ bs ∧ b ∉ bs' ∧ b < w.heap.size
  cell : ∀ k p el q c, atA xs (k, p) = some el → el[q]? = some c → DHc w (colZ el.length q) c (match c with | .s v => v | .r _ => U (k0 + k) p q) (f (k0 + k) p q)
  dis : ∀ k p q k' p' q' b, b ∈ f k p q → b ∈ f k' p' q' → k = k' ∧ p = p' ∧ q = q'
  low : ∀ k p q b, b ∈ f k p q → k0 ≤ k
theorem hid_other {a : A} {l : List A} {k0 : Nat} {U : Nat → Nat → Nat → Value} {f : Nat → Nat → Nat → List Nat} {c bs bs' : List Nat} (hU : Hid w l (k0 + 1) U f bs bs') (ha : rowsA a = []) (hnd : (c ++ bs).Nodup) : Hid w (a :: l) k0 U f (c ++ bs) (c ++ bs') := by
  have hn := List.nodup_append.1 hnd
  refine ⟨fun b hb => ?_, List.nodup_append.2 ⟨hn.1, hU.nodup, fun a ha b hb => hn.2.2 a ha b (hU.sub b hb)⟩, fun k p q b hb => ?_, fun k p el q c h1 h2 => ?_, hU.dis, fun k p q b hb => by have := hU.low k p q b hb; omega⟩
  · rcases List.mem_append.1 hb with h | h
    · exact List.mem_append.2 (.inl h)
    · exact List.mem_append.2 (.inr (hU.sub b h))
  · obtain ⟨h1, h2, h3⟩ := hU.blk k p q b hb
    refine ⟨List.mem_append.2 (.inr h1), fun h => ?_, h3⟩
    rcases List.mem_append.1 h with h | h
    · exact hn.2.2 b h b h1 rfl
    · exact h2 h
  · cases k with
    | zero => simp [atA, ha] at h1
    | succ k =>
      have := hU.cell k p el q c (by simpa [atA] using h1) h2
      rw [show k0 + (k + 1) = k0 + 1 + k by omega]; exact this
theorem opA_other {u : Nat → Nat → Value} {a : A} (h : ∀ l s, a ≠ .c (.r l) (some (s, true))) : opA u a = a ∧ rowsA a = [] := by
  constructor
  · unfold opA
    split
    · rename_i l s; exact absurd rfl (h l s)
    · rfl
  · unfold rowsA
    split
    · rename_i l s; exact absurd rfl (h l s)
    · rfl
theorem dh_s {v x : Value} {D : List Nat} (h : DH w (.s v) x D) : x = v := by cases h; rfl
theorem args_op {xs : List A} {vs : List Value} {hs : List H} {bs : List Nat} (h : ArgsRel w ok xs vs hs bs) : ∀ (k0 : Nat), bs.Nodup → ∃ U f bs', OneU U ∧ ArgsRel w ok (opAs U k0 xs) vs hs bs' ∧ Hid w xs k0 U f bs bs' := by
  induction h with
  | nil => exact fun k0 _ => ⟨fun _ _ _ => .int .i64 0, fun _ _ _ => [], [], fun _ _ _ => rfl, .nil, ⟨by simp, by simp, by simp, fun k p el q c h => by simp [atA] at h, by simp, by simp⟩⟩
  | @sh x v l vs hs bs hx hl ih =>
    intro k0 hnd
    obtain ⟨U, f, bs', h1, h2, h3⟩ := ih (k0 + 1) hnd
    obtain ⟨e1, e2⟩ := opA_other (u := U k0) (a := .c x none) (by simp)
    exact ⟨U, f, bs', h1, by simp only [opAs, e1]; exact .sh hx h2, hid_other (c := []) h3 e2 hnd⟩
  | @ag x us l vs hs hs' bs0 bs hx hl ih =>
    intro k0 hnd
    obtain ⟨U, f, bs', h1, h2, h3⟩ := ih (k0 + 1) (List.nodup_append.1 hnd).2.1
    obtain ⟨e1, e2⟩ := opA_other (u := U k0) (a := .ag x) (by simp)
    exact ⟨U, f, bs0 ++ bs', h1, by simp only [opAs, e1]; exact .ag hx h2, hid_other h3 e2 hnd⟩
  | @p x k l vs hs bs0 bs t cs hk hx hl ih =>
    intro k0 hnd
    obtain ⟨U, f, bs', h1, h2, h3⟩ := ih (k0 + 1) (List.nodup_append.1 hnd).2.1
    obtain ⟨e1, e2⟩ := opA_other (u := U k0) (a := .p x) (by simp)
    exact ⟨U, f, (k :: bs0) ++ bs', h1, by simp only [opAs, e1]; exact .p t cs hk hx h2, hid_other h3 e2 hnd⟩
  | @f g ls ks l vs hs bs0 bs hx hl ih =>
    intro k0 hnd
    obtain ⟨U, f, bs', h1, h2, h3⟩ := ih (k0 + 1) (List.nodup_append.1 hnd).2.1
    obtain ⟨e1, e2⟩ := opA_other (u := U k0) (a := .f g ls) (by simp)
    exact ⟨U, f, bs0 ++ bs', h1, by simp only [opAs, e1]; exact .f hx h2, hid_other h3 e2 hnd⟩
  | @own r d x b0 l vs hs bs hx hl ih =>
    intro k0 hnd
    have hn := List.nodup_append.1 hnd
    obtain ⟨U, f, bs', h1, h2, h3⟩ := ih (k0 + 1) hn.2.1
    cases d with
    | false =>
      obtain ⟨e1, e2⟩ := opA_other (u := U k0) (a := .c (.r x) (some (r.sz, false))) (by simp)
      exact ⟨U, f, b0 ++ bs', h1, by simp only [opAs, e1]; exact .own hx h2, hid_other h3 e2 hnd⟩
    | true =>
      obtain ⟨δ, rfl, hD⟩ := hx.deep
      have hnk := deep_nodup hD
      have hown : ∀ b, b ∈ δ → r.κ ≠ some b := fun b hb e => (List.nodup_append.1 hnk).2.2 b (by simp [e]) b hb rfl
      have hDH := dh_lt (deep_dh hD)
      obtain ⟨off, t, cs, u, g, a1, a2, a3, a4, a5, a6, a7, a8, a9, a10, a11, a12⟩ := hD
      let u' : Nat → Nat → Value := fun p q => if p < r.n ∧ q < r.sz then u p q else .int .i64 0
      let U' : Nat → Nat → Nat → Value := fun k => if k = k0 then u' else U k
      let f' : Nat → Nat → Nat → List Nat := fun k p q => if k = k0 then (if p < r.n ∧ q < r.sz then g p q else []) else f k p q
      have hU0 : U' k0 = u' := by simp [U']
      have hget : ∀ p q, p < r.n → q < r.sz → ∃ el c, x[p]? = some el ∧ el[q]? = some c := fun p q hp hq =>
        ⟨_, _, List.getElem?_eq_getElem (by omega), List.getElem?_eq_getElem (by rw [a3 _ (List.getElem_mem _)]; exact hq)⟩
      have hu1 : ∀ p q, (u' p q).oneCell' = true := fun p q => by
        simp only [u']
        split
        · rename_i hpq
          obtain ⟨el, c, e1, e2⟩ := hget p q hpq.1 hpq.2
          exact (a8 p q el c e1 e2 (by simp)).one
        · rfl
      have hgb : ∀ p q, p < r.n → q < r.sz → ∀ b ∈ g p q, b ∈ δ := fun p q hp hq b hb => (a9 b).2 ⟨p, q, hp, hq, by simp, hb⟩
      refine ⟨U', f', r.κ.toList ++ bs', fun k p q => ?_, ?_, ?_⟩
      · simp only [U']
        split
        · exact hu1 p q
        · exact h1 k p q
      · have e1 : opAs U' k0 (.c (.r x) (some (r.sz, true)) :: l) = .c (.r (opR u' 0 x)) (some (r.sz, false)) :: opAs U (k0 + 1) l := by
          simp only [opAs, opA, hU0]
          rw [opAs_congr l (k0 + 1) fun k' hk' => by simp only [U']; rw [if_neg (by omega)]]
        rw [e1]
        refine .own (OwnAt.x ⟨by rw [opR_len]; exact a1, a2, fun el hel => ?_, a4, ?_⟩) h2
        · obtain ⟨j, hj⟩ := List.mem_iff_getElem?.1 hel
          rw [opR_get] at hj
          obtain ⟨el0, h5, rfl⟩ := Option.map_eq_some_iff.1 hj
          rw [opE_len]; exact a3 _ (List.mem_of_getElem? h5)
        · cases hκ : r.κ with
          | none => exact a5 hκ
          | some k =>
            obtain ⟨b1, b2, b3⟩ := a6 k hκ
            refine ⟨off, t, cs, b1, b2, b3, fun p q el c hp hq => ?_⟩
            rw [opR_get, Nat.zero_add] at hp
            obtain ⟨el0, h5, rfl⟩ := Option.map_eq_some_iff.1 hp
            rw [opE_get, Nat.zero_add] at hq
            obtain ⟨c0, h6, rfl⟩ := Option.map_eq_some_iff.1 hq
            obtain ⟨hp', hq'⟩ := cell_in a1 a3 h5 h6
            refine ⟨u p q, a7 p q hp' hq', ?_⟩
            have hc := (a8 p q el0 c0 h5 h6 (by simp)).1
            have ho := hc.one
            cases c0 with
            | s v =>
              have : u p q = v := dh_s hc
              rw [this] at ho ⊢
              exact .s v ho
            | r l0 =>
              simp only [opC, u']
              rw [if_pos ⟨hp', hq'⟩]
              exact .s _ ho
      · refine ⟨fun b hb => ?_, List.nodup_append.2 ⟨by cases r.κ <;> simp, h3.nodup, fun a ha b hb => hn.2.2 a (List.mem_append.2 (.inl ha)) b (h3.sub b hb)⟩, fun k p q b hb => ?_, fun k p el q c h5 h6 => ?_, fun k p q k' p' q' b hb hb' => ?_, fun k p q b hb => ?_⟩
        · rcases List.mem_append.1 hb with h | h
          · exact List.mem_append.2 (.inl (List.mem_append.2 (.inl h)))
          · exact List.mem_append.2 (.inr (h3.sub b h))
        · simp only [f'] at hb
          split at hb
          · split at hb
            · rename_i hpq
              have hbδ := hgb p q hpq.1 hpq.2 b hb
              refine ⟨List.mem_append.2 (.inl (List.mem_append.2 (.inr hbδ))), fun h => ?_, hDH b (List.mem_append.2 (.inr hbδ))⟩
              rcases List.mem_append.1 h with h | h
              · exact hown b hbδ (by cases hκ : r.κ <;> simp_all)
              · exact hn.2.2 b (List.mem_append.2 (.inr hbδ)) b (h3.sub b h) rfl
            · simp at hb
          · obtain ⟨h5, h6, h7⟩ := h3.blk k p q b hb
            refine ⟨List.mem_append.2 (.inr h5), fun h => ?_, h7⟩
            rcases List.mem_append.1 h with h | h
            · exact hn.2.2 b (List.mem_append.2 (.inl h)) b h5 rfl
            · exact h6 h
        · cases k with
          | zero =>
            have hx' : x[p]? = some el := by simpa [atA, rowsA] using h5
            obtain ⟨hp', hq'⟩ := cell_in a1 a3 hx' h6
            have hz := a3 el (List.mem_of_getElem? hx')
            have hc := a8 p q el c hx' h6 (by simp)
            simp only [Nat.add_zero, f', if_true, hU0, u', if_pos (And.intro hp' hq')]
            rw [hz]
            cases c with
            | s v =>
              have : u p q = v := dh_s hc.1
              rw [this] at hc; exact hc
            | r l0 => exact hc
          | succ k =>
            have := h3.cell k p el q c (by simpa [atA] using h5) h6
            rw [show k0 + 1 + k = k0 + (k + 1) by omega] at this
            simp only [U', f']
            have hk : ¬ (k0 + (k + 1) = k0) := by omega
            cases c with
            | s v => simp only [if_neg hk]; exact this
            | r l0 => simp only [if_neg hk]; exact this
        · simp only [f'] at hb hb'
          split at hb <;> split at hb'
          · rename_i c1 c2
            split at hb
            · split at hb'
              · rename_i q1 q2
                obtain ⟨e1, e2⟩ := a11 p q p' q' q1.1 q1.2 q2.1 q2.2 (by simp) (by simp) b hb hb'
                exact ⟨c1.trans c2.symm, e1, e2⟩
              · simp at hb'
            · simp at hb
          · split at hb
            · rename_i q1
              exact absurd rfl (hn.2.2 b (List.mem_append.2 (.inr (hgb p q q1.1 q1.2 b hb))) b (h3.blk _ _ _ b hb').1)
            · simp at hb
          · split at hb'
            · rename_i q1
              exact absurd rfl (hn.2.2 b (List.mem_append.2 (.inr (hgb p' q' q1.1 q1.2 b hb'))) b (h3.blk _ _ _ b hb).1)
            · simp at hb'
          · exact h3.dis k p q k' p' q' b hb hb'
        · simp only [f'] at hb
          split at hb
          · omega
          · have := h3.low k p q b hb; omega
theorem again {xs : List A} {φ : List (Nat × Nat)} {U : Nat → Nat → Nat → Value} {f : Nat → Nat → Nat → List Nat} {bs bs' : List Nat} (hnodup : φ.Nodup) (hmem : ∀ i ∈ φ, (atA xs i).isSome = true) (h3 : Hid w xs 0 U f bs bs') (e1 : Fr w (· ∈ bs') w') {r' : RV} (hκ0 : ∀ k, r'.κ = some k → k ∈ bs' ∨ w.heap.size ≤ k) (hO : OwnAt w' ok' r' (φ.filterMap (opat U xs))) :
    ∃ δ', DeepAt w' r' (φ.filterMap (atA xs)) δ' none ∧ δ'.Nodup ∧ (∀ b ∈ δ', b ∈ bs ∧ b ∉ bs' ∧ b < w.heap.size) ∧ ∀ k, r'.κ = some k → k ∉ δ' := by
  have hopat : ∀ i ∈ φ, (opat U xs i).isSome = true := fun i hi => by simp only [opat, Option.isSome_map]; exact hmem i hi
  generalize hLL : φ.filterMap (opat U xs) = LL at hO
  obtain ⟨o1, o2, o3, o4, o5⟩ := hO
  obtain ⟨gl, g1, g2, g3⟩ := fm_map hmem
  obtain ⟨ol, q1, q2, q3⟩ := fm_map hopat
  rw [hLL] at q1
  subst q1
  have hφ : ∀ j, j < r'.n → ∃ i el, φ[j]? = some i ∧ atA xs i = some el ∧ gl[j]? = some el ∧ LL[j]? = some (opE (U i.1 i.2) 0 el) ∧ el.length = r'.sz := fun j hj => by
    have hjl : j < φ.length := by omega
    obtain ⟨el, he⟩ := Option.isSome_iff_exists.1 (hmem φ[j] (List.getElem_mem hjl))
    have hj' : φ[j]? = some φ[j] := List.getElem?_eq_getElem hjl
    have h4 : LL[j]? = some (opE (U φ[j].1 φ[j].2) 0 el) := by rw [q3, hj']; simp [opat, he]
    refine ⟨φ[j], el, hj', he, by rw [g3, hj']; exact he, h4, ?_⟩
    have := o3 _ (List.mem_of_getElem? h4)
    rwa [opE_len] at this
  obtain ⟨δ', d1, d2⟩ := gather r'.n r'.sz (fun _ _ => True) fun p q => match φ[p]? with | some i => f i.1 i.2 q | none => []
  have hδ : ∀ b ∈ δ', b ∈ bs ∧ b ∉ bs' ∧ b < w.heap.size := fun b hb => by
    obtain ⟨p, q, hp, hq, _, hb⟩ := (d2 b).1 hb
    obtain ⟨i, el, p1, _⟩ := hφ p hp
    rw [p1] at hb
    exact h3.blk _ _ _ b hb
  have hold : ∀ b ∈ δ', w'.heap[b]? = w.heap[b]? := fun b hb => e1.old b (hδ b hb).2.2 (hδ b hb).2.1
  have hκb : ∀ k, r'.κ = some k → k ∉ δ' := fun k hk hkd => by
    have := hκ0 k hk
    obtain ⟨g1, g2, g3⟩ := hδ k hkd
    rcases this with h | h
    · exact g2 h
    · omega
  -- where they lie
  obtain ⟨off, t, cs, b3, b4⟩ : ∃ off t cs, (∀ k, r'.κ = some k → r'.a = some ⟨k, off, none⟩ ∧ w'.heap[k]? = some (.cells cs t (0, 0)) ∧ off + r'.cap * r'.sz ≤ cs.size) ∧ ∀ p q i el c, p < r'.n → φ[p]? = some i → atA xs i = some el → el[q]? = some c → ∃ u, cs[off + (p * r'.sz + q)]? = some u ∧ Holds w' ok' (opC (U i.1 i.2 q) c) u := by
    cases hκ : r'.κ with
    | none =>
      rw [hκ] at o5
      exact ⟨0, default, #[], by simp, fun p q i el c hp => by simp only at o5; omega⟩
    | some k =>
      rw [hκ] at o5
      obtain ⟨off, t, cs, c1, c2, c3, c4⟩ := o5
      refine ⟨off, t, cs, fun k' hk' => by cases hk'; exact ⟨c1, c2, c3⟩, fun p q i el c hp hi hel hc => ?_⟩
      obtain ⟨i', el', p1, p2, p3, p4, p5⟩ := hφ p hp
      rw [p1] at hi; cases hi
      rw [p2] at hel; cases hel
      exact c4 p q _ _ p4 (by rw [opE_get, hc, Nat.zero_add]; rfl)
  have hDeep : DeepAt w' r' gl δ' none := by
    refine ⟨off, t, cs, fun p q => (cs[off + (p * r'.sz + q)]?).getD undef, fun p q => (match φ[p]? with | some i => f i.1 i.2 q | none => []), by omega, o2, fun el hel => ?_, o4, fun h => by rw [h] at o5; exact o5, b3, fun p q hp hq => ?_, fun p q el c hp hq _ => ?_, fun b => by rw [d2]; simp, fun p q hp hq _ b hb => ?_, fun p q p' q' z1 z2 z3 z4 _ _ b hb hb' => ?_, d1⟩
    · obtain ⟨j, hj⟩ := List.mem_iff_getElem?.1 hel
      have hjl : j < r'.n := by have := (List.getElem?_eq_some_iff.1 hj).1; omega
      obtain ⟨i, el2, p1, p2, p3, p4, p5⟩ := hφ j hjl
      rw [p3] at hj; cases hj; exact p5
    · obtain ⟨i, el, p1, p2, p3, p4, p5⟩ := hφ p hp
      obtain ⟨u, hu, _⟩ := b4 p q i el _ hp p1 p2 (List.getElem?_eq_getElem (by omega))
      show _ = some ((cs[off + (p * r'.sz + q)]?).getD undef)
      rw [hu]; rfl
    · have hpl : p < r'.n := by have := (List.getElem?_eq_some_iff.1 hp).1; omega
      obtain ⟨i, el2, p1, p2, p3, p4, p5⟩ := hφ p hpl
      rw [p3] at hp; cases hp
      have hql : q < r'.sz := by rw [← p5]; exact (List.getElem?_eq_some_iff.1 hq).1
      obtain ⟨u, hu, hH⟩ := b4 p q i el c hpl p1 p2 hq
      have hcell := h3.cell i.1 i.2 el q c p2 hq
      simp only [Nat.zero_add, p1, hu, Option.getD_some] at hcell ⊢
      have hkp := hcell.keep (w' := w') fun b hb => hold b ((d2 b).2 ⟨p, q, hpl, hql, trivial, by rw [p1]; exact hb⟩)
      rw [← p5]
      cases c with
      | s v => cases hH; exact hkp
      | r l0 => cases hH; exact hkp
    · exact fun hk => hκb b hk ((d2 b).2 ⟨p, q, hp, hq, trivial, hb⟩)
    · obtain ⟨i, _, p1, _⟩ := hφ p z1
      obtain ⟨i', _, p1', _⟩ := hφ p' z3
      simp only [p1] at hb
      simp only [p1'] at hb'
      obtain ⟨e1, e2, e3⟩ := h3.dis _ _ _ _ _ _ b hb hb'
      have : i = i' := Prod.ext e1 e2
      subst this
      refine ⟨?_, e3⟩
      exact (List.getElem?_inj (by rw [← q2, o1]; exact z1) hnodup).1 (p1.trans p1'.symm)
  exact ⟨δ', by rw [g1]; exact hDeep, d1, hδ, hκb⟩
theorem deepen_ok {f : FuncId} {G : List A → Option (A × List (Option Cs))} (hG : FOk P f G) : FOk P f (deepen G) := by
  intro xs r back hv w vs hs bs okc hA hnd hno
  unfold deepen at hv
  split at hv
  case isFalse => simp at hv
  rename_i hex
  have L := hex.choose_spec
  generalize hex.choose = p at hv L
  obtain ⟨s, φ, back0⟩ := p
  simp only [Option.some.injEq, Prod.mk.injEq] at hv L
  obtain ⟨rfl, rfl⟩ := hv
  obtain ⟨U, f, bs', h1, h2, h3⟩ := args_op hA 0 hnd
  refine (hG _ _ _ (L.run U h1) w vs hs bs' okc h2 h3.nodup fun k hk => hno k (h3.sub k hk)).mono fun v w' he => ?_
  obtain ⟨ok', bs0, bs1, e1, e2, e3, e4, e5, e6, e7⟩ := he
  obtain ⟨hs2, e4⟩ := e4
  generalize hLL : φ.filterMap (opat U xs) = LL at e4
  generalize hss : (some (s, false) : Option Sz) = ss at e4
  generalize hvv : [v] = vv at e4
  cases e4 with
  | sh a b => cases hss
  | @own r' d x b0 l vs' hs' bs2 hX hN =>
    cases hN
    simp only [Option.some.injEq, Prod.mk.injEq] at hss
    obtain ⟨rfl, rfl⟩ := hss
    simp only [List.cons.injEq, and_true] at hvv
    subst hvv
    obtain ⟨hO, rfl⟩ := hX.flat
    rw [List.append_nil] at e6 e7
    subst hLL
    obtain ⟨δ', hDeep, d1, hδ, hκb⟩ := again L.nodup L.mem h3 e1 (fun k hk => (e7 k (List.mem_append.2 (.inl (by simp [hk])))).2) hO
    refine ⟨ok', r'.κ.toList ++ δ', bs1, ⟨e1.os, e1.tape, e1.output, e1.size, fun k hk hn => e1.old k hk fun h => hn (h3.sub k h)⟩, e2, fun k hk => (e3 k hk).imp id (fun h => h.imp (h3.sub k) id), ⟨[.r r'], ?_⟩, e5, ?_, fun k hk => ?_⟩
    · have := ArgsRel.own (w := w') (ok := ok') (r := r') (d := true) (x := φ.filterMap (atA xs)) (b0 := r'.κ.toList ++ δ') ⟨δ', rfl, hDeep, by simp⟩ .nil
      rw [List.append_nil] at this
      exact this
    · have := List.nodup_append.1 e6
      rw [List.append_assoc]
      refine List.nodup_append.2 ⟨this.1, List.nodup_append.2 ⟨d1, this.2.1, fun a ha b hb e => ?_⟩, fun a ha b hb e => ?_⟩
      · subst e
        obtain ⟨z1, z2, z3⟩ := hδ a ha
        rcases (e7 a (List.mem_append.2 (.inr hb))).2 with h | h
        · exact z2 h
        · omega
      · subst e
        rcases List.mem_append.1 hb with h | h
        · exact hκb a (by cases hκ : r'.κ <;> simp_all) h
        · exact this.2.2 a ha a h rfl
    · rw [List.append_assoc] at hk
      rcases List.mem_append.1 hk with h | h
      · obtain ⟨z1, z2⟩ := e7 k (List.mem_append.2 (.inl h))
        exact ⟨z1, z2.imp (h3.sub k) id⟩
      · rcases List.mem_append.1 h with h | h
        · obtain ⟨z1, z2, z3⟩ := hδ k h
          refine ⟨fun h' => ?_, .inl z1⟩
          rcases e3 k h' with h5 | h5 | h5
          · exact hno k z1 h5
          · exact z2 h5
          · omega
        · obtain ⟨z1, z2⟩ := e7 k (List.mem_append.2 (.inr h))
          exact ⟨z1, z2.imp (h3.sub k) id⟩
/-- the same, of a row that comes back in its place -/
structure LiftsB (G : List A → Option (A × List (Option Cs))) (xs : List A) (s : Nat) (φ : List (Nat × Nat)) (r : A) (back : List (Option Cs)) : Prop where
  nodup : φ.Nodup
  mem : ∀ i ∈ φ, (atA xs i).isSome = true
  hd : ∃ l s0 ys, xs = .c (.r l) (some (s0, true)) :: ys
  run : ∀ U, OneU U → G (opAs U 0 xs) = some (r, some [(.r (φ.filterMap (opat U xs)), some (s, false))] :: back)
theorem LiftsB.uniq {G : List A → Option (A × List (Option Cs))} {xs : List A} {s s' : Nat} {φ φ' : List (Nat × Nat)} {r r' : A} {back back' : List (Option Cs)} (L : LiftsB G xs s φ r back) (L' : LiftsB G xs s' φ' r' back') : s = s' ∧ φ.filterMap (atA xs) = φ'.filterMap (atA xs) ∧ r = r' ∧ back = back' := by
  have cnv : ∀ {s φ r back}, LiftsB G xs s φ r back → Lifts (fun ys => (G ys).bind fun p => match p.2 with | some [(c, o)] :: b => some (.c c o, b) | _ => none) xs s φ back := fun h => ⟨h.nodup, h.mem, fun U hU => by simp only [h.run U hU, Option.bind_some]⟩
  obtain ⟨h1, h2, h3⟩ := (cnv L).uniq (cnv L')
  refine ⟨h1, h2, ?_, h3⟩
  have := (L.run (fun _ _ _ => .int .i64 0) (fun _ _ _ => rfl)).symm.trans (L'.run (fun _ _ _ => .int .i64 0) (fun _ _ _ => rfl))
  simp only [Option.some.injEq, Prod.mk.injEq] at this
  exact this.1
open Classical in
noncomputable def deepenB (G : List A → Option (A × List (Option Cs))) : List A → Option (A × List (Option Cs)) := fun xs =>
  if h : ∃ p : Nat × List (Nat × Nat) × A × List (Option Cs), LiftsB G xs p.1 p.2.1 p.2.2.1 p.2.2.2 then some (h.choose.2.2.1, some [(.r (h.choose.2.1.filterMap (atA xs)), some (h.choose.1, true))] :: h.choose.2.2.2) else none
theorem deepenB_of {G : List A → Option (A × List (Option Cs))} {xs : List A} {s : Nat} {φ : List (Nat × Nat)} {r : A} {back : List (Option Cs)} (L : LiftsB G xs s φ r back) : deepenB G xs = some (r, some [(.r (φ.filterMap (atA xs)), some (s, true))] :: back) := by
  have h : ∃ p : Nat × List (Nat × Nat) × A × List (Option Cs), LiftsB G xs p.1 p.2.1 p.2.2.1 p.2.2.2 := ⟨(s, φ, r, back), L⟩
  unfold deepenB
  rw [dif_pos h]
  obtain ⟨h1, h2, h3, h4⟩ := h.choose_spec.uniq L
  rw [h1, h2, h3, h4]
theorem deepenB_ok {f : FuncId} {G : List A → Option (A × List (Option Cs))} (hG : FOk P f G) : FOk P f (deepenB G) := by
  intro xs r back hv w vs hs bs okc hA hnd hno
  unfold deepenB at hv
  split at hv
  case isFalse => simp at hv
  rename_i hex
  have L := hex.choose_spec
  generalize hex.choose = p at hv L
  obtain ⟨s, φ, r0, back0⟩ := p
  simp only [Option.some.injEq, Prod.mk.injEq] at hv L
  obtain ⟨rfl, rfl⟩ := hv
  obtain ⟨U, f, bs', h1, h2, h3⟩ := args_op hA 0 hnd
  refine (hG _ _ _ (L.run U h1) w vs hs bs' okc h2 h3.nodup fun k hk => hno k (h3.sub k hk)).mono fun v w' he => ?_
  obtain ⟨ok', bs0, bs1, e1, e2, e3, e4, e5, e6, e7⟩ := he
  obtain ⟨rh, hsT, rfl⟩ : ∃ rh hsT, hs = .r rh :: hsT := by
    obtain ⟨l, s0, ys, rfl⟩ := L.hd
    cases hA with
    | own a b => exact ⟨_, _, rfl⟩
  generalize hLL : φ.filterMap (opat U xs) = LL at e5
  generalize hss : (some (s, false) : Option Sz) = ss at e5
  cases e5 with
  | @row _ d x b0 _ _ bs2 hX hN =>
    simp only [Option.some.injEq, Prod.mk.injEq] at hss
    obtain ⟨rfl, rfl⟩ := hss
    obtain ⟨hO, rfl⟩ := hX.flat
    subst hLL
    have hin : ∀ k, rh.κ = some k → k ∈ bs0 ++ (rh.κ.toList ++ bs2) := fun k hk => List.mem_append.2 (.inr (List.mem_append.2 (.inl (by simp [hk]))))
    obtain ⟨δ', hDeep, d1, hδ, hκb⟩ := again L.nodup L.mem h3 e1 (fun k hk => (e7 k (hin k hk)).2) hO
    refine ⟨ok', bs0, (rh.κ.toList ++ δ') ++ bs2, ⟨e1.os, e1.tape, e1.output, e1.size, fun k hk hn => e1.old k hk fun h => hn (h3.sub k h)⟩, e2, fun k hk => (e3 k hk).imp id (fun h => h.imp (h3.sub k) id), e4, .row (d := true) ⟨δ', rfl, hDeep, by simp⟩ hN, ?_, fun k hk => ?_⟩
    · have n1 := List.nodup_append.1 e6
      have n2 := List.nodup_append.1 n1.2.1
      have hd : ∀ a ∈ δ', ∀ b, b ∈ bs0 ++ (rh.κ.toList ++ bs2) → a ≠ b := fun a ha b hb e => by
        subst e
        obtain ⟨z1, z2, z3⟩ := hδ a ha
        rcases (e7 a hb).2 with h | h
        · exact z2 h
        · omega
      refine List.nodup_append.2 ⟨n1.1, List.nodup_append.2 ⟨List.nodup_append.2 ⟨n2.1, d1, fun a ha b hb e => ?_⟩, n2.2.1, fun a ha b hb e => ?_⟩, fun a ha b hb e => ?_⟩
      · exact hd b hb a (List.mem_append.2 (.inr (List.mem_append.2 (.inl ha)))) e.symm
      · rcases List.mem_append.1 ha with h | h
        · exact n2.2.2 a h b hb e
        · exact hd a h b (List.mem_append.2 (.inr (List.mem_append.2 (.inr hb)))) e
      · rcases List.mem_append.1 hb with h | h
        · rcases List.mem_append.1 h with h | h
          · exact n1.2.2 a ha b (List.mem_append.2 (.inl h)) e
          · exact hd b h a (List.mem_append.2 (.inl ha)) e.symm
        · exact n1.2.2 a ha b (List.mem_append.2 (.inr h)) e
    · have hsub : ∀ k, k ∈ bs0 ++ (rh.κ.toList ++ bs2) → ¬ ok' k ∧ (k ∈ bs ∨ w.heap.size ≤ k) := fun k hk => ⟨(e7 k hk).1, (e7 k hk).2.imp (h3.sub k) id⟩
      rcases List.mem_append.1 hk with h | h
      · exact hsub k (List.mem_append.2 (.inl h))
      · rcases List.mem_append.1 h with h | h
        · rcases List.mem_append.1 h with h | h
          · exact hsub k (List.mem_append.2 (.inr (List.mem_append.2 (.inl h))))
          · obtain ⟨z1, z2, z3⟩ := hδ k h
            refine ⟨fun h' => ?_, .inl z1⟩
            rcases e3 k h' with h5 | h5 | h5
            · exact hno k z1 h5
            · exact z2 h5
            · omega
        · exact hsub k (List.mem_append.2 (.inr (List.mem_append.2 (.inr h))))
end Go.SX

set_option linter.unusedVariables false
set_option linter.unusedSimpArgs false
set_option linter.unusedSectionVars false
set_option linter.unusedVariables false
set_option linter.unusedSimpArgs false
namespace Go.SX
open Go.Nt
theorem nd_map {α β : Type} {f : α → β} (hf : ∀ a b, f a = f b → a = b) : ∀ {l : List α}, l.Nodup → (l.map f).Nodup := fun h => List.pairwise_map.2 (h.imp fun hab e => hab (hf _ _ e))
theorem opAs_same {U : Nat → Nat → Nat → Value} : ∀ {ys : List A} {k : Nat}, (∀ a ∈ ys, rowsA a = [] ∧ ∀ u, opA u a = a) → opAs U k ys = ys
  | [], _, _ => rfl
  | a :: l, k, h => by simp only [opAs]; rw [(h a (by simp)).2, opAs_same fun b hb => h b (by simp [hb])]
/-- one such row, the first argument; what stays of it: a part in its order -/
theorem deepen_flt {α β : Type} {G : List A → Option (A × List (Option Cs))} {z : Nat} {en : α → List C} {enO : β → List C} {to : (Nat → Value) → α → β} {keep : α → Bool} {kO : β → Bool} {ys : List A} {back : List (Option Cs)} (hto : ∀ u x, enO (to u x) = opE u 0 (en x)) (hk : ∀ u x, kO (to u x) = keep x) (hys : ∀ a ∈ ys, rowsA a = [] ∧ ∀ u, opA u a = a)
    (l : List α) (run : ∀ L : List β, L.length = l.length → G (.c (.r (L.map enO)) (some (z, false)) :: ys) = some (.c (.r ((L.filter kO).map enO)) (some (z, false)), back)) :
    deepen G (.c (.r (l.map en)) (some (z, true)) :: ys) = some (.c (.r ((l.filter keep).map en)) (some (z, true)), back) := by
  have hat : ∀ p, atA (.c (.r (l.map en)) (some (z, true)) :: ys) (0, p) = (l[p]?).map en := fun p => by simp [atA, rowsA]
  have key : ∀ (γ : Type) (f : Nat → Option γ) (g : α → Nat → γ) (l : List α) (k : Nat), (∀ p, f (k + p) = (l[p]?).map fun x => g x (k + p)) →
      ((List.range' k l.length).filter fun p => ((l[p - k]?).map keep).getD false).filterMap f = ((l.zipIdx k).filter fun x => keep x.1).map fun x => g x.1 x.2 := by
    intro γ f g l
    induction l with
    | nil => intro k h; rfl
    | cons a l ih =>
      intro k h
      have h0 := h 0
      simp only [Nat.add_zero, List.getElem?_cons_zero, Option.map_some] at h0
      have := ih (k + 1) fun p => by have := h (p + 1); simp only [List.getElem?_cons_succ] at this; rw [show k + 1 + p = k + (p + 1) by omega]; exact this
      have e : (List.range' (k + 1) l.length).filter (fun p => (((a :: l)[p - k]?).map keep).getD false) = (List.range' (k + 1) l.length).filter fun p => ((l[p - (k + 1)]?).map keep).getD false :=
        List.filter_congr fun p hp => by
          have := (List.mem_range'_1.1 hp).1
          rw [show p - k = (p - (k + 1)) + 1 by omega, List.getElem?_cons_succ]
      rw [List.length_cons, List.range'_succ, List.filter_cons, List.zipIdx_cons, List.filter_cons]
      simp only [Nat.sub_self, List.getElem?_cons_zero, Option.map_some, Option.getD_some]
      rw [e]
      cases keep a with
      | true => simp [h0, this]
      | false => simp [this]
  have hm : ∀ p, p ∈ ((List.range' 0 l.length).filter fun p => ((l[p - 0]?).map keep).getD false) → p < l.length := fun p hp => by
    have := (List.mem_range'_1.1 (List.mem_filter.1 hp).1).2; omega
  have L : Lifts G (.c (.r (l.map en)) (some (z, true)) :: ys) z (((List.range' 0 l.length).filter fun p => ((l[p - 0]?).map keep).getD false).map fun p => (0, p)) back := by
    refine ⟨?_, fun i hi => ?_, fun U hU => ?_⟩
    · exact nd_map (fun a b h => by simpa using h) (List.Pairwise.sublist List.filter_sublist List.nodup_range')
    · obtain ⟨p, hp, rfl⟩ := List.mem_map.1 hi
      rw [hat, Option.isSome_map]
      simp [hm p hp]
    · have e1 : ∀ (l : List α) (k : Nat), opR (U 0) k (l.map en) = ((l.zipIdx k).map fun x => to (U 0 x.2) x.1).map enO := by
        intro l
        induction l with
        | nil => intro k; rfl
        | cons a l ih => intro k; simp only [List.map_cons, opR, List.zipIdx_cons, hto, ih]
      show G (opA (U 0) (.c (.r (l.map en)) (some (z, true))) :: opAs U 1 ys) = _
      rw [opAs_same hys]
      simp only [opA]
      rw [e1, run _ (by simp)]
      congr 5
      rw [List.filterMap_map, key (List C) (opat U (.c (.r (l.map en)) (some (z, true)) :: ys) ∘ fun p => (0, p)) (fun x p => opE (U 0 p) 0 (en x)) l 0 (fun p => by simp only [Function.comp, opat, hat, Nat.zero_add, Option.map_map]; rfl)]
      rw [List.filter_map, List.map_map]
      congr 1
      · funext x; simp [hto]
      · refine List.filter_congr fun x _ => ?_
        simp [hk]
  rw [deepen_of L]
  congr 5
  rw [List.filterMap_map, key (List C) (atA (.c (.r (l.map en)) (some (z, true)) :: ys) ∘ fun p => (0, p)) (fun x _ => en x) l 0 (fun p => by simp only [Nat.zero_add, Function.comp]; exact hat p)]
  have : ∀ (l : List α) (k : Nat), ((l.zipIdx k).filter fun x => keep x.1).map (fun x => en x.1) = (l.filter keep).map en := by
    intro l
    induction l with
    | nil => intro k; rfl
    | cons a l ih =>
      intro k
      rw [List.zipIdx_cons, List.filter_cons, List.filter_cons]
      cases keep a <;> simp [ih]
  exact this l 0
/-- one such row that is looked at alone: what comes out hangs on what a test says of the elements -/
theorem deepenB_id {α β : Type} {G : List A → Option (A × List (Option Cs))} {z : Nat} {en : α → List C} {enO : β → List C} {to : (Nat → Value) → α → β} {keep : α → Bool} {kO : β → Bool} {ys : List A} {r : List Bool → A} {back : List (Option Cs)} (hto : ∀ u x, enO (to u x) = opE u 0 (en x)) (hk : ∀ u x, kO (to u x) = keep x) (hys : ∀ a ∈ ys, rowsA a = [] ∧ ∀ u, opA u a = a)
    (l : List α) (run : ∀ L : List β, L.length = l.length → G (.c (.r (L.map enO)) (some (z, false)) :: ys) = some (r (L.map kO), some [(.r (L.map enO), some (z, false))] :: back)) :
    deepenB G (.c (.r (l.map en)) (some (z, true)) :: ys) = some (r (l.map keep), some [(.r (l.map en), some (z, true))] :: back) := by
  have hat : ∀ p, atA (.c (.r (l.map en)) (some (z, true)) :: ys) (0, p) = (l[p]?).map en := fun p => by simp [atA, rowsA]
  have key : ∀ (γ : Type) (f : Nat → Option γ) (m : List γ) (k : Nat), (∀ p, f (k + p) = m[p]?) → (List.range' k m.length).filterMap f = m := by
    intro γ f m
    induction m with
    | nil => intro j _; rfl
    | cons a m ih =>
      intro j hf
      have h0 := hf 0
      simp only [Nat.add_zero, List.getElem?_cons_zero] at h0
      rw [List.length_cons, List.range'_succ, List.filterMap_cons, h0]
      simp only
      rw [ih (j + 1) fun p => by have := hf (p + 1); rw [show j + 1 + p = j + (p + 1) by omega, this]; simp]
  have e1 : ∀ (U : Nat → Nat → Nat → Value) (l : List α) (k : Nat), opR (U 0) k (l.map en) = ((l.zipIdx k).map fun x => to (U 0 x.2) x.1).map enO := by
    intro U l
    induction l with
    | nil => intro k; rfl
    | cons a l ih => intro k; simp only [List.map_cons, opR, List.zipIdx_cons, hto, ih]
  have e2 : ∀ (U : Nat → Nat → Nat → Value) (l : List α) (k : Nat), ((l.zipIdx k).map fun x => to (U 0 x.2) x.1).map kO = l.map keep := by
    intro U l
    induction l with
    | nil => intro k; rfl
    | cons a l ih => intro k; simp only [List.map_cons, List.zipIdx_cons, hk, ih]
  have L : LiftsB G (.c (.r (l.map en)) (some (z, true)) :: ys) z ((List.range' 0 (l.map en).length).map fun p => (0, p)) (r (l.map keep)) back := by
    refine ⟨nd_map (fun a b h => by simpa using h) List.nodup_range', fun i hi => ?_, ⟨_, _, _, rfl⟩, fun U hU => ?_⟩
    · obtain ⟨p, hp, rfl⟩ := List.mem_map.1 hi
      have := (List.mem_range'_1.1 hp).2
      rw [hat, Option.isSome_map]
      simp only [List.length_map] at this
      simp; omega
    · show G (opA (U 0) (.c (.r (l.map en)) (some (z, true))) :: opAs U 1 ys) = _
      rw [opAs_same hys]
      simp only [opA]
      have e3 : ((List.range' 0 (l.map en).length).map fun p => ((0 : Nat), p)).filterMap (opat U (.c (.r (l.map en)) (some (z, true)) :: ys)) = opR (U 0) 0 (l.map en) := by
        rw [List.filterMap_map]
        have := key (List C) (opat U (.c (.r (l.map en)) (some (z, true)) :: ys) ∘ fun p => (0, p)) (opR (U 0) 0 (l.map en)) 0 fun p => by
          simp only [Function.comp, opat, hat, Nat.zero_add, opR_get]; simp
        rw [opR_len] at this; exact this
      rw [e3, e1, run _ (by simp), e2]
  rw [deepenB_of L]
  have e3 : ((List.range' 0 (l.map en).length).map fun p => ((0 : Nat), p)).filterMap (atA (.c (.r (l.map en)) (some (z, true)) :: ys)) = l.map en := by
    rw [List.filterMap_map]
    exact key (List C) (atA (.c (.r (l.map en)) (some (z, true)) :: ys) ∘ fun p => (0, p)) (l.map en) 0 fun p => by simp only [Function.comp, hat, Nat.zero_add]; simp
  rw [e3]
/-- slices.Insert -/
theorem insD_of {α : Type} {z b : Nat} {en : α → List C} {l v r : List α} {i : Int} (h : Nt.ins b l i v = some r) : deepen (insF z b) [.c (.r (l.map en)) (some (z, true)), .c (.s (.int .i64 i)) none, .c (.r (v.map en)) (some (z, true))] = some (.c (.r (r.map en)) (some (z, true)), [none, none]) := by
  unfold Nt.ins at h
  split at h
  case isFalse => cases h
  rename_i hc
  obtain ⟨h1, h2, h3, h4⟩ := hc
  obtain rfl := Option.some.inj h
  obtain ⟨k, rfl⟩ : ∃ k : Nat, i = k := ⟨i.toNat, by omega⟩
  have hk : k ≤ l.length := by omega
  have hv : v ≠ [] := fun e => by subst e; simp at h3
  have hat0 : ∀ p, atA [.c (.r (l.map en)) (some (z, true)), .c (.s (.int .i64 (k : Int))) none, .c (.r (v.map en)) (some (z, true))] (0, p) = (l[p]?).map en := fun p => by simp [atA, rowsA]
  have hat2 : ∀ p, atA [.c (.r (l.map en)) (some (z, true)), .c (.s (.int .i64 (k : Int))) none, .c (.r (v.map en)) (some (z, true))] (2, p) = (v[p]?).map en := fun p => by simp [atA, rowsA]
  have fm : ∀ {γ : Type} (f : Nat → Option γ) (m : List γ) (j : Nat), (∀ p, p < m.length → f (j + p) = m[p]?) → (List.range' j m.length).filterMap f = m := by
    intro γ f m
    induction m with
    | nil => intro j _; rfl
    | cons a m ih =>
      intro j hf
      have h0 := hf 0 (by simp)
      simp only [Nat.add_zero, List.getElem?_cons_zero] at h0
      rw [List.length_cons, List.range'_succ, List.filterMap_cons, h0]
      simp only
      rw [ih (j + 1) fun p hp => by have := hf (p + 1) (by simpa using hp); rw [show j + 1 + p = j + (p + 1) by omega, this]; simp]
  have L : Lifts (insF z b) [.c (.r (l.map en)) (some (z, true)), .c (.s (.int .i64 (k : Int))) none, .c (.r (v.map en)) (some (z, true))] z ((List.range' 0 (l.take k).length).map (fun p => (0, p)) ++ (List.range' 0 v.length).map (fun p => (2, p)) ++ (List.range' k (l.drop k).length).map (fun p => (0, p))) [none, none] := by
    refine ⟨?_, fun i hi => ?_, fun U hU => ?_⟩
    · refine List.nodup_append.2 ⟨List.nodup_append.2 ⟨nd_map (fun a b h => by simpa using h) List.nodup_range', nd_map (fun a b h => by simpa using h) List.nodup_range', ?_⟩, nd_map (fun a b h => by simpa using h) List.nodup_range', ?_⟩
      · intro x hx y hy e
        subst e
        obtain ⟨p, _, rfl⟩ := List.mem_map.1 hx
        obtain ⟨q, _, e⟩ := List.mem_map.1 hy
        simp at e
      · intro x hx y hy e
        subst e
        obtain ⟨q, hq, rfl⟩ := List.mem_map.1 hy
        rcases List.mem_append.1 hx with h | h
        · obtain ⟨p, hp, e⟩ := List.mem_map.1 h
          have a1 := (List.mem_range'_1.1 hp).2
          have a2 := (List.mem_range'_1.1 hq).1
          simp only [Prod.mk.injEq, true_and, List.length_take] at e a1
          omega
        · obtain ⟨p, hp, e⟩ := List.mem_map.1 h
          simp at e
    · simp only [List.mem_append, List.mem_map, List.mem_range'_1, List.length_take, List.length_drop] at hi
      rcases hi with (⟨p, hp, rfl⟩ | ⟨p, hp, rfl⟩) | ⟨p, hp, rfl⟩
      · rw [hat0, Option.isSome_map]; simp; omega
      · rw [hat2, Option.isSome_map]; simp; omega
      · rw [hat0, Option.isSome_map]; simp; omega
    · show insF z b [.c (.r (opR (U 0) 0 (l.map en))) (some (z, false)), .c (.s (.int .i64 (k : Int))) none, .c (.r (opR (U 2) 0 (v.map en))) (some (z, false))] = _
      simp only [insF]
      rw [if_pos ⟨.inl trivial, trivial, fun e => by have := congrArg List.length e; rw [opR_len] at this; simp at this; exact hv this, h1, by rw [opR_len]; simpa using h2, by rw [opR_len, opR_len]; simpa using h4⟩]
      congr 5
      simp only [List.filterMap_append, List.filterMap_map]
      have t1 : (l.take k).length = (((opR (U 0) 0 (l.map en))).take k).length := by simp [opR_len]
      have t2 : v.length = (opR (U 2) 0 (v.map en)).length := by simp [opR_len]
      have t3 : (l.drop k).length = (((opR (U 0) 0 (l.map en))).drop k).length := by simp [opR_len]
      rw [t1, t2, t3, Int.toNat_natCast]
      rw [fm _ _ 0 fun p hp => ?_, fm _ _ 0 fun p hp => ?_, fm _ _ k fun p hp => ?_]
      · show opat U _ (0, k + p) = _
        rw [opat, hat0, List.getElem?_drop, opR_get, Nat.zero_add]
        simp
      · show opat U _ (2, 0 + p) = _
        rw [opat, hat2, Nat.zero_add, opR_get, Nat.zero_add]
        simp
      · rw [List.length_take] at hp
        show opat U _ (0, 0 + p) = _
        rw [opat, hat0, Nat.zero_add, List.getElem?_take, if_pos (by omega), opR_get, Nat.zero_add]
        simp
  rw [deepen_of L]
  congr 5
  simp only [List.filterMap_append, List.filterMap_map, Int.toNat_natCast, List.map_append]
  have t1 : (l.take k).length = ((l.take k).map en).length := by simp
  have t2 : v.length = (v.map en).length := by simp
  have t3 : (l.drop k).length = ((l.drop k).map en).length := by simp
  rw [t1, t2, t3]
  rw [fm _ _ 0 fun p hp => ?_, fm _ _ 0 fun p hp => ?_, fm _ _ k fun p hp => ?_]
  · show atA _ (0, k + p) = _
    rw [hat0, List.getElem?_map, List.getElem?_drop]
  · show atA _ (2, 0 + p) = _
    rw [hat2, Nat.zero_add, List.getElem?_map]
  · simp only [List.length_map, List.length_take] at hp
    show atA _ (0, 0 + p) = _
    rw [hat0, Nat.zero_add, List.getElem?_map, List.getElem?_take, if_pos (by omega)]
end Go.SX

set_option linter.unusedVariables false
set_option linter.unusedSimpArgs false
set_option linter.unusedSectionVars false
set_option linter.unusedVariables false
set_option linter.unusedSimpArgs false
namespace Go.SX
variable {P : Program} {K : FuncId → Cfg}
/-! a function that is told by hand at some arguments, walked at the others -/
def stepZ (P : Program) (K : Cfg) (F : Fun) (f k : Nat) (xs : List A) : Option (A × List (Option Cs)) :=
  (P.funcs[f]?).bind fun fn => fn.body.bind fun body =>
    if (fn.name == "runtime.NumGoroutine") = false ∧ xs.length ≤ fn.ntmps then
      ((evC P K F fn.ntmps k body { (tellVs st0 xs).2 with ts := padT fn.ntmps (tellVs st0 xs).1 }).bind (endC (finish P K fn (lentOf true (tellVs st0 xs).1)))).map (fgt (K.wk f))
    else none
theorem stepZ_iff {K : Cfg} {F : Fun} {f k : Nat} {xs : List A} {r : A × List (Option Cs)} : stepZ P K F f k xs = some r ↔ ∃ fn body q r', P.funcs[f]? = some fn ∧ fn.body = some body ∧ ((fn.name == "runtime.NumGoroutine") = false ∧ xs.length ≤ fn.ntmps) ∧ evC P K F fn.ntmps k body { (tellVs st0 xs).2 with ts := padT fn.ntmps (tellVs st0 xs).1 } = some q ∧ endC (finish P K fn (lentOf true (tellVs st0 xs).1)) q = some r' ∧ fgt (K.wk f) r' = r := by
  unfold stepZ
  constructor
  · intro h
    obtain ⟨fn, h1, h⟩ := Option.bind_eq_some_iff.1 h
    obtain ⟨body, h2, h⟩ := Option.bind_eq_some_iff.1 h
    split at h
    · rename_i hc
      obtain ⟨r', h, h5⟩ := Option.map_eq_some_iff.1 h
      obtain ⟨q, h3, h4⟩ := Option.bind_eq_some_iff.1 h
      exact ⟨fn, body, q, r', h1, h2, hc, h3, h4, h5⟩
    · cases h
  · rintro ⟨fn, body, q, r', h1, h2, hc, h3, h4, h5⟩
    simp only [h1, Option.bind_some, h2]
    rw [if_pos hc, h3, Option.bind_some, h4, Option.map_some, h5]
theorem stepZ_le {K : Cfg} {F : Fun} {f k k' : Nat} {xs : List A} {r : A × List (Option Cs)} (hk : k ≤ k') (h : stepZ P K F f k xs = some r) : stepZ P K F f k' xs = some r := by
  obtain ⟨fn, body, q, r', h1, h2, hc, h3, h4, h5⟩ := stepZ_iff.1 h
  exact stepZ_iff.2 ⟨fn, body, q, r', h1, h2, hc, evC_le hk h3, h4, h5⟩
open Classical in
noncomputable def bodyZ (P : Program) (K : Cfg) (F : Fun) (f : FuncId) : List A → Option (A × List (Option Cs)) := fun xs => if h : ∃ r k, stepZ P K F f k xs = some r then some h.choose else none
theorem bodyZ_iff {K : Cfg} {F : Fun} {f : Nat} {xs : List A} {r : A × List (Option Cs)} : bodyZ P K F f xs = some r ↔ ∃ k, stepZ P K F f k xs = some r := by
  unfold bodyZ
  constructor
  · intro h
    split at h
    · rename_i he
      cases h
      exact he.choose_spec
    · cases h
  · rintro ⟨k, h⟩
    have he : ∃ r k, stepZ P K F f k xs = some r := ⟨r, k, h⟩
    rw [dif_pos he]
    obtain ⟨k', h'⟩ := he.choose_spec
    have h1 := stepZ_le (Nat.le_max_left k k') h
    have h2 := stepZ_le (Nat.le_max_right k k') h'
    rw [h1] at h2
    exact h2.symm
theorem bodyZ_ok {K : Cfg} {F : Fun} {f : FuncId} (hm : P.follows .mixedOrders = true) (hF : ∀ g, FOk P g (F g)) : FOk P f (bodyZ P K F f) := by
  intro xs r back h
  obtain ⟨k, h⟩ := bodyZ_iff.1 h
  obtain ⟨fn, body, q, r', h1, h2, hc, h3, h4, h5⟩ := stepZ_iff.1 h
  exact body_ok hF (draw_ok hm hF) h1 h2 hc (k := k) (wk := K.wk f) (by rw [h3, Option.bind_some, h4, Option.map_some, h5])
theorem bodyZ_rise {K : Cfg} {f : FuncId} : RiseP fun F => bodyZ P K F f := by
  intro F G hR xs r h
  obtain ⟨k, h⟩ := bodyZ_iff.1 h
  obtain ⟨fn, body, q, r', h1, h2, hc, h3, h4, h5⟩ := stepZ_iff.1 h
  obtain ⟨j, hj⟩ := evC_rise hR k body h3
  exact ⟨j, fun j' hj' => bodyZ_iff.2 ⟨k, stepZ_iff.2 ⟨fn, body, q, r', h1, h2, hc, hj j' hj', h4, h5⟩⟩⟩
/-- at rows all below which is ours the one, else the other -/
def orD (G H : List A → Option (A × List (Option Cs))) : List A → Option (A × List (Option Cs))
  | .c (.r l) (some (s, true)) :: xs => G (.c (.r l) (some (s, true)) :: xs)
  | xs => H xs
theorem orD_cases (G H : List A → Option (A × List (Option Cs))) (xs : List A) : orD G H xs = G xs ∨ orD G H xs = H xs := by
  unfold orD; split
  · exact .inl rfl
  · exact .inr rfl
theorem orD_ok {f : FuncId} {G H : List A → Option (A × List (Option Cs))} (h1 : FOk P f G) (h2 : FOk P f H) : FOk P f (orD G H) := fun xs r back h => by
  rcases orD_cases G H xs with e | e <;> rw [e] at h
  · exact h1 xs r back h
  · exact h2 xs r back h
theorem orD_rise {G : List A → Option (A × List (Option Cs))} {K : Cfg} {f : FuncId} : RiseP fun F => orD G (bodyZ P K F f) := by
  intro F F' hR xs r h
  by_cases hx : ∃ l s ys, xs = .c (.r l) (some (s, true)) :: ys
  · obtain ⟨l, s, ys, rfl⟩ := hx
    have e : ∀ H, orD G H (.c (.r l) (some (s, true)) :: ys) = G (.c (.r l) (some (s, true)) :: ys) := fun _ => rfl
    simp only [e] at h ⊢
    exact ⟨0, fun _ _ => h⟩
  · have e : ∀ H, orD G H xs = H xs := fun H => by
      unfold orD
      split
      · exact absurd ⟨_, _, _, rfl⟩ hx
      · rfl
    simp only [e] at h ⊢
    exact bodyZ_rise F F' hR xs r h
theorem Fz_walkD {okf : FuncId → Bool} {pr : FuncId → Option (Fun → List A → Option (A × List (Option Cs)))} (hrs : ∀ f g, pr f = some g → RiseP g) {f : FuncId} {G : List A → Option (A × List (Option Cs))} {fn : Func} {body : Code} {xs : List A} (w : Bool) (n : Nat) {ts ts' : List T} {σ : St} {r : A × List (Option Cs)} (hk : (K f).wk f = w) (hp : pr f = some fun F => orD G (bodyZ P (K f) F f)) (hx : ∀ H, orD G H xs = H xs) (hf : P.funcs[f]? = some fn) (hb : fn.body = some body) (hnm : (fn.name == "runtime.NumGoroutine") = false) (hn : fn.ntmps = n) (hl : Nat.ble xs.length n = true) (ht : tellVs st0 xs = (ts, σ)) (hts : padT n ts = ts')
    (h : W P (K f) (Fz P K okf pr) n body ⟨ts', σ.bx, σ.rw⟩ (Told2 P (K f) fn (lentOf true ts) w r)) : Fz P K okf pr f xs = some r := by
  subst hn hts hk
  obtain ⟨k, e, σ', h, r', h1, h2⟩ := h
  refine Fz_pr hrs hp ?_
  rw [hx]
  exact bodyZ_iff.2 ⟨k, stepZ_iff.2 ⟨fn, body, (e, σ'), r', hf, hb, ⟨hnm, Nat.le_of_ble_eq_true hl⟩, by rw [ht]; exact h, by rw [ht]; exact h1, h2⟩⟩
end Go.SX
