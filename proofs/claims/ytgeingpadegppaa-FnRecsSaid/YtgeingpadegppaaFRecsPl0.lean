import Derived.Test.YtgeingpadegppaaFRecsPu
set_option linter.unusedVariables false
set_option linter.unusedSimpArgs false
namespace Go.Pu
open Go.Nt
theorem w64_id {n : Int} (h0 : -9223372036854775808 ≤ n) (h1 : n ≤ 9223372036854775807) : IntKind.i64.wrap n = n := by
  simp only [IntKind.wrap, IntKind.bits, IntKind.signed, Bool.true_and]
  split
  · rename_i h; simp at h; omega
  · rename_i h; simp at h; omega
theorem w64_succ {i : Nat} (h : i < 9223372036854775807) : IntKind.i64.wrap ((i : Int) + 1) = ((i + 1 : Nat) : Int) := by
  rw [w64_id (by omega) (by omega)]; omega
theorem ix_nat {α : Type} (l : List α) (i : Nat) : ix l (i : Int) = l[i]? := by simp [ix]
theorem app_ok {α : Type} {b : Nat} {l m : List α} (h : (l.length + m.length) * b ≤ 70368744177664) : app b l m = some (l ++ m) := by
  simp only [app]; rw [if_pos h]
/-- down from the end -/
theorem down {P : Nat → Prop} (n : Nat) (h : ∀ i, i ≤ n → (i < n → P (i + 1)) → P i) : ∀ i, i ≤ n → P i := by
  intro i hi
  obtain ⟨k, hk⟩ : ∃ k, k = n - i := ⟨_, rfl⟩
  induction k generalizing i with
  | zero => exact h i hi fun hlt => by omega
  | succ k ih => exact h i hi fun hlt => ih (i + 1) hlt (by omega)
theorem bind_some' {α β : Type} (x : α) (f : α → Option β) : (some x >>= f) = f x := rfl
theorem in_some (a b c : Int) : spec_l1In a b c = some (decide (a ≥ b) && decide (a ≤ c)) := by
  simp only [spec_l1In]; by_cases h : a ≥ b <;> simp [h]
theorem from_some (a b c : Int) : impl_from a b c = some (decide (a ≥ b) && decide (a ≤ c)) := by
  simp only [impl_from]; by_cases h : a ≥ b <;> simp [h]
theorem recsOk_same (a : List Rec) (h : a.length ≤ 1048576) : ∃ b, spec_RecsOk a = some b ∧ impl_RecsOk a = some b := by
  have key : ∀ i, i ≤ a.length → ∃ b, spec_RecsOk.l0 a i = some b ∧ impl_RecsOk.l0 a i = some b := by
    refine down _ fun i hi ih => ?_
    rw [spec_RecsOk.l0, impl_RecsOk.l0]
    by_cases hlt : i < a.length
    · obtain ⟨b, h1, h2⟩ := ih hlt
      have c : decide ((i : Int) < (a.length : Int)) = true := by simpa using hlt
      simp only [impl_isTime, impl_isMany, in_some, from_some, bind_some', ix_nat, List.getElem?_eq_getElem hlt, w64_succ (show i < 9223372036854775807 by omega), h1, h2, c, if_true]
      split
      · exact ⟨_, rfl, rfl⟩
      · split
        · exact ⟨_, rfl, rfl⟩
        · by_cases h0 : i = 0
          · subst h0; simp
          · have e : IntKind.i64.wrap ((i : Int) - 1) = ((i - 1 : Nat) : Int) := by rw [w64_id (by omega) (by omega)]; omega
            have c2 : decide ((i : Int) > 0) = true := by simp; omega
            simp only [c2, if_true, e, ix_nat, List.getElem?_eq_getElem (show i - 1 < a.length by omega), bind_some']
            split
            · exact ⟨_, rfl, rfl⟩
            · exact ⟨_, rfl, rfl⟩
    · rw [if_neg (by simpa using hlt), if_neg (by simpa using hlt)]
      exact ⟨_, rfl, rfl⟩
  obtain ⟨b, h1, h2⟩ := key 0 (by omega)
  simp only [Int.natCast_zero] at h1 h2
  simp only [spec_RecsOk, impl_RecsOk, h1, h2, bind_some']
  cases b with
  | inl r => exact ⟨_, rfl, rfl⟩
  | inr u => exact ⟨_, rfl, rfl⟩
theorem w64_eq (n : Int) : IntKind.i64.wrap n = (n + 9223372036854775808) % 18446744073709551616 - 9223372036854775808 := by
  simp only [IntKind.wrap, IntKind.bits, IntKind.signed, Bool.true_and]
  split
  · rename_i h; simp at h; omega
  · rename_i h; simp at h; omega
def Cur (c : L1Cur) : Prop := 0 ≤ c.i ∧ c.i ≤ 1048577 ∧ c.b.length ≤ 1048576
theorem band_255 (x : Int) : 0 ≤ band x 255 ∧ band x 255 ≤ 255 := by
  have h : (BitVec.ofInt IntKind.i64.bits x &&& BitVec.ofInt IntKind.i64.bits 255).toNat ≤ 255 := by
    rw [BitVec.toNat_and]; exact Nat.le_trans Nat.and_le_right (by decide)
  simp only [band]
  rw [w64_id (by omega) (by omega)]; omega
theorem byte_sp (c : L1Cur) (h : Cur c) : ∃ x d, spec_l1Byte c = some (x, d) ∧ 0 ≤ x ∧ x ≤ 255 ∧ Cur d := by
  obtain ⟨h0, h1, h2⟩ := h
  simp only [spec_l1Byte]
  by_cases hi : c.i < (c.b.length : Int)
  · obtain ⟨i, hi'⟩ : ∃ i : Nat, c.i = i := ⟨c.i.toNat, by omega⟩
    rw [if_pos (by simpa using hi)]
    simp only [hi', ix_nat]
    rw [List.getElem?_eq_getElem (by omega)]
    simp only [bind_some']
    refine ⟨_, _, rfl, (band_255 _).1, (band_255 _).2, ?_, ?_, h2⟩
    · show 0 ≤ IntKind.i64.wrap ((i : Int) + 1); rw [w64_id (by omega) (by omega)]; omega
    · show IntKind.i64.wrap ((i : Int) + 1) ≤ 1048577; rw [w64_id (by omega) (by omega)]; omega
  · rw [if_neg (by simpa using hi)]
    exact ⟨_, _, rfl, (band_255 _).1, (band_255 _).2, h0, h1, h2⟩
theorem rem_ok {a n : Int} (ha : 0 ≤ a) (hn : 0 < n) : ∃ q, Nt.rem a n = some q ∧ 0 ≤ q ∧ q < n := by
  refine ⟨a.tmod n, if_neg (by omega), Int.tmod_nonneg _ ha, Int.tmod_lt_of_pos _ hn⟩
theorem below_sp (c : L1Cur) (n : Int) (h : Cur c) (hn : 0 < n) : ∃ x d, spec_l1Below c n = some (x, d) ∧ 0 ≤ x ∧ x < n ∧ Cur d := by
  simp only [spec_l1Below]
  rw [if_neg (by simpa using hn)]
  by_cases h256 : n ≤ 256
  · rw [if_pos (by simpa using h256)]
    obtain ⟨x, d, e, h0, h1, hd⟩ := byte_sp c h
    obtain ⟨q, eq, q0, q1⟩ := rem_ok h0 hn
    simp only [e, bind_some', eq]
    exact ⟨_, _, rfl, q0, q1, hd⟩
  · rw [if_neg (by simpa using h256)]
    obtain ⟨x, d, e, h0, h1, hd⟩ := byte_sp c h
    obtain ⟨y, d2, e2, y0, y1, hd2⟩ := byte_sp d hd
    obtain ⟨z, d3, e3, z0, z1, hd3⟩ := byte_sp d2 hd2
    obtain ⟨w, d4, e4, w0, w1, hd4⟩ := byte_sp d3 hd3
    have hs : 0 ≤ IntKind.i64.wrap (IntKind.i64.wrap (IntKind.i64.wrap (IntKind.i64.wrap (x * 16777216) + IntKind.i64.wrap (y * 65536)) + IntKind.i64.wrap (z * 256)) + w) := by
      simp only [w64_eq]; omega
    obtain ⟨q, eq, q0, q1⟩ := rem_ok hs hn
    simp only [e, e2, e3, e4, bind_some', eq]
    exact ⟨_, _, rfl, q0, q1, hd4⟩
theorem once_sp (c : L1Cur) (n : Int) (h : Cur c) (hn : 0 < n) : ∃ x d, spec_l1Once c n = some (x, d) ∧ Cur d := by
  obtain ⟨x, d, e, _, _, hd⟩ := below_sp c n h hn
  simp only [spec_l1Once, e, bind_some']
  exact ⟨_, _, rfl, hd⟩
theorem pickInt_sp (c : L1Cur) (l : List Int) (h : Cur c) (hl : 0 < l.length) : ∃ x d, spec_l1PickInt c l = some (x, d) ∧ x ∈ l ∧ Cur d := by
  obtain ⟨x, d, e, x0, x1, hd⟩ := below_sp c l.length h (by omega)
  obtain ⟨i, rfl⟩ : ∃ i : Nat, x = i := ⟨x.toNat, by omega⟩
  simp only [spec_l1PickInt, e, bind_some', ix_nat]
  rw [List.getElem?_eq_getElem (by omega)]
  exact ⟨_, _, rfl, List.getElem_mem _, hd⟩
theorem new_sp (a : List Int) (h : a.length ≤ 1048576) : ∃ c, spec_l1New a = some c ∧ Cur c := by
  have key : ∀ i, i ≤ a.length → ∀ v : Int, ∃ t, spec_l1New.l0 a v i = some t := by
    refine down _ fun i hi ih v => ?_
    rw [spec_l1New.l0]
    by_cases hlt : i < a.length
    · have c : decide ((i : Int) < (a.length : Int)) = true := by simpa using hlt
      simp only [c, if_true, ix_nat, List.getElem?_eq_getElem hlt, bind_some', w64_succ (show i < 9223372036854775807 by omega)]
      split
      · exact ih hlt _
      · exact ⟨_, rfl⟩
    · rw [if_neg (by simpa using hlt)]; exact ⟨_, rfl⟩
  obtain ⟨t, e⟩ := key 0 (by omega) (IntKind.i64.wrap (27212 + (a.length : Int)))
  simp only [Int.natCast_zero] at e
  simp only [spec_l1New, e, bind_some']
  exact ⟨_, rfl, by simp, by simp, h⟩
theorem recAdd_room (a : List Rec) (t n : Int) (hl : a.length ≤ 1048576) : ∃ m, spec_RecAdd a t n = some m ∧ impl_RecAdd a t n = some m ∧ (m.length ≤ a.length + 1) ∧ (m = a ∨ (impl_RecsOk m = some true ∧ (m = a ++ [Rec.mk t n] ∨ m = (a ++ [Rec.mk t n]).drop 1 ∧ 12 < (a ++ [Rec.mk t n]).length) ∧ ((a ++ [Rec.mk t n]).length > 12 → m = (a ++ [Rec.mk t n]).drop 1))) := by
  have h1 : (0 + a.length) * 16 ≤ 70368744177664 := by omega
  have h2 : (a.length + 1) * 16 ≤ 70368744177664 := by omega
  have h3 : Nt.clone 16 a = some a := if_pos (by omega)
  have e1 : app 16 [] a = some a := app_ok (l := []) (by simpa using h1)
  have e2 : app 16 a [Rec.mk t n] = some (a ++ [Rec.mk t n]) := app_ok (by simpa using h2)
  simp only [spec_RecAdd, impl_RecAdd, slices_Clone_Simpl_Rec_impl_Rec, h3, e1, e2, bind_some']
  by_cases hc : ((a ++ [Rec.mk t n]).length : Int) > 12
  · have e3 : slc (a ++ [Rec.mk t n]) 1 ((a ++ [Rec.mk t n]).length : Int) = some ((a ++ [Rec.mk t n]).drop 1) := by
      simp only [slc]
      rw [if_pos ⟨by omega, by omega, by omega⟩]
      simp only [Nt.cut, Int.toNat_natCast, List.take_length]
      rfl
    have hd : ((a ++ [Rec.mk t n]).drop 1).length ≤ 1048576 := by simp; omega
    have e4 : app 16 [] ((a ++ [Rec.mk t n]).drop 1) = some ((a ++ [Rec.mk t n]).drop 1) := app_ok (l := []) (by simp only [List.length_nil]; omega)
    obtain ⟨b, b1, b2⟩ := recsOk_same _ hd
    simp only [hc, decide_true, if_true, e3, e4, bind_some', b1, b2, e1]
    cases b
    · exact ⟨_, rfl, rfl, by omega, .inl rfl⟩
    · exact ⟨_, rfl, rfl, by simp, .inr ⟨b2, .inr ⟨rfl, by omega⟩, fun _ => rfl⟩⟩
  · have hd : (a ++ [Rec.mk t n]).length ≤ 1048576 := by omega
    obtain ⟨b, b1, b2⟩ := recsOk_same _ hd
    simp only [hc, decide_false, Bool.false_eq_true, if_false, b1, b2, bind_some', e1]
    cases b
    · exact ⟨_, rfl, rfl, by omega, .inl rfl⟩
    · exact ⟨_, rfl, rfl, by simp, .inr ⟨b2, .inl rfl, fun h => by omega⟩⟩
theorem drawRecs_sp (c : L1Cur) (h : Cur c) : (∃ l d, spec_l16DrawRecs c = some (l, d) ∧ l.length ≤ 8 ∧ Cur d) := by
  have key : ∀ (k : Nat) (i : Nat), k = 8 - i → i ≤ 8 → ∀ (v : Int) (c : L1Cur) (l : List Rec), Cur c → l.length ≤ i → ∃ b i' h' m, spec_l16DrawRecs.l0 v i c.b c.i c.h l = some (b, i', h', m) ∧ m.length ≤ 8 ∧ Cur ⟨b, i', h'⟩ := by
    intro k
    induction k with
    | zero =>
      intro i hk hi v c l hc hl
      obtain ⟨x, d, e, x0, x1, hd⟩ := below_sp c 8 hc (by omega)
      rw [spec_l16DrawRecs.l0]
      have e' : spec_l1Below (L1Cur.mk c.b c.i c.h) 8 = some (x, d) := e
      simp only [e', bind_some']
      rw [if_neg (by simp; omega)]
      exact ⟨_, _, _, _, rfl, by omega, hd⟩
    | succ k ih =>
      intro i hk hi v c l hc hl
      obtain ⟨x, d, e, x0, x1, hd⟩ := below_sp c 8 hc (by omega)
      rw [spec_l16DrawRecs.l0]
      have e' : spec_l1Below (L1Cur.mk c.b c.i c.h) 8 = some (x, d) := e
      simp only [e', bind_some']
      by_cases hx : (i : Int) < x
      · rw [if_pos (by simpa using hx)]
        obtain ⟨x2, d2, e2, m2, hd2⟩ := pickInt_sp d [0, 15, 60, 200] hd (by simp)
        obtain ⟨x3, d3, e3, m3, hd3⟩ := pickInt_sp d2 [0, 1, 3, 5, 9, 20] hd2 (by simp)
        obtain ⟨m, a1, _, a3, _⟩ := recAdd_room l (IntKind.i64.wrap (v + x2)) x3 (by omega)
        simp only [e2, e3, a1, bind_some', w64_succ (show i < 9223372036854775807 by omega)]
        exact ih (i + 1) (by omega) (by omega) _ d3 m hd3 (by omega)
      · rw [if_neg (by simpa using hx)]
        exact ⟨_, _, _, _, rfl, by omega, hd⟩
  obtain ⟨b, i', h', m, e, hm, hd⟩ := key 8 0 rfl (by omega) 0 c [] h (by simp)
  simp only [Int.natCast_zero] at e
  simp only [spec_l16DrawRecs, e, bind_some']
  exact ⟨_, _, rfl, hm, hd⟩
theorem draw16_sp (c : L1Cur) (h : Cur c) : ∃ l d, spec_l16Draw c = some (l, d) ∧ l.length ≤ 9 ∧ Cur d := by
  obtain ⟨l, c1, e1, hl, h1⟩ := drawRecs_sp c h
  obtain ⟨b, c2, e2, h2⟩ := once_sp c1 6 h1 (by omega)
  simp only [spec_l16Draw, e1, e2, bind_some']
  split
  · obtain ⟨x3, c3, e3, m3, h3⟩ := pickInt_sp c2 [(-1), 0, 999, 1000001, (-9223372036854775808)] h2 (by simp)
    obtain ⟨x4, c4, e4, m4, h4⟩ := pickInt_sp c3 [(-1), 5, 1001] h3 (by simp)
    simp only [e3, e4, bind_some', app_ok (b := 16) (l := l) (m := [Rec.mk x3 x4]) (by simp; omega)]
    exact ⟨_, _, rfl, by simp; omega, h4⟩
  · exact ⟨_, _, rfl, by omega, h2⟩
theorem drawRecAdd_sp (a : List Int) (h : a.length ≤ 1048576) : ∃ l t n, spec_DrawRecAdd a = some (l, t, n) ∧ l.length ≤ 9 := by
  obtain ⟨c, e0, h0⟩ := new_sp a h
  obtain ⟨l, c1, e1, hl, h1⟩ := draw16_sp c h0
  obtain ⟨x2, c2, e2, m2, h2⟩ := pickInt_sp c1 [2000, 5000, 0, (-1), 1000001] h1 (by simp)
  obtain ⟨x3, c3, e3, m3, h3⟩ := pickInt_sp c2 [0, 5, 1000, 1001] h2 (by simp)
  simp only [spec_DrawRecAdd, e0, e1, e2, e3, bind_some']
  exact ⟨_, _, _, rfl, hl⟩
theorem drawRecsOk_sp (a : List Int) (h : a.length ≤ 1048576) : ∃ l, spec_DrawRecsOk a = some l ∧ l.length ≤ 21 := by
  obtain ⟨c, e0, h0⟩ := new_sp a h
  obtain ⟨l, c1, e1, hl, h1⟩ := draw16_sp c h0
  obtain ⟨b, c2, e2, h2⟩ := once_sp c1 8 h1 (by omega)
  simp only [spec_DrawRecsOk, e0, e1, e2, bind_some']
  split
  · have key : ∀ i, i ≤ 12 → ∀ v : List Rec, v.length ≤ 9 + i → ∃ m, spec_DrawRecsOk.l0 i v = some m ∧ m.length ≤ 21 := by
      refine down _ fun i hi ih v hv => ?_
      rw [spec_DrawRecsOk.l0]
      by_cases hlt : i < 12
      · rw [if_pos (by simp; omega)]
        simp only [bind_some', w64_succ (show i < 9223372036854775807 by omega), app_ok (b := 16) (l := v) (m := [Rec.mk 5000 0]) (by simp; omega)]
        exact ih hlt _ (by simp; omega)
      · rw [if_neg (by simp; omega)]
        exact ⟨_, rfl, by omega⟩
    obtain ⟨m, e, hm⟩ := key 0 (by omega) l (by omega)
    simp only [Int.natCast_zero] at e
    simp only [e, bind_some']
    exact ⟨_, rfl, hm⟩
  · exact ⟨_, rfl, by omega⟩
theorem sameRecs_some (a b : List Rec) (h : a.length ≤ 1048576) : ∃ r, laws_sameRecs a b = some r ∧ (r = true ↔ a = b) := by
  by_cases hl : a.length = b.length
  · have key : ∀ i, i ≤ a.length → ∃ s, laws_sameRecs.l0 a b i = some s ∧ ((s = .inl false ∧ a.drop i ≠ b.drop i) ∨ (s = .inr () ∧ a.drop i = b.drop i)) := by
      refine down _ fun i hi ih => ?_
      rw [laws_sameRecs.l0]
      by_cases hlt : i < a.length
      · have c : decide ((i : Int) < (a.length : Int)) = true := by simpa using hlt
        have hlb : i < b.length := by omega
        simp only [c, if_true, ix_nat, List.getElem?_eq_getElem hlt, List.getElem?_eq_getElem hlb, bind_some', w64_succ (show i < 9223372036854775807 by omega)]
        rw [List.drop_eq_getElem_cons hlt, List.drop_eq_getElem_cons hlb]
        generalize hx : a[i] = x
        generalize hy : b[i] = y
        obtain ⟨x1, x2⟩ := x
        obtain ⟨y1, y2⟩ := y
        by_cases hxy : x1 = y1 ∧ x2 = y2
        · obtain ⟨rfl, rfl⟩ := hxy
          obtain ⟨s, e, hs⟩ := ih hlt
          simp only [beq_self_eq_true, Bool.and_self, Bool.not_true, Bool.false_eq_true, if_false]
          refine ⟨s, e, ?_⟩
          rcases hs with ⟨h1, h2⟩ | ⟨h1, h2⟩
          · exact .inl ⟨h1, fun h => h2 (List.cons.inj h).2⟩
          · exact .inr ⟨h1, by rw [h2]⟩
        · have : (x1 == y1 && (x2 == y2 && true)) = false := by
            simp only [Bool.and_true, Bool.and_eq_false_iff, beq_eq_false_iff_ne]
            by_cases h1 : x1 = y1
            · exact .inr fun h2 => hxy ⟨h1, h2⟩
            · exact .inl h1
          simp only [this, Bool.not_false, if_true]
          refine ⟨_, rfl, .inl ⟨rfl, fun h => ?_⟩⟩
          have := (List.cons.inj h).1
          simp only [Rec.mk.injEq] at this
          exact hxy this
      · rw [if_neg (by simpa using hlt)]
        exact ⟨_, rfl, .inr ⟨rfl, by rw [List.drop_eq_nil_of_le (by omega), List.drop_eq_nil_of_le (by omega)]⟩⟩
    obtain ⟨s, e, hs⟩ := key 0 (by omega)
    simp only [Int.natCast_zero, List.drop_zero] at e hs
    simp only [laws_sameRecs, hl, bne_self_eq_false, Bool.false_eq_true, if_false, e, bind_some']
    rcases hs with ⟨rfl, h2⟩ | ⟨rfl, h2⟩
    · exact ⟨_, rfl, by simp [h2]⟩
    · exact ⟨_, rfl, by simp [h2]⟩
  · have : ((a.length : Int) != (b.length : Int)) = true := by simp; omega
    simp only [laws_sameRecs, this, if_true]
    exact ⟨_, rfl, by simp; intro h; exact hl (by rw [h])⟩
theorem recsOk_len (a : List Rec) (h : a.length ≤ 1048576) (ht : impl_RecsOk a = some true) : a.length ≤ 12 := by
  have key : ∀ i, i ≤ a.length → ∀ r, impl_RecsOk.l0 a i = some (.inl r) → r = false := by
    refine down _ fun i hi ih r => ?_
    rw [impl_RecsOk.l0]
    by_cases hlt : i < a.length
    · have c : decide ((i : Int) < (a.length : Int)) = true := by simpa using hlt
      simp only [impl_isTime, impl_isMany, from_some, c, if_true, ix_nat, List.getElem?_eq_getElem hlt, bind_some', w64_succ (show i < 9223372036854775807 by omega)]
      split
      · intro h; cases h; rfl
      · split
        · intro h; cases h; rfl
        · split
          · rename_i h0
            have h0' : 0 < i := by simpa using h0
            have e : IntKind.i64.wrap ((i : Int) - 1) = ((i - 1 : Nat) : Int) := by rw [w64_id (by omega) (by omega)]; omega
            simp only [e, ix_nat, List.getElem?_eq_getElem (show i - 1 < a.length by omega), bind_some']
            split
            · intro h; cases h; rfl
            · exact ih hlt r
          · exact ih hlt r
    · rw [if_neg (by simpa using hlt)]; intro h; cases h
  simp only [impl_RecsOk] at ht
  cases hs : impl_RecsOk.l0 a 0 with
  | none => rw [hs] at ht; cases ht
  | some s =>
    rw [hs] at ht
    cases s with
    | inl r =>
      have := key 0 (by omega) r (by simpa using hs)
      subst this
      simp [bind_some'] at ht
    | inr u => simp [bind_some'] at ht; omega
theorem Pure.FnRecs (a : List Int) (ha : okL okU a) : laws_FnRecs a = some true := by
  simp only [laws_FnRecs, laws_big, bind_some']
  split
  · rfl
  · rename_i hb
    have hl : a.length ≤ 1048576 := by simp at hb; omega
    obtain ⟨l, t, n, e1, h1⟩ := drawRecAdd_sp a hl
    obtain ⟨o, e2, h2⟩ := drawRecsOk_sp a hl
    obtain ⟨m, m1, m2, m3, m4⟩ := recAdd_room l t n (by omega)
    obtain ⟨b, b1, b2⟩ := recsOk_same o (by omega)
    obtain ⟨q, q1, q2⟩ := recsOk_same l (by omega)
    obtain ⟨r, r1, r2⟩ := sameRecs_some m m (by omega)
    obtain ⟨s, s1, s2⟩ := sameRecs_some m l (by omega)
    have hr : r = true := r2.2 rfl
    subst hr
    simp only [e1, e2, m1, m2, b1, b2, q1, q2, r1, s1, bind_some', Bool.not_true, Bool.false_eq_true, if_false, bne_self_eq_false]
    split
    · rfl
    · split
      · rfl
      · rename_i hs
        have hne : m ≠ l := fun h => hs (s2.2 h)
        rcases m4 with m4 | ⟨m4, m5, m6⟩
        · exact absurd m4 hne
        · have hlast : m.length ≥ 1 ∧ m[m.length - 1]? = some (Rec.mk t n) ∧ m.length ≤ 12 := by
            have hlen := recsOk_len m (by omega) m4
            rcases m5 with rfl | ⟨rfl, h12⟩
            · exact ⟨by simp, by simp, hlen⟩
            · have hll : 12 ≤ l.length := by simp at h12; omega
              omega
          obtain ⟨g1, g2, g3⟩ := hlast
          have e : IntKind.i64.wrap ((m.length : Int) - 1) = ((m.length - 1 : Nat) : Int) := by rw [w64_id (by omega) (by omega)]; omega
          have g3' : decide ((m.length : Int) ≤ 12) = true := by simp; omega
          simp only [m4, bind_some', if_true, e, ix_nat, g2, beq_self_eq_true, g3']
end Go.Pu
