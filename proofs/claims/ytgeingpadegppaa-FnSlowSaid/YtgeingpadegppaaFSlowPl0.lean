import Derived.Test.YtgeingpadegppaaFSlowPu
set_option linter.unusedVariables false
set_option linter.unusedSimpArgs false
namespace Go.Pu
open Go.Nt
theorem w64_id {n : Int} (h0 : -9223372036854775808 ≤ n) (h1 : n ≤ 9223372036854775807) : IntKind.i64.wrap n = n := by
  simp only [IntKind.wrap, IntKind.bits, IntKind.signed, Bool.true_and]
  split
  · rename_i h; simp at h; omega
  · rename_i h; simp at h; omega
theorem w64_succ {i : Nat} (h : i < 9223372036854775807) : IntKind.i64.wrap ((i : Int) + 1) = ((i + 1 : Nat) : Int) := by
  rw [w64_id (by omega) (by omega)]; omega
theorem ix_nat {α : Type} (l : List α) (i : Nat) : ix l (i : Int) = l[i]? := by simp [ix]
/-- down from the end -/
theorem down {P : Nat → Prop} (n : Nat) (h : ∀ i, i ≤ n → (i < n → P (i + 1)) → P i) : ∀ i, i ≤ n → P i := by
  intro i hi
  obtain ⟨k, hk⟩ : ∃ k, k = n - i := ⟨_, rfl⟩
  induction k generalizing i with
  | zero => exact h i hi fun hlt => by omega
  | succ k ih => exact h i hi fun hlt => ih (i + 1) hlt (by omega)
theorem bind_some' {α β : Type} (x : α) (f : α → Option β) : (some x >>= f) = f x := rfl
theorem from_some (a b c : Int) : impl_from a b c = some (decide (a ≥ b) && decide (a ≤ c)) := by
  simp only [impl_from]; by_cases h : a ≥ b <;> simp [h]
theorem w64_eq (n : Int) : IntKind.i64.wrap n = (n + 9223372036854775808) % 18446744073709551616 - 9223372036854775808 := by
  simp only [IntKind.wrap, IntKind.bits, IntKind.signed, Bool.true_and]
  split
  · rename_i h; simp at h; omega
  · rename_i h; simp at h; omega
theorem u64_eq (n : Int) : IntKind.u64.wrap n = n % 18446744073709551616 := by
  simp only [IntKind.wrap, IntKind.bits, IntKind.signed, Bool.false_and, Bool.false_eq_true, if_false]
  rfl
theorem beyond_some (n now k : Int) (hn : okI n) (h1 : okI now) (h2 : okI k) : impl_beyond n now k = some (decide (n - now > k)) := by
  unfold okI at *
  simp only [impl_beyond, u64_eq]
  by_cases a : n ≥ now
  · by_cases b : k < 0
    · simp [a, b]; omega
    · simp only [a, b, decide_true, decide_false, if_true, if_false, Bool.false_eq_true, Option.some.injEq, decide_eq_decide]; omega
  · by_cases b : k < 0
    · simp only [a, b, decide_true, decide_false, if_true, if_false, Bool.false_eq_true, Option.some.injEq, decide_eq_decide]; omega
    · simp [a, b]; omega
def Cur (c : L1Cur) : Prop := 0 ≤ c.i ∧ c.i ≤ 1048577 ∧ c.b.length ≤ 1048576
theorem band_255 (x : Int) : 0 ≤ band x 255 ∧ band x 255 ≤ 255 := by
  have h : (BitVec.ofInt IntKind.i64.bits x &&& BitVec.ofInt IntKind.i64.bits 255).toNat ≤ 255 := by
    rw [BitVec.toNat_and]; exact Nat.le_trans Nat.and_le_right (by decide)
  simp only [band]
  rw [w64_id (by omega) (by omega)]; omega
theorem byte_sp (c : L1Cur) (h : Cur c) : ∃ x d, spec_l1Byte c = some (x, d) ∧ 0 ≤ x ∧ x ≤ 255 ∧ Cur d := by
  obtain ⟨h0, h1, h2⟩ := h
  simp only [spec_l1Byte]
  by_cases hi : c.i < (c.b.length : Int)
  · obtain ⟨i, hi'⟩ : ∃ i : Nat, c.i = i := ⟨c.i.toNat, by omega⟩
    rw [if_pos (by simpa using hi)]
    simp only [hi', ix_nat]
    rw [List.getElem?_eq_getElem (by omega)]
    simp only [bind_some']
    refine ⟨_, _, rfl, (band_255 _).1, (band_255 _).2, ?_, ?_, h2⟩
    · show 0 ≤ IntKind.i64.wrap ((i : Int) + 1); rw [w64_id (by omega) (by omega)]; omega
    · show IntKind.i64.wrap ((i : Int) + 1) ≤ 1048577; rw [w64_id (by omega) (by omega)]; omega
  · rw [if_neg (by simpa using hi)]
    exact ⟨_, _, rfl, (band_255 _).1, (band_255 _).2, h0, h1, h2⟩
theorem rem_ok {a n : Int} (ha : 0 ≤ a) (hn : 0 < n) : ∃ q, Nt.rem a n = some q ∧ 0 ≤ q ∧ q < n := by
  refine ⟨a.tmod n, if_neg (by omega), Int.tmod_nonneg _ ha, Int.tmod_lt_of_pos _ hn⟩
theorem below_sp (c : L1Cur) (n : Int) (h : Cur c) (hn : 0 < n) : ∃ x d, spec_l1Below c n = some (x, d) ∧ 0 ≤ x ∧ x < n ∧ Cur d := by
  simp only [spec_l1Below]
  rw [if_neg (by simpa using hn)]
  by_cases h256 : n ≤ 256
  · rw [if_pos (by simpa using h256)]
    obtain ⟨x, d, e, h0, h1, hd⟩ := byte_sp c h
    obtain ⟨q, eq, q0, q1⟩ := rem_ok h0 hn
    simp only [e, bind_some', eq]
    exact ⟨_, _, rfl, q0, q1, hd⟩
  · rw [if_neg (by simpa using h256)]
    obtain ⟨x, d, e, h0, h1, hd⟩ := byte_sp c h
    obtain ⟨y, d2, e2, y0, y1, hd2⟩ := byte_sp d hd
    obtain ⟨z, d3, e3, z0, z1, hd3⟩ := byte_sp d2 hd2
    obtain ⟨w, d4, e4, w0, w1, hd4⟩ := byte_sp d3 hd3
    have hs : 0 ≤ IntKind.i64.wrap (IntKind.i64.wrap (IntKind.i64.wrap (IntKind.i64.wrap (x * 16777216) + IntKind.i64.wrap (y * 65536)) + IntKind.i64.wrap (z * 256)) + w) := by
      simp only [w64_eq]; omega
    obtain ⟨q, eq, q0, q1⟩ := rem_ok hs hn
    simp only [e, e2, e3, e4, bind_some', eq]
    exact ⟨_, _, rfl, q0, q1, hd4⟩
theorem once_sp (c : L1Cur) (n : Int) (h : Cur c) (hn : 0 < n) : ∃ x d, spec_l1Once c n = some (x, d) ∧ Cur d := by
  obtain ⟨x, d, e, _, _, hd⟩ := below_sp c n h hn
  simp only [spec_l1Once, e, bind_some']
  exact ⟨_, _, rfl, hd⟩
theorem pickInt_sp (c : L1Cur) (l : List Int) (h : Cur c) (hl : 0 < l.length) : ∃ x d, spec_l1PickInt c l = some (x, d) ∧ x ∈ l ∧ Cur d := by
  obtain ⟨x, d, e, x0, x1, hd⟩ := below_sp c l.length h (by omega)
  obtain ⟨i, rfl⟩ : ∃ i : Nat, x = i := ⟨x.toNat, by omega⟩
  simp only [spec_l1PickInt, e, bind_some', ix_nat]
  rw [List.getElem?_eq_getElem (by omega)]
  exact ⟨_, _, rfl, List.getElem_mem _, hd⟩
theorem new_sp (a : List Int) (h : a.length ≤ 1048576) : ∃ c, spec_l1New a = some c ∧ Cur c := by
  have key : ∀ i, i ≤ a.length → ∀ v : Int, ∃ t, spec_l1New.l0 a v i = some t := by
    refine down _ fun i hi ih v => ?_
    rw [spec_l1New.l0]
    by_cases hlt : i < a.length
    · have c : decide ((i : Int) < (a.length : Int)) = true := by simpa using hlt
      simp only [c, if_true, ix_nat, List.getElem?_eq_getElem hlt, bind_some', w64_succ (show i < 9223372036854775807 by omega)]
      split
      · exact ih hlt _
      · exact ⟨_, rfl⟩
    · rw [if_neg (by simpa using hlt)]; exact ⟨_, rfl⟩
  obtain ⟨t, e⟩ := key 0 (by omega) (IntKind.i64.wrap (27212 + (a.length : Int)))
  simp only [Int.natCast_zero] at e
  simp only [spec_l1New, e, bind_some']
  exact ⟨_, rfl, by simp, by simp, h⟩
def PaceD (p : Pace) : Prop := 0 ≤ p.Up ∧ p.Up ≤ 4 ∧ 0 ≤ p.Down ∧ p.Down ≤ 2 ∧ 0 ≤ p.UpSpan ∧ p.UpSpan ≤ 60 ∧ 0 ≤ p.DownSpan ∧ p.DownSpan ≤ 3600
theorem drawPace_sp (c : L1Cur) (h : Cur c) : ∃ p d, spec_l6DrawPace c = some (p, d) ∧ PaceD p ∧ Cur d := by
  obtain ⟨b, c1, e1, h1⟩ := once_sp c 3 h (by omega)
  simp only [spec_l6DrawPace, e1, bind_some', spec_PaceNew]
  split
  · exact ⟨_, _, rfl, by simp [PaceD], h1⟩
  · obtain ⟨x2, c2, e2, m2, h2⟩ := pickInt_sp c1 [0, 1, 4] h1 (by simp)
    obtain ⟨x3, c3, e3, m3, h3⟩ := pickInt_sp c2 [0, 1, 2] h2 (by simp)
    obtain ⟨x4, c4, e4, m4, h4⟩ := pickInt_sp c3 [0, 30, 60] h3 (by simp)
    obtain ⟨x5, c5, e5, m5, h5⟩ := pickInt_sp c4 [0, 60, 300, 3600] h4 (by simp)
    simp only [e2, e3, e4, e5, bind_some']
    refine ⟨_, _, rfl, ?_, h5⟩
    simp only [List.mem_cons, List.not_mem_nil, or_false] at m2 m3 m4 m5
    simp only [PaceD]; omega
theorem drawSlow_sp (a : List Int) (h : a.length ≤ 1048576) : ∃ p now n, spec_DrawSlow a = some (p, now, n) ∧ PaceD p ∧ 1 ≤ now ∧ now ≤ 20 ∧ okI n := by
  obtain ⟨c, e0, h0⟩ := new_sp a h
  obtain ⟨p, c1, e1, hp, h1⟩ := drawPace_sp c h0
  obtain ⟨x2, c2, e2, m2, h2⟩ := pickInt_sp c1 [1, 4, 8, 20] h1 (by simp)
  obtain ⟨x3, c3, e3, m3, h3⟩ := pickInt_sp c2 [0, 1, 4, 9, 30, 9223372036854775807, (-9223372036854775808)] h2 (by simp)
  simp only [spec_DrawSlow, e0, e1, e2, e3, bind_some']
  simp only [List.mem_cons, List.not_mem_nil, or_false] at m2 m3
  exact ⟨_, _, _, rfl, hp, by omega, by omega, by unfold okI; omega⟩
/-- what Slow answers -/
def slowV (p : Pace) (now n : Int) : Int := if p.Up ≠ 0 ∧ n - now > p.Up then now + p.Up else if p.Down ≠ 0 ∧ now - n > p.Down then now - p.Down else n
theorem slow_same (p : Pace) (now n : Int) (hp : PaceD p) (h0 : 1 ≤ now) (h1 : now ≤ 1000) (hn : okI n) : spec_Slow p now n = some (slowV p now n) ∧ impl_Slow p now n = some (slowV p now n) := by
  obtain ⟨u0, u1, d0, d1, _⟩ := hp
  have hnow : okI now := by unfold okI; omega
  have hu : okI p.Up := by unfold okI; omega
  have hd : okI p.Down := by unfold okI; omega
  have w1 : IntKind.i64.wrap (now + p.Up) = now + p.Up := w64_id (by omega) (by omega)
  have w2 : IntKind.i64.wrap (now - p.Down) = now - p.Down := w64_id (by omega) (by omega)
  simp only [spec_Slow, impl_Slow, beyond_some _ _ _ hn hnow hu, beyond_some _ _ _ hnow hn hd, bind_some', w1, w2, slowV]
  unfold okI at hn
  have z1 : n > now → n - now ≤ 9223372036854775807 → IntKind.i64.wrap (n - now) = n - now := fun _ _ => w64_id (by omega) (by omega)
  have z2 : n > now → n - now > 9223372036854775807 → IntKind.i64.wrap (n - now) < 0 := fun _ _ => by rw [w64_eq]; omega
  have z3 : n < now → now - n ≤ 9223372036854775807 → IntKind.i64.wrap (now - n) = now - n := fun _ _ => w64_id (by omega) (by omega)
  have z4 : n < now → now - n > 9223372036854775807 → IntKind.i64.wrap (now - n) < 0 := fun _ _ => by rw [w64_eq]; omega
  generalize IntKind.i64.wrap (n - now) = y1 at *
  generalize IntKind.i64.wrap (now - n) = y2 at *
  clear w1 w2
  constructor
  · by_cases a1 : p.Up = 0 <;> by_cases a2 : n > now <;> by_cases a3 : y1 > p.Up <;> by_cases a4 : y1 < 0 <;> by_cases b1 : p.Down = 0 <;> by_cases b2 : n < now <;> by_cases b3 : y2 > p.Down <;> by_cases b4 : y2 < 0 <;>
      first
      | omega
      | (have c1 : (n - now > p.Up) = (n > now ∧ (y1 > p.Up ∨ y1 < 0)) := by simp only [eq_iff_iff]; omega
         have c2 : (now - n > p.Down) = (n < now ∧ (y2 > p.Down ∨ y2 < 0)) := by simp only [eq_iff_iff]; omega
         simp [a1, a2, a3, a4, b1, b2, b3, b4, c1, c2])
  · by_cases a1 : p.Up = 0 <;> by_cases a2 : n - now > p.Up <;> by_cases b1 : p.Down = 0 <;> by_cases b2 : now - n > p.Down <;> simp [a1, a2, b1, b2]
theorem paceOk_some (p : Pace) (hp : PaceD p) : impl_PaceOk p = some true := by
  obtain ⟨u0, u1, d0, d1, v0, v1, w0, w1⟩ := hp
  simp only [impl_PaceOk, impl_isMany, from_some, bind_some']
  have e1 : (decide (p.Up ≥ 0) && decide (p.Up ≤ 1000)) = true := by simp; omega
  have e2 : (decide (p.Down ≥ 0) && decide (p.Down ≤ 1000)) = true := by simp; omega
  have e3 : (decide (p.UpSpan ≥ 0) && decide (p.UpSpan ≤ 3600)) = true := by simp; omega
  have e4 : (decide (p.DownSpan ≥ 0) && decide (p.DownSpan ≤ 3600)) = true := by simp; omega
  simp only [e1, e2, e3, e4, if_true]
theorem Pure.FnSlow (a : List Int) (ha : okL okU a) : laws_FnSlow a = some true := by
  simp only [laws_FnSlow, laws_big, bind_some']
  split
  · rfl
  · rename_i hb
    have hl : a.length ≤ 1048576 := by simp at hb; omega
    obtain ⟨p, now, n, e, hp, h0, h1, hn⟩ := drawSlow_sp a hl
    obtain ⟨s1, s2⟩ := slow_same p now n hp h0 (by omega) hn
    have hpp := paceOk_some p hp
    obtain ⟨u0, u1, d0, d1, _⟩ := hp
    have w1 : IntKind.i64.wrap (now + p.Up) = now + p.Up := w64_id (by omega) (by omega)
    have w2 : IntKind.i64.wrap (now - p.Down) = now - p.Down := w64_id (by omega) (by omega)
    have c1 : decide (now < 0) = false := by simp; omega
    have c2 : decide (now > 1000) = false := by simp; omega
    simp only [e, bind_some', s1, s2, hpp, w1, w2, bne_self_eq_false, Bool.false_eq_true, if_false, Bool.not_true, c1, c2]
    have hv1 : p.Up ≠ 0 → slowV p now n ≤ now + p.Up := by
      intro h; unfold slowV; repeat' split
      all_goals omega
    have hv2 : p.Down ≠ 0 → slowV p now n ≥ now - p.Down := by
      intro h; unfold slowV; repeat' split
      all_goals omega
    by_cases a1 : p.Up = 0
    · by_cases a2 : p.Down = 0
      · simp [a1, a2]
      · have e2 : decide (slowV p now n ≥ now - p.Down) = true := by simpa using hv2 a2
        simp [a1, a2, e2]
    · have e1 : decide (slowV p now n ≤ now + p.Up) = true := by simpa using hv1 a1
      by_cases a2 : p.Down = 0
      · simp only [e1]; simp [a1, a2]
      · have e2 : decide (slowV p now n ≥ now - p.Down) = true := by simpa using hv2 a2
        simp only [e1, e2]; simp [a1, a2]
end Go.Pu
