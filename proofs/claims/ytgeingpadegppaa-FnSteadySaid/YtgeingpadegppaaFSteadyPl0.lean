import Derived.Test.YtgeingpadegppaaFSteadyPu
set_option linter.unusedVariables false
set_option linter.unusedSimpArgs false
namespace Go.Pu
open Go.Nt
theorem w64_id {n : Int} (h0 : -9223372036854775808 ≤ n) (h1 : n ≤ 9223372036854775807) : IntKind.i64.wrap n = n := by
  simp only [IntKind.wrap, IntKind.bits, IntKind.signed, Bool.true_and]
  split
  · rename_i h; simp at h; omega
  · rename_i h; simp at h; omega
theorem w64_succ {i : Nat} (h : i < 9223372036854775807) : IntKind.i64.wrap ((i : Int) + 1) = ((i + 1 : Nat) : Int) := by
  rw [w64_id (by omega) (by omega)]; omega
theorem ix_nat {α : Type} (l : List α) (i : Nat) : ix l (i : Int) = l[i]? := by simp [ix]
theorem app_ok {α : Type} {b : Nat} {l m : List α} (h : (l.length + m.length) * b ≤ 70368744177664) : app b l m = some (l ++ m) := by
  simp only [app]; rw [if_pos h]
/-- down from the end -/
theorem down {P : Nat → Prop} (n : Nat) (h : ∀ i, i ≤ n → (i < n → P (i + 1)) → P i) : ∀ i, i ≤ n → P i := by
  intro i hi
  obtain ⟨k, hk⟩ : ∃ k, k = n - i := ⟨_, rfl⟩
  induction k generalizing i with
  | zero => exact h i hi fun hlt => by omega
  | succ k ih => exact h i hi fun hlt => ih (i + 1) hlt (by omega)
theorem bind_some' {α β : Type} (x : α) (f : α → Option β) : (some x >>= f) = f x := rfl
theorem in_some (a b c : Int) : spec_l1In a b c = some (decide (a ≥ b) && decide (a ≤ c)) := by
  simp only [spec_l1In]; by_cases h : a ≥ b <;> simp [h]
theorem from_some (a b c : Int) : impl_from a b c = some (decide (a ≥ b) && decide (a ≤ c)) := by
  simp only [impl_from]; by_cases h : a ≥ b <;> simp [h]
theorem recsOk_same (a : List Rec) (h : a.length ≤ 1048576) : ∃ b, spec_RecsOk a = some b ∧ impl_RecsOk a = some b := by
  have key : ∀ i, i ≤ a.length → ∃ b, spec_RecsOk.l0 a i = some b ∧ impl_RecsOk.l0 a i = some b := by
    refine down _ fun i hi ih => ?_
    rw [spec_RecsOk.l0, impl_RecsOk.l0]
    by_cases hlt : i < a.length
    · obtain ⟨b, h1, h2⟩ := ih hlt
      have c : decide ((i : Int) < (a.length : Int)) = true := by simpa using hlt
      simp only [impl_isTime, impl_isMany, in_some, from_some, bind_some', ix_nat, List.getElem?_eq_getElem hlt, w64_succ (show i < 9223372036854775807 by omega), h1, h2, c, if_true]
      split
      · exact ⟨_, rfl, rfl⟩
      · split
        · exact ⟨_, rfl, rfl⟩
        · by_cases h0 : i = 0
          · subst h0; simp
          · have e : IntKind.i64.wrap ((i : Int) - 1) = ((i - 1 : Nat) : Int) := by rw [w64_id (by omega) (by omega)]; omega
            have c2 : decide ((i : Int) > 0) = true := by simp; omega
            simp only [c2, if_true, e, ix_nat, List.getElem?_eq_getElem (show i - 1 < a.length by omega), bind_some']
            split
            · exact ⟨_, rfl, rfl⟩
            · exact ⟨_, rfl, rfl⟩
    · rw [if_neg (by simpa using hlt), if_neg (by simpa using hlt)]
      exact ⟨_, rfl, rfl⟩
  obtain ⟨b, h1, h2⟩ := key 0 (by omega)
  simp only [Int.natCast_zero] at h1 h2
  simp only [spec_RecsOk, impl_RecsOk, h1, h2, bind_some']
  cases b with
  | inl r => exact ⟨_, rfl, rfl⟩
  | inr u => exact ⟨_, rfl, rfl⟩
theorem w64_eq (n : Int) : IntKind.i64.wrap n = (n + 9223372036854775808) % 18446744073709551616 - 9223372036854775808 := by
  simp only [IntKind.wrap, IntKind.bits, IntKind.signed, Bool.true_and]
  split
  · rename_i h; simp at h; omega
  · rename_i h; simp at h; omega
theorem u64_eq (n : Int) : IntKind.u64.wrap n = n % 18446744073709551616 := by
  simp only [IntKind.wrap, IntKind.bits, IntKind.signed, Bool.false_and, Bool.false_eq_true, if_false]
  rfl
theorem beyond_some (n now k : Int) (hn : okI n) (h1 : okI now) (h2 : okI k) : impl_beyond n now k = some (decide (n - now > k)) := by
  unfold okI at *
  simp only [impl_beyond, u64_eq]
  by_cases a : n ≥ now
  · by_cases b : k < 0
    · simp [a, b]; omega
    · simp only [a, b, decide_true, decide_false, if_true, if_false, Bool.false_eq_true, Option.some.injEq, decide_eq_decide]; omega
  · by_cases b : k < 0
    · simp only [a, b, decide_true, decide_false, if_true, if_false, Bool.false_eq_true, Option.some.injEq, decide_eq_decide]; omega
    · simp [a, b]; omega
theorem lately_same (a : List Rec) (t s : Int) (ha : okL Rec.ok a) (hl : a.length ≤ 1048576) (ht : okI t) (hs : okI s) : ∃ m, spec_Lately a t s = some m ∧ impl_Lately a t s = some m ∧ m.length ≤ a.length ∧ ∀ x ∈ m, okI x := by
  have key : ∀ i, i ≤ a.length → ∀ out : List Int, out.length ≤ i → (∀ x ∈ out, okI x) → ∃ m, spec_Lately.l0 a t s i out = some m ∧ impl_Lately.l0 a t s i out = some m ∧ m.length ≤ a.length ∧ ∀ x ∈ m, okI x := by
    refine down _ fun i hi ih out ho hx => ?_
    rw [spec_Lately.l0, impl_Lately.l0]
    by_cases hlt : i < a.length
    · have c : decide ((i : Int) < (a.length : Int)) = true := by simpa using hlt
      have hr := ha.2 _ (List.getElem_mem hlt)
      obtain ⟨b1, p1, p2, p3⟩ := ih hlt (out ++ [a[i].N]) (by simp; omega) (by
        intro x hx'
        rcases List.mem_append.1 hx' with h | h
        · exact hx x h
        · simp only [List.mem_singleton] at h; subst h; exact hr.2)
      obtain ⟨b2, q1, q2, q3⟩ := ih hlt out (by omega) hx
      simp only [c, if_true, ix_nat, List.getElem?_eq_getElem hlt, bind_some', w64_succ (show i < 9223372036854775807 by omega), app_ok (b := 8) (l := out) (m := [a[i].N]) (by simp; omega), p1, p2, q1, q2, beyond_some _ _ _ ht hr.1 hs, w64_eq]
      obtain ⟨hr1, _⟩ := hr
      generalize a[i].Time = u at *
      clear p1 p2 q1 q2 ih
      unfold okI at *
      generalize hz : (t - u + 9223372036854775808) % 18446744073709551616 - 9223372036854775808 = z
      have z1 : u ≤ t → t - u ≤ 9223372036854775807 → z = t - u := by omega
      have z2 : u ≤ t → t - u > 9223372036854775807 → z < 0 := by omega
      clear hz
      by_cases hc : u ≤ t ∧ (t ≤ u ∨ t - u ≤ s)
      · refine ⟨b1, ?_, ?_, p3⟩
        · by_cases h2 : u ≥ t
          · simp [hc.1, h2]
          · have h3 : 0 ≤ z := by omega
            have h4 : z ≤ s := by omega
            simp [hc.1, h2, h3, h4]
        · by_cases h5 : s < 0
          · have h6 : u = t := by omega
            simp [h5, h6]
          · have h6 : s ≥ 0 := by omega
            have h7 : ¬ (t - u > s) := by omega
            simp [h5, h6, hc.1, h7]
      · refine ⟨b2, ?_, ?_, q3⟩
        · by_cases h1 : u ≤ t
          · have h2 : ¬ (u ≥ t) := by omega
            by_cases h3 : 0 ≤ z
            · have h4 : ¬ (z ≤ s) := by omega
              simp [h1, h2, h3, h4]
            · simp [h1, h2, h3]
          · simp [h1]
        · by_cases h5 : s < 0
          · have h6 : ¬ u = t := by omega
            have h7 : ¬ (s ≥ 0) := by omega
            simp [h5, h6, h7]
          · have h6 : s ≥ 0 := by omega
            by_cases h1 : u ≤ t
            · have h7 : t - u > s := by omega
              simp [h5, h6, h1, h7]
            · simp [h5, h6, h1]
    · rw [if_neg (by simpa using hlt), if_neg (by simpa using hlt)]
      exact ⟨_, rfl, rfl, by omega, hx⟩
  obtain ⟨m, h1, h2, h3⟩ := key 0 (by omega) [] (by simp) (by simp)
  simp only [Int.natCast_zero] at h1 h2
  exact ⟨m, by simp only [spec_Lately, h1, bind_some'], by simp only [impl_Lately, h2, bind_some'], h3⟩
theorem steady_sp (p : Pace) (a : List Rec) (t now n : Int) (hp : Pace.ok p) (ha : okL Rec.ok a) (hl : a.length ≤ 1048576) (ht : okI t) : ∃ r, spec_Steady p a t now n = some r ∧ impl_Steady p a t now n = some r ∧ (n < now → n ≤ r ∧ r ≤ now) ∧ (n > now → now ≤ r ∧ r ≤ n) ∧ (n = now → r = n) := by
  obtain ⟨m, m1, m2, m3, _⟩ := lately_same a t p.DownSpan ha hl ht hp.2.2.2
  obtain ⟨k, k1, k2, k3, _⟩ := lately_same a t p.UpSpan ha hl ht hp.2.2.1
  have up : ∀ (m : List Int), m.length ≤ 1048576 → ∀ i, i ≤ m.length → ∀ v : Int, ∃ r, spec_Steady.l0 m v i = some r ∧ impl_Steady.l0 m v i = some r ∧ v ≤ r := by
    intro m hm
    refine down _ fun i hi ih v => ?_
    rw [spec_Steady.l0, impl_Steady.l0]
    by_cases hlt : i < m.length
    · have c : decide ((i : Int) < (m.length : Int)) = true := by simpa using hlt
      have e : (if v > m[i] then v else m[i]) = (if m[i] > v then m[i] else v) := by repeat' split
                                                                                     all_goals omega
      obtain ⟨r, r1, r2, r3⟩ := ih hlt (if m[i] > v then m[i] else v)
      have e2 : spec_l1Max v m[i] = some (if m[i] > v then m[i] else v) := by
        rw [← e]; simp only [spec_l1Max, decide_eq_true_eq]; split <;> rfl
      simp only [c, if_true, ix_nat, List.getElem?_eq_getElem hlt, bind_some', w64_succ (show i < 9223372036854775807 by omega), e2, r1, r2]
      refine ⟨_, rfl, rfl, ?_⟩
      split at r3 <;> omega
    · rw [if_neg (by simpa using hlt), if_neg (by simpa using hlt)]
      exact ⟨_, rfl, rfl, Int.le_refl _⟩
  have dn : ∀ (m : List Int), m.length ≤ 1048576 → ∀ i, i ≤ m.length → ∀ v : Int, ∃ r, spec_Steady.l1 m v i = some r ∧ impl_Steady.l1 m v i = some r ∧ r ≤ v := by
    intro m hm
    refine down _ fun i hi ih v => ?_
    rw [spec_Steady.l1, impl_Steady.l1]
    by_cases hlt : i < m.length
    · have c : decide ((i : Int) < (m.length : Int)) = true := by simpa using hlt
      have e : (if v < m[i] then v else m[i]) = (if m[i] < v then m[i] else v) := by repeat' split
                                                                                     all_goals omega
      obtain ⟨r, r1, r2, r3⟩ := ih hlt (if m[i] < v then m[i] else v)
      have e2 : spec_l1Min v m[i] = some (if m[i] < v then m[i] else v) := by
        rw [← e]; simp only [spec_l1Min, decide_eq_true_eq]; split <;> rfl
      simp only [c, if_true, ix_nat, List.getElem?_eq_getElem hlt, bind_some', w64_succ (show i < 9223372036854775807 by omega), e2, r1, r2]
      refine ⟨_, rfl, rfl, ?_⟩
      split at r3 <;> omega
    · rw [if_neg (by simpa using hlt), if_neg (by simpa using hlt)]
      exact ⟨_, rfl, rfl, Int.le_refl _⟩
  obtain ⟨r, r1, r2, r3⟩ := up m (by omega) 0 (by omega) n
  obtain ⟨q, q1, q2, q3⟩ := dn k (by omega) 0 (by omega) n
  simp only [Int.natCast_zero] at r1 r2 q1 q2
  simp only [spec_Steady, impl_Steady, m1, m2, k1, k2, r1, r2, q1, q2, bind_some', spec_l1Min, spec_l1Max, decide_eq_true_eq]
  by_cases h1 : n < now
  · simp only [h1, if_true]
    refine ⟨if now < r then now else r, ?_, rfl, ?_⟩
    · split <;> split <;> simp <;> omega
    · split <;> exact ⟨fun h => by first | omega | exact h.elim, fun h => by first | omega | exact h.elim, fun h => by first | omega | exact h.elim⟩
  · by_cases h2 : n > now
    · simp only [h1, h2, if_true, if_false]
      refine ⟨if now > q then now else q, ?_, rfl, ?_⟩
      · split <;> split <;> simp <;> omega
      · split <;> exact ⟨fun h => by first | omega | exact h.elim, fun h => by first | omega | exact h.elim, fun h => by first | omega | exact h.elim⟩
    · simp only [h1, h2, if_false]; exact ⟨_, rfl, rfl, fun _ => by omega, fun _ => by omega, fun _ => by omega⟩
def Cur (c : L1Cur) : Prop := 0 ≤ c.i ∧ c.i ≤ 1048577 ∧ c.b.length ≤ 1048576
theorem band_255 (x : Int) : 0 ≤ band x 255 ∧ band x 255 ≤ 255 := by
  have h : (BitVec.ofInt IntKind.i64.bits x &&& BitVec.ofInt IntKind.i64.bits 255).toNat ≤ 255 := by
    rw [BitVec.toNat_and]; exact Nat.le_trans Nat.and_le_right (by decide)
  simp only [band]
  rw [w64_id (by omega) (by omega)]; omega
theorem byte_sp (c : L1Cur) (h : Cur c) : ∃ x d, spec_l1Byte c = some (x, d) ∧ 0 ≤ x ∧ x ≤ 255 ∧ Cur d := by
  obtain ⟨h0, h1, h2⟩ := h
  simp only [spec_l1Byte]
  by_cases hi : c.i < (c.b.length : Int)
  · obtain ⟨i, hi'⟩ : ∃ i : Nat, c.i = i := ⟨c.i.toNat, by omega⟩
    rw [if_pos (by simpa using hi)]
    simp only [hi', ix_nat]
    rw [List.getElem?_eq_getElem (by omega)]
    simp only [bind_some']
    refine ⟨_, _, rfl, (band_255 _).1, (band_255 _).2, ?_, ?_, h2⟩
    · show 0 ≤ IntKind.i64.wrap ((i : Int) + 1); rw [w64_id (by omega) (by omega)]; omega
    · show IntKind.i64.wrap ((i : Int) + 1) ≤ 1048577; rw [w64_id (by omega) (by omega)]; omega
  · rw [if_neg (by simpa using hi)]
    exact ⟨_, _, rfl, (band_255 _).1, (band_255 _).2, h0, h1, h2⟩
theorem rem_ok {a n : Int} (ha : 0 ≤ a) (hn : 0 < n) : ∃ q, Nt.rem a n = some q ∧ 0 ≤ q ∧ q < n := by
  refine ⟨a.tmod n, if_neg (by omega), Int.tmod_nonneg _ ha, Int.tmod_lt_of_pos _ hn⟩
theorem below_sp (c : L1Cur) (n : Int) (h : Cur c) (hn : 0 < n) : ∃ x d, spec_l1Below c n = some (x, d) ∧ 0 ≤ x ∧ x < n ∧ Cur d := by
  simp only [spec_l1Below]
  rw [if_neg (by simpa using hn)]
  by_cases h256 : n ≤ 256
  · rw [if_pos (by simpa using h256)]
    obtain ⟨x, d, e, h0, h1, hd⟩ := byte_sp c h
    obtain ⟨q, eq, q0, q1⟩ := rem_ok h0 hn
    simp only [e, bind_some', eq]
    exact ⟨_, _, rfl, q0, q1, hd⟩
  · rw [if_neg (by simpa using h256)]
    obtain ⟨x, d, e, h0, h1, hd⟩ := byte_sp c h
    obtain ⟨y, d2, e2, y0, y1, hd2⟩ := byte_sp d hd
    obtain ⟨z, d3, e3, z0, z1, hd3⟩ := byte_sp d2 hd2
    obtain ⟨w, d4, e4, w0, w1, hd4⟩ := byte_sp d3 hd3
    have hs : 0 ≤ IntKind.i64.wrap (IntKind.i64.wrap (IntKind.i64.wrap (IntKind.i64.wrap (x * 16777216) + IntKind.i64.wrap (y * 65536)) + IntKind.i64.wrap (z * 256)) + w) := by
      simp only [w64_eq]; omega
    obtain ⟨q, eq, q0, q1⟩ := rem_ok hs hn
    simp only [e, e2, e3, e4, bind_some', eq]
    exact ⟨_, _, rfl, q0, q1, hd4⟩
theorem once_sp (c : L1Cur) (n : Int) (h : Cur c) (hn : 0 < n) : ∃ x d, spec_l1Once c n = some (x, d) ∧ Cur d := by
  obtain ⟨x, d, e, _, _, hd⟩ := below_sp c n h hn
  simp only [spec_l1Once, e, bind_some']
  exact ⟨_, _, rfl, hd⟩
theorem pickInt_sp (c : L1Cur) (l : List Int) (h : Cur c) (hl : 0 < l.length) : ∃ x d, spec_l1PickInt c l = some (x, d) ∧ x ∈ l ∧ Cur d := by
  obtain ⟨x, d, e, x0, x1, hd⟩ := below_sp c l.length h (by omega)
  obtain ⟨i, rfl⟩ : ∃ i : Nat, x = i := ⟨x.toNat, by omega⟩
  simp only [spec_l1PickInt, e, bind_some', ix_nat]
  rw [List.getElem?_eq_getElem (by omega)]
  exact ⟨_, _, rfl, List.getElem_mem _, hd⟩
theorem new_sp (a : List Int) (h : a.length ≤ 1048576) : ∃ c, spec_l1New a = some c ∧ Cur c := by
  have key : ∀ i, i ≤ a.length → ∀ v : Int, ∃ t, spec_l1New.l0 a v i = some t := by
    refine down _ fun i hi ih v => ?_
    rw [spec_l1New.l0]
    by_cases hlt : i < a.length
    · have c : decide ((i : Int) < (a.length : Int)) = true := by simpa using hlt
      simp only [c, if_true, ix_nat, List.getElem?_eq_getElem hlt, bind_some', w64_succ (show i < 9223372036854775807 by omega)]
      split
      · exact ih hlt _
      · exact ⟨_, rfl⟩
    · rw [if_neg (by simpa using hlt)]; exact ⟨_, rfl⟩
  obtain ⟨t, e⟩ := key 0 (by omega) (IntKind.i64.wrap (27212 + (a.length : Int)))
  simp only [Int.natCast_zero] at e
  simp only [spec_l1New, e, bind_some']
  exact ⟨_, rfl, by simp, by simp, h⟩
def PaceD (p : Pace) : Prop := 0 ≤ p.Up ∧ p.Up ≤ 4 ∧ 0 ≤ p.Down ∧ p.Down ≤ 2 ∧ 0 ≤ p.UpSpan ∧ p.UpSpan ≤ 60 ∧ 0 ≤ p.DownSpan ∧ p.DownSpan ≤ 3600
theorem drawPace_sp (c : L1Cur) (h : Cur c) : ∃ p d, spec_l6DrawPace c = some (p, d) ∧ PaceD p ∧ Cur d := by
  obtain ⟨b, c1, e1, h1⟩ := once_sp c 3 h (by omega)
  simp only [spec_l6DrawPace, e1, bind_some', spec_PaceNew]
  split
  · exact ⟨_, _, rfl, by simp [PaceD], h1⟩
  · obtain ⟨x2, c2, e2, m2, h2⟩ := pickInt_sp c1 [0, 1, 4] h1 (by simp)
    obtain ⟨x3, c3, e3, m3, h3⟩ := pickInt_sp c2 [0, 1, 2] h2 (by simp)
    obtain ⟨x4, c4, e4, m4, h4⟩ := pickInt_sp c3 [0, 30, 60] h3 (by simp)
    obtain ⟨x5, c5, e5, m5, h5⟩ := pickInt_sp c4 [0, 60, 300, 3600] h4 (by simp)
    simp only [e2, e3, e4, e5, bind_some']
    refine ⟨_, _, rfl, ?_, h5⟩
    simp only [List.mem_cons, List.not_mem_nil, or_false] at m2 m3 m4 m5
    simp only [PaceD]; omega
theorem drawSlow_sp (a : List Int) (h : a.length ≤ 1048576) : ∃ p now n, spec_DrawSlow a = some (p, now, n) ∧ PaceD p ∧ 1 ≤ now ∧ now ≤ 20 ∧ okI n := by
  obtain ⟨c, e0, h0⟩ := new_sp a h
  obtain ⟨p, c1, e1, hp, h1⟩ := drawPace_sp c h0
  obtain ⟨x2, c2, e2, m2, h2⟩ := pickInt_sp c1 [1, 4, 8, 20] h1 (by simp)
  obtain ⟨x3, c3, e3, m3, h3⟩ := pickInt_sp c2 [0, 1, 4, 9, 30, 9223372036854775807, (-9223372036854775808)] h2 (by simp)
  simp only [spec_DrawSlow, e0, e1, e2, e3, bind_some']
  simp only [List.mem_cons, List.not_mem_nil, or_false] at m2 m3
  exact ⟨_, _, _, rfl, hp, by omega, by omega, by unfold okI; omega⟩
/-- what Slow answers -/
def slowV (p : Pace) (now n : Int) : Int := if p.Up ≠ 0 ∧ n - now > p.Up then now + p.Up else if p.Down ≠ 0 ∧ now - n > p.Down then now - p.Down else n
theorem slow_same (p : Pace) (now n : Int) (hp : PaceD p) (h0 : 1 ≤ now) (h1 : now ≤ 1000) (hn : okI n) : spec_Slow p now n = some (slowV p now n) ∧ impl_Slow p now n = some (slowV p now n) := by
  obtain ⟨u0, u1, d0, d1, _⟩ := hp
  have hnow : okI now := by unfold okI; omega
  have hu : okI p.Up := by unfold okI; omega
  have hd : okI p.Down := by unfold okI; omega
  have w1 : IntKind.i64.wrap (now + p.Up) = now + p.Up := w64_id (by omega) (by omega)
  have w2 : IntKind.i64.wrap (now - p.Down) = now - p.Down := w64_id (by omega) (by omega)
  simp only [spec_Slow, impl_Slow, beyond_some _ _ _ hn hnow hu, beyond_some _ _ _ hnow hn hd, bind_some', w1, w2, slowV]
  unfold okI at hn
  have z1 : n > now → n - now ≤ 9223372036854775807 → IntKind.i64.wrap (n - now) = n - now := fun _ _ => w64_id (by omega) (by omega)
  have z2 : n > now → n - now > 9223372036854775807 → IntKind.i64.wrap (n - now) < 0 := fun _ _ => by rw [w64_eq]; omega
  have z3 : n < now → now - n ≤ 9223372036854775807 → IntKind.i64.wrap (now - n) = now - n := fun _ _ => w64_id (by omega) (by omega)
  have z4 : n < now → now - n > 9223372036854775807 → IntKind.i64.wrap (now - n) < 0 := fun _ _ => by rw [w64_eq]; omega
  generalize IntKind.i64.wrap (n - now) = y1 at *
  generalize IntKind.i64.wrap (now - n) = y2 at *
  clear w1 w2
  constructor
  · by_cases a1 : p.Up = 0 <;> by_cases a2 : n > now <;> by_cases a3 : y1 > p.Up <;> by_cases a4 : y1 < 0 <;> by_cases b1 : p.Down = 0 <;> by_cases b2 : n < now <;> by_cases b3 : y2 > p.Down <;> by_cases b4 : y2 < 0 <;>
      first
      | omega
      | (have c1 : (n - now > p.Up) = (n > now ∧ (y1 > p.Up ∨ y1 < 0)) := by simp only [eq_iff_iff]; omega
         have c2 : (now - n > p.Down) = (n < now ∧ (y2 > p.Down ∨ y2 < 0)) := by simp only [eq_iff_iff]; omega
         simp [a1, a2, a3, a4, b1, b2, b3, b4, c1, c2])
  · by_cases a1 : p.Up = 0 <;> by_cases a2 : n - now > p.Up <;> by_cases b1 : p.Down = 0 <;> by_cases b2 : now - n > p.Down <;> simp [a1, a2, b1, b2]
theorem recAdd_room (a : List Rec) (t n : Int) (hl : a.length ≤ 1048576) : ∃ m, spec_RecAdd a t n = some m ∧ impl_RecAdd a t n = some m ∧ (m.length ≤ a.length + 1) ∧ (m = a ∨ (impl_RecsOk m = some true ∧ (m = a ++ [Rec.mk t n] ∨ m = (a ++ [Rec.mk t n]).drop 1 ∧ 12 < (a ++ [Rec.mk t n]).length) ∧ ((a ++ [Rec.mk t n]).length > 12 → m = (a ++ [Rec.mk t n]).drop 1))) := by
  have h1 : (0 + a.length) * 16 ≤ 70368744177664 := by omega
  have h2 : (a.length + 1) * 16 ≤ 70368744177664 := by omega
  have h3 : Nt.clone 16 a = some a := if_pos (by omega)
  have e1 : app 16 [] a = some a := app_ok (l := []) (by simpa using h1)
  have e2 : app 16 a [Rec.mk t n] = some (a ++ [Rec.mk t n]) := app_ok (by simpa using h2)
  simp only [spec_RecAdd, impl_RecAdd, slices_Clone_Simpl_Rec_impl_Rec, h3, e1, e2, bind_some']
  by_cases hc : ((a ++ [Rec.mk t n]).length : Int) > 12
  · have e3 : slc (a ++ [Rec.mk t n]) 1 ((a ++ [Rec.mk t n]).length : Int) = some ((a ++ [Rec.mk t n]).drop 1) := by
      simp only [slc]
      rw [if_pos ⟨by omega, by omega, by omega⟩]
      simp only [Nt.cut, Int.toNat_natCast, List.take_length]
      rfl
    have hd : ((a ++ [Rec.mk t n]).drop 1).length ≤ 1048576 := by simp; omega
    have e4 : app 16 [] ((a ++ [Rec.mk t n]).drop 1) = some ((a ++ [Rec.mk t n]).drop 1) := app_ok (l := []) (by simp only [List.length_nil]; omega)
    obtain ⟨b, b1, b2⟩ := recsOk_same _ hd
    simp only [hc, decide_true, if_true, e3, e4, bind_some', b1, b2, e1]
    cases b
    · exact ⟨_, rfl, rfl, by omega, .inl rfl⟩
    · exact ⟨_, rfl, rfl, by simp, .inr ⟨b2, .inr ⟨rfl, by omega⟩, fun _ => rfl⟩⟩
  · have hd : (a ++ [Rec.mk t n]).length ≤ 1048576 := by omega
    obtain ⟨b, b1, b2⟩ := recsOk_same _ hd
    simp only [hc, decide_false, Bool.false_eq_true, if_false, b1, b2, bind_some', e1]
    cases b
    · exact ⟨_, rfl, rfl, by omega, .inl rfl⟩
    · exact ⟨_, rfl, rfl, by simp, .inr ⟨b2, .inl rfl, fun h => by omega⟩⟩
theorem drawRecs_ok (c : L1Cur) (h : Cur c) : ∃ l d, spec_l16DrawRecs c = some (l, d) ∧ l.length ≤ 8 ∧ Cur d ∧ ∀ x ∈ l, Rec.ok x := by
  have key : ∀ (k : Nat) (i : Nat), k = 8 - i → i ≤ 8 → ∀ (v : Int) (c : L1Cur) (l : List Rec), Cur c → l.length ≤ i → (0 ≤ v ∧ v ≤ 200 * (i : Int)) → (∀ x ∈ l, Rec.ok x) → ∃ b i' h' m, spec_l16DrawRecs.l0 v i c.b c.i c.h l = some (b, i', h', m) ∧ m.length ≤ 8 ∧ Cur ⟨b, i', h'⟩ ∧ ∀ x ∈ m, Rec.ok x := by
    intro k
    induction k with
    | zero =>
      intro i hk hi v c l hc hl hv hx
      obtain ⟨x, d, e, x0, x1, hd⟩ := below_sp c 8 hc (by omega)
      rw [spec_l16DrawRecs.l0]
      have e' : spec_l1Below (L1Cur.mk c.b c.i c.h) 8 = some (x, d) := e
      simp only [e', bind_some']
      rw [if_neg (by simp; omega)]
      exact ⟨_, _, _, _, rfl, by omega, hd, hx⟩
    | succ k ih =>
      intro i hk hi v c l hc hl hv hok
      obtain ⟨x, d, e, x0, x1, hd⟩ := below_sp c 8 hc (by omega)
      rw [spec_l16DrawRecs.l0]
      have e' : spec_l1Below (L1Cur.mk c.b c.i c.h) 8 = some (x, d) := e
      simp only [e', bind_some']
      by_cases hx : (i : Int) < x
      · rw [if_pos (by simpa using hx)]
        obtain ⟨x2, d2, e2, m2, hd2⟩ := pickInt_sp d [0, 15, 60, 200] hd (by simp)
        obtain ⟨x3, d3, e3, m3, hd3⟩ := pickInt_sp d2 [0, 1, 3, 5, 9, 20] hd2 (by simp)
        simp only [List.mem_cons, List.not_mem_nil, or_false] at m2 m3
        have ew : IntKind.i64.wrap (v + x2) = v + x2 := w64_id (by omega) (by omega)
        obtain ⟨m, a1, _, a3, a4⟩ := recAdd_room l (v + x2) x3 (by omega)
        simp only [e2, e3, ew, a1, bind_some', w64_succ (show i < 9223372036854775807 by omega)]
        refine ih (i + 1) (by omega) (by omega) _ d3 m hd3 (by omega) (by omega) fun y hy => ?_
        have hnew : Rec.ok (Rec.mk (v + x2) x3) := by unfold Rec.ok okI; simp only; omega
        have hall : ∀ y ∈ l ++ [Rec.mk (v + x2) x3], Rec.ok y := by
          intro y hy
          rcases List.mem_append.1 hy with h | h
          · exact hok y h
          · simp only [List.mem_singleton] at h; subst h; exact hnew
        rcases a4 with rfl | ⟨_, rfl | ⟨rfl, _⟩, _⟩
        · exact hok y hy
        · exact hall y hy
        · exact hall y (List.mem_of_mem_drop hy)
      · rw [if_neg (by simpa using hx)]
        exact ⟨_, _, _, _, rfl, by omega, hd, hok⟩
  obtain ⟨b, i', h', m, e, hm, hd, hx⟩ := key 8 0 rfl (by omega) 0 c [] h (by simp) (by simp) (by simp)
  simp only [Int.natCast_zero] at e
  simp only [spec_l16DrawRecs, e, bind_some']
  exact ⟨_, _, rfl, hm, hd, hx⟩
theorem draw16_ok (c : L1Cur) (h : Cur c) : ∃ l d, spec_l16Draw c = some (l, d) ∧ l.length ≤ 9 ∧ Cur d ∧ okL Rec.ok l := by
  obtain ⟨l, c1, e1, hl, h1, ho⟩ := drawRecs_ok c h
  obtain ⟨b, c2, e2, h2⟩ := once_sp c1 6 h1 (by omega)
  simp only [spec_l16Draw, e1, e2, bind_some']
  split
  · obtain ⟨x3, c3, e3, m3, h3⟩ := pickInt_sp c2 [(-1), 0, 999, 1000001, (-9223372036854775808)] h2 (by simp)
    obtain ⟨x4, c4, e4, m4, h4⟩ := pickInt_sp c3 [(-1), 5, 1001] h3 (by simp)
    simp only [e3, e4, bind_some', app_ok (b := 16) (l := l) (m := [Rec.mk x3 x4]) (by simp; omega)]
    simp only [List.mem_cons, List.not_mem_nil, or_false] at m3 m4
    refine ⟨_, _, rfl, by simp; omega, h4, by simp; omega, fun y hy => ?_⟩
    rcases List.mem_append.1 hy with h | h
    · exact ho y h
    · simp only [List.mem_singleton] at h; subst h; unfold Rec.ok okI; simp only; omega
  · exact ⟨_, _, rfl, by omega, h2, by omega, ho⟩
theorem sameInts_self (a : List Int) (h : a.length ≤ 1048576) : laws_sameInts a a = some true := by
  have key : ∀ i, i ≤ a.length → laws_sameInts.l0 a a i = some (.inr ()) := by
    refine down _ fun i hi ih => ?_
    rw [laws_sameInts.l0]
    by_cases hlt : i < a.length
    · have c : decide ((i : Int) < (a.length : Int)) = true := by simpa using hlt
      simp only [c, if_true, ix_nat, List.getElem?_eq_getElem hlt, bind_some', bne_self_eq_false, Bool.false_eq_true, if_false, w64_succ (show i < 9223372036854775807 by omega)]
      exact ih hlt
    · rw [if_neg (by simpa using hlt)]
  simp only [laws_sameInts, bne_self_eq_false, Bool.false_eq_true, if_false]
  have := key 0 (by omega)
  simp only [Int.natCast_zero] at this
  rw [this]; rfl
theorem paceD_ok {p : Pace} (h : PaceD p) : Pace.ok p := by
  unfold PaceD at h; unfold Pace.ok okI; omega
theorem drawSteady_sp (a : List Int) (h : a.length ≤ 1048576) : ∃ p l t now n, spec_DrawSteady a = some (p, l, t, now, n) ∧ PaceD p ∧ okL Rec.ok l ∧ l.length ≤ 9 ∧ okI t := by
  obtain ⟨c, e0, h0⟩ := new_sp a h
  obtain ⟨p, c1, e1, hp, h1⟩ := drawPace_sp c h0
  obtain ⟨l, c2, e2, hl, h2, ho⟩ := draw16_ok c1 h1
  obtain ⟨x3, c3, e3, m3, h3⟩ := pickInt_sp c2 [0, 60, 200, 500] h2 (by simp)
  obtain ⟨x4, c4, e4, m4, h4⟩ := pickInt_sp c3 [1, 4, 8, 20] h3 (by simp)
  obtain ⟨x5, c5, e5, m5, h5⟩ := pickInt_sp c4 [0, 1, 4, 9, 30] h4 (by simp)
  simp only [spec_DrawSteady, e0, e1, e2, e3, e4, e5, bind_some']
  simp only [List.mem_cons, List.not_mem_nil, or_false] at m3
  exact ⟨_, _, _, _, _, rfl, hp, ho, hl, by unfold okI; omega⟩
theorem drawLately_sp (a : List Int) (h : a.length ≤ 1048576) : ∃ l t s, spec_DrawLately a = some (l, t, s) ∧ okL Rec.ok l ∧ l.length ≤ 9 ∧ okI t ∧ okI s := by
  obtain ⟨c, e0, h0⟩ := new_sp a h
  obtain ⟨l, c1, e1, hl, h1, ho⟩ := draw16_ok c h0
  obtain ⟨x2, c2, e2, m2, h2⟩ := pickInt_sp c1 [0, 60, 200, 500, 9223372036854775807] h1 (by simp)
  obtain ⟨x3, c3, e3, m3, h3⟩ := pickInt_sp c2 [0, 60, 300, (-1), 9223372036854775807] h2 (by simp)
  simp only [spec_DrawLately, e0, e1, e2, e3, bind_some']
  simp only [List.mem_cons, List.not_mem_nil, or_false] at m2 m3
  exact ⟨_, _, _, rfl, ho, hl, by unfold okI; omega, by unfold okI; omega⟩
theorem Pure.FnSteady (a : List Int) (ha : okL okU a) : laws_FnSteady a = some true := by
  by_cases hb : (a.length : Int) > 1048576
  · have : laws_big a = some true := by simp only [laws_big]; simpa using hb
    rw [laws_FnSteady, this]; rfl
  · have hl : a.length ≤ 1048576 := by omega
    have hbig : laws_big a = some false := by simp only [laws_big]; simpa using hb
    rw [laws_FnSteady, hbig]
    obtain ⟨p, l, t, now, n, e1, hp, ho, hll, ht⟩ := drawSteady_sp a hl
    obtain ⟨q, k, m, e2, hq, k0, k1, hm⟩ := drawSlow_sp a hl
    obtain ⟨l2, t2, s2, e3, ho2, hl2, ht2, hs2⟩ := drawLately_sp a hl
    obtain ⟨r, r1, r2, r3, r4, r5⟩ := steady_sp p l t now n (paceD_ok hp) ho (by omega) ht
    obtain ⟨v1, v2⟩ := slow_same q k m hq k0 (by omega) hm
    obtain ⟨x, x1, x2, x3, _⟩ := lately_same l2 t2 s2 ho2 (by omega) ht2 hs2
    have hx := sameInts_self x (by omega)
    simp (config := { maxSteps := 10000000 }) only [e1, e2, e3, r1, r2, v1, v2, x1, x2, hx, bind_some', bne_self_eq_false, Bool.false_eq_true, if_false, Bool.not_true]
    obtain ⟨u0, u1, d0, d1, _⟩ := hq
    have b1 : (m < k ↔ slowV q k m < k) ∧ (m > k ↔ slowV q k m > k) ∧ (m < k → slowV q k m ≥ m) ∧ (m > k → slowV q k m ≤ m) := by
      unfold slowV; repeat' split
      all_goals omega
    generalize slowV q k m = b at *
    obtain ⟨b1, b2, b3, b4⟩ := b1
    have z1 : (decide (m < k) == decide (b < k)) = true := by simp [b1]
    have z2 : (decide (m > k) == decide (b > k)) = true := by simp [b2]
    have z3 : (if decide (m ≥ k) = true then (if decide (m ≤ k) = true then some true else some (decide (b ≤ m))) else (if decide (b ≥ m) = true then (if decide (m ≤ k) = true then some true else some (decide (b ≤ m))) else some false)) = some true := by
      by_cases c1 : m ≥ k
      · by_cases c2 : m ≤ k
        · simp [c1, c2]
        · have := b4 (by omega)
          simp [c1, c2, this]
      · have := b3 (by omega)
        have c2 : m ≤ k := by omega
        simp [c1, c2, this]
    simp (config := { maxSteps := 10000000 }) only [z1, z2, if_true, z3]
    by_cases h1 : n < now
    · have := r3 h1
      have h2 : ¬ n > now := by omega
      have h3 : ¬ n = now := by omega
      have h4 : ¬ r < n := by omega
      have h5 : ¬ r > now := by omega
      simp [h1, h2, h3, h4, h5]
    · by_cases h2 : n > now
      · have := r4 h2
        have h3 : ¬ n = now := by omega
        have h4 : ¬ r > n := by omega
        have h5 : ¬ r < now := by omega
        simp [h1, h2, h3, h4, h5]
      · have h3 : n = now := by omega
        have := r5 h3
        simp [h1, h2, h3, this]
end Go.Pu
