import Derived.Test.YtgcpppnhhponmaaFWantsPu
set_option linter.unusedVariables false
set_option linter.unusedSimpArgs false
set_option synthInstance.maxSize 1000000000
namespace Go.Pu
open Go.Nt
theorem w64_id {n : Int} (h0 : -9223372036854775808 ≤ n) (h1 : n ≤ 9223372036854775807) : IntKind.i64.wrap n = n := by
  simp only [IntKind.wrap, IntKind.bits, IntKind.signed, Bool.true_and]
  split
  · rename_i h; simp at h; omega
  · rename_i h; simp at h; omega
theorem w64_succ {i : Nat} (h : i < 9223372036854775807) : IntKind.i64.wrap ((i : Int) + 1) = ((i + 1 : Nat) : Int) := by
  rw [w64_id (by omega) (by omega)]; omega
theorem ix_nat {α : Type} (l : List α) (i : Nat) : ix l (i : Int) = l[i]? := by simp [ix]
theorem put_nat {α : Type} {l : List α} {i : Nat} {x : α} (h : i < l.length) : Nt.put l (i : Int) x = some (l.set i x) := by simp [Nt.put, h]
theorem app_ok {α : Type} {b : Nat} {l m : List α} (h : (l.length + m.length) * b ≤ 70368744177664) : app b l m = some (l ++ m) := by
  simp only [app]; rw [if_pos h]
/-- down from the end -/
theorem down {P : Nat → Prop} (n : Nat) (h : ∀ i, i ≤ n → (i < n → P (i + 1)) → P i) : ∀ i, i ≤ n → P i := by
  intro i hi
  obtain ⟨k, hk⟩ : ∃ k, k = n - i := ⟨_, rfl⟩
  induction k generalizing i with
  | zero => exact h i hi fun hlt => by omega
  | succ k ih => exact h i hi fun hlt => ih (i + 1) hlt (by omega)
theorem bind_some' {α β : Type} (x : α) (f : α → Option β) : (some x >>= f) = f x := rfl
def smL {α : Type} (p : α → Prop) (l : List α) : Prop := l.length ≤ 1048576 ∧ ∀ x ∈ l, p x
def smS (s : Str) : Prop := s.length ≤ 1048576
def Sample.sm (x : Sample) : Prop := smS x.Name
theorem in_some (a b c : Int) : spec_l1In a b c = some (decide (a ≥ b) && decide (a ≤ c)) := by
  simp only [spec_l1In]; by_cases h : a ≥ b <;> simp [h]
theorem from_some (a b c : Int) : impl_from a b c = some (decide (a ≥ b) && decide (a ≤ c)) := by
  simp only [impl_from]; by_cases h : a ≥ b <;> simp [h]
theorem nameOk_same (a : Str) (h : smS a) : ∃ b, spec_NameOk a = some b ∧ impl_NameOk a = some b := by
  unfold smS at h
  have key : ∀ i, i ≤ a.length → ∃ b, spec_NameOk.l0 a i = some b ∧ impl_NameOk.l0 a i = some b := by
    refine down _ fun i hi ih => ?_
    rw [spec_NameOk.l0, impl_NameOk.l0]
    by_cases hlt : i < a.length
    · have c : decide ((i : Int) < (a.length : Int)) = true := by simpa using hlt
      obtain ⟨b, e1, e2⟩ := ih hlt
      simp only [c, if_true, ix_nat, List.getElem?_eq_getElem hlt, bind_some', impl_isDigit, w64_succ (show i < 9223372036854775807 by omega), e1, e2]
      generalize byte a[i] = x
      by_cases h1 : x ≥ 97 <;> by_cases h2 : x ≤ 122 <;> by_cases h3 : i = 0 <;> by_cases h4 : x ≥ 48 <;> by_cases h5 : x ≤ 57 <;> by_cases h6 : x = 45 <;>
        first
        | omega
        | (have h3' : (i : Int) > 0 := by omega
           have h3'' : ¬ ((i : Int) = 0) := by omega
           have h7 : 0 < i := by omega
           simp [h1, h2, h3, h3', h3'', h7, h4, h5, h6, bind_some'])
        | (subst h3; simp [h1, h2, h4, h5, h6, bind_some'])
    · rw [if_neg (by simpa using hlt), if_neg (by simpa using hlt)]
      exact ⟨_, rfl, rfl⟩
  obtain ⟨b, e1, e2⟩ := key 0 (by omega)
  simp only [Int.natCast_zero] at e1 e2
  simp only [spec_NameOk, impl_NameOk, e1, e2, bind_some', in_some, from_some]
  cases b with
  | inl r => exact ⟨_, rfl, rfl⟩
  | inr u => exact ⟨_, rfl, rfl⟩
theorem samplesOk_same (a : List Sample) (h : smL Sample.sm a) : ∃ b, spec_SamplesOk a = some b ∧ impl_SamplesOk a = some b := by
  have hl : a.length ≤ 1048576 := h.1
  have key : ∀ i, i ≤ a.length → ∃ b, spec_SamplesOk.l0 a i = some b ∧ impl_SamplesOk.l0 a i = some b := by
    refine down _ fun i hi ih => ?_
    rw [spec_SamplesOk.l0, impl_SamplesOk.l0]
    by_cases hlt : i < a.length
    · have c : decide ((i : Int) < (a.length : Int)) = true := by simpa using hlt
      obtain ⟨b, e1, e2⟩ := ih hlt
      obtain ⟨n, n1, n2⟩ := nameOk_same a[i].Name (h.2 _ (List.getElem_mem hlt))
      simp only [c, if_true, impl_isValue, in_some, from_some, ix_nat, List.getElem?_eq_getElem hlt, bind_some', n1, n2, w64_succ (show i < 9223372036854775807 by omega), e1, e2]
      split
      · exact ⟨_, rfl, rfl⟩
      · split
        · exact ⟨_, rfl, rfl⟩
        · by_cases h0 : i = 0
          · subst h0; simp
          · have e : IntKind.i64.wrap ((i : Int) - 1) = ((i - 1 : Nat) : Int) := by rw [w64_id (by omega) (by omega)]; omega
            have c2 : decide ((i : Int) > 0) = true := by simp; omega
            simp only [c2, if_true, e, ix_nat, List.getElem?_eq_getElem (show i - 1 < a.length by omega), bind_some']
            split
            · exact ⟨_, rfl, rfl⟩
            · exact ⟨_, rfl, rfl⟩
    · rw [if_neg (by simpa using hlt), if_neg (by simpa using hlt)]
      exact ⟨_, rfl, rfl⟩
  obtain ⟨b, h1, h2⟩ := key 0 (by omega)
  simp only [Int.natCast_zero] at h1 h2
  simp only [spec_SamplesOk, impl_SamplesOk, h1, h2, bind_some']
  cases b with
  | inl r => exact ⟨_, rfl, rfl⟩
  | inr u => exact ⟨_, rfl, rfl⟩
theorem sampleOf_same (a : List Sample) (s : Str) (h : smL Sample.sm a) : ∃ b, spec_SampleOf a s = some b ∧ impl_SampleOf a s = some b := by
  have hl : a.length ≤ 1048576 := h.1
  have key : ∀ i, i ≤ a.length → ∃ b, spec_SampleOf.l0 a s i = some b ∧ impl_SampleOf.l0 a s i = some b := by
    refine down _ fun i hi ih => ?_
    rw [spec_SampleOf.l0, impl_SampleOf.l0]
    by_cases hlt : i < a.length
    · have c : decide ((i : Int) < (a.length : Int)) = true := by simpa using hlt
      obtain ⟨b, e1, e2⟩ := ih hlt
      simp only [c, if_true, ix_nat, List.getElem?_eq_getElem hlt, bind_some', w64_succ (show i < 9223372036854775807 by omega), e1, e2]
      split
      · exact ⟨_, rfl, rfl⟩
      · exact ⟨_, rfl, rfl⟩
    · rw [if_neg (by simpa using hlt), if_neg (by simpa using hlt)]
      exact ⟨_, rfl, rfl⟩
  obtain ⟨b, h1, h2⟩ := key 0 (by omega)
  simp only [Int.natCast_zero] at h1 h2
  simp only [spec_SampleOf, impl_SampleOf, h1, h2, bind_some']
  cases b with
  | inl r => exact ⟨_, rfl, rfl⟩
  | inr u => exact ⟨_, rfl, rfl⟩
def Metric.sm (x : Metric) : Prop := smS x.Name
theorem ceilDiv_same (a b : Int) : ∃ r, spec_CeilDiv a b = some r ∧ impl_CeilDiv a b = some r := by
  simp only [spec_CeilDiv, impl_CeilDiv, in_some, from_some, bind_some']
  split
  · exact ⟨_, rfl, rfl⟩
  · split
    · exact ⟨_, rfl, rfl⟩
    · rename_i h1 h2
      simp at h2
      simp only [Nt.quo]
      rw [if_neg (by omega)]
      exact ⟨_, rfl, rfl⟩
theorem metricOk_same (m : Metric) (h : Metric.sm m) : ∃ b, spec_MetricOk m = some b ∧ impl_MetricOk m = some b := by
  obtain ⟨n, n1, n2⟩ := nameOk_same m.Name h
  simp only [spec_MetricOk, impl_MetricOk, n1, n2, bind_some', in_some, from_some]
  repeat' split
  all_goals exact ⟨_, rfl, rfl⟩
theorem byOne_same (m : Metric) (x y : Int) (h : Metric.sm m) : ∃ b, spec_ByOne m x y = some b ∧ impl_ByOne m x y = some b := by
  obtain ⟨n, n1, n2⟩ := metricOk_same m h
  obtain ⟨p, p1, p2⟩ := ceilDiv_same y m.Goal
  obtain ⟨q, q1, q2⟩ := ceilDiv_same (IntKind.i64.wrap (x * y)) m.Goal
  simp only [spec_ByOne, impl_ByOne, n1, n2, bind_some', in_some, from_some, impl_isMany, impl_isValue, p1, p2, q1, q2]
  repeat' split
  all_goals exact ⟨_, rfl, rfl⟩
theorem w64_eq (n : Int) : IntKind.i64.wrap n = (n + 9223372036854775808) % 18446744073709551616 - 9223372036854775808 := by
  simp only [IntKind.wrap, IntKind.bits, IntKind.signed, Bool.true_and]
  split
  · rename_i h; simp at h; omega
  · rename_i h; simp at h; omega
def Cur (c : L1Cur) : Prop := 0 ≤ c.i ∧ c.i ≤ 1048577 ∧ c.b.length ≤ 1048576
theorem band_255 (x : Int) : 0 ≤ band x 255 ∧ band x 255 ≤ 255 := by
  have h : (BitVec.ofInt IntKind.i64.bits x &&& BitVec.ofInt IntKind.i64.bits 255).toNat ≤ 255 := by
    rw [BitVec.toNat_and]; exact Nat.le_trans Nat.and_le_right (by decide)
  simp only [band]
  rw [w64_id (by omega) (by omega)]; omega
theorem byte_sp (c : L1Cur) (h : Cur c) : ∃ x d, spec_l1Byte c = some (x, d) ∧ 0 ≤ x ∧ x ≤ 255 ∧ Cur d := by
  obtain ⟨h0, h1, h2⟩ := h
  simp only [spec_l1Byte]
  by_cases hi : c.i < (c.b.length : Int)
  · obtain ⟨i, hi'⟩ : ∃ i : Nat, c.i = i := ⟨c.i.toNat, by omega⟩
    rw [if_pos (by simpa using hi)]
    simp only [hi', ix_nat]
    rw [List.getElem?_eq_getElem (by omega)]
    simp only [bind_some']
    refine ⟨_, _, rfl, (band_255 _).1, (band_255 _).2, ?_, ?_, h2⟩
    · show 0 ≤ IntKind.i64.wrap ((i : Int) + 1); rw [w64_id (by omega) (by omega)]; omega
    · show IntKind.i64.wrap ((i : Int) + 1) ≤ 1048577; rw [w64_id (by omega) (by omega)]; omega
  · rw [if_neg (by simpa using hi)]
    exact ⟨_, _, rfl, (band_255 _).1, (band_255 _).2, h0, h1, h2⟩
theorem rem_ok {a n : Int} (ha : 0 ≤ a) (hn : 0 < n) : ∃ q, Nt.rem a n = some q ∧ 0 ≤ q ∧ q < n := by
  refine ⟨a.tmod n, if_neg (by omega), Int.tmod_nonneg _ ha, Int.tmod_lt_of_pos _ hn⟩
theorem below_sp (c : L1Cur) (n : Int) (h : Cur c) (hn : 0 < n) : ∃ x d, spec_l1Below c n = some (x, d) ∧ 0 ≤ x ∧ x < n ∧ Cur d := by
  simp only [spec_l1Below]
  rw [if_neg (by simpa using hn)]
  by_cases h256 : n ≤ 256
  · rw [if_pos (by simpa using h256)]
    obtain ⟨x, d, e, h0, h1, hd⟩ := byte_sp c h
    obtain ⟨q, eq, q0, q1⟩ := rem_ok h0 hn
    simp only [e, bind_some', eq]
    exact ⟨_, _, rfl, q0, q1, hd⟩
  · rw [if_neg (by simpa using h256)]
    obtain ⟨x, d, e, h0, h1, hd⟩ := byte_sp c h
    obtain ⟨y, d2, e2, y0, y1, hd2⟩ := byte_sp d hd
    obtain ⟨z, d3, e3, z0, z1, hd3⟩ := byte_sp d2 hd2
    obtain ⟨w, d4, e4, w0, w1, hd4⟩ := byte_sp d3 hd3
    have hs : 0 ≤ IntKind.i64.wrap (IntKind.i64.wrap (IntKind.i64.wrap (IntKind.i64.wrap (x * 16777216) + IntKind.i64.wrap (y * 65536)) + IntKind.i64.wrap (z * 256)) + w) := by
      simp only [w64_eq]; omega
    obtain ⟨q, eq, q0, q1⟩ := rem_ok hs hn
    simp only [e, e2, e3, e4, bind_some', eq]
    exact ⟨_, _, rfl, q0, q1, hd4⟩
theorem once_sp (c : L1Cur) (n : Int) (h : Cur c) (hn : 0 < n) : ∃ x d, spec_l1Once c n = some (x, d) ∧ Cur d := by
  obtain ⟨x, d, e, _, _, hd⟩ := below_sp c n h hn
  simp only [spec_l1Once, e, bind_some']
  exact ⟨_, _, rfl, hd⟩
theorem pickInt_sp (c : L1Cur) (l : List Int) (h : Cur c) (hl : 0 < l.length) : ∃ x d, spec_l1PickInt c l = some (x, d) ∧ x ∈ l ∧ Cur d := by
  obtain ⟨x, d, e, x0, x1, hd⟩ := below_sp c l.length h (by omega)
  obtain ⟨i, rfl⟩ : ∃ i : Nat, x = i := ⟨x.toNat, by omega⟩
  simp only [spec_l1PickInt, e, bind_some', ix_nat]
  rw [List.getElem?_eq_getElem (by omega)]
  exact ⟨_, _, rfl, List.getElem_mem _, hd⟩
theorem new_sp (a : List Int) (h : a.length ≤ 1048576) : ∃ c, spec_l1New a = some c ∧ Cur c := by
  have key : ∀ i, i ≤ a.length → ∀ v : Int, ∃ t, spec_l1New.l0 a v i = some t := by
    refine down _ fun i hi ih v => ?_
    rw [spec_l1New.l0]
    by_cases hlt : i < a.length
    · have c : decide ((i : Int) < (a.length : Int)) = true := by simpa using hlt
      simp only [c, if_true, ix_nat, List.getElem?_eq_getElem hlt, bind_some', w64_succ (show i < 9223372036854775807 by omega)]
      split
      · exact ih hlt _
      · exact ⟨_, rfl⟩
    · rw [if_neg (by simpa using hlt)]; exact ⟨_, rfl⟩
  obtain ⟨t, e⟩ := key 0 (by omega) (IntKind.i64.wrap (27212 + (a.length : Int)))
  simp only [Int.natCast_zero] at e
  simp only [spec_l1New, e, bind_some']
  exact ⟨_, rfl, by simp, by simp, h⟩
def PaceD (p : Pace) : Prop := 0 ≤ p.Up ∧ p.Up ≤ 4 ∧ 0 ≤ p.Down ∧ p.Down ≤ 2 ∧ 0 ≤ p.UpSpan ∧ p.UpSpan ≤ 60 ∧ 0 ≤ p.DownSpan ∧ p.DownSpan ≤ 3600
theorem drawPace_sp (c : L1Cur) (h : Cur c) : ∃ p d, spec_l6DrawPace c = some (p, d) ∧ PaceD p ∧ Cur d := by
  obtain ⟨b, c1, e1, h1⟩ := once_sp c 3 h (by omega)
  simp only [spec_l6DrawPace, e1, bind_some', spec_PaceNew]
  split
  · exact ⟨_, _, rfl, by simp [PaceD], h1⟩
  · obtain ⟨x2, c2, e2, m2, h2⟩ := pickInt_sp c1 [0, 1, 4] h1 (by simp)
    obtain ⟨x3, c3, e3, m3, h3⟩ := pickInt_sp c2 [0, 1, 2] h2 (by simp)
    obtain ⟨x4, c4, e4, m4, h4⟩ := pickInt_sp c3 [0, 30, 60] h3 (by simp)
    obtain ⟨x5, c5, e5, m5, h5⟩ := pickInt_sp c4 [0, 60, 300, 3600] h4 (by simp)
    simp only [e2, e3, e4, e5, bind_some']
    refine ⟨_, _, rfl, ?_, h5⟩
    simp only [List.mem_cons, List.not_mem_nil, or_false] at m2 m3 m4 m5
    simp only [PaceD]; omega
def Note.sm (x : Note) : Prop := smS x.Key ∧ smS x.Text
def Order.sm (x : Order) : Prop := smS x.Name ∧ smS x.Target ∧ smL Metric.sm x.Metrics ∧ smL Note.sm x.Notes
theorem paceOk_same (p : Pace) : ∃ b, spec_PaceOk p = some b ∧ impl_PaceOk p = some b := by
  simp only [spec_PaceOk, impl_PaceOk, impl_isMany, in_some, from_some, bind_some']
  repeat' split
  all_goals exact ⟨_, rfl, rfl⟩
theorem byte_u8 (c : UInt8) : (byte c).toNat.toUInt8 = c := by
  simp [byte]
theorem byte_range (c : UInt8) : 0 ≤ byte c ∧ byte c ≤ 255 := by
  unfold byte; have := c.toNat_lt; omega
theorem byte_eq (c d : UInt8) : (byte c = byte d) ↔ c = d := by
  unfold byte
  constructor
  · intro h; exact UInt8.toNat_inj.1 (by omega)
  · intro h; rw [h]
theorem indexByte_four (c : UInt8) : Nt.indexByte [95, 46, 47, 45] c < 0 ↔ ¬ (byte c = 95) ∧ ¬ (byte c = 46) ∧ ¬ (byte c = 47) ∧ ¬ (byte c = 45) := by
  have h1 : (byte c = 95) ↔ c = 95 := byte_eq c 95
  have h2 : (byte c = 46) ↔ c = 46 := byte_eq c 46
  have h3 : (byte c = 47) ↔ c = 47 := byte_eq c 47
  have h4 : (byte c = 45) ↔ c = 45 := byte_eq c 45
  rw [h1, h2, h3, h4]
  simp only [Nt.indexByte]
  by_cases g1 : c = 95
  · subst g1; decide
  by_cases g2 : c = 46
  · subst g2; decide
  by_cases g3 : c = 47
  · subst g3; decide
  by_cases g4 : c = 45
  · subst g4; decide
  have f1 : ((95 : UInt8) == c) = false := by simp; exact fun h => g1 h.symm
  have f2 : ((46 : UInt8) == c) = false := by simp; exact fun h => g2 h.symm
  have f3 : ((47 : UInt8) == c) = false := by simp; exact fun h => g3 h.symm
  have f4 : ((45 : UInt8) == c) = false := by simp; exact fun h => g4 h.symm
  simp [f1, f2, f3, f4, g1, g2, g3, g4]
theorem plainOk_same (a : Str) (h : smS a) : ∃ b, spec_PlainOk a = some b ∧ impl_PlainOk a = some b := by
  unfold smS at h
  have key : ∀ i, i ≤ a.length → ∃ b, spec_PlainOk.l0 a i = some b ∧ impl_PlainOk.l0 a i = some b := by
    refine down _ fun i hi ih => ?_
    rw [spec_PlainOk.l0, impl_PlainOk.l0]
    by_cases hlt : i < a.length
    · have c : decide ((i : Int) < (a.length : Int)) = true := by simpa using hlt
      obtain ⟨b, e1, e2⟩ := ih hlt
      have hL : ∀ n, impl_isLetter n = spec_l5Letter n := fun n => by simp only [impl_isLetter, spec_l5Letter]
      have hT : ∀ n, ∃ t, spec_l5Letter n = some t := fun n => by
        simp only [spec_l5Letter]; repeat' split
        all_goals exact ⟨_, rfl⟩
      obtain ⟨t, ht⟩ := hT (byte a[i])
      simp only [c, if_true, ix_nat, List.getElem?_eq_getElem hlt, bind_some', impl_isDigit, hL, ht, w64_succ (show i < 9223372036854775807 by omega), e1, e2, strings_IndexByte, internal_stringslite_IndexByte, internal_bytealg_IndexByteString, byte_u8]
      have hx := indexByte_four a[i]
      have hq : decide (Nt.indexByte [95, 46, 47, 45] a[i] < 0) = decide (¬ (byte a[i] = 95) ∧ ¬ (byte a[i] = 46) ∧ ¬ (byte a[i] = 47) ∧ ¬ (byte a[i] = 45)) := by simp only [hx]
      rw [hq]
      generalize byte a[i] = x
      cases t
      · by_cases h3 : i = 0
        · subst h3; simp [bind_some']
        · have h3'' : ((i : Int) == 0) = false := by simp; omega
          by_cases h4 : x ≥ 48 <;> by_cases h5 : x ≤ 57 <;> by_cases h6 : x = 95 <;> by_cases h7 : x = 46 <;> by_cases h8 : x = 47 <;> by_cases h9 : x = 45 <;>
          first
          | omega
          | simp [h3'', h4, h5, h6, h7, h8, h9, bind_some']
      · simp
    · rw [if_neg (by simpa using hlt), if_neg (by simpa using hlt)]
      exact ⟨_, rfl, rfl⟩
  obtain ⟨b, e1, e2⟩ := key 0 (by omega)
  simp only [Int.natCast_zero] at e1 e2
  simp only [spec_PlainOk, impl_PlainOk, e1, e2, bind_some', in_some, from_some]
  cases b with
  | inl r => exact ⟨_, rfl, rfl⟩
  | inr u =>
    repeat' split
    all_goals exact ⟨_, rfl, rfl⟩
theorem ours_same (s : Str) : ∃ b, spec_l6Ours s = some b ∧ strings_HasPrefix s [113, 117, 97, 121, 47] = some b := by
  simp only [spec_l6Ours, strings_HasPrefix, internal_stringslite_HasPrefix, List.length_cons, List.length_nil]
  by_cases h : (s.length : Int) ≥ 5
  · have e : slc s 0 5 = some (cut s 0 5) := by simp only [slc]; rw [if_pos ⟨by omega, by omega, by omega⟩]; rfl
    rw [if_pos (by simpa using h), if_pos (by simpa using h)]
    have e' : slc s 0 ((0 + 1 + 1 + 1 + 1 + 1 : Nat) : Int) = some (cut s 0 5) := e
    rw [e, e']
    exact ⟨_, rfl, rfl⟩
  · rw [if_neg (by simpa using h), if_neg (by simpa using h)]
    exact ⟨_, rfl, rfl⟩
theorem textOk_same (a : Str) (h : smS a) : ∃ b, spec_TextOk a = some b ∧ impl_TextOk a = some b := by
  unfold smS at h
  have key : ∀ i, i ≤ a.length → ∃ b, spec_TextOk.l0 a i = some b ∧ impl_TextOk.l0 a i = some b := by
    refine down _ fun i hi ih => ?_
    rw [spec_TextOk.l0, impl_TextOk.l0]
    by_cases hlt : i < a.length
    · have c : decide ((i : Int) < (a.length : Int)) = true := by simpa using hlt
      obtain ⟨b, e1, e2⟩ := ih hlt
      have hb := byte_range a[i]
      simp only [c, if_true, ix_nat, List.getElem?_eq_getElem hlt, bind_some', from_some, w64_succ (show i < 9223372036854775807 by omega), e1, e2]
      rw [w64_id (by omega) (by omega)]
      generalize byte a[i] = x at hb
      by_cases h4 : x < 32 <;> by_cases h5 : x > 126 <;> first
        | omega
        | (have g4 : ¬ (32 ≤ x) ∨ 32 ≤ x := by omega
           rcases g4 with g4 | g4 <;> first
             | omega
             | (have g5 : ¬ (x ≤ 126) ∨ x ≤ 126 := by omega
                rcases g5 with g5 | g5 <;> first
                  | omega
                  | simp [h4, h5, g4, g5]))
    · rw [if_neg (by simpa using hlt), if_neg (by simpa using hlt)]
      exact ⟨_, rfl, rfl⟩
  obtain ⟨b, e1, e2⟩ := key 0 (by omega)
  simp only [Int.natCast_zero] at e1 e2
  simp only [spec_TextOk, impl_TextOk, e1, e2, bind_some']
  cases b with
  | inl r => exact ⟨_, rfl, rfl⟩
  | inr u => exact ⟨_, rfl, rfl⟩
theorem notes_same (a : List Note) (h : smL Note.sm a) : ∃ b, spec_l6Notes a = some b ∧ impl_notesOk a = some b := by
  have hl : a.length ≤ 1048576 := h.1
  have key : ∀ i, i ≤ a.length → ∃ b, spec_l6Notes.l0 a i = some b ∧ impl_notesOk.l0 a i = some b := by
    refine down _ fun i hi ih => ?_
    rw [spec_l6Notes.l0, impl_notesOk.l0]
    by_cases hlt : i < a.length
    · have c : decide ((i : Int) < (a.length : Int)) = true := by simpa using hlt
      obtain ⟨b, e1, e2⟩ := ih hlt
      have hm := h.2 _ (List.getElem_mem hlt)
      obtain ⟨p, p1, p2⟩ := plainOk_same a[i].Key hm.1
      obtain ⟨q, q1, q2⟩ := ours_same a[i].Key
      obtain ⟨t, t1, t2⟩ := textOk_same a[i].Text hm.2
      simp only [c, if_true, ix_nat, List.getElem?_eq_getElem hlt, bind_some', p1, p2, q1, q2, t1, t2, w64_succ (show i < 9223372036854775807 by omega), e1, e2]
      split
      · exact ⟨_, rfl, rfl⟩
      · split
        · exact ⟨_, rfl, rfl⟩
        · split
          · exact ⟨_, rfl, rfl⟩
          · split
            · exact ⟨_, rfl, rfl⟩
            · by_cases h0 : i = 0
              · subst h0; simp
              · have e : IntKind.i64.wrap ((i : Int) - 1) = ((i - 1 : Nat) : Int) := by rw [w64_id (by omega) (by omega)]; omega
                have c2 : decide ((i : Int) > 0) = true := by simp; omega
                simp only [c2, if_true, e, ix_nat, List.getElem?_eq_getElem (show i - 1 < a.length by omega), bind_some']
                split
                · exact ⟨_, rfl, rfl⟩
                · exact ⟨_, rfl, rfl⟩
    · rw [if_neg (by simpa using hlt), if_neg (by simpa using hlt)]
      exact ⟨_, rfl, rfl⟩
  obtain ⟨b, h1, h2⟩ := key 0 (by omega)
  simp only [Int.natCast_zero] at h1 h2
  simp only [spec_l6Notes, impl_notesOk, h1, h2, bind_some']
  cases b with
  | inl r => exact ⟨_, rfl, rfl⟩
  | inr u => exact ⟨_, rfl, rfl⟩
theorem metrics_same (o : Order) (h : smL Metric.sm o.Metrics) : ∃ b : Bool, spec_l6Metrics.l0 o.Metrics 0 = some (if b then .inr () else .inl false) ∧ impl_OrderOk.l0 o 0 = some (if b then .inr () else .inl false) := by
  have hl : o.Metrics.length ≤ 1048576 := h.1
  have key : ∀ i, i ≤ o.Metrics.length → ∃ b : Bool, spec_l6Metrics.l0 o.Metrics i = some (if b then .inr () else .inl false) ∧ impl_OrderOk.l0 o i = some (if b then .inr () else .inl false) := by
    refine down _ fun i hi ih => ?_
    rw [spec_l6Metrics.l0, impl_OrderOk.l0]
    by_cases hlt : i < o.Metrics.length
    · have c : decide ((i : Int) < (o.Metrics.length : Int)) = true := by simpa using hlt
      obtain ⟨b, e1, e2⟩ := ih hlt
      obtain ⟨p, p1, p2⟩ := metricOk_same o.Metrics[i] (h.2 _ (List.getElem_mem hlt))
      simp only [c, if_true, ix_nat, List.getElem?_eq_getElem hlt, bind_some', p1, p2, w64_succ (show i < 9223372036854775807 by omega), e1, e2]
      split
      · exact ⟨false, rfl, rfl⟩
      · by_cases h0 : i = 0
        · subst h0; exact ⟨b, by simp, by simp⟩
        · have e : IntKind.i64.wrap ((i : Int) - 1) = ((i - 1 : Nat) : Int) := by rw [w64_id (by omega) (by omega)]; omega
          have c2 : decide ((i : Int) > 0) = true := by simp; omega
          simp only [c2, if_true, e, ix_nat, List.getElem?_eq_getElem (show i - 1 < o.Metrics.length by omega), bind_some']
          split
          · exact ⟨false, rfl, rfl⟩
          · exact ⟨b, rfl, rfl⟩
    · rw [if_neg (by simpa using hlt), if_neg (by simpa using hlt)]
      exact ⟨true, rfl, rfl⟩
  simpa using key 0 (by omega)
theorem orderOk_same (o : Order) (h : Order.sm o) : ∃ b, spec_OrderOk o = some b ∧ impl_OrderOk o = some b := by
  obtain ⟨n, n1, n2⟩ := nameOk_same o.Name h.1
  obtain ⟨t, t1, t2⟩ := nameOk_same o.Target h.2.1
  obtain ⟨m, m1, m2⟩ := metrics_same o h.2.2.1
  obtain ⟨p, p1, p2⟩ := paceOk_same o.Pace
  obtain ⟨q, q1, q2⟩ := notes_same o.Notes h.2.2.2
  simp only [spec_OrderOk, impl_OrderOk, spec_l6Metrics, n1, n2, t1, t2, m1, m2, p1, p2, q1, q2, in_some, from_some, bind_some']
  generalize (decide (o.Low ≥ 1) && decide (o.Low ≤ o.High)) = x
  generalize decide (o.High ≤ 1000) = y
  generalize decide ((o.Metrics.length : Int) ≤ 4) = z
  cases n <;> cases t <;> cases m <;> cases p <;> cases q <;> cases x <;> cases y <;> cases z <;> exact ⟨_, rfl, rfl⟩
theorem max_some (a b : Int) : spec_l1Max a b = some (if b > a then b else a) := by
  simp only [spec_l1Max]
  by_cases h : a > b
  · rw [if_pos (by simpa using h), if_neg (by omega)]
  · rw [if_neg (by simpa using h)]
    by_cases h2 : b > a
    · rw [if_pos h2]
    · rw [if_neg h2]; congr 1; omega
theorem byAll_same (o : Order) (n : Int) (s : List Sample) (h : Order.sm o) (hs : smL Sample.sm s) : ∃ r, spec_ByAll o n s = some r ∧ impl_ByAll o n s = some r := by
  obtain ⟨p, p1, p2⟩ := orderOk_same o h
  obtain ⟨q, q1, q2⟩ := samplesOk_same s hs
  have hl : o.Metrics.length ≤ 1048576 := h.2.2.1.1
  by_cases hp : p = true ∧ q = true
  · obtain ⟨rfl, rfl⟩ := hp
    have key : ∀ i, i ≤ o.Metrics.length → ∀ m b, ∃ r, spec_ByAll.l0 o n s m b i = some r ∧ impl_ByAll.l0 o n s m b i = some r := by
      refine down _ fun i hi ih m b => ?_
      rw [spec_ByAll.l0, impl_ByAll.l0]
      by_cases hlt : i < o.Metrics.length
      · have c : decide ((i : Int) < (o.Metrics.length : Int)) = true := by simpa using hlt
        obtain ⟨v, v1, v2⟩ := sampleOf_same s o.Metrics[i].Name hs
        simp only [c, p1, q1, if_true, ix_nat, List.getElem?_eq_getElem hlt, bind_some', v1, v2, w64_succ (show i < 9223372036854775807 by omega)]
        by_cases hv : v.2 = true
        · obtain ⟨y, y1, y2⟩ := byOne_same o.Metrics[i] n v.1 (h.2.2.1.2 _ (List.getElem_mem hlt))
          obtain ⟨r, e1, e2⟩ := ih hlt (if y > m then y else m) true
          simp only [hv, if_true, y1, y2, bind_some', max_some, e1, e2]
          exact ⟨_, rfl, rfl⟩
        · obtain ⟨r, e1, e2⟩ := ih hlt m b
          simp only [hv, if_false, e1, e2]
          exact ⟨_, rfl, rfl⟩
      · rw [if_neg (by simpa using hlt), if_neg (by simpa using hlt)]
        exact ⟨_, rfl, rfl⟩
    obtain ⟨r, e1, e2⟩ := key 0 (by omega) 0 false
    simp only [Int.natCast_zero] at e1 e2
    simp only [spec_ByAll, impl_ByAll, e1, e2, p2, q2, bind_some', Bool.not_true, Bool.false_eq_true, if_false]
    split
    · exact ⟨_, rfl, rfl⟩
    · exact ⟨_, rfl, rfl⟩
  · have e : spec_ByAll.l0 o n s 0 false 0 = some (0, false) := by
      rw [spec_ByAll.l0]
      split
      · simp only [p1, q1, bind_some']
        cases p <;> cases q <;> simp at hp <;> rfl
      · rfl
    simp only [spec_ByAll, impl_ByAll, e, p2, q2, bind_some', Bool.not_false, if_true]
    cases p <;> cases q <;> simp at hp <;> exact ⟨_, rfl, rfl⟩
theorem pick_sp (c : L1Cur) (l : List Str) (h : Cur c) (hl : 0 < l.length) : ∃ x d, spec_l1Pick c l = some (x, d) ∧ x ∈ l ∧ Cur d := by
  obtain ⟨x, d, e, x0, x1, hd⟩ := below_sp c l.length h (by omega)
  obtain ⟨i, rfl⟩ : ∃ i : Nat, x = i := ⟨x.toNat, by omega⟩
  simp only [spec_l1Pick, e, bind_some', ix_nat]
  rw [List.getElem?_eq_getElem (by omega)]
  exact ⟨_, _, rfl, List.getElem_mem _, hd⟩
def shS (s : Str) : Prop := s.length ≤ 64
theorem shS.sm {s : Str} (h : shS s) : smS s := by unfold shS at h; unfold smS; omega
theorem shS_mem {x : Str} {l : List Str} (h : x ∈ l) (hl : l.all (fun s => decide (s.length ≤ 64)) = true) : shS x := by
  have := List.all_eq_true.1 hl x h
  simpa [shS] using this
def shI (x : Int) : Prop := -1 ≤ x ∧ x ≤ 2000000
theorem shI_mem {x : Int} {l : List Int} (h : x ∈ l) (hl : l.all (fun s => decide (-1 ≤ s) && decide (s ≤ 2000000)) = true) : shI x := by
  have := List.all_eq_true.1 hl x h
  simpa [shI] using this
theorem listD {α : Type} {p : α → Prop} {l : List α} {x : α} (h : ∀ y ∈ l, p y) (hx : p x) : ∀ y ∈ l ++ [x], p y := by
  intro y hy
  rcases List.mem_append.1 hy with hy | hy
  · exact h y hy
  · rw [List.mem_singleton.1 hy]; exact hx
def MetricD (m : Metric) : Prop := shS m.Name ∧ shI m.Kind ∧ shI m.Goal
def SampleD (m : Sample) : Prop := shS m.Name ∧ shI m.Value
def NoteD (m : Note) : Prop := shS m.Key ∧ shS m.Text
theorem MetricD.sm {m : Metric} (h : MetricD m) : Metric.sm m := h.1.sm
def PaceE (p : Pace) : Prop := shI p.Up ∧ shI p.Down ∧ shI p.UpSpan ∧ shI p.DownSpan
theorem PaceD.e {p : Pace} (h : PaceD p) : PaceE p := by
  unfold PaceD at h; unfold PaceE shI; omega
def OrderD (o : Order) : Prop := shS o.Name ∧ shS o.Target ∧ shI o.Low ∧ shI o.High ∧ (o.Metrics.length ≤ 5 ∧ ∀ m ∈ o.Metrics, MetricD m) ∧ PaceE o.Pace ∧ (o.Notes.length ≤ 4 ∧ ∀ n ∈ o.Notes, NoteD n)
theorem OrderD.sm {o : Order} (h : OrderD o) : Order.sm o := by
  obtain ⟨h1, h2, h3, h4, ⟨h5, h6⟩, h7, h8, h9⟩ := h
  exact ⟨h1.sm, h2.sm, ⟨by omega, fun x hx => (h6 x hx).1.sm⟩, by omega, fun x hx => ⟨(h9 x hx).1.sm, (h9 x hx).2.sm⟩⟩
theorem drawMetric_sp (c : L1Cur) (h : Cur c) : ∃ m d, spec_l6DrawMetric c = some (m, d) ∧ MetricD m ∧ Cur d := by
  obtain ⟨x1, c1, e1, m1, h1⟩ := pick_sp c [[99, 112, 117], [109, 101, 109], [113, 117, 101, 117, 101], [104, 105, 116, 115]] h (by simp)
  obtain ⟨x2, c2, e2, m2, n2, h2⟩ := below_sp c1 3 h1 (by omega)
  obtain ⟨x3, c3, e3, m3, h3⟩ := pickInt_sp c2 [1, 500, 700, 800, 805, 1000, 50000, 1000000] h2 (by simp)
  simp only [spec_l6DrawMetric, e1, e2, e3, bind_some']
  refine ⟨_, _, rfl, ⟨shS_mem m1 (by decide), ?_, shI_mem m3 (by decide)⟩, h3⟩
  show shI (IntKind.i64.wrap (1 + x2))
  rw [w64_id (by omega) (by omega)]; unfold shI; omega
theorem drawRight_sp (c : L1Cur) (h : Cur c) : ∃ o d, spec_l6DrawRight c = some (o, d) ∧ (OrderD o ∧ o.Metrics.length ≤ 4 ∧ o.Notes.length ≤ 3) ∧ Cur d := by
  have k0 : ∀ i, i ≤ 4 → ∀ (c : L1Cur) (l : List Metric), Cur c → l.length ≤ i → (∀ x ∈ l, MetricD x) → ∃ b i' h' m, spec_l6DrawRight.l0 i c.b c.i c.h l = some (b, i', h', m) ∧ m.length ≤ 4 ∧ (∀ x ∈ m, MetricD x) ∧ Cur ⟨b, i', h'⟩ := by
    refine down _ fun i hi ih c l hc hl hm => ?_
    rw [spec_l6DrawRight.l0]
    by_cases hlt : i < 4
    · have g : decide ((i : Int) < (([[99, 112, 117], [104, 105, 116, 115], [109, 101, 109], [113, 117, 101, 117, 101]] : List Str).length : Int)) = true := by simp; omega
      obtain ⟨b, d, e, hd⟩ := once_sp c 2 hc (by omega)
      have e' : spec_l1Once (L1Cur.mk c.b c.i c.h) 2 = some (b, d) := e
      simp only [g, if_true, e', bind_some', w64_succ (show i < 9223372036854775807 by omega)]
      cases b
      · simp only [Bool.false_eq_true, if_false]
        exact ih hlt d l hd (by omega) hm
      · obtain ⟨m, d2, e2, hm2, hd2⟩ := drawMetric_sp d hd
        have e2' : spec_l6DrawMetric (L1Cur.mk d.b d.i d.h) = some (m, d2) := e2
        obtain ⟨s, hs⟩ : ∃ s, ([[99, 112, 117], [104, 105, 116, 115], [109, 101, 109], [113, 117, 101, 117, 101]] : List Str)[i]? = some s := ⟨_, List.getElem?_eq_getElem (by simpa using hlt)⟩
        simp only [if_true, e2', bind_some', ix_nat, hs]
        rw [app_ok (by simp; omega)]
        simp only [bind_some']
        exact ih hlt d2 _ hd2 (by simp; omega) (listD hm ⟨shS_mem (List.mem_of_getElem? hs) (by decide), hm2.2.1, hm2.2.2⟩)
    · rw [if_neg (by simp; omega)]
      exact ⟨_, _, _, _, rfl, by omega, hm, hc⟩
  have k1 : ∀ i, i ≤ 3 → ∀ (c : L1Cur) (l : List Note), Cur c → l.length ≤ i → (∀ x ∈ l, NoteD x) → ∃ b i' h' m, spec_l6DrawRight.l1 i c.b c.i c.h l = some (b, i', h', m) ∧ m.length ≤ 3 ∧ (∀ x ∈ m, NoteD x) ∧ Cur ⟨b, i', h'⟩ := by
    refine down _ fun i hi ih c l hc hl hm => ?_
    rw [spec_l6DrawRight.l1]
    by_cases hlt : i < 3
    · have g : decide ((i : Int) < (([[97], [111, 119, 110, 101, 114], [120, 47, 121]] : List Str).length : Int)) = true := by simp; omega
      obtain ⟨b, d, e, hd⟩ := once_sp c 3 hc (by omega)
      have e' : spec_l1Once (L1Cur.mk c.b c.i c.h) 3 = some (b, d) := e
      simp only [g, if_true, e', bind_some', w64_succ (show i < 9223372036854775807 by omega)]
      cases b
      · simp only [Bool.false_eq_true, if_false]
        exact ih hlt d l hd (by omega) hm
      · obtain ⟨s, hs⟩ : ∃ s, ([[97], [111, 119, 110, 101, 114], [120, 47, 121]] : List Str)[i]? = some s := ⟨_, List.getElem?_eq_getElem (by simpa using hlt)⟩
        obtain ⟨t, d2, e2, ht, hd2⟩ := pick_sp d [[], [97], [119, 101, 98], [116, 114, 117, 101], [49, 50], [115, 97, 121, 32, 34, 110, 111, 34], [98, 97, 99, 107, 92], [97, 58, 32, 98], [45, 32, 120], [35], [53, 109], [110, 117, 108, 108], [32, 120]] hd (by simp)
        have e2' : spec_l1Pick (L1Cur.mk d.b d.i d.h) _ = some (t, d2) := e2
        simp only [if_true, spec_l3DrawText, e2', bind_some', ix_nat, hs]
        rw [app_ok (by simp; omega)]
        simp only [bind_some']
        exact ih hlt d2 _ hd2 (by simp; omega) (listD hm ⟨shS_mem (List.mem_of_getElem? hs) (by decide), shS_mem ht (by decide)⟩)
    · rw [if_neg (by simp; omega)]
      exact ⟨_, _, _, _, rfl, by omega, hm, hc⟩
  obtain ⟨x1, c1, e1, m1, n1, h1⟩ := below_sp c 4 h (by omega)
  obtain ⟨x2, c2, e2, m2, h2⟩ := pick_sp c1 [[119, 101, 98], [97, 112, 105], [106, 111, 98, 45, 49]] h1 (by simp)
  obtain ⟨x3, c3, e3, m3, h3⟩ := pick_sp c2 [[119, 101, 98], [112, 111, 111, 108]] h2 (by simp)
  obtain ⟨x4, c4, e4, m4, h4⟩ := pickInt_sp c3 [0, 3, 10, 900] h3 (by simp)
  obtain ⟨p, c5, e5, hp, h5⟩ := drawPace_sp c4 h4
  obtain ⟨b, i, g, l, e6, hl6, hm6, h6⟩ := k0 0 (by omega) c5 [] h5 (by simp) (by simp)
  obtain ⟨b7, i7, g7, l7, e7, hl7, hm7, h7⟩ := k1 0 (by omega) ⟨b, i, g⟩ [] h6 (by simp) (by simp)
  simp only [Int.natCast_zero] at e6 e7
  simp only [spec_l6DrawRight, e1, e2, e3, e4, e5, e6, e7, bind_some']
  have m4' := shI_mem m4 (by decide)
  have w1 : IntKind.i64.wrap (1 + x1) = 1 + x1 := w64_id (by omega) (by omega)
  have hx4 : 0 ≤ x4 ∧ x4 ≤ 900 := by
    simp only [List.mem_cons, List.not_mem_nil, or_false] at m4; omega
  have w2 : IntKind.i64.wrap (1 + x1 + x4) = 1 + x1 + x4 := w64_id (by omega) (by omega)
  simp only [w1, w2]
  refine ⟨_, _, rfl, ⟨⟨shS_mem m2 (by decide), shS_mem m3 (by decide), ?_, ?_, ⟨by show l.length ≤ 5; omega, hm6⟩, hp.e, ⟨by show l7.length ≤ 4; omega, hm7⟩⟩, hl6, hl7⟩, h7⟩
  · show shI (1 + x1); unfold shI; omega
  · show shI (1 + x1 + x4); unfold shI; omega
theorem draw6_sp (c : L1Cur) (h : Cur c) : ∃ o d, spec_l6Draw c = some (o, d) ∧ OrderD o ∧ Cur d := by
  obtain ⟨o, c1, e1, ⟨ho, ho5, ho3⟩, h1⟩ := drawRight_sp c h
  obtain ⟨k, c2, e2, k0, k1, h2⟩ := below_sp c1 16 h1 (by omega)
  obtain ⟨o1, o2, o3, o4, ⟨o5, o6⟩, ⟨q1, q2, q3, q4⟩, o8, o9⟩ := ho
  unfold spec_l6Draw
  rw [e1, bind_some']
  have e2' : spec_l1Below (L1Cur.mk c1.b c1.i c1.h) 16 = some (k, c2) := e2
  dsimp only
  rw [e2', bind_some']
  dsimp only
  by_cases hk0 : (k == 0) = true
  · rw [if_pos hk0]
    obtain ⟨x, c3, e3, m3, h3⟩ := pick_sp c2 [[], [49, 97], [65], [97, 98, 99, 100, 101, 102, 103, 104, 105, 106, 107, 108, 109, 110, 111, 112, 113, 114, 115, 116, 117]] h2 (by simp)
    simp only [e3, bind_some']
    exact ⟨_, _, rfl, ⟨shS_mem m3 (by decide), o2, o3, o4, ⟨o5, o6⟩, ⟨q1, q2, q3, q4⟩, o8, o9⟩, h3⟩
  rw [if_neg hk0]
  by_cases hk1 : (k == 1) = true
  · rw [if_pos hk1]
    obtain ⟨x, c3, e3, m3, h3⟩ := pickInt_sp c2 [0, -1, 1001] h2 (by simp)
    simp only [e3, bind_some']
    exact ⟨_, _, rfl, ⟨o1, o2, shI_mem m3 (by decide), o4, ⟨o5, o6⟩, ⟨q1, q2, q3, q4⟩, o8, o9⟩, h3⟩
  rw [if_neg hk1]
  by_cases hk2 : (k == 2) = true
  · rw [if_pos hk2]
    obtain ⟨x, c3, e3, m3, h3⟩ := pickInt_sp c2 [0, 1000, 1001] h2 (by simp)
    simp only [e3, bind_some']
    exact ⟨_, _, rfl, ⟨o1, o2, o3, shI_mem m3 (by decide), ⟨o5, o6⟩, ⟨q1, q2, q3, q4⟩, o8, o9⟩, h3⟩
  rw [if_neg hk2]
  by_cases hk3 : (k == 3) = true
  · rw [if_pos hk3]
    obtain ⟨x, c3, e3, m3, h3⟩ := drawMetric_sp c2 h2
    simp only [e3, bind_some']
    rw [app_ok (by simp; omega)]
    exact ⟨_, _, rfl, ⟨o1, o2, o3, o4, ⟨by simp; omega, listD o6 m3⟩, ⟨q1, q2, q3, q4⟩, o8, o9⟩, h3⟩
  rw [if_neg hk3]
  by_cases hk4 : (k == 4) = true
  · rw [if_pos hk4]
    obtain ⟨x, c3, e3, m3, h3⟩ := pickInt_sp c2 [-1, 1000, 1001] h2 (by simp)
    simp only [e3, bind_some']
    exact ⟨_, _, rfl, ⟨o1, o2, o3, o4, ⟨o5, o6⟩, ⟨shI_mem m3 (by decide), q2, q3, q4⟩, o8, o9⟩, h3⟩
  rw [if_neg hk4]
  by_cases hk5 : (k == 5) = true
  · rw [if_pos hk5]
    obtain ⟨x, c3, e3, m3, h3⟩ := pick_sp c2 [[122], [113, 117, 97, 121, 47, 112, 97, 99, 101], [49], []] h2 (by simp)
    simp only [e3, bind_some']
    rw [app_ok (by simp; omega)]
    exact ⟨_, _, rfl, ⟨o1, o2, o3, o4, ⟨o5, o6⟩, ⟨q1, q2, q3, q4⟩, by simp; omega, listD o9 ⟨shS_mem m3 (by decide), (by show List.length ([120] : Str) ≤ 64; decide)⟩⟩, h3⟩
  rw [if_neg hk5]
  by_cases hk6 : (k == 6) = true
  · rw [if_pos hk6]
    obtain ⟨x, c3, e3, m3, h3⟩ := pickInt_sp c2 [-1, 3600, 3601] h2 (by simp)
    simp only [e3, bind_some']
    exact ⟨_, _, rfl, ⟨o1, o2, o3, o4, ⟨o5, o6⟩, ⟨q1, q2, q3, shI_mem m3 (by decide)⟩, o8, o9⟩, h3⟩
  rw [if_neg hk6]
  by_cases hk7 : (k == 7) = true
  · rw [if_pos hk7]
    by_cases hm : (decide ((o.Metrics.length : Int) > 0)) = true
    · rw [if_pos hm]
      have hm' : 0 < o.Metrics.length := by simpa using hm
      obtain ⟨x, c3, e3, m3, h3⟩ := pickInt_sp c2 [0, -1, 1000000, 1000001] h2 (by simp)
      have g := ix_nat o.Metrics 0
      simp only [Int.natCast_zero] at g
      have g2 := fun x => put_nat (x := x) hm'
      simp only [Int.natCast_zero] at g2
      simp only [e3, bind_some', g, List.getElem?_eq_getElem hm', g2]
      refine ⟨_, _, rfl, ⟨o1, o2, o3, o4, ⟨by simpa using o5, fun y hy => ?_⟩, ⟨q1, q2, q3, q4⟩, o8, o9⟩, h3⟩
      have hz := o6 _ (List.getElem_mem hm')
      rcases List.mem_or_eq_of_mem_set hy with hy | hy
      · exact o6 y hy
      · rw [hy]; exact ⟨hz.1, hz.2.1, shI_mem m3 (by decide)⟩
    · rw [if_neg hm]; exact ⟨_, _, rfl, ⟨o1, o2, o3, o4, ⟨o5, o6⟩, ⟨q1, q2, q3, q4⟩, o8, o9⟩, h2⟩
  · rw [if_neg hk7]; exact ⟨_, _, rfl, ⟨o1, o2, o3, o4, ⟨o5, o6⟩, ⟨q1, q2, q3, q4⟩, o8, o9⟩, h2⟩
def SamplesD (l : List Sample) : Prop := l.length ≤ 5 ∧ ∀ x ∈ l, SampleD x
theorem SamplesD.sm {l : List Sample} (h : SamplesD l) : smL Sample.sm l := ⟨by have := h.1; omega, fun x hx => (h.2 x hx).1.sm⟩
theorem drawSamples_sp (c : L1Cur) (h : Cur c) : ∃ l d, spec_l15DrawSamples c = some (l, d) ∧ SamplesD l ∧ Cur d := by
  have k0 : ∀ i, i ≤ 4 → ∀ (c : L1Cur) (l : List Sample), Cur c → l.length ≤ i → (∀ x ∈ l, SampleD x) → ∃ b i' h' m, spec_l15DrawSamples.l0 i c.b c.i c.h l = some (b, i', h', m) ∧ m.length ≤ 4 ∧ (∀ x ∈ m, SampleD x) ∧ Cur ⟨b, i', h'⟩ := by
    refine down _ fun i hi ih c l hc hl hm => ?_
    rw [spec_l15DrawSamples.l0]
    by_cases hlt : i < 4
    · have g : decide ((i : Int) < (([[99, 112, 117], [104, 105, 116, 115], [109, 101, 109], [113, 117, 101, 117, 101]] : List Str).length : Int)) = true := by simp; omega
      obtain ⟨b, d, e, hd⟩ := once_sp c 3 hc (by omega)
      have e' : spec_l1Once (L1Cur.mk c.b c.i c.h) 3 = some (b, d) := e
      simp only [g, if_true, e', bind_some', w64_succ (show i < 9223372036854775807 by omega)]
      cases b
      · obtain ⟨m, d2, e2, hm2, hd2⟩ := pickInt_sp d [0, 100, 500, 700, 750, 900, 2000, 60000, 1000000] hd (by simp)
        have e2' : spec_l1PickInt (L1Cur.mk d.b d.i d.h) _ = some (m, d2) := e2
        obtain ⟨s, hs⟩ : ∃ s, ([[99, 112, 117], [104, 105, 116, 115], [109, 101, 109], [113, 117, 101, 117, 101]] : List Str)[i]? = some s := ⟨_, List.getElem?_eq_getElem (by simpa using hlt)⟩
        simp only [Bool.not_false, if_true, e2', bind_some', ix_nat, hs]
        rw [app_ok (by simp; omega)]
        simp only [bind_some']
        exact ih hlt d2 _ hd2 (by simp; omega) (listD hm ⟨shS_mem (List.mem_of_getElem? hs) (by decide), shI_mem hm2 (by decide)⟩)
      · simp only [Bool.not_true, Bool.false_eq_true, if_false]
        exact ih hlt d l hd (by omega) hm
    · rw [if_neg (by simp; omega)]
      exact ⟨_, _, _, _, rfl, by omega, hm, hc⟩
  obtain ⟨b, i, g, l, e1, hl1, hm1, h1⟩ := k0 0 (by omega) c [] h (by simp) (by simp)
  simp only [Int.natCast_zero] at e1
  obtain ⟨x, c2, e2, h2⟩ := once_sp ⟨b, i, g⟩ 12 h1 (by omega)
  simp only [spec_l15DrawSamples, e1, e2, bind_some']
  split
  · obtain ⟨x3, c3, e3, m3, h3⟩ := pick_sp c2 [[97], [122], []] h2 (by simp)
    obtain ⟨x4, c4, e4, m4, h4⟩ := pickInt_sp c3 [-1, 5, 1000001] h3 (by simp)
    simp only [e3, e4, bind_some']
    rw [app_ok (by simp; omega)]
    exact ⟨_, _, rfl, ⟨by simp; omega, listD hm1 ⟨shS_mem m3 (by decide), shI_mem m4 (by decide)⟩⟩, h4⟩
  · exact ⟨_, _, rfl, ⟨by omega, hm1⟩, h2⟩
theorem drawByAll_sp (a : List Int) (h : a.length ≤ 1048576) : ∃ o n s, spec_DrawByAll a = some (o, n, s) ∧ OrderD o ∧ n ∈ [1, 3, 10, 500] ∧ SamplesD s := by
  obtain ⟨c, e0, h0⟩ := new_sp a h
  obtain ⟨o, c1, e1, ho, h1⟩ := draw6_sp c h0
  obtain ⟨x2, c2, e2, m2, h2⟩ := pickInt_sp c1 [1, 3, 10, 500] h1 (by simp)
  obtain ⟨s, c3, e3, hs, h3⟩ := drawSamples_sp c2 h2
  simp only [spec_DrawByAll, e0, e1, e2, e3, bind_some']
  exact ⟨_, _, _, rfl, ho, m2, hs⟩
theorem byOne_nonneg (m : Metric) (n v r : Int) (h : impl_ByOne m n v = some r) : 0 ≤ r := by
  have hc : ∀ a b r, impl_CeilDiv a b = some r → 0 ≤ r := by
    intro a b r h
    simp only [impl_CeilDiv, from_some, bind_some'] at h
    split at h
    · simp at h; omega
    · split at h
      · simp at h; omega
      · rename_i h1 h2
        simp at h1 h2
        simp only [Nt.quo] at h
        rw [if_neg (by omega)] at h
        have w : IntKind.i64.wrap (IntKind.i64.wrap (a + b) - 1) = a + b - 1 := by
          rw [w64_id (n := a + b) (by omega) (by omega), w64_id (by omega) (by omega)]
        rw [w] at h
        have hq : 0 ≤ (a + b - 1).tdiv b := Int.tdiv_nonneg (by omega) (by omega)
        have hq2 : (a + b - 1).tdiv b ≤ a + b - 1 := by
          rw [Int.tdiv_eq_ediv_of_nonneg (by omega)]; exact Int.ediv_le_self _ (by omega)
        rw [w64_id (by omega) (by omega)] at h
        simp at h; omega
  simp only [impl_ByOne] at h
  cases hm : impl_MetricOk m with
  | none => rw [hm] at h; simp at h
  | some q =>
    rw [hm] at h
    simp only [bind_some', impl_isMany, impl_isValue, from_some] at h
    split at h
    · simp at h; omega
    split at h
    · simp at h; omega
    rename_i hn
    simp at hn
    split at h
    · simp at h; omega
    split at h
    · cases hd : impl_CeilDiv v m.Goal with
      | none => rw [hd] at h; simp at h
      | some y => rw [hd] at h; simp at h; have := hc _ _ _ hd; omega
    split at h
    · simp at h; omega
    · cases hd : impl_CeilDiv (IntKind.i64.wrap (n * v)) m.Goal with
      | none => rw [hd] at h; simp at h
      | some y => rw [hd] at h; simp at h; have := hc _ _ _ hd; omega
theorem drawMetricOk_sp (a : List Int) (h : a.length ≤ 1048576) : ∃ m, spec_DrawMetricOk a = some m ∧ MetricD m := by
  obtain ⟨c, e0, h0⟩ := new_sp a h
  obtain ⟨m, c1, e1, hm, h1⟩ := drawMetric_sp c h0
  obtain ⟨x2, c2, e2, l2, u2, h2⟩ := below_sp c1 5 h1 (by omega)
  simp only [spec_DrawMetricOk, e0, e1, e2, bind_some']
  by_cases g : (x2 == 0) = true
  · rw [if_pos g]
    obtain ⟨x3, c3, e3, l3, u3, h3⟩ := below_sp c2 6 h2 (by omega)
    simp only [e3, bind_some']
    refine ⟨_, rfl, hm.1, ?_, hm.2.2⟩
    show shI (IntKind.i64.wrap (x3 - 1))
    rw [w64_id (by omega) (by omega)]; unfold shI; omega
  rw [if_neg g]
  by_cases g : (x2 == 1) = true
  · rw [if_pos g]
    obtain ⟨x3, c3, e3, m3, h3⟩ := pickInt_sp c2 [0, 1, 1000000, 1000001] h2 (by simp)
    simp only [e3, bind_some']
    exact ⟨_, rfl, hm.1, hm.2.1, shI_mem m3 (by decide)⟩
  · rw [if_neg g]; exact ⟨_, rfl, hm⟩
theorem drawByOne_sp (a : List Int) (h : a.length ≤ 1048576) : ∃ m x y, spec_DrawByOne a = some (m, x, y) ∧ MetricD m ∧ shI x ∧ shI y := by
  obtain ⟨c, e0, h0⟩ := new_sp a h
  obtain ⟨m, e1, hm⟩ := drawMetricOk_sp a h
  obtain ⟨x2, c2, e2, m2, h2⟩ := pickInt_sp c [0, 1, 3, 10, 1000, 1001, -1] h0 (by simp)
  obtain ⟨x3, c3, e3, m3, h3⟩ := pickInt_sp c2 [0, 450, 500, 550, 551, 700, 5000, 1000000, 1000001, -1] h2 (by simp)
  simp only [spec_DrawByOne, e0, e1, e2, e3, bind_some']
  exact ⟨_, _, _, rfl, hm, shI_mem m2 (by decide), shI_mem m3 (by decide)⟩
theorem drawSampleOf_sp (a : List Int) (h : a.length ≤ 1048576) : ∃ s x, spec_DrawSampleOf a = some (s, x) ∧ SamplesD s := by
  obtain ⟨c, e0, h0⟩ := new_sp a h
  obtain ⟨s, c1, e1, hs, h1⟩ := drawSamples_sp c h0
  obtain ⟨x2, c2, e2, m2, h2⟩ := pick_sp c1 [[99, 112, 117], [109, 101, 109], [120]] h1 (by simp)
  simp only [spec_DrawSampleOf, e0, e1, e2, bind_some']
  exact ⟨_, _, rfl, hs⟩
/-- the least whole number not below a/b -/
def ceilV (a b : Int) : Int := (a + b - 1) / b
theorem ceilDiv_some (a b : Int) (a0 : 0 ≤ a) (a1 : a ≤ 1000000000000) (b0 : 1 ≤ b) (b1 : b ≤ 1000000) : impl_CeilDiv a b = some (ceilV a b) := by
  simp only [impl_CeilDiv, from_some, bind_some']
  rw [if_neg (by simp; omega), if_neg (by simp; omega)]
  have w : IntKind.i64.wrap (IntKind.i64.wrap (a + b) - 1) = a + b - 1 := by
    rw [w64_id (n := a + b) (by omega) (by omega), w64_id (by omega) (by omega)]
  simp only [Nt.quo, w]
  rw [if_neg (by omega)]
  have hq : 0 ≤ (a + b - 1).tdiv b := Int.tdiv_nonneg (by omega) (by omega)
  have e : (a + b - 1).tdiv b = (a + b - 1) / b := by rw [Int.tdiv_eq_ediv_of_nonneg (by omega)]
  have hq2 : (a + b - 1).tdiv b ≤ a + b - 1 := by
    rw [e]; exact Int.ediv_le_self _ (by omega)
  rw [w64_id (by omega) (by omega), bind_some', e]; rfl
theorem ceilV_mono {a b c : Int} (h : a ≤ b) (hc : 1 ≤ c) : ceilV a c ≤ ceilV b c := by
  unfold ceilV; exact Int.ediv_le_ediv (by omega) (by omega)
theorem ceilV_le {a b n : Int} (hb : 1 ≤ b) (h : a ≤ n * b) : ceilV a b ≤ n := by
  unfold ceilV
  have : (a + b - 1) / b < n + 1 := Int.ediv_lt_of_lt_mul (by omega) (by rw [Int.add_mul]; omega)
  omega
theorem le_ceilV {a b n : Int} (hb : 1 ≤ b) (h : n * b ≤ a) : n ≤ ceilV a b := by
  unfold ceilV
  exact Int.le_ediv_of_mul_le (by omega) (by omega)
def byV (m : Metric) (n v : Int) : Int := if m.Kind = 3 then ceilV v m.Goal else if 9 * m.Goal ≤ 10 * v ∧ 10 * v ≤ 11 * m.Goal then n else ceilV (n * v) m.Goal
theorem metricOk_goal (m : Metric) (h : impl_MetricOk m = some true) : 1 ≤ m.Kind ∧ m.Kind ≤ 3 ∧ 1 ≤ m.Goal ∧ m.Goal ≤ 1000000 := by
  simp only [impl_MetricOk, from_some, bind_some'] at h
  cases hn : impl_NameOk m.Name with
  | none => rw [hn] at h; simp at h
  | some b =>
    rw [hn] at h
    simp only [bind_some'] at h
    split at h
    · split at h
      · rename_i h2
        simp at h h2; omega
      · simp at h
    · simp at h
theorem byOne_some (m : Metric) (n v : Int) (hm : impl_MetricOk m = some true) (n0 : 0 ≤ n) (n1 : n ≤ 1000) (v0 : 0 ≤ v) (v1 : v ≤ 1000000) : impl_ByOne m n v = some (byV m n v) := by
  obtain ⟨k0, k1, g0, g1⟩ := metricOk_goal m hm
  have hnv : 0 ≤ n * v := Int.mul_nonneg n0 v0
  have hnv1 : n * v ≤ 1000 * 1000000 := Int.mul_le_mul n1 v1 v0 (by omega)
  simp only [impl_ByOne, hm, impl_isMany, impl_isValue, from_some, bind_some', Bool.not_true, Bool.false_eq_true, if_false]
  rw [if_neg (by simp; omega), if_neg (by simp; omega)]
  rw [w64_id (n := 10 * v) (by omega) (by omega), w64_id (n := 9 * m.Goal) (by omega) (by omega), w64_id (n := 11 * m.Goal) (by omega) (by omega), w64_id (n := n * v) (by omega) (by omega)]
  rw [ceilDiv_some v m.Goal (by omega) (by omega) g0 g1, ceilDiv_some (n * v) m.Goal hnv (by omega) g0 g1]
  simp only [bind_some', byV]
  by_cases h3 : m.Kind = 3
  · rw [if_pos (by simpa using h3), if_pos h3]
  · rw [if_neg (by simpa using h3), if_neg h3]
    by_cases h4 : 9 * m.Goal ≤ 10 * v ∧ 10 * v ≤ 11 * m.Goal
    · rw [if_pos (by simp; omega), if_pos h4]
    · rw [if_neg (by simp; omega), if_neg h4]
theorem byV_mono (m : Metric) (n v : Int) (g : 1 ≤ m.Goal) (n0 : 0 ≤ n) (v0 : 0 ≤ v) : byV m n v ≤ byV m n (v + 1) := by
  have hnv : 0 ≤ n * v := Int.mul_nonneg n0 v0
  unfold byV
  by_cases h3 : m.Kind = 3
  · rw [if_pos h3, if_pos h3]; exact ceilV_mono (by omega) g
  · rw [if_neg h3, if_neg h3]
    have e : n * (v + 1) = n * v + n := by rw [Int.mul_add, Int.mul_one]
    by_cases a1 : 9 * m.Goal ≤ 10 * v <;> by_cases a2 : 10 * v ≤ 11 * m.Goal <;> by_cases b1 : 9 * m.Goal ≤ 10 * (v + 1) <;> by_cases b2 : 10 * (v + 1) ≤ 11 * m.Goal
    all_goals first
      | omega
      | (simp only [a1, a2, b1, b2, and_self, and_true, true_and, and_false, false_and, if_true, if_false])
    all_goals first
      | exact Int.le_refl _
      | exact ceilV_mono (by omega) g
      | (refine le_ceilV g ?_; exact Int.mul_le_mul_of_nonneg_left (by omega) n0)
      | (refine ceilV_le g ?_; exact Int.mul_le_mul_of_nonneg_left (by omega) n0)
theorem byV_goal (m : Metric) (n : Int) (g : 1 ≤ m.Goal) (h : m.Kind ≠ 3) : byV m n m.Goal = n := by
  unfold byV
  rw [if_neg h, if_pos ⟨by omega, by omega⟩]
theorem byAll_nonneg (o : Order) (n : Int) (s : List Sample) (h : Order.sm o) (hs : smL Sample.sm s) (r : Int × Bool) (hr : impl_ByAll o n s = some r) (h2 : r.2 = true) : 0 ≤ r.1 := by
  have hl : o.Metrics.length ≤ 1048576 := h.2.2.1.1
  have key : ∀ i, i ≤ o.Metrics.length → ∀ m b, 0 ≤ m → ∃ M B, impl_ByAll.l0 o n s m b i = some (M, B) ∧ 0 ≤ M := by
    refine down _ fun i hi ih m b h0 => ?_
    rw [impl_ByAll.l0]
    by_cases hlt : i < o.Metrics.length
    · have c : decide ((i : Int) < (o.Metrics.length : Int)) = true := by simpa using hlt
      obtain ⟨v, v1, v2⟩ := sampleOf_same s o.Metrics[i].Name hs
      simp only [c, if_true, ix_nat, List.getElem?_eq_getElem hlt, bind_some', v2, w64_succ (show i < 9223372036854775807 by omega)]
      by_cases hv : v.2 = true
      · obtain ⟨y, y1, y2⟩ := byOne_same o.Metrics[i] n v.1 (h.2.2.1.2 _ (List.getElem_mem hlt))
        have hy := byOne_nonneg _ _ _ _ y2
        simp only [hv, if_true, y2, bind_some']
        exact ih hlt _ _ (by split <;> omega)
      · simp only [hv, if_false]
        exact ih hlt _ _ h0
    · rw [if_neg (by simpa using hlt)]
      exact ⟨m, b, rfl, h0⟩
  obtain ⟨M, B, q1, q2⟩ := key 0 (by omega) 0 false (by omega)
  simp only [Int.natCast_zero] at q1
  obtain ⟨p, p1, p2⟩ := orderOk_same o h
  obtain ⟨q, qq1, qq2⟩ := samplesOk_same s hs
  simp only [impl_ByAll, p2, qq2, q1, bind_some'] at hr
  cases p
  · simp at hr; rw [← hr] at h2; simp at h2
  · cases q
    · simp at hr; rw [← hr] at h2; simp at h2
    · cases B
      · simp at hr; rw [← hr] at h2; simp at h2
      · simp at hr; rw [← hr]; exact q2
theorem Pure.FnWants (a : List Int) (ha : okL okU a) : laws_FnWants a = some true := by
  unfold laws_FnWants
  simp only [laws_big, bind_some']
  by_cases hb : decide ((a.length : Int) > 1048576) = true
  · rw [if_pos hb]
  rw [if_neg hb]
  have hl : a.length ≤ 1048576 := by simp at hb; omega
  obtain ⟨m, x, y, e1, hm, hx, hy⟩ := drawByOne_sp a hl
  obtain ⟨o, n, s, e2, ho, hn, hs⟩ := drawByAll_sp a hl
  obtain ⟨t, z, e3, ht⟩ := drawSampleOf_sp a hl
  obtain ⟨r, r1, r2⟩ := byOne_same m x y hm.sm
  obtain ⟨q, q1, q2⟩ := byAll_same o n s ho.sm hs.sm
  obtain ⟨p, p1, p2⟩ := sampleOf_same t z ht.sm
  obtain ⟨u, u1, u2⟩ := samplesOk_same s hs.sm
  obtain ⟨w, w1, w2⟩ := metricOk_same m hm.sm
  have em : Metric.mk m.Name m.Kind m.Goal = m := rfl
  have eo : Order.mk o.Name o.Target o.Low o.High o.Metrics (Pace.mk o.Pace.Up o.Pace.Down o.Pace.UpSpan o.Pace.DownSpan) o.Notes = o := rfl
  simp only [e1, e2, e3, em, eo, r1, r2, q1, q2, p1, p2, u1, u2, w2, bind_some', bne_self_eq_false, Bool.false_eq_true, if_false]
  cases w
  · rfl
  · simp only [Bool.not_true, Bool.false_eq_true, if_false]
    obtain ⟨k0, k1, g0, g1⟩ := metricOk_goal m w2
    have hqn := byAll_nonneg o n s ho.sm hs.sm q q2
    by_cases c1 : x < 0
    · rw [if_pos (by simpa using c1)]
    rw [if_neg (by simpa using c1)]
    by_cases c2 : x > 1000
    · rw [if_pos (by simpa using c2)]
    rw [if_neg (by simpa using c2)]
    by_cases c3 : y < 0
    · rw [if_pos (by simpa using c3)]
    rw [if_neg (by simpa using c3)]
    by_cases c4 : y ≥ 1000000
    · rw [if_pos (by simpa using c4)]
    rw [if_neg (by simpa using c4)]
    rw [byOne_some m x y w2 (by omega) (by omega) (by omega) (by omega)] at r2
    obtain rfl := Option.some.inj r2
    rw [w64_id (by omega) (by omega), byOne_some m x (y + 1) w2 (by omega) (by omega) (by omega) (by omega), bind_some', byOne_some m x m.Goal w2 (by omega) (by omega) (by omega) (by omega)]
    simp only [bind_some']
    rw [if_pos (by simpa using byV_mono m x y g0 (by omega) (by omega))]
    by_cases h3 : m.Kind = 3
    · rw [if_pos (by simpa using h3)]
      cases hq : q.2
      · rfl
      · simp [hqn hq]
    · rw [if_neg (by simpa using h3), byV_goal m x g0 h3]
      simp only [beq_self_eq_true, if_true]
      cases hq : q.2
      · rfl
      · simp [hqn hq]
end Go.Pu
