import Derived.Test.YtbndndpimaocdaaStorePu
set_option linter.unusedVariables false
set_option linter.unusedSimpArgs false
set_option synthInstance.maxSize 1000000000
namespace Go.Pu
open Go.Nt
theorem w64_id {n : Int} (h0 : -9223372036854775808 ≤ n) (h1 : n ≤ 9223372036854775807) : IntKind.i64.wrap n = n := by
  simp only [IntKind.wrap, IntKind.bits, IntKind.signed, Bool.true_and]
  split
  · rename_i h; simp at h; omega
  · rename_i h; simp at h; omega
theorem w64_succ {i : Nat} (h : i < 9223372036854775807) : IntKind.i64.wrap ((i : Int) + 1) = ((i + 1 : Nat) : Int) := by
  rw [w64_id (by omega) (by omega)]; omega
theorem ix_nat {α : Type} (l : List α) (i : Nat) : ix l (i : Int) = l[i]? := by simp [ix]
theorem put_nat {α : Type} {l : List α} {i : Nat} {x : α} (h : i < l.length) : Nt.put l (i : Int) x = some (l.set i x) := by simp [Nt.put, h]
theorem app_ok {α : Type} {b : Nat} {l m : List α} (h : (l.length + m.length) * b ≤ 70368744177664) : app b l m = some (l ++ m) := by
  simp only [app]; rw [if_pos h]
/-- down from the end -/
theorem down {P : Nat → Prop} (n : Nat) (h : ∀ i, i ≤ n → (i < n → P (i + 1)) → P i) : ∀ i, i ≤ n → P i := by
  intro i hi
  obtain ⟨k, hk⟩ : ∃ k, k = n - i := ⟨_, rfl⟩
  induction k generalizing i with
  | zero => exact h i hi fun hlt => by omega
  | succ k ih => exact h i hi fun hlt => ih (i + 1) hlt (by omega)
theorem bind_some' {α β : Type} (x : α) (f : α → Option β) : (some x >>= f) = f x := rfl
def smL {α : Type} (p : α → Prop) (l : List α) : Prop := l.length ≤ 1048576 ∧ ∀ x ∈ l, p x
def smS (s : Str) : Prop := s.length ≤ 1048576
theorem in_some (a b c : Int) : spec_l1In a b c = some (decide (a ≥ b) && decide (a ≤ c)) := by
  simp only [spec_l1In]; by_cases h : a ≥ b <;> simp [h]
theorem from_some (a b c : Int) : impl_from a b c = some (decide (a ≥ b) && decide (a ≤ c)) := by
  simp only [impl_from]; by_cases h : a ≥ b <;> simp [h]
theorem nameOk_same (a : Str) (h : smS a) : ∃ b, spec_NameOk a = some b ∧ impl_NameOk a = some b := by
  unfold smS at h
  have key : ∀ i, i ≤ a.length → ∃ b, spec_NameOk.l0 a i = some b ∧ impl_NameOk.l0 a i = some b := by
    refine down _ fun i hi ih => ?_
    rw [spec_NameOk.l0, impl_NameOk.l0]
    by_cases hlt : i < a.length
    · have c : decide ((i : Int) < (a.length : Int)) = true := by simpa using hlt
      obtain ⟨b, e1, e2⟩ := ih hlt
      simp only [c, if_true, ix_nat, List.getElem?_eq_getElem hlt, bind_some', impl_isDigit, w64_succ (show i < 9223372036854775807 by omega), e1, e2]
      generalize byte a[i] = x
      by_cases h1 : x ≥ 97 <;> by_cases h2 : x ≤ 122 <;> by_cases h3 : i = 0 <;> by_cases h4 : x ≥ 48 <;> by_cases h5 : x ≤ 57 <;> by_cases h6 : x = 45 <;>
        first
        | omega
        | (have h3' : (i : Int) > 0 := by omega
           have h3'' : ¬ ((i : Int) = 0) := by omega
           have h7 : 0 < i := by omega
           simp [h1, h2, h3, h3', h3'', h7, h4, h5, h6, bind_some'])
        | (subst h3; simp [h1, h2, h4, h5, h6, bind_some'])
    · rw [if_neg (by simpa using hlt), if_neg (by simpa using hlt)]
      exact ⟨_, rfl, rfl⟩
  obtain ⟨b, e1, e2⟩ := key 0 (by omega)
  simp only [Int.natCast_zero] at e1 e2
  simp only [spec_NameOk, impl_NameOk, e1, e2, bind_some', in_some, from_some]
  cases b with
  | inl r => exact ⟨_, rfl, rfl⟩
  | inr u => exact ⟨_, rfl, rfl⟩
def Metric.sm (x : Metric) : Prop := smS x.Name
theorem metricOk_same (m : Metric) (h : Metric.sm m) : ∃ b, spec_MetricOk m = some b ∧ impl_MetricOk m = some b := by
  obtain ⟨n, n1, n2⟩ := nameOk_same m.Name h
  simp only [spec_MetricOk, impl_MetricOk, n1, n2, bind_some', in_some, from_some]
  repeat' split
  all_goals exact ⟨_, rfl, rfl⟩
theorem w64_eq (n : Int) : IntKind.i64.wrap n = (n + 9223372036854775808) % 18446744073709551616 - 9223372036854775808 := by
  simp only [IntKind.wrap, IntKind.bits, IntKind.signed, Bool.true_and]
  split
  · rename_i h; simp at h; omega
  · rename_i h; simp at h; omega
def Cur (c : L1Cur) : Prop := 0 ≤ c.i ∧ c.i ≤ 1048577 ∧ c.b.length ≤ 1048576
theorem band_255 (x : Int) : 0 ≤ band x 255 ∧ band x 255 ≤ 255 := by
  have h : (BitVec.ofInt IntKind.i64.bits x &&& BitVec.ofInt IntKind.i64.bits 255).toNat ≤ 255 := by
    rw [BitVec.toNat_and]; exact Nat.le_trans Nat.and_le_right (by decide)
  simp only [band]
  rw [w64_id (by omega) (by omega)]; omega
theorem byte_sp (c : L1Cur) (h : Cur c) : ∃ x d, spec_l1Byte c = some (x, d) ∧ 0 ≤ x ∧ x ≤ 255 ∧ Cur d := by
  obtain ⟨h0, h1, h2⟩ := h
  simp only [spec_l1Byte]
  by_cases hi : c.i < (c.b.length : Int)
  · obtain ⟨i, hi'⟩ : ∃ i : Nat, c.i = i := ⟨c.i.toNat, by omega⟩
    rw [if_pos (by simpa using hi)]
    simp only [hi', ix_nat]
    rw [List.getElem?_eq_getElem (by omega)]
    simp only [bind_some']
    refine ⟨_, _, rfl, (band_255 _).1, (band_255 _).2, ?_, ?_, h2⟩
    · show 0 ≤ IntKind.i64.wrap ((i : Int) + 1); rw [w64_id (by omega) (by omega)]; omega
    · show IntKind.i64.wrap ((i : Int) + 1) ≤ 1048577; rw [w64_id (by omega) (by omega)]; omega
  · rw [if_neg (by simpa using hi)]
    exact ⟨_, _, rfl, (band_255 _).1, (band_255 _).2, h0, h1, h2⟩
theorem rem_ok {a n : Int} (ha : 0 ≤ a) (hn : 0 < n) : ∃ q, Nt.rem a n = some q ∧ 0 ≤ q ∧ q < n := by
  refine ⟨a.tmod n, if_neg (by omega), Int.tmod_nonneg _ ha, Int.tmod_lt_of_pos _ hn⟩
theorem below_sp (c : L1Cur) (n : Int) (h : Cur c) (hn : 0 < n) : ∃ x d, spec_l1Below c n = some (x, d) ∧ 0 ≤ x ∧ x < n ∧ Cur d := by
  simp only [spec_l1Below]
  rw [if_neg (by simpa using hn)]
  by_cases h256 : n ≤ 256
  · rw [if_pos (by simpa using h256)]
    obtain ⟨x, d, e, h0, h1, hd⟩ := byte_sp c h
    obtain ⟨q, eq, q0, q1⟩ := rem_ok h0 hn
    simp only [e, bind_some', eq]
    exact ⟨_, _, rfl, q0, q1, hd⟩
  · rw [if_neg (by simpa using h256)]
    obtain ⟨x, d, e, h0, h1, hd⟩ := byte_sp c h
    obtain ⟨y, d2, e2, y0, y1, hd2⟩ := byte_sp d hd
    obtain ⟨z, d3, e3, z0, z1, hd3⟩ := byte_sp d2 hd2
    obtain ⟨w, d4, e4, w0, w1, hd4⟩ := byte_sp d3 hd3
    have hs : 0 ≤ IntKind.i64.wrap (IntKind.i64.wrap (IntKind.i64.wrap (IntKind.i64.wrap (x * 16777216) + IntKind.i64.wrap (y * 65536)) + IntKind.i64.wrap (z * 256)) + w) := by
      simp only [w64_eq]; omega
    obtain ⟨q, eq, q0, q1⟩ := rem_ok hs hn
    simp only [e, e2, e3, e4, bind_some', eq]
    exact ⟨_, _, rfl, q0, q1, hd4⟩
theorem once_sp (c : L1Cur) (n : Int) (h : Cur c) (hn : 0 < n) : ∃ x d, spec_l1Once c n = some (x, d) ∧ Cur d := by
  obtain ⟨x, d, e, _, _, hd⟩ := below_sp c n h hn
  simp only [spec_l1Once, e, bind_some']
  exact ⟨_, _, rfl, hd⟩
theorem pickInt_sp (c : L1Cur) (l : List Int) (h : Cur c) (hl : 0 < l.length) : ∃ x d, spec_l1PickInt c l = some (x, d) ∧ x ∈ l ∧ Cur d := by
  obtain ⟨x, d, e, x0, x1, hd⟩ := below_sp c l.length h (by omega)
  obtain ⟨i, rfl⟩ : ∃ i : Nat, x = i := ⟨x.toNat, by omega⟩
  simp only [spec_l1PickInt, e, bind_some', ix_nat]
  rw [List.getElem?_eq_getElem (by omega)]
  exact ⟨_, _, rfl, List.getElem_mem _, hd⟩
theorem new_sp (a : List Int) (h : a.length ≤ 1048576) : ∃ c, spec_l1New a = some c ∧ Cur c := by
  have key : ∀ i, i ≤ a.length → ∀ v : Int, ∃ t, spec_l1New.l0 a v i = some t := by
    refine down _ fun i hi ih v => ?_
    rw [spec_l1New.l0]
    by_cases hlt : i < a.length
    · have c : decide ((i : Int) < (a.length : Int)) = true := by simpa using hlt
      simp only [c, if_true, ix_nat, List.getElem?_eq_getElem hlt, bind_some', w64_succ (show i < 9223372036854775807 by omega)]
      split
      · exact ih hlt _
      · exact ⟨_, rfl⟩
    · rw [if_neg (by simpa using hlt)]; exact ⟨_, rfl⟩
  obtain ⟨t, e⟩ := key 0 (by omega) (IntKind.i64.wrap (27212 + (a.length : Int)))
  simp only [Int.natCast_zero] at e
  simp only [spec_l1New, e, bind_some']
  exact ⟨_, rfl, by simp, by simp, h⟩
def PaceD (p : Pace) : Prop := 0 ≤ p.Up ∧ p.Up ≤ 4 ∧ 0 ≤ p.Down ∧ p.Down ≤ 2 ∧ 0 ≤ p.UpSpan ∧ p.UpSpan ≤ 60 ∧ 0 ≤ p.DownSpan ∧ p.DownSpan ≤ 3600
theorem drawPace_sp (c : L1Cur) (h : Cur c) : ∃ p d, spec_l6DrawPace c = some (p, d) ∧ PaceD p ∧ Cur d := by
  obtain ⟨b, c1, e1, h1⟩ := once_sp c 3 h (by omega)
  simp only [spec_l6DrawPace, e1, bind_some', spec_PaceNew]
  split
  · exact ⟨_, _, rfl, by simp [PaceD], h1⟩
  · obtain ⟨x2, c2, e2, m2, h2⟩ := pickInt_sp c1 [0, 1, 4] h1 (by simp)
    obtain ⟨x3, c3, e3, m3, h3⟩ := pickInt_sp c2 [0, 1, 2] h2 (by simp)
    obtain ⟨x4, c4, e4, m4, h4⟩ := pickInt_sp c3 [0, 30, 60] h3 (by simp)
    obtain ⟨x5, c5, e5, m5, h5⟩ := pickInt_sp c4 [0, 60, 300, 3600] h4 (by simp)
    simp only [e2, e3, e4, e5, bind_some']
    refine ⟨_, _, rfl, ?_, h5⟩
    simp only [List.mem_cons, List.not_mem_nil, or_false] at m2 m3 m4 m5
    simp only [PaceD]; omega
def Note.sm (x : Note) : Prop := smS x.Key ∧ smS x.Text
def Order.sm (x : Order) : Prop := smS x.Name ∧ smS x.Target ∧ smL Metric.sm x.Metrics ∧ smL Note.sm x.Notes
theorem paceOk_same (p : Pace) : ∃ b, spec_PaceOk p = some b ∧ impl_PaceOk p = some b := by
  simp only [spec_PaceOk, impl_PaceOk, impl_isMany, in_some, from_some, bind_some']
  repeat' split
  all_goals exact ⟨_, rfl, rfl⟩
theorem byte_u8 (c : UInt8) : (byte c).toNat.toUInt8 = c := by
  simp [byte]
theorem byte_range (c : UInt8) : 0 ≤ byte c ∧ byte c ≤ 255 := by
  unfold byte; have := c.toNat_lt; omega
theorem byte_eq (c d : UInt8) : (byte c = byte d) ↔ c = d := by
  unfold byte
  constructor
  · intro h; exact UInt8.toNat_inj.1 (by omega)
  · intro h; rw [h]
theorem indexByte_four (c : UInt8) : Nt.indexByte [95, 46, 47, 45] c < 0 ↔ ¬ (byte c = 95) ∧ ¬ (byte c = 46) ∧ ¬ (byte c = 47) ∧ ¬ (byte c = 45) := by
  have h1 : (byte c = 95) ↔ c = 95 := byte_eq c 95
  have h2 : (byte c = 46) ↔ c = 46 := byte_eq c 46
  have h3 : (byte c = 47) ↔ c = 47 := byte_eq c 47
  have h4 : (byte c = 45) ↔ c = 45 := byte_eq c 45
  rw [h1, h2, h3, h4]
  simp only [Nt.indexByte]
  by_cases g1 : c = 95
  · subst g1; decide
  by_cases g2 : c = 46
  · subst g2; decide
  by_cases g3 : c = 47
  · subst g3; decide
  by_cases g4 : c = 45
  · subst g4; decide
  have f1 : ((95 : UInt8) == c) = false := by simp; exact fun h => g1 h.symm
  have f2 : ((46 : UInt8) == c) = false := by simp; exact fun h => g2 h.symm
  have f3 : ((47 : UInt8) == c) = false := by simp; exact fun h => g3 h.symm
  have f4 : ((45 : UInt8) == c) = false := by simp; exact fun h => g4 h.symm
  simp [f1, f2, f3, f4, g1, g2, g3, g4]
theorem plainOk_same (a : Str) (h : smS a) : ∃ b, spec_PlainOk a = some b ∧ impl_PlainOk a = some b := by
  unfold smS at h
  have key : ∀ i, i ≤ a.length → ∃ b, spec_PlainOk.l0 a i = some b ∧ impl_PlainOk.l0 a i = some b := by
    refine down _ fun i hi ih => ?_
    rw [spec_PlainOk.l0, impl_PlainOk.l0]
    by_cases hlt : i < a.length
    · have c : decide ((i : Int) < (a.length : Int)) = true := by simpa using hlt
      obtain ⟨b, e1, e2⟩ := ih hlt
      have hL : ∀ n, impl_isLetter n = spec_l5Letter n := fun n => by simp only [impl_isLetter, spec_l5Letter]
      have hT : ∀ n, ∃ t, spec_l5Letter n = some t := fun n => by
        simp only [spec_l5Letter]; repeat' split
        all_goals exact ⟨_, rfl⟩
      obtain ⟨t, ht⟩ := hT (byte a[i])
      simp only [c, if_true, ix_nat, List.getElem?_eq_getElem hlt, bind_some', impl_isDigit, hL, ht, w64_succ (show i < 9223372036854775807 by omega), e1, e2, strings_IndexByte, internal_stringslite_IndexByte, internal_bytealg_IndexByteString, byte_u8]
      have hx := indexByte_four a[i]
      have hq : decide (Nt.indexByte [95, 46, 47, 45] a[i] < 0) = decide (¬ (byte a[i] = 95) ∧ ¬ (byte a[i] = 46) ∧ ¬ (byte a[i] = 47) ∧ ¬ (byte a[i] = 45)) := by simp only [hx]
      rw [hq]
      generalize byte a[i] = x
      cases t
      · by_cases h3 : i = 0
        · subst h3; simp [bind_some']
        · have h3'' : ((i : Int) == 0) = false := by simp; omega
          by_cases h4 : x ≥ 48 <;> by_cases h5 : x ≤ 57 <;> by_cases h6 : x = 95 <;> by_cases h7 : x = 46 <;> by_cases h8 : x = 47 <;> by_cases h9 : x = 45 <;>
          first
          | omega
          | simp [h3'', h4, h5, h6, h7, h8, h9, bind_some']
      · simp
    · rw [if_neg (by simpa using hlt), if_neg (by simpa using hlt)]
      exact ⟨_, rfl, rfl⟩
  obtain ⟨b, e1, e2⟩ := key 0 (by omega)
  simp only [Int.natCast_zero] at e1 e2
  simp only [spec_PlainOk, impl_PlainOk, e1, e2, bind_some', in_some, from_some]
  cases b with
  | inl r => exact ⟨_, rfl, rfl⟩
  | inr u =>
    repeat' split
    all_goals exact ⟨_, rfl, rfl⟩
theorem ours_same (s : Str) : ∃ b, spec_l6Ours s = some b ∧ strings_HasPrefix s [113, 117, 97, 121, 47] = some b := by
  simp only [spec_l6Ours, strings_HasPrefix, internal_stringslite_HasPrefix, List.length_cons, List.length_nil]
  by_cases h : (s.length : Int) ≥ 5
  · have e : slc s 0 5 = some (cut s 0 5) := by simp only [slc]; rw [if_pos ⟨by omega, by omega, by omega⟩]; rfl
    rw [if_pos (by simpa using h), if_pos (by simpa using h)]
    have e' : slc s 0 ((0 + 1 + 1 + 1 + 1 + 1 : Nat) : Int) = some (cut s 0 5) := e
    rw [e, e']
    exact ⟨_, rfl, rfl⟩
  · rw [if_neg (by simpa using h), if_neg (by simpa using h)]
    exact ⟨_, rfl, rfl⟩
theorem textOk_same (a : Str) (h : smS a) : ∃ b, spec_TextOk a = some b ∧ impl_TextOk a = some b := by
  unfold smS at h
  have key : ∀ i, i ≤ a.length → ∃ b, spec_TextOk.l0 a i = some b ∧ impl_TextOk.l0 a i = some b := by
    refine down _ fun i hi ih => ?_
    rw [spec_TextOk.l0, impl_TextOk.l0]
    by_cases hlt : i < a.length
    · have c : decide ((i : Int) < (a.length : Int)) = true := by simpa using hlt
      obtain ⟨b, e1, e2⟩ := ih hlt
      have hb := byte_range a[i]
      simp only [c, if_true, ix_nat, List.getElem?_eq_getElem hlt, bind_some', from_some, w64_succ (show i < 9223372036854775807 by omega), e1, e2]
      rw [w64_id (by omega) (by omega)]
      generalize byte a[i] = x at hb
      by_cases h4 : x < 32 <;> by_cases h5 : x > 126 <;> first
        | omega
        | (have g4 : ¬ (32 ≤ x) ∨ 32 ≤ x := by omega
           rcases g4 with g4 | g4 <;> first
             | omega
             | (have g5 : ¬ (x ≤ 126) ∨ x ≤ 126 := by omega
                rcases g5 with g5 | g5 <;> first
                  | omega
                  | simp [h4, h5, g4, g5]))
    · rw [if_neg (by simpa using hlt), if_neg (by simpa using hlt)]
      exact ⟨_, rfl, rfl⟩
  obtain ⟨b, e1, e2⟩ := key 0 (by omega)
  simp only [Int.natCast_zero] at e1 e2
  simp only [spec_TextOk, impl_TextOk, e1, e2, bind_some']
  cases b with
  | inl r => exact ⟨_, rfl, rfl⟩
  | inr u => exact ⟨_, rfl, rfl⟩
theorem notes_same (a : List Note) (h : smL Note.sm a) : ∃ b, spec_l6Notes a = some b ∧ impl_notesOk a = some b := by
  have hl : a.length ≤ 1048576 := h.1
  have key : ∀ i, i ≤ a.length → ∃ b, spec_l6Notes.l0 a i = some b ∧ impl_notesOk.l0 a i = some b := by
    refine down _ fun i hi ih => ?_
    rw [spec_l6Notes.l0, impl_notesOk.l0]
    by_cases hlt : i < a.length
    · have c : decide ((i : Int) < (a.length : Int)) = true := by simpa using hlt
      obtain ⟨b, e1, e2⟩ := ih hlt
      have hm := h.2 _ (List.getElem_mem hlt)
      obtain ⟨p, p1, p2⟩ := plainOk_same a[i].Key hm.1
      obtain ⟨q, q1, q2⟩ := ours_same a[i].Key
      obtain ⟨t, t1, t2⟩ := textOk_same a[i].Text hm.2
      simp only [c, if_true, ix_nat, List.getElem?_eq_getElem hlt, bind_some', p1, p2, q1, q2, t1, t2, w64_succ (show i < 9223372036854775807 by omega), e1, e2]
      split
      · exact ⟨_, rfl, rfl⟩
      · split
        · exact ⟨_, rfl, rfl⟩
        · split
          · exact ⟨_, rfl, rfl⟩
          · split
            · exact ⟨_, rfl, rfl⟩
            · by_cases h0 : i = 0
              · subst h0; simp
              · have e : IntKind.i64.wrap ((i : Int) - 1) = ((i - 1 : Nat) : Int) := by rw [w64_id (by omega) (by omega)]; omega
                have c2 : decide ((i : Int) > 0) = true := by simp; omega
                simp only [c2, if_true, e, ix_nat, List.getElem?_eq_getElem (show i - 1 < a.length by omega), bind_some']
                split
                · exact ⟨_, rfl, rfl⟩
                · exact ⟨_, rfl, rfl⟩
    · rw [if_neg (by simpa using hlt), if_neg (by simpa using hlt)]
      exact ⟨_, rfl, rfl⟩
  obtain ⟨b, h1, h2⟩ := key 0 (by omega)
  simp only [Int.natCast_zero] at h1 h2
  simp only [spec_l6Notes, impl_notesOk, h1, h2, bind_some']
  cases b with
  | inl r => exact ⟨_, rfl, rfl⟩
  | inr u => exact ⟨_, rfl, rfl⟩
theorem metrics_same (o : Order) (h : smL Metric.sm o.Metrics) : ∃ b : Bool, spec_l6Metrics.l0 o.Metrics 0 = some (if b then .inr () else .inl false) ∧ impl_OrderOk.l0 o 0 = some (if b then .inr () else .inl false) := by
  have hl : o.Metrics.length ≤ 1048576 := h.1
  have key : ∀ i, i ≤ o.Metrics.length → ∃ b : Bool, spec_l6Metrics.l0 o.Metrics i = some (if b then .inr () else .inl false) ∧ impl_OrderOk.l0 o i = some (if b then .inr () else .inl false) := by
    refine down _ fun i hi ih => ?_
    rw [spec_l6Metrics.l0, impl_OrderOk.l0]
    by_cases hlt : i < o.Metrics.length
    · have c : decide ((i : Int) < (o.Metrics.length : Int)) = true := by simpa using hlt
      obtain ⟨b, e1, e2⟩ := ih hlt
      obtain ⟨p, p1, p2⟩ := metricOk_same o.Metrics[i] (h.2 _ (List.getElem_mem hlt))
      simp only [c, if_true, ix_nat, List.getElem?_eq_getElem hlt, bind_some', p1, p2, w64_succ (show i < 9223372036854775807 by omega), e1, e2]
      split
      · exact ⟨false, rfl, rfl⟩
      · by_cases h0 : i = 0
        · subst h0; exact ⟨b, by simp, by simp⟩
        · have e : IntKind.i64.wrap ((i : Int) - 1) = ((i - 1 : Nat) : Int) := by rw [w64_id (by omega) (by omega)]; omega
          have c2 : decide ((i : Int) > 0) = true := by simp; omega
          simp only [c2, if_true, e, ix_nat, List.getElem?_eq_getElem (show i - 1 < o.Metrics.length by omega), bind_some']
          split
          · exact ⟨false, rfl, rfl⟩
          · exact ⟨b, rfl, rfl⟩
    · rw [if_neg (by simpa using hlt), if_neg (by simpa using hlt)]
      exact ⟨true, rfl, rfl⟩
  simpa using key 0 (by omega)
theorem orderOk_same (o : Order) (h : Order.sm o) : ∃ b, spec_OrderOk o = some b ∧ impl_OrderOk o = some b := by
  obtain ⟨n, n1, n2⟩ := nameOk_same o.Name h.1
  obtain ⟨t, t1, t2⟩ := nameOk_same o.Target h.2.1
  obtain ⟨m, m1, m2⟩ := metrics_same o h.2.2.1
  obtain ⟨p, p1, p2⟩ := paceOk_same o.Pace
  obtain ⟨q, q1, q2⟩ := notes_same o.Notes h.2.2.2
  simp only [spec_OrderOk, impl_OrderOk, spec_l6Metrics, n1, n2, t1, t2, m1, m2, p1, p2, q1, q2, in_some, from_some, bind_some']
  generalize (decide (o.Low ≥ 1) && decide (o.Low ≤ o.High)) = x
  generalize decide (o.High ≤ 1000) = y
  generalize decide ((o.Metrics.length : Int) ≤ 4) = z
  cases n <;> cases t <;> cases m <;> cases p <;> cases q <;> cases x <;> cases y <;> cases z <;> exact ⟨_, rfl, rfl⟩
def Item.sm (x : Item) : Prop := Order.sm x.Order
def Store.sm (x : Store) : Prop := smL Item.sm x.Items
theorem slc_take {α : Type} (l : List α) (i : Nat) (h : i ≤ l.length) : slc l 0 (i : Int) = some (l.take i) := by
  simp only [slc]; rw [if_pos ⟨by omega, by omega, by omega⟩]; simp [cut]
theorem vers1 (s : Store) (x : Item) (i : Nat) (hi : i ≤ s.Items.length) (hl : s.Items.length ≤ 1048576) : spec_StoreOk.l1 s i x 0 = some (if (s.Items.take i).any (fun y => y.Ver == x.Ver) then .inl false else .inr ()) := by
  have key : ∀ j, j ≤ i → spec_StoreOk.l1 s i x j = some (if ((s.Items.take i).drop j).any (fun y => y.Ver == x.Ver) then .inl false else .inr ()) := by
    refine down _ fun j hj ih => ?_
    rw [spec_StoreOk.l1]
    by_cases hlt : j < i
    · have c : decide ((j : Int) < (i : Int)) = true := by simpa using hlt
      have hlt' : j < s.Items.length := by omega
      have hd : (s.Items.take i).drop j = s.Items[j] :: (s.Items.take i).drop (j + 1) := by
        rw [List.drop_eq_getElem_cons (by simp; omega)]; simp
      simp only [c, if_true, ix_nat, List.getElem?_eq_getElem hlt', bind_some', w64_succ (show j < 9223372036854775807 by omega), ih hlt, hd, List.any_cons]
      cases (s.Items[j].Ver == x.Ver) <;> simp
    · rw [if_neg (by simpa using hlt)]
      rw [List.drop_eq_nil_of_le (by simp; omega)]; rfl
  have := key 0 (by omega)
  simpa only [List.drop_zero, Int.natCast_zero] using this
theorem vers2 (s : Store) (x : Item) (i : Nat) (hi : i ≤ s.Items.length) (hl : s.Items.length ≤ 1048576) : spec_StoreOk.l2 s i x 0 = some (if (s.Items.take i).any (fun y => y.Ver == x.Ver) then .inl false else .inr ()) := by
  have key : ∀ j, j ≤ i → spec_StoreOk.l2 s i x j = some (if ((s.Items.take i).drop j).any (fun y => y.Ver == x.Ver) then .inl false else .inr ()) := by
    refine down _ fun j hj ih => ?_
    rw [spec_StoreOk.l2]
    by_cases hlt : j < i
    · have c : decide ((j : Int) < (i : Int)) = true := by simpa using hlt
      have hlt' : j < s.Items.length := by omega
      have hd : (s.Items.take i).drop j = s.Items[j] :: (s.Items.take i).drop (j + 1) := by
        rw [List.drop_eq_getElem_cons (by simp; omega)]; simp
      simp only [c, if_true, ix_nat, List.getElem?_eq_getElem hlt', bind_some', w64_succ (show j < 9223372036854775807 by omega), ih hlt, hd, List.any_cons]
      cases (s.Items[j].Ver == x.Ver) <;> simp
    · rw [if_neg (by simpa using hlt)]
      rw [List.drop_eq_nil_of_le (by simp; omega)]; rfl
  have := key 0 (by omega)
  simpa only [List.drop_zero, Int.natCast_zero] using this
theorem vers3 (l : List Item) (x : Item) (hl : l.length ≤ 1048576) : slices_ContainsFunc_Simpl_Item_impl_Item_impl_StoreOk_1 l x = some (l.any (fun y => y.Ver == x.Ver), x) := by
  have key : ∀ j, j ≤ l.length → if (l.drop j).any (fun y => y.Ver == x.Ver) then (∃ k : Int, 0 ≤ k ∧ slices_IndexFunc_Simpl_Item_impl_Item_impl_StoreOk_1.l0 l j x.Order.Name x.Order.Target x.Order.Low x.Order.High x.Order.Metrics x.Order.Pace.Up x.Order.Pace.Down x.Order.Pace.UpSpan x.Order.Pace.DownSpan x.Order.Notes x.Ver = some (.inl (k, x))) else slices_IndexFunc_Simpl_Item_impl_Item_impl_StoreOk_1.l0 l j x.Order.Name x.Order.Target x.Order.Low x.Order.High x.Order.Metrics x.Order.Pace.Up x.Order.Pace.Down x.Order.Pace.UpSpan x.Order.Pace.DownSpan x.Order.Notes x.Ver = some (.inr (x.Order.Name, x.Order.Target, x.Order.Low, x.Order.High, x.Order.Metrics, x.Order.Pace.Up, x.Order.Pace.Down, x.Order.Pace.UpSpan, x.Order.Pace.DownSpan, x.Order.Notes, x.Ver)) := by
    refine down _ fun j hj ih => ?_
    by_cases hlt : j < l.length
    · have c : decide ((j : Int) < (l.length : Int)) = true := by simpa using hlt
      have ih' := ih hlt
      rw [List.drop_eq_getElem_cons hlt, List.any_cons]
      rw [slices_IndexFunc_Simpl_Item_impl_Item_impl_StoreOk_1.l0]
      simp only [c, if_true, ix_nat, List.getElem?_eq_getElem hlt, bind_some', impl_StoreOk_1, w64_succ (show j < 9223372036854775807 by omega)]
      cases hv : (l[j].Ver == x.Ver)
      · simp only [Bool.false_or, Bool.false_eq_true, if_false]
        exact ih'
      · simp only [Bool.true_or, if_true]
        exact ⟨j, by omega, rfl⟩
    · have c : decide ((j : Int) < (l.length : Int)) = false := by simpa using hlt
      rw [List.drop_eq_nil_of_le (by omega), slices_IndexFunc_Simpl_Item_impl_Item_impl_StoreOk_1.l0]
      simp only [c, List.any_nil, Bool.false_eq_true, if_false]
  have k0 := key 0 (by omega)
  simp only [List.drop_zero, Int.natCast_zero] at k0
  simp only [slices_ContainsFunc_Simpl_Item_impl_Item_impl_StoreOk_1, slices_IndexFunc_Simpl_Item_impl_Item_impl_StoreOk_1]
  cases hv : l.any (fun y => y.Ver == x.Ver)
  · rw [hv, if_neg (by simp)] at k0
    rw [k0]; rfl
  · rw [hv, if_pos rfl] at k0
    obtain ⟨k, hk, e⟩ := k0
    rw [e]
    simp only [bind_some']
    rw [show decide (k ≥ 0) = true by simpa using hk]
theorem storeOk_same (s : Store) (h : Store.sm s) : ∃ b, spec_StoreOk s = some b ∧ impl_StoreOk s = some b := by
  have hl : s.Items.length ≤ 1048576 := h.1
  have key : ∀ i, i ≤ s.Items.length → ∃ b, spec_StoreOk.l0 s i = some b ∧ impl_StoreOk.l0 s i = some b := by
    refine down _ fun i hi ih => ?_
    rw [spec_StoreOk.l0, impl_StoreOk.l0]
    by_cases hlt : i < s.Items.length
    · have c : decide ((i : Int) < (s.Items.length : Int)) = true := by simpa using hlt
      obtain ⟨b, e1, e2⟩ := ih hlt
      obtain ⟨p, p1, p2⟩ := orderOk_same s.Items[i].Order (h.2 _ (List.getElem_mem hlt))
      have ht : (s.Items.take i).length ≤ 1048576 := by simp; omega
      simp only [c, if_true, ix_nat, List.getElem?_eq_getElem hlt, bind_some', p1, p2, in_some, from_some, w64_succ (show i < 9223372036854775807 by omega), e1, e2, vers1 s _ i hi hl, vers2 s _ i hi hl, slc_take _ _ hi, vers3 _ _ ht]
      split
      · exact ⟨_, rfl, rfl⟩
      · split
        · exact ⟨_, rfl, rfl⟩
        · by_cases h0 : i = 0
          · subst h0; simp
          · have e : IntKind.i64.wrap ((i : Int) - 1) = ((i - 1 : Nat) : Int) := by rw [w64_id (by omega) (by omega)]; omega
            have c2 : decide ((i : Int) > 0) = true := by simp; omega
            simp only [c2, if_true, e, ix_nat, List.getElem?_eq_getElem (show i - 1 < s.Items.length by omega), bind_some']
            split
            · exact ⟨_, rfl, rfl⟩
            · cases (s.Items.take i).any (fun y => y.Ver == s.Items[i].Ver) <;> exact ⟨_, rfl, rfl⟩
    · rw [if_neg (by simpa using hlt), if_neg (by simpa using hlt)]
      exact ⟨_, rfl, rfl⟩
  obtain ⟨b, h1, h2⟩ := key 0 (by omega)
  simp only [Int.natCast_zero] at h1 h2
  simp only [spec_StoreOk, impl_StoreOk, h1, h2, in_some, from_some, bind_some']
  generalize (decide (s.Next ≥ 1) && decide (s.Next ≤ 100000)) = x
  generalize decide ((s.Items.length : Int) > 6) = y
  cases b with
  | inl r => cases x <;> cases y <;> exact ⟨_, rfl, rfl⟩
  | inr u => cases x <;> cases y <;> exact ⟨_, rfl, rfl⟩
theorem okI_of {x : Int} (h0 : -9223372036854775808 ≤ x) (h1 : x ≤ 9223372036854775807) : okI x := by unfold okI; omega
theorem pick_sp (c : L1Cur) (l : List Str) (h : Cur c) (hl : 0 < l.length) : ∃ x d, spec_l1Pick c l = some (x, d) ∧ x ∈ l ∧ Cur d := by
  obtain ⟨x, d, e, x0, x1, hd⟩ := below_sp c l.length h (by omega)
  obtain ⟨i, rfl⟩ : ∃ i : Nat, x = i := ⟨x.toNat, by omega⟩
  simp only [spec_l1Pick, e, bind_some', ix_nat]
  rw [List.getElem?_eq_getElem (by omega)]
  exact ⟨_, _, rfl, List.getElem_mem _, hd⟩
def shS (s : Str) : Prop := s.length ≤ 64
theorem shS.sm {s : Str} (h : shS s) : smS s := by unfold shS at h; unfold smS; omega
theorem shS.ok {s : Str} (h : shS s) : okS s := by unfold shS at h; unfold okS; omega
theorem shS_mem {x : Str} {l : List Str} (h : x ∈ l) (hl : l.all (fun s => decide (s.length ≤ 64)) = true) : shS x := by
  have := List.all_eq_true.1 hl x h
  simpa [shS] using this
def shI (x : Int) : Prop := -1 ≤ x ∧ x ≤ 2000000
theorem shI.ok {x : Int} (h : shI x) : okI x := by unfold shI at h; exact okI_of (by omega) (by omega)
theorem shI_mem {x : Int} {l : List Int} (h : x ∈ l) (hl : l.all (fun s => decide (-1 ≤ s) && decide (s ≤ 2000000)) = true) : shI x := by
  have := List.all_eq_true.1 hl x h
  simpa [shI] using this
theorem listD {α : Type} {p : α → Prop} {l : List α} {x : α} (h : ∀ y ∈ l, p y) (hx : p x) : ∀ y ∈ l ++ [x], p y := by
  intro y hy
  rcases List.mem_append.1 hy with hy | hy
  · exact h y hy
  · rw [List.mem_singleton.1 hy]; exact hx
def MetricD (m : Metric) : Prop := shS m.Name ∧ shI m.Kind ∧ shI m.Goal
def NoteD (m : Note) : Prop := shS m.Key ∧ shS m.Text
theorem MetricD.sm {m : Metric} (h : MetricD m) : Metric.sm m := h.1.sm
def PaceE (p : Pace) : Prop := shI p.Up ∧ shI p.Down ∧ shI p.UpSpan ∧ shI p.DownSpan
theorem PaceD.e {p : Pace} (h : PaceD p) : PaceE p := by
  unfold PaceD at h; unfold PaceE shI; omega
def OrderD (o : Order) : Prop := shS o.Name ∧ shS o.Target ∧ shI o.Low ∧ shI o.High ∧ (o.Metrics.length ≤ 5 ∧ ∀ m ∈ o.Metrics, MetricD m) ∧ PaceE o.Pace ∧ (o.Notes.length ≤ 4 ∧ ∀ n ∈ o.Notes, NoteD n)
theorem OrderD.sm {o : Order} (h : OrderD o) : Order.sm o := by
  obtain ⟨h1, h2, h3, h4, ⟨h5, h6⟩, h7, h8, h9⟩ := h
  exact ⟨h1.sm, h2.sm, ⟨by omega, fun x hx => (h6 x hx).1.sm⟩, by omega, fun x hx => ⟨(h9 x hx).1.sm, (h9 x hx).2.sm⟩⟩
theorem PaceE.ok {p : Pace} (h : PaceE p) : Pace.ok p := ⟨h.1.ok, h.2.1.ok, h.2.2.1.ok, h.2.2.2.ok⟩
theorem drawMetric_sp (c : L1Cur) (h : Cur c) : ∃ m d, spec_l6DrawMetric c = some (m, d) ∧ MetricD m ∧ Cur d := by
  obtain ⟨x1, c1, e1, m1, h1⟩ := pick_sp c [[99, 112, 117], [109, 101, 109], [113, 117, 101, 117, 101], [104, 105, 116, 115]] h (by simp)
  obtain ⟨x2, c2, e2, m2, n2, h2⟩ := below_sp c1 3 h1 (by omega)
  obtain ⟨x3, c3, e3, m3, h3⟩ := pickInt_sp c2 [1, 500, 700, 800, 805, 1000, 50000, 1000000] h2 (by simp)
  simp only [spec_l6DrawMetric, e1, e2, e3, bind_some']
  refine ⟨_, _, rfl, ⟨shS_mem m1 (by decide), ?_, shI_mem m3 (by decide)⟩, h3⟩
  show shI (IntKind.i64.wrap (1 + x2))
  rw [w64_id (by omega) (by omega)]; unfold shI; omega
theorem drawRight_sp (c : L1Cur) (h : Cur c) : ∃ o d, spec_l6DrawRight c = some (o, d) ∧ (OrderD o ∧ o.Metrics.length ≤ 4 ∧ o.Notes.length ≤ 3) ∧ Cur d := by
  have k0 : ∀ i, i ≤ 4 → ∀ (c : L1Cur) (l : List Metric), Cur c → l.length ≤ i → (∀ x ∈ l, MetricD x) → ∃ b i' h' m, spec_l6DrawRight.l0 i c.b c.i c.h l = some (b, i', h', m) ∧ m.length ≤ 4 ∧ (∀ x ∈ m, MetricD x) ∧ Cur ⟨b, i', h'⟩ := by
    refine down _ fun i hi ih c l hc hl hm => ?_
    rw [spec_l6DrawRight.l0]
    by_cases hlt : i < 4
    · have g : decide ((i : Int) < (([[99, 112, 117], [104, 105, 116, 115], [109, 101, 109], [113, 117, 101, 117, 101]] : List Str).length : Int)) = true := by simp; omega
      obtain ⟨b, d, e, hd⟩ := once_sp c 2 hc (by omega)
      have e' : spec_l1Once (L1Cur.mk c.b c.i c.h) 2 = some (b, d) := e
      simp only [g, if_true, e', bind_some', w64_succ (show i < 9223372036854775807 by omega)]
      cases b
      · simp only [Bool.false_eq_true, if_false]
        exact ih hlt d l hd (by omega) hm
      · obtain ⟨m, d2, e2, hm2, hd2⟩ := drawMetric_sp d hd
        have e2' : spec_l6DrawMetric (L1Cur.mk d.b d.i d.h) = some (m, d2) := e2
        obtain ⟨s, hs⟩ : ∃ s, ([[99, 112, 117], [104, 105, 116, 115], [109, 101, 109], [113, 117, 101, 117, 101]] : List Str)[i]? = some s := ⟨_, List.getElem?_eq_getElem (by simpa using hlt)⟩
        simp only [if_true, e2', bind_some', ix_nat, hs]
        rw [app_ok (by simp; omega)]
        simp only [bind_some']
        exact ih hlt d2 _ hd2 (by simp; omega) (listD hm ⟨shS_mem (List.mem_of_getElem? hs) (by decide), hm2.2.1, hm2.2.2⟩)
    · rw [if_neg (by simp; omega)]
      exact ⟨_, _, _, _, rfl, by omega, hm, hc⟩
  have k1 : ∀ i, i ≤ 3 → ∀ (c : L1Cur) (l : List Note), Cur c → l.length ≤ i → (∀ x ∈ l, NoteD x) → ∃ b i' h' m, spec_l6DrawRight.l1 i c.b c.i c.h l = some (b, i', h', m) ∧ m.length ≤ 3 ∧ (∀ x ∈ m, NoteD x) ∧ Cur ⟨b, i', h'⟩ := by
    refine down _ fun i hi ih c l hc hl hm => ?_
    rw [spec_l6DrawRight.l1]
    by_cases hlt : i < 3
    · have g : decide ((i : Int) < (([[97], [111, 119, 110, 101, 114], [120, 47, 121]] : List Str).length : Int)) = true := by simp; omega
      obtain ⟨b, d, e, hd⟩ := once_sp c 3 hc (by omega)
      have e' : spec_l1Once (L1Cur.mk c.b c.i c.h) 3 = some (b, d) := e
      simp only [g, if_true, e', bind_some', w64_succ (show i < 9223372036854775807 by omega)]
      cases b
      · simp only [Bool.false_eq_true, if_false]
        exact ih hlt d l hd (by omega) hm
      · obtain ⟨s, hs⟩ : ∃ s, ([[97], [111, 119, 110, 101, 114], [120, 47, 121]] : List Str)[i]? = some s := ⟨_, List.getElem?_eq_getElem (by simpa using hlt)⟩
        obtain ⟨t, d2, e2, ht, hd2⟩ := pick_sp d [[], [97], [119, 101, 98], [116, 114, 117, 101], [49, 50], [115, 97, 121, 32, 34, 110, 111, 34], [98, 97, 99, 107, 92], [97, 58, 32, 98], [45, 32, 120], [35], [53, 109], [110, 117, 108, 108], [32, 120]] hd (by simp)
        have e2' : spec_l1Pick (L1Cur.mk d.b d.i d.h) _ = some (t, d2) := e2
        simp only [if_true, spec_l3DrawText, e2', bind_some', ix_nat, hs]
        rw [app_ok (by simp; omega)]
        simp only [bind_some']
        exact ih hlt d2 _ hd2 (by simp; omega) (listD hm ⟨shS_mem (List.mem_of_getElem? hs) (by decide), shS_mem ht (by decide)⟩)
    · rw [if_neg (by simp; omega)]
      exact ⟨_, _, _, _, rfl, by omega, hm, hc⟩
  obtain ⟨x1, c1, e1, m1, n1, h1⟩ := below_sp c 4 h (by omega)
  obtain ⟨x2, c2, e2, m2, h2⟩ := pick_sp c1 [[119, 101, 98], [97, 112, 105], [106, 111, 98, 45, 49]] h1 (by simp)
  obtain ⟨x3, c3, e3, m3, h3⟩ := pick_sp c2 [[119, 101, 98], [112, 111, 111, 108]] h2 (by simp)
  obtain ⟨x4, c4, e4, m4, h4⟩ := pickInt_sp c3 [0, 3, 10, 900] h3 (by simp)
  obtain ⟨p, c5, e5, hp, h5⟩ := drawPace_sp c4 h4
  obtain ⟨b, i, g, l, e6, hl6, hm6, h6⟩ := k0 0 (by omega) c5 [] h5 (by simp) (by simp)
  obtain ⟨b7, i7, g7, l7, e7, hl7, hm7, h7⟩ := k1 0 (by omega) ⟨b, i, g⟩ [] h6 (by simp) (by simp)
  simp only [Int.natCast_zero] at e6 e7
  simp only [spec_l6DrawRight, e1, e2, e3, e4, e5, e6, e7, bind_some']
  have m4' := shI_mem m4 (by decide)
  have w1 : IntKind.i64.wrap (1 + x1) = 1 + x1 := w64_id (by omega) (by omega)
  have hx4 : 0 ≤ x4 ∧ x4 ≤ 900 := by
    simp only [List.mem_cons, List.not_mem_nil, or_false] at m4; omega
  have w2 : IntKind.i64.wrap (1 + x1 + x4) = 1 + x1 + x4 := w64_id (by omega) (by omega)
  simp only [w1, w2]
  refine ⟨_, _, rfl, ⟨⟨shS_mem m2 (by decide), shS_mem m3 (by decide), ?_, ?_, ⟨by show l.length ≤ 5; omega, hm6⟩, hp.e, ⟨by show l7.length ≤ 4; omega, hm7⟩⟩, hl6, hl7⟩, h7⟩
  · show shI (1 + x1); unfold shI; omega
  · show shI (1 + x1 + x4); unfold shI; omega
theorem draw6_sp (c : L1Cur) (h : Cur c) : ∃ o d, spec_l6Draw c = some (o, d) ∧ OrderD o ∧ Cur d := by
  obtain ⟨o, c1, e1, ⟨ho, ho5, ho3⟩, h1⟩ := drawRight_sp c h
  obtain ⟨k, c2, e2, k0, k1, h2⟩ := below_sp c1 16 h1 (by omega)
  obtain ⟨o1, o2, o3, o4, ⟨o5, o6⟩, ⟨q1, q2, q3, q4⟩, o8, o9⟩ := ho
  unfold spec_l6Draw
  rw [e1, bind_some']
  have e2' : spec_l1Below (L1Cur.mk c1.b c1.i c1.h) 16 = some (k, c2) := e2
  dsimp only
  rw [e2', bind_some']
  dsimp only
  by_cases hk0 : (k == 0) = true
  · rw [if_pos hk0]
    obtain ⟨x, c3, e3, m3, h3⟩ := pick_sp c2 [[], [49, 97], [65], [97, 98, 99, 100, 101, 102, 103, 104, 105, 106, 107, 108, 109, 110, 111, 112, 113, 114, 115, 116, 117]] h2 (by simp)
    simp only [e3, bind_some']
    exact ⟨_, _, rfl, ⟨shS_mem m3 (by decide), o2, o3, o4, ⟨o5, o6⟩, ⟨q1, q2, q3, q4⟩, o8, o9⟩, h3⟩
  rw [if_neg hk0]
  by_cases hk1 : (k == 1) = true
  · rw [if_pos hk1]
    obtain ⟨x, c3, e3, m3, h3⟩ := pickInt_sp c2 [0, -1, 1001] h2 (by simp)
    simp only [e3, bind_some']
    exact ⟨_, _, rfl, ⟨o1, o2, shI_mem m3 (by decide), o4, ⟨o5, o6⟩, ⟨q1, q2, q3, q4⟩, o8, o9⟩, h3⟩
  rw [if_neg hk1]
  by_cases hk2 : (k == 2) = true
  · rw [if_pos hk2]
    obtain ⟨x, c3, e3, m3, h3⟩ := pickInt_sp c2 [0, 1000, 1001] h2 (by simp)
    simp only [e3, bind_some']
    exact ⟨_, _, rfl, ⟨o1, o2, o3, shI_mem m3 (by decide), ⟨o5, o6⟩, ⟨q1, q2, q3, q4⟩, o8, o9⟩, h3⟩
  rw [if_neg hk2]
  by_cases hk3 : (k == 3) = true
  · rw [if_pos hk3]
    obtain ⟨x, c3, e3, m3, h3⟩ := drawMetric_sp c2 h2
    simp only [e3, bind_some']
    rw [app_ok (by simp; omega)]
    exact ⟨_, _, rfl, ⟨o1, o2, o3, o4, ⟨by simp; omega, listD o6 m3⟩, ⟨q1, q2, q3, q4⟩, o8, o9⟩, h3⟩
  rw [if_neg hk3]
  by_cases hk4 : (k == 4) = true
  · rw [if_pos hk4]
    obtain ⟨x, c3, e3, m3, h3⟩ := pickInt_sp c2 [-1, 1000, 1001] h2 (by simp)
    simp only [e3, bind_some']
    exact ⟨_, _, rfl, ⟨o1, o2, o3, o4, ⟨o5, o6⟩, ⟨shI_mem m3 (by decide), q2, q3, q4⟩, o8, o9⟩, h3⟩
  rw [if_neg hk4]
  by_cases hk5 : (k == 5) = true
  · rw [if_pos hk5]
    obtain ⟨x, c3, e3, m3, h3⟩ := pick_sp c2 [[122], [113, 117, 97, 121, 47, 112, 97, 99, 101], [49], []] h2 (by simp)
    simp only [e3, bind_some']
    rw [app_ok (by simp; omega)]
    exact ⟨_, _, rfl, ⟨o1, o2, o3, o4, ⟨o5, o6⟩, ⟨q1, q2, q3, q4⟩, by simp; omega, listD o9 ⟨shS_mem m3 (by decide), (by show List.length ([120] : Str) ≤ 64; decide)⟩⟩, h3⟩
  rw [if_neg hk5]
  by_cases hk6 : (k == 6) = true
  · rw [if_pos hk6]
    obtain ⟨x, c3, e3, m3, h3⟩ := pickInt_sp c2 [-1, 3600, 3601] h2 (by simp)
    simp only [e3, bind_some']
    exact ⟨_, _, rfl, ⟨o1, o2, o3, o4, ⟨o5, o6⟩, ⟨q1, q2, q3, shI_mem m3 (by decide)⟩, o8, o9⟩, h3⟩
  rw [if_neg hk6]
  by_cases hk7 : (k == 7) = true
  · rw [if_pos hk7]
    by_cases hm : (decide ((o.Metrics.length : Int) > 0)) = true
    · rw [if_pos hm]
      have hm' : 0 < o.Metrics.length := by simpa using hm
      obtain ⟨x, c3, e3, m3, h3⟩ := pickInt_sp c2 [0, -1, 1000000, 1000001] h2 (by simp)
      have g := ix_nat o.Metrics 0
      simp only [Int.natCast_zero] at g
      have g2 := fun x => put_nat (x := x) hm'
      simp only [Int.natCast_zero] at g2
      simp only [e3, bind_some', g, List.getElem?_eq_getElem hm', g2]
      refine ⟨_, _, rfl, ⟨o1, o2, o3, o4, ⟨by simpa using o5, fun y hy => ?_⟩, ⟨q1, q2, q3, q4⟩, o8, o9⟩, h3⟩
      have hz := o6 _ (List.getElem_mem hm')
      rcases List.mem_or_eq_of_mem_set hy with hy | hy
      · exact o6 y hy
      · rw [hy]; exact ⟨hz.1, hz.2.1, shI_mem m3 (by decide)⟩
    · rw [if_neg hm]; exact ⟨_, _, rfl, ⟨o1, o2, o3, o4, ⟨o5, o6⟩, ⟨q1, q2, q3, q4⟩, o8, o9⟩, h2⟩
  · rw [if_neg hk7]; exact ⟨_, _, rfl, ⟨o1, o2, o3, o4, ⟨o5, o6⟩, ⟨q1, q2, q3, q4⟩, o8, o9⟩, h2⟩
theorem slt_irrefl (a : Str) : slt a a = false := by
  unfold slt
  induction a with
  | nil => rfl
  | cons x l ih => simp [Op.bytesLess, ih]
theorem slt_trans (a b c : Str) (h1 : slt a b = true) (h2 : slt b c = true) : slt a c = true := by
  unfold slt at *
  induction a generalizing b c with
  | nil =>
    cases b with
    | nil => simp [Op.bytesLess] at h1
    | cons y m =>
      cases c with
      | nil => simp [Op.bytesLess] at h2
      | cons z n => rfl
  | cons x l ih =>
    cases b with
    | nil => simp [Op.bytesLess] at h1
    | cons y m =>
      cases c with
      | nil => simp [Op.bytesLess] at h2
      | cons z n =>
        simp only [Op.bytesLess, Bool.or_eq_true, decide_eq_true_eq, Bool.and_eq_true, beq_iff_eq] at *
        rcases h1 with h1 | ⟨rfl, h1⟩
        · rcases h2 with h2 | ⟨rfl, h2⟩
          · left; rw [UInt8.lt_iff_toNat_lt] at *; omega
          · left; exact h1
        · rcases h2 with h2 | ⟨rfl, h2⟩
          · left; exact h2
          · right; exact ⟨rfl, ih _ _ h1 h2⟩
theorem cloneL {α : Type} {b : Nat} {l : List α} (h : l.length * b ≤ 70368744177664) : Nt.clone b l = some l := by unfold Nt.clone; rw [if_pos h]
theorem copyOrder_some (o : Order) (h : Order.sm o) : impl_copyOrder o = some o := by
  obtain ⟨h1, h2, h3, h4⟩ := h
  have := h3.1; have := h4.1
  simp only [impl_copyOrder, slices_Clone_Simpl_Metric_impl_Metric, slices_Clone_Simpl_Note_impl_Note]
  rw [cloneL (by omega), cloneL (by omega)]; rfl
theorem copyItem_some (x : Item) (h : Item.sm x) : impl_copyItem x = some x := by
  simp only [impl_copyItem, copyOrder_some _ h, bind_some']
theorem l6Copy_some (o : Order) (h : Order.sm o) : spec_l6Copy o = some o := by
  obtain ⟨h1, h2, h3, h4⟩ := h
  have := h3.1; have := h4.1
  simp only [spec_l6Copy]
  rw [app_ok (by simp; omega), app_ok (by simp; omega)]
  simp only [bind_some', List.nil_append]
theorem take_app {α : Type} {a : List α} {i : Nat} (h : i < a.length) : a.take i ++ [a[i]] = a.take (i + 1) := by
  rw [List.take_add_one, List.getElem?_eq_getElem h]; rfl
theorem copyItems_some (a : List Item) (h : smL Item.sm a) : impl_copyItems a = some a := by
  have hl : a.length ≤ 1048576 := h.1
  have key : ∀ i, i ≤ a.length → impl_copyItems.l0 a i (a.take i) = some a := by
    refine down _ fun i hi ih => ?_
    rw [impl_copyItems.l0]
    by_cases hlt : i < a.length
    · have c : decide ((i : Int) < (a.length : Int)) = true := by simpa using hlt
      simp only [c, if_true, ix_nat, List.getElem?_eq_getElem hlt, bind_some', copyItem_some _ (h.2 _ (List.getElem_mem hlt)), w64_succ (show i < 9223372036854775807 by omega)]
      rw [app_ok (by simp; omega)]
      simp only [bind_some', take_app hlt]
      exact ih hlt
    · rw [if_neg (by simpa using hlt)]
      rw [List.take_of_length_le (by omega)]
  have := key 0 (by omega)
  simp only [Int.natCast_zero, List.take_zero] at this
  simp only [impl_copyItems, this, bind_some']
theorem copyStore_some (s : Store) (h : Store.sm s) : impl_copyStore s = some s := by
  simp only [impl_copyStore, copyItems_some _ h, bind_some']
theorem l13Copy_some (s : Store) (h : Store.sm s) : spec_l13Copy s = some s := by
  have hl : s.Items.length ≤ 1048576 := h.1
  have key : ∀ i, i ≤ s.Items.length → spec_l13Copy.l0 s i (s.Items.take i) = some s.Items := by
    refine down _ fun i hi ih => ?_
    rw [spec_l13Copy.l0]
    by_cases hlt : i < s.Items.length
    · have c : decide ((i : Int) < (s.Items.length : Int)) = true := by simpa using hlt
      simp only [c, if_true, ix_nat, List.getElem?_eq_getElem hlt, bind_some', l6Copy_some _ (h.2 _ (List.getElem_mem hlt)), w64_succ (show i < 9223372036854775807 by omega)]
      rw [app_ok (by simp; omega)]
      simp only [bind_some']
      rw [show (Item.mk s.Items[i].Order s.Items[i].Ver) = s.Items[i] from rfl, take_app hlt]
      exact ih hlt
    · rw [if_neg (by simpa using hlt)]
      rw [List.take_of_length_le (by omega)]
  have := key 0 (by omega)
  simp only [Int.natCast_zero, List.take_zero] at this
  simp only [spec_l13Copy, this, bind_some']
/-- the first from i on -/
def fd {α : Type} (p : α → Bool) (l : List α) (i : Nat) : Option Nat := ((l.drop i).findIdx? p).map (· + i)
theorem fd_step {α : Type} {p : α → Bool} {l : List α} {i : Nat} (h : i < l.length) : fd p l i = if p l[i] then some i else fd p l (i + 1) := by
  unfold fd
  rw [List.drop_eq_getElem_cons h, List.findIdx?_cons]
  split
  · simp
  · simp only [Option.map_map]
    congr 1
    funext x
    simp only [Function.comp]; omega
theorem fd_end {α : Type} {p : α → Bool} {l : List α} {i : Nat} (h : l.length ≤ i) : fd p l i = none := by
  unfold fd; rw [List.drop_eq_nil_of_le h]; rfl
theorem fd_zero {α : Type} (p : α → Bool) (l : List α) : fd p l 0 = l.findIdx? p := by simp [fd]
def named (n : Str) (x : Item) : Bool := x.Order.Name == n
/-- the place of a name; -1 -/
def pos (l : List Item) (n : Str) : Int := match l.findIdx? (named n) with
  | some i => i
  | none => -1
theorem l13At_some (s : Store) (n : Str) (hl : s.Items.length ≤ 1048576) : spec_l13At s n = some (pos s.Items n) := by
  have key : ∀ i, i ≤ s.Items.length → spec_l13At.l0 s n i = some (match fd (named n) s.Items i with | some k => .inl (k : Int) | none => .inr ()) := by
    refine down _ fun i hi ih => ?_
    rw [spec_l13At.l0]
    by_cases hlt : i < s.Items.length
    · have c : decide ((i : Int) < (s.Items.length : Int)) = true := by simpa using hlt
      have hd := fd_step (p := named n) hlt
      simp only [c, if_true, ix_nat, List.getElem?_eq_getElem hlt, bind_some', w64_succ (show i < 9223372036854775807 by omega)]
      by_cases hn : ((s.Items[i].Order.Name == n)) = true
      · rw [if_pos (show named n s.Items[i] = true from hn)] at hd
        rw [if_pos hn, hd]
      · rw [if_neg (show ¬ named n s.Items[i] = true from hn)] at hd
        rw [if_neg hn, hd]; exact ih hlt
    · rw [if_neg (by simpa using hlt), fd_end (by omega)]
  have := key 0 (by omega)
  simp only [Int.natCast_zero, fd_zero] at this
  simp only [spec_l13At, this, bind_some', pos]
  cases s.Items.findIdx? (named n) <;> rfl
theorem placeOf_some (l : List Item) (n : Str) (hl : l.length ≤ 1048576) : impl_placeOf l n = some (pos l n) := by
  have key : ∀ i, i ≤ l.length → slices_IndexFunc_Simpl_Item_impl_Item_impl_placeOf_1.l0 l i n = some (match fd (named n) l i with | some k => .inl ((k : Int), n) | none => .inr n) := by
    refine down _ fun i hi ih => ?_
    rw [slices_IndexFunc_Simpl_Item_impl_Item_impl_placeOf_1.l0]
    by_cases hlt : i < l.length
    · have c : decide ((i : Int) < (l.length : Int)) = true := by simpa using hlt
      have hd := fd_step (p := named n) hlt
      simp only [c, if_true, ix_nat, List.getElem?_eq_getElem hlt, bind_some', impl_placeOf_1, w64_succ (show i < 9223372036854775807 by omega)]
      by_cases hn : ((l[i].Order.Name == n)) = true
      · rw [if_pos (show named n l[i] = true from hn)] at hd
        rw [if_pos hn, hd]
      · rw [if_neg (show ¬ named n l[i] = true from hn)] at hd
        rw [if_neg hn, hd]; exact ih hlt
    · rw [if_neg (by simpa using hlt), fd_end (by omega)]
  have := key 0 (by omega)
  simp only [Int.natCast_zero, fd_zero] at this
  simp only [impl_placeOf, slices_IndexFunc_Simpl_Item_impl_Item_impl_placeOf_1, this, bind_some', pos]
  cases l.findIdx? (named n) <;> rfl
theorem pos_some {l : List Item} {n : Str} : (∃ i : Nat, pos l n = i ∧ ∃ h : i < l.length, l[i].Order.Name = n) ∨ (pos l n = -1 ∧ ∀ x ∈ l, x.Order.Name ≠ n) := by
  unfold pos
  cases h : l.findIdx? (named n) with
  | none =>
    right
    refine ⟨rfl, fun x hx e => ?_⟩
    have := List.findIdx?_eq_none_iff.1 h x hx
    simp [named, e] at this
  | some i =>
    left
    obtain ⟨h1, h2, _⟩ := List.findIdx?_eq_some_iff_getElem.1 h
    exact ⟨i, rfl, h1, by simpa [named] using h2⟩
/-- Find -/
theorem find_same (s : Store) (n : Str) (h : Store.sm s) : ∃ r, spec_Find s n = some r ∧ impl_Find s n = some r := by
  have hl : s.Items.length ≤ 1048576 := h.1
  simp only [spec_Find, impl_Find, l13At_some s n hl, placeOf_some _ n hl, bind_some']
  rcases pos_some (l := s.Items) (n := n) with ⟨i, e, hi, _⟩ | ⟨e, _⟩
  · rw [e]
    have c : decide ((i : Int) < 0) = false := by simp
    simp only [c, Bool.false_eq_true, if_false, ix_nat, List.getElem?_eq_getElem hi, bind_some', copyItem_some _ (h.2 _ (List.getElem_mem hi)), l6Copy_some _ (h.2 _ (List.getElem_mem hi))]
    exact ⟨_, rfl, rfl⟩
  · rw [e]
    exact ⟨_, rfl, rfl⟩
theorem idx1_some (l : List Item) (x : Item) (hl : l.length ≤ 1048577) : slices_IndexFunc_Simpl_Item_impl_Item_impl_put_1 l x = some (pos l x.Order.Name, l, x) := by
  have key : ∀ i, i ≤ l.length → slices_IndexFunc_Simpl_Item_impl_Item_impl_put_1.l0 l i x.Order.Name x.Order.Target x.Order.Low x.Order.High x.Order.Metrics x.Order.Pace.Up x.Order.Pace.Down x.Order.Pace.UpSpan x.Order.Pace.DownSpan x.Order.Notes x.Ver = some (match fd (named x.Order.Name) l i with | some k => .inl ((k : Int), l, x) | none => .inr (x.Order.Name, x.Order.Target, x.Order.Low, x.Order.High, x.Order.Metrics, x.Order.Pace.Up, x.Order.Pace.Down, x.Order.Pace.UpSpan, x.Order.Pace.DownSpan, x.Order.Notes, x.Ver)) := by
    refine down _ fun i hi ih => ?_
    rw [slices_IndexFunc_Simpl_Item_impl_Item_impl_put_1.l0]
    by_cases hlt : i < l.length
    · have c : decide ((i : Int) < (l.length : Int)) = true := by simpa using hlt
      have hd := fd_step (p := named x.Order.Name) hlt
      simp only [c, if_true, ix_nat, List.getElem?_eq_getElem hlt, bind_some', impl_put_1, w64_succ (show i < 9223372036854775807 by omega)]
      by_cases hn : ((l[i].Order.Name == x.Order.Name)) = true
      · rw [if_pos (show named x.Order.Name l[i] = true from hn)] at hd
        rw [if_pos hn, hd]
      · rw [if_neg (show ¬ named x.Order.Name l[i] = true from hn)] at hd
        rw [if_neg hn, hd]; exact ih hlt
    · rw [if_neg (by simpa using hlt), fd_end (by omega)]
  have := key 0 (by omega)
  simp only [Int.natCast_zero, fd_zero] at this
  simp only [slices_IndexFunc_Simpl_Item_impl_Item_impl_put_1, this, bind_some', pos]
  cases l.findIdx? (named x.Order.Name) <;> rfl
/-- a name that comes later -/
def later (n : Str) (x : Item) : Bool := !(slt x.Order.Name n || x.Order.Name == n)
def posL (l : List Item) (n : Str) : Int := match l.findIdx? (later n) with
  | some i => i
  | none => -1
theorem idx2_some (l : List Item) (x : Item) (hl : l.length ≤ 1048577) : slices_IndexFunc_Simpl_Item_impl_Item_impl_put_2 l x = some (posL l x.Order.Name, l, x) := by
  have key : ∀ i, i ≤ l.length → slices_IndexFunc_Simpl_Item_impl_Item_impl_put_2.l0 l i x.Order.Name x.Order.Target x.Order.Low x.Order.High x.Order.Metrics x.Order.Pace.Up x.Order.Pace.Down x.Order.Pace.UpSpan x.Order.Pace.DownSpan x.Order.Notes x.Ver = some (match fd (later x.Order.Name) l i with | some k => .inl ((k : Int), l, x) | none => .inr (x.Order.Name, x.Order.Target, x.Order.Low, x.Order.High, x.Order.Metrics, x.Order.Pace.Up, x.Order.Pace.Down, x.Order.Pace.UpSpan, x.Order.Pace.DownSpan, x.Order.Notes, x.Ver)) := by
    refine down _ fun i hi ih => ?_
    rw [slices_IndexFunc_Simpl_Item_impl_Item_impl_put_2.l0]
    by_cases hlt : i < l.length
    · have c : decide ((i : Int) < (l.length : Int)) = true := by simpa using hlt
      have hd := fd_step (p := later x.Order.Name) hlt
      simp only [c, if_true, ix_nat, List.getElem?_eq_getElem hlt, bind_some', impl_put_2, w64_succ (show i < 9223372036854775807 by omega)]
      by_cases hn : (!(slt l[i].Order.Name x.Order.Name || l[i].Order.Name == x.Order.Name)) = true
      · rw [if_pos (show later x.Order.Name l[i] = true from hn)] at hd
        rw [if_pos hn, hd]
      · rw [if_neg (show ¬ later x.Order.Name l[i] = true from hn)] at hd
        rw [if_neg hn, hd]; exact ih hlt
    · rw [if_neg (by simpa using hlt), fd_end (by omega)]
  have := key 0 (by omega)
  simp only [Int.natCast_zero, fd_zero] at this
  simp only [slices_IndexFunc_Simpl_Item_impl_Item_impl_put_2, this, bind_some', posL]
  cases l.findIdx? (later x.Order.Name) <;> rfl
/-- all but those of a name -/
def rest (n : Str) (l : List Item) : List Item := l.filter fun y => !(named n y)
theorem delFunc_some (l : List Item) (x : Item) (hl : l.length ≤ 1048576) : slices_DeleteFunc_Simpl_Item_impl_Item_impl_put_1 l x = some (rest x.Order.Name l, x) := by
  simp only [slices_DeleteFunc_Simpl_Item_impl_Item_impl_put_1, idx1_some l x (by omega), bind_some']
  unfold pos
  cases hf : l.findIdx? (named x.Order.Name) with
  | none =>
    have h0 : rest x.Order.Name l = l := by
      unfold rest
      rw [List.filter_eq_self]
      intro y hy
      have := List.findIdx?_eq_none_iff.1 hf y hy
      simp [this]
    simp only [h0]
    rfl
  | some i0 =>
    obtain ⟨hi0, hp, hbefore⟩ := List.findIdx?_eq_some_iff_getElem.1 hf
    have c : ((i0 : Int) == -1) = false := by simp
    simp only [c, Bool.false_eq_true, if_false, w64_succ (show i0 < 9223372036854775807 by omega)]
    -- what the loop leaves
    have key : ∀ j, j ≤ l.length → ∀ (i : Nat) (v : List Item), v.length = l.length → i < j → v.take i = rest x.Order.Name (l.take j) → v.drop j = l.drop j → ∃ (i' : Nat) (v' : List Item), v'.length = l.length ∧ i' ≤ l.length ∧ v'.take i' = rest x.Order.Name l ∧
        slices_DeleteFunc_Simpl_Item_impl_Item_impl_put_1.l0 i j x.Order.Name x.Order.Target x.Order.Low x.Order.High x.Order.Metrics x.Order.Pace.Up x.Order.Pace.Down x.Order.Pace.UpSpan x.Order.Pace.DownSpan x.Order.Notes x.Ver v = some ((i' : Int), x.Order.Name, x.Order.Target, x.Order.Low, x.Order.High, x.Order.Metrics, x.Order.Pace.Up, x.Order.Pace.Down, x.Order.Pace.UpSpan, x.Order.Pace.DownSpan, x.Order.Notes, x.Ver, v') := by
      refine down _ fun j hj ih => ?_
      intro i v hv hij h1 h2
      rw [slices_DeleteFunc_Simpl_Item_impl_Item_impl_put_1.l0]
      by_cases hlt : j < l.length
      · have c : decide ((j : Int) < (v.length : Int)) = true := by rw [hv]; simpa using hlt
        have hjv : j < v.length := by omega
        have hiv : i < v.length := by omega
        have e1 : v[j] = l[j] := by
          have := congrArg (·[0]?) h2
          simp only [List.getElem?_drop, Nat.add_zero, List.getElem?_eq_getElem hjv, List.getElem?_eq_getElem hlt] at this
          exact Option.some.inj this
        have e2 : l.take (j + 1) = l.take j ++ [l[j]] := (take_app hlt).symm
        simp only [c, if_true, ix_nat, List.getElem?_eq_getElem hjv, List.getElem?_eq_getElem hiv, bind_some', impl_put_1, e1, w64_succ (show j < 9223372036854775807 by omega), w64_succ (show i < 9223372036854775807 by omega), put_nat hiv]
        cases hn : (l[j].Order.Name == x.Order.Name)
        · simp only [Bool.not_false, if_true]
          refine ih hlt (i + 1) (v.set i l[j]) (by simpa using hv) (by omega) ?_ ?_
          · rw [List.take_set, List.take_add_one, List.getElem?_eq_getElem hiv, List.set_append_right _ _ (by simp; omega)]
            rw [e2]
            unfold rest at h1 ⊢
            have e4 : List.take i v = List.filter (fun y => !(named x.Order.Name y)) (List.take j l) := h1
            have e5 : List.filter (fun y => !(named x.Order.Name y)) [l[j]] = [l[j]] := by simp [named, hn]
            rw [List.filter_append, ← e4, e5]
            have e6 : i - (List.take i v).length = 0 := by simp; omega
            rw [e6]; rfl
          · rw [List.drop_set_of_lt (by omega)]
            have := congrArg (List.drop 1) h2
            simpa [List.drop_drop] using this
        · simp only [Bool.not_true, Bool.false_eq_true, if_false]
          refine ih hlt i v hv (by omega) ?_ ?_
          · rw [e2, h1]
            unfold rest
            rw [List.filter_append]
            simp [named, hn]
          · have := congrArg (List.drop 1) h2
            simpa [List.drop_drop] using this
      · have c : decide ((j : Int) < (v.length : Int)) = false := by rw [hv]; simpa using hlt
        simp only [c, Bool.false_eq_true, if_false]
        refine ⟨i, v, hv, by omega, ?_, rfl⟩
        rw [h1, List.take_of_length_le (by omega)]
    have hstart : l.take i0 = rest x.Order.Name (l.take (i0 + 1)) := by
      rw [← take_app hi0]
      unfold rest
      rw [List.filter_append]
      have a1 : (l.take i0).filter (fun y => !(named x.Order.Name y)) = l.take i0 := by
        rw [List.filter_eq_self]
        intro y hy
        obtain ⟨k, hk, rfl⟩ := List.mem_iff_getElem.1 hy
        simp only [List.length_take] at hk
        have := hbefore k (by omega)
        rw [List.getElem_take]
        simp [this]
      rw [a1]
      simp [hp]
    obtain ⟨i', v', g1, g2, g3, g4⟩ := key (i0 + 1) (by omega) i0 l rfl (by omega) hstart rfl
    rw [g4]
    simp only [bind_some']
    have s1 : slc v' (i' : Int) (v'.length : Int) = some (v'.drop i') := by
      simp only [slc]; rw [if_pos ⟨by omega, by omega, by omega⟩]; simp [cut]
    rw [s1]
    simp only [bind_some']
    have hlen : (Nt.clr v' (i' : Int) (v'.length : Int) (Item.mk (Order.mk [] [] 0 0 [] (Pace.mk 0 0 0 0) []) 0)).length = l.length := by
      simp [Nt.clr]; omega
    have s2 : slc (Nt.clr v' (i' : Int) (v'.length : Int) (Item.mk (Order.mk [] [] 0 0 [] (Pace.mk 0 0 0 0) []) 0)) 0 (i' : Int) = some (rest x.Order.Name l) := by
      rw [slc_take _ _ (by omega), ← g3]
      simp only [Nt.clr, Int.toNat_natCast]
      rw [List.append_assoc, List.take_append_of_le_length (by simp; omega), List.take_take, Nat.min_self]
    rw [s2]
    rfl
/-- a place for x -/
def putAt (l : List Item) (x : Item) : List Item := (match (rest x.Order.Name l).findIdx? (later x.Order.Name) with
  | some k => (rest x.Order.Name l).take k ++ [x] ++ (rest x.Order.Name l).drop k
  | none => rest x.Order.Name l ++ [x])
theorem put_some' (l : List Item) (x : Item) (h : smL Item.sm l) (hx : Item.sm x) : impl_put l x = some (putAt l x) := by
  have hl : l.length ≤ 1048576 := h.1
  have hr : (rest x.Order.Name l).length ≤ l.length := List.length_filter_le _ _
  simp only [impl_put, copyItems_some l h, bind_some', delFunc_some l x hl]
  rw [show (Item.mk (Order.mk x.Order.Name x.Order.Target x.Order.Low x.Order.High x.Order.Metrics (Pace.mk x.Order.Pace.Up x.Order.Pace.Down x.Order.Pace.UpSpan x.Order.Pace.DownSpan) x.Order.Notes) x.Ver) = x from rfl]
  simp only [idx2_some _ x (show (rest x.Order.Name l).length ≤ 1048577 by omega), bind_some']
  rw [show (Item.mk (Order.mk x.Order.Name x.Order.Target x.Order.Low x.Order.High x.Order.Metrics (Pace.mk x.Order.Pace.Up x.Order.Pace.Down x.Order.Pace.UpSpan x.Order.Pace.DownSpan) x.Order.Notes) x.Ver) = x from rfl]
  simp only [copyItem_some x hx, bind_some', slices_Insert_Simpl_Item_impl_Item]
  unfold posL putAt
  cases hf : (rest x.Order.Name l).findIdx? (later x.Order.Name) with
  | none =>
    have c : decide ((-1 : Int) < 0) = true := rfl
    simp only [c, if_true]
    unfold Nt.ins
    rw [if_pos ⟨by omega, by omega, by simp, by simp; omega⟩]
    simp
  | some k =>
    obtain ⟨hk, _⟩ := List.findIdx?_eq_some_iff_getElem.1 hf
    have c : decide ((k : Int) < 0) = false := by simp
    simp only [c, Bool.false_eq_true, if_false]
    unfold Nt.ins
    rw [if_pos ⟨by omega, by omega, by simp, by simp; omega⟩]
    simp
/-- what is asked of the k-th item -/
def CondK (s : Store) (k : Nat) (hk : k < s.Items.length) : Prop :=
  spec_OrderOk s.Items[k].Order = some true ∧ 1 ≤ s.Items[k].Ver ∧ s.Items[k].Ver ≤ s.Next - 1 ∧ (∀ h0 : 0 < k, slt (s.Items[k-1]'(by omega)).Order.Name s.Items[k].Order.Name = true) ∧ ∀ j (hj : j < k), s.Items[j].Ver ≠ s.Items[k].Ver
structure RightS (s : Store) : Prop where
  n1 : 1 ≤ s.Next
  n2 : s.Next ≤ 100000
  len : s.Items.length ≤ 6
  ok : ∀ x ∈ s.Items, spec_OrderOk x.Order = some true ∧ 1 ≤ x.Ver ∧ x.Ver ≤ s.Next - 1
  up : s.Items.Pairwise fun a b => slt a.Order.Name b.Order.Name = true
  vs : s.Items.Pairwise fun a b => a.Ver ≠ b.Ver
theorem any_take (s : Store) (k : Nat) (hk : k < s.Items.length) : (s.Items.take k).any (fun y => y.Ver == s.Items[k].Ver) = false ↔ ∀ j (hj : j < k), s.Items[j].Ver ≠ s.Items[k].Ver := by
  rw [List.any_eq_false]
  constructor
  · intro h j hj e
    have : s.Items[j] ∈ s.Items.take k := by
      rw [List.mem_iff_getElem]; exact ⟨j, by simp; omega, by simp⟩
    have := h _ this
    simp [e] at this
  · intro h y hy
    obtain ⟨j, hj, rfl⟩ := List.mem_iff_getElem.1 hy
    simp only [List.length_take] at hj
    have := h j (by omega)
    simpa using this
theorem storeOk_right (s : Store) (h : Store.sm s) : ∃ b, spec_StoreOk s = some b ∧ impl_StoreOk s = some b ∧ (b = true ↔ RightS s) := by
  obtain ⟨b, hb1, hb2⟩ := storeOk_same s h
  refine ⟨b, hb1, hb2, ?_⟩
  have hl : s.Items.length ≤ 1048576 := h.1
  -- the loop
  have key : 1 ≤ s.Next → s.Next ≤ 100000 → ∀ i, i ≤ s.Items.length → (spec_StoreOk.l0 s i = some (.inr ()) ∧ ∀ k, i ≤ k → ∀ hk : k < s.Items.length, CondK s k hk) ∨ (spec_StoreOk.l0 s i = some (.inl false) ∧ ¬ ∀ k, i ≤ k → ∀ hk : k < s.Items.length, CondK s k hk) := by
    intro hn1 hn2
    refine down _ fun i hi ih => ?_
    rw [spec_StoreOk.l0]
    by_cases hlt : i < s.Items.length
    · have c : decide ((i : Int) < (s.Items.length : Int)) = true := by simpa using hlt
      obtain ⟨p, p1, _⟩ := orderOk_same s.Items[i].Order (h.2 _ (List.getElem_mem hlt))
      have e1 : IntKind.i64.wrap (s.Next - 1) = s.Next - 1 := w64_id (by omega) (by omega)
      simp only [c, if_true, ix_nat, List.getElem?_eq_getElem hlt, bind_some', p1, in_some, e1, w64_succ (show i < 9223372036854775807 by omega), vers1 s _ i hi hl, vers2 s _ i hi hl]
      cases p with
      | false =>
        right
        refine ⟨rfl, fun hc => ?_⟩
        have := (hc i (Nat.le_refl _) hlt).1
        rw [p1] at this; simp at this
      | true =>
        simp only [Bool.not_true, Bool.false_eq_true, if_false]
        cases hv : (decide (s.Items[i].Ver ≥ 1) && decide (s.Items[i].Ver ≤ s.Next - 1)) with
        | false =>
          right
          refine ⟨by simp, fun hc => ?_⟩
          obtain ⟨_, h2, h3, _⟩ := hc i (Nat.le_refl _) hlt
          have : (decide (s.Items[i].Ver ≥ 1) && decide (s.Items[i].Ver ≤ s.Next - 1)) = true := by simp; omega
          rw [this] at hv; simp at hv
        | true =>
          simp only [Bool.not_true, Bool.false_eq_true, if_false]
          have hv' : 1 ≤ s.Items[i].Ver ∧ s.Items[i].Ver ≤ s.Next - 1 := by simpa using hv
          have step : ∀ (hs : ∀ h0 : 0 < i, slt (s.Items[i-1]'(by omega)).Order.Name s.Items[i].Order.Name = true), ((match (if (s.Items.take i).any (fun y => y.Ver == s.Items[i].Ver) then (.inl false : Bool ⊕ Unit) else .inr ()) with | .inl r => some (.inl r) | .inr t => spec_StoreOk.l0 s ((i + 1 : Nat) : Int)) = some (.inr ()) ∧ ∀ k, i ≤ k → ∀ hk : k < s.Items.length, CondK s k hk) ∨ ((match (if (s.Items.take i).any (fun y => y.Ver == s.Items[i].Ver) then (.inl false : Bool ⊕ Unit) else .inr ()) with | .inl r => some (.inl r) | .inr t => spec_StoreOk.l0 s ((i + 1 : Nat) : Int)) = some (.inl false) ∧ ¬ ∀ k, i ≤ k → ∀ hk : k < s.Items.length, CondK s k hk) := by
            intro hs
            cases ha : (s.Items.take i).any (fun y => y.Ver == s.Items[i].Ver) with
            | true =>
              right
              refine ⟨rfl, fun hc => ?_⟩
              obtain ⟨_, _, _, _, h5⟩ := hc i (Nat.le_refl _) hlt
              rw [(any_take s i hlt).2 h5] at ha; simp at ha
            | false =>
              have h5 := (any_take s i hlt).1 ha
              rcases ih hlt with ⟨g1, g2⟩ | ⟨g1, g2⟩
              · left
                refine ⟨g1, fun k hk hkl => ?_⟩
                rcases Nat.eq_or_lt_of_le hk with rfl | hk'
                · exact ⟨p1, hv'.1, hv'.2, hs, h5⟩
                · exact g2 k hk' hkl
              · right
                exact ⟨g1, fun hc => g2 fun k hk hkl => hc k (by omega) hkl⟩
          by_cases h0 : i = 0
          · have c2 : decide ((i : Int) > 0) = false := by simp; omega
            simp only [c2, Bool.false_eq_true, if_false]
            exact step fun h => by omega
          · have e : IntKind.i64.wrap ((i : Int) - 1) = ((i - 1 : Nat) : Int) := by rw [w64_id (by omega) (by omega)]; omega
            have c2 : decide ((i : Int) > 0) = true := by simp; omega
            simp only [c2, if_true, e, ix_nat, List.getElem?_eq_getElem (show i - 1 < s.Items.length by omega), bind_some']
            cases hsl : slt (s.Items[i-1]'(by omega)).Order.Name s.Items[i].Order.Name with
            | false =>
              right
              refine ⟨by simp, fun hc => ?_⟩
              obtain ⟨_, _, _, h4, _⟩ := hc i (Nat.le_refl _) hlt
              rw [h4 (by omega)] at hsl; simp at hsl
            | true =>
              simp only [Bool.not_true, Bool.false_eq_true, if_false]
              exact step fun _ => hsl
    · rw [if_neg (by simpa using hlt)]
      exact .inl ⟨rfl, fun k hk hkl => by omega⟩
  have hR : RightS s ↔ (1 ≤ s.Next ∧ s.Next ≤ 100000 ∧ s.Items.length ≤ 6 ∧ ∀ k (hk : k < s.Items.length), CondK s k hk) := by
    constructor
    · intro r
      refine ⟨r.n1, r.n2, r.len, fun k hk => ?_⟩
      obtain ⟨a, b, c⟩ := r.ok _ (List.getElem_mem hk)
      exact ⟨a, b, c, fun h0 => List.pairwise_iff_getElem.1 r.up _ _ _ _ (by omega), fun j hj => List.pairwise_iff_getElem.1 r.vs _ _ _ _ hj⟩
    · rintro ⟨a, b, c, d⟩
      refine ⟨a, b, c, fun x hx => ?_, List.pairwise_iff_getElem.2 fun i j hi hj hij => ?_, List.pairwise_iff_getElem.2 fun i j hi hj hij => ?_⟩
      · obtain ⟨k, hk, rfl⟩ := List.mem_iff_getElem.1 hx
        obtain ⟨e1, e2, e3, _⟩ := d k hk
        exact ⟨e1, e2, e3⟩
      · have grow : ∀ m, ∀ hm : i + 1 + m < s.Items.length, slt s.Items[i].Order.Name (s.Items[i + 1 + m]).Order.Name = true := by
          intro m
          induction m with
          | zero => intro hm; have := (d (i + 1) hm).2.2.2.1 (by omega); simpa using this
          | succ m ihm =>
            intro hm
            have h1 := ihm (by omega)
            have h2 := (d (i + 1 + (m + 1)) hm).2.2.2.1 (by omega)
            exact slt_trans _ _ _ h1 (by simpa [show i + 1 + (m + 1) - 1 = i + 1 + m by omega] using h2)
        have := grow (j - (i + 1)) (by omega)
        simpa [show i + 1 + (j - (i + 1)) = j by omega] using this
      · exact (d j hj).2.2.2.2 i hij
  rw [hR]
  simp only [spec_StoreOk, in_some, bind_some'] at hb1
  by_cases hn : 1 ≤ s.Next ∧ s.Next ≤ 100000
  · have c1 : (decide (s.Next ≥ 1) && decide (s.Next ≤ 100000)) = true := by simp; omega
    simp only [c1, Bool.not_true, Bool.false_eq_true, if_false] at hb1
    by_cases hlen : s.Items.length ≤ 6
    · have c2 : decide ((s.Items.length : Int) > 6) = false := by simp; omega
      simp only [c2, Bool.false_eq_true, if_false] at hb1
      have k0 := key hn.1 hn.2 0 (by omega)
      simp only [Int.natCast_zero] at k0
      rcases k0 with ⟨g1, g2⟩ | ⟨g1, g2⟩
      · rw [g1] at hb1
        simp only [bind_some', Option.some.injEq] at hb1
        subst hb1
        simp only [true_iff]
        exact ⟨hn.1, hn.2, hlen, fun k hk => g2 k (by omega) hk⟩
      · rw [g1] at hb1
        simp only [bind_some', Option.some.injEq] at hb1
        subst hb1
        simp only [Bool.false_eq_true, false_iff]
        rintro ⟨_, _, _, hc⟩
        exact g2 fun k _ hk => hc k hk
    · have c2 : decide ((s.Items.length : Int) > 6) = true := by simp; omega
      simp only [c2, if_true, Option.some.injEq] at hb1
      subst hb1
      simp only [Bool.false_eq_true, false_iff]
      rintro ⟨_, _, h3, _⟩; exact hlen h3
  · have c1 : (decide (s.Next ≥ 1) && decide (s.Next ≤ 100000)) = false := by simp; omega
    simp only [c1, Bool.not_false, if_true, Option.some.injEq] at hb1
    subst hb1
    simp only [Bool.false_eq_true, false_iff]
    rintro ⟨h1, h2, _⟩; exact hn ⟨h1, h2⟩
theorem slt_tri : ∀ (a b : Str), slt a b = false → a ≠ b → slt b a = true := by
  intro a
  unfold slt
  induction a with
  | nil =>
    intro b h hne
    cases b with
    | nil => exact absurd rfl hne
    | cons y m => simp [Op.bytesLess] at h
  | cons x l ih =>
    intro b h hne
    cases b with
    | nil => rfl
    | cons y m =>
      simp only [Op.bytesLess, Bool.or_eq_false_iff, decide_eq_false_iff_not, Bool.and_eq_false_imp, beq_iff_eq] at h
      simp only [Op.bytesLess, Bool.or_eq_true, decide_eq_true_eq, Bool.and_eq_true, beq_iff_eq]
      by_cases hxy : x = y
      · subst hxy
        right
        exact ⟨rfl, ih m (h.2 rfl) fun e => hne (by rw [e])⟩
      · left
        have h1 := h.1
        rw [UInt8.lt_iff_toNat_lt] at *
        have : x.toNat ≠ y.toNat := fun e => hxy (UInt8.toNat_inj.1 e)
        omega
theorem later_iff (n : Str) (y : Item) : later n y = true ↔ slt n y.Order.Name = true := by
  unfold later
  constructor
  · intro h
    simp only [Bool.not_eq_true', Bool.or_eq_false_iff, beq_eq_false_iff_ne] at h
    exact slt_tri _ _ h.1 h.2
  · intro h
    simp only [Bool.not_eq_true', Bool.or_eq_false_iff, beq_eq_false_iff_ne]
    refine ⟨?_, fun e => ?_⟩
    · cases h2 : slt y.Order.Name n with
      | false => rfl
      | true => have := slt_trans _ _ _ h h2; rw [slt_irrefl] at this; simp at this
    · rw [e, slt_irrefl] at h; simp at h
def Asc (l : List Item) : Prop := l.Pairwise fun a b => slt a.Order.Name b.Order.Name = true
/-- where the names grow: in the place of one of the name, or ahead of the later ones -/
def putIn (x : Item) : List Item → List Item
  | [] => [x]
  | y :: l => if y.Order.Name == x.Order.Name then x :: l else if slt y.Order.Name x.Order.Name then y :: putIn x l else x :: y :: l
theorem rest_none {n : Str} {l : List Item} (h : ∀ y ∈ l, y.Order.Name ≠ n) : rest n l = l := by
  unfold rest
  rw [List.filter_eq_self]
  intro y hy
  simp [named, h y hy]
theorem asc_ne {n : Str} {l : List Item} (h : ∀ y ∈ l, slt n y.Order.Name = true) : ∀ y ∈ l, y.Order.Name ≠ n := by
  intro y hy e
  have := h y hy
  rw [e, slt_irrefl] at this; simp at this
theorem ahead {x : Item} {l : List Item} (h : ∀ y ∈ l, slt x.Order.Name y.Order.Name = true) : (match l.findIdx? (later x.Order.Name) with | some k => l.take k ++ [x] ++ l.drop k | none => l ++ [x]) = x :: l := by
  cases l with
  | nil => rfl
  | cons y l =>
    have : later x.Order.Name y = true := (later_iff _ _).2 (h y (by simp))
    simp [List.findIdx?_cons, this]
theorem putAt_asc (x : Item) : ∀ (l : List Item), Asc l → putAt l x = putIn x l
  | [], _ => rfl
  | y :: l, h => by
    obtain ⟨h1, h2⟩ := List.pairwise_cons.1 h
    have ih := putAt_asc x l h2
    simp only [putIn]
    by_cases hn : (y.Order.Name == x.Order.Name) = true
    · rw [if_pos hn]
      have e : y.Order.Name = x.Order.Name := by simpa using hn
      have hr : rest x.Order.Name (y :: l) = l := by
        have : rest x.Order.Name (y :: l) = rest x.Order.Name l := by simp [rest, named, e]
        rw [this, rest_none (asc_ne fun z hz => by rw [← e]; exact h1 z hz)]
      unfold putAt
      rw [hr]
      exact ahead fun z hz => by rw [← e]; exact h1 z hz
    · rw [if_neg hn]
      have hne : y.Order.Name ≠ x.Order.Name := by simpa using hn
      have hr : rest x.Order.Name (y :: l) = y :: rest x.Order.Name l := by simp [rest, named, hne]
      by_cases hs : slt y.Order.Name x.Order.Name = true
      · rw [if_pos hs]
        have hl : later x.Order.Name y = false := by
          cases hv : later x.Order.Name y with
          | false => rfl
          | true =>
            have := slt_trans _ _ _ hs ((later_iff _ _).1 hv)
            rw [slt_irrefl] at this; simp at this
        rw [← ih]
        unfold putAt
        rw [hr]
        simp only [List.findIdx?_cons, hl, Bool.false_eq_true, if_false]
        cases (rest x.Order.Name l).findIdx? (later x.Order.Name) with
        | none => simp
        | some k => simp
      · rw [if_neg hs]
        have hxy : slt x.Order.Name y.Order.Name = true := slt_tri _ _ (by simpa using hs) hne
        have hall : ∀ z ∈ l, slt x.Order.Name z.Order.Name = true := fun z hz => slt_trans _ _ _ hxy (h1 z hz)
        have hr2 : rest x.Order.Name (y :: l) = y :: l := by rw [hr, rest_none (asc_ne hall)]
        unfold putAt
        rw [hr2]
        exact ahead fun z hz => by
          rcases List.mem_cons.1 hz with rfl | hz
          · exact hxy
          · exact hall z hz
/-! the reference's way -/
theorem set_putIn (x : Item) : ∀ (l : List Item) (i : Nat) (hi : i < l.length), Asc l → l[i].Order.Name = x.Order.Name → l.set i x = putIn x l
  | [], i, hi, _, _ => by simp at hi
  | y :: l, 0, hi, h, e => by
    simp only [List.getElem_cons_zero] at e
    simp [putIn, e]
  | y :: l, i + 1, hi, h, e => by
    obtain ⟨h1, h2⟩ := List.pairwise_cons.1 h
    simp only [List.length_cons] at hi
    simp only [List.getElem_cons_succ] at e
    have hs : slt y.Order.Name x.Order.Name = true := by rw [← e]; exact h1 _ (List.getElem_mem (by omega))
    have hne : (y.Order.Name == x.Order.Name) = false := by
      simp only [beq_eq_false_iff_ne]; intro e'; rw [e', slt_irrefl] at hs; simp at hs
    simp only [putIn, hne, Bool.false_eq_true, if_false, hs, if_true, List.set_cons_succ]
    rw [set_putIn x l i (by omega) h2 e]
theorem first_putIn (x : Item) : ∀ (l : List Item), Asc l → (∀ y ∈ l, y.Order.Name ≠ x.Order.Name) → l.take (l.findIdx fun y => !(slt y.Order.Name x.Order.Name)) ++ [x] ++ l.drop (l.findIdx fun y => !(slt y.Order.Name x.Order.Name)) = putIn x l
  | [], _, _ => rfl
  | y :: l, h, hn => by
    obtain ⟨h1, h2⟩ := List.pairwise_cons.1 h
    have hne : (y.Order.Name == x.Order.Name) = false := by simpa using hn y (by simp)
    simp only [putIn, hne, Bool.false_eq_true, if_false, List.findIdx_cons]
    cases hs : slt y.Order.Name x.Order.Name with
    | false => simp
    | true =>
      simp only [Bool.not_true, cond_false, if_true]
      rw [← first_putIn x l h2 fun z hz => hn z (by simp [hz])]
      simp
theorem specPut_l0 (o : Order) (s : Store) (hl : s.Items.length ≤ 1048576) : spec_Put.l0 o s 0 = some ((s.Items.findIdx fun y => !(slt y.Order.Name o.Name) : Nat) : Int) := by
  have key : ∀ i, i ≤ s.Items.length → spec_Put.l0 o s i = some ((i + (s.Items.drop i).findIdx fun y => !(slt y.Order.Name o.Name) : Nat) : Int) := by
    refine down _ fun i hi ih => ?_
    rw [spec_Put.l0]
    by_cases hlt : i < s.Items.length
    · have c : decide ((i : Int) < (s.Items.length : Int)) = true := by simpa using hlt
      rw [List.drop_eq_getElem_cons hlt, List.findIdx_cons]
      simp only [c, if_true, ix_nat, List.getElem?_eq_getElem hlt, bind_some', w64_succ (show i < 9223372036854775807 by omega)]
      cases hs : slt s.Items[i].Order.Name o.Name with
      | false => simp
      | true =>
        simp only [if_true, Bool.not_true, cond_false]
        rw [ih hlt]
        congr 1; omega
    · rw [if_neg (by simpa using hlt), List.drop_eq_nil_of_le (by omega)]
      simp
  have := key 0 (by omega)
  simpa using this
theorem putIn_mem {x y : Item} : ∀ {l : List Item}, y ∈ putIn x l → y = x ∨ y ∈ l
  | [], h => by simp [putIn] at h; exact .inl h
  | z :: l, h => by
    simp only [putIn] at h
    split at h
    · rcases List.mem_cons.1 h with h | h
      · exact .inl h
      · exact .inr (by simp [h])
    · split at h
      · rcases List.mem_cons.1 h with h | h
        · exact .inr (by simp [h])
        · rcases putIn_mem h with h | h
          · exact .inl h
          · exact .inr (by simp [h])
      · rcases List.mem_cons.1 h with h | h
        · exact .inl h
        · exact .inr h
theorem putIn_len {x : Item} : ∀ {l : List Item}, (putIn x l).length ≤ l.length + 1
  | [] => by simp [putIn]
  | z :: l => by
    have := putIn_len (x := x) (l := l)
    simp only [putIn]
    split
    · simp
    · split
      · simp; omega
      · simp
theorem putIn_sm {s : Store} {x : Item} (n : Int) (h : Store.sm s) (hx : Item.sm x) (hl : s.Items.length ≤ 6) : Store.sm ⟨putIn x s.Items, n⟩ := by
  refine ⟨?_, fun y hy => ?_⟩
  · have := putIn_len (x := x) (l := s.Items)
    show (putIn x s.Items).length ≤ 1048576
    omega
  · rcases putIn_mem hy with rfl | hy
    · exact hx
    · exact h.2 _ hy
theorem slc_drop {α : Type} (l : List α) (i : Nat) (h : i ≤ l.length) : slc l (i : Int) (l.length : Int) = some (l.drop i) := by
  simp only [slc]; rw [if_pos ⟨by omega, by omega, by omega⟩]; simp [cut]
/-- Put -/
theorem put_same (s : Store) (o : Order) (h : Store.sm s) (ho : Order.sm o) : ∃ r : Store × Bool, impl_Put s o = some r ∧ spec_Put s o = some r ∧ (r.2 = true → RightS s ∧ RightS r.1 ∧ r.1 = ⟨putIn ⟨o, s.Next⟩ s.Items, s.Next + 1⟩) ∧ (r.2 = false → r.1 = s) := by
  obtain ⟨b, b1, b2, b3⟩ := storeOk_right s h
  have hx : Item.sm ⟨o, s.Next⟩ := ho
  simp only [impl_Put, spec_Put, put_some' s.Items ⟨o, s.Next⟩ h hx, l13Copy_some s h, copyStore_some s h, b1, b2, bind_some']
  cases b with
  | false => exact ⟨(s, false), rfl, rfl, fun e => by simp at e, fun _ => rfl⟩
  | true =>
    have R := b3.1 rfl
    have hup : Asc s.Items := R.up
    have hn : IntKind.i64.wrap (s.Next + 1) = s.Next + 1 := w64_id (by have := R.n1; omega) (by have := R.n2; omega)
    have hlen := R.len
    obtain ⟨c, c1, c2, c3⟩ := storeOk_right ⟨putIn ⟨o, s.Next⟩ s.Items, s.Next + 1⟩ (putIn_sm _ h hx hlen)
    have hend : ∃ r : Store × Bool, (if (!c) = true then some (s, false) else some (Store.mk (putIn ⟨o, s.Next⟩ s.Items) (s.Next + 1), true)) = some r ∧ (r.2 = true → RightS s ∧ RightS r.1 ∧ r.1 = ⟨putIn ⟨o, s.Next⟩ s.Items, s.Next + 1⟩) ∧ (r.2 = false → r.1 = s) := by
      cases c with
      | false => exact ⟨_, rfl, fun e => by simp at e, fun _ => rfl⟩
      | true => exact ⟨_, rfl, fun _ => ⟨R, c3.1 rfl, rfl⟩, fun e => by simp at e⟩
    obtain ⟨r, r1, r2⟩ := hend
    refine ⟨r, ?_, ?_, r2⟩
    · rw [putAt_asc _ _ hup, hn, c2]
      exact r1
    · simp only [Bool.not_true, Bool.false_eq_true, if_false, l6Copy_some o ho, bind_some', l13At_some s _ h.1]
      rcases pos_some (l := s.Items) (n := o.Name) with ⟨i, e, hi, hname⟩ | ⟨e, hno⟩
      · rw [e]
        have d1 : decide ((i : Int) ≥ 0) = true := by simp
        simp only [d1, if_true, ix_nat, List.getElem?_eq_getElem hi, bind_some', put_nat hi]
        rw [set_putIn ⟨o, s.Next⟩ s.Items i hi hup hname, hn, c1]
        exact r1
      · rw [e]
        have d1 : decide ((-1 : Int) ≥ 0) = false := rfl
        have hk : (s.Items.findIdx fun y => !(slt y.Order.Name o.Name)) ≤ s.Items.length := List.findIdx_le_length
        have hf := first_putIn ⟨o, s.Next⟩ s.Items hup hno
        simp only [d1, Bool.false_eq_true, if_false, specPut_l0 o s h.1, bind_some']
        generalize (s.Items.findIdx fun y => !(slt y.Order.Name o.Name)) = k at hk hf
        rw [slc_take _ _ hk, slc_drop _ _ hk]
        simp only [bind_some']
        rw [app_ok (by simp; omega)]
        simp only [bind_some', List.nil_append]
        rw [app_ok (by simp; omega)]
        simp only [bind_some']
        rw [app_ok (by simp; omega)]
        simp only [bind_some']
        rw [hf, hn, c1]
        exact r1
/-- Drop -/
theorem drop_same (s : Store) (n : Str) (h : Store.sm s) : ∃ r : Store × Bool, impl_Drop s n = some r ∧ spec_Drop s n = some r ∧ (r.2 = true → RightS s ∧ ∃ (i : Nat) (hi : i < s.Items.length), s.Items[i].Order.Name = n ∧ r.1 = ⟨s.Items.eraseIdx i, s.Next⟩) ∧ (r.2 = false → r.1 = s) := by
  obtain ⟨b, b1, b2, b3⟩ := storeOk_right s h
  have hl : s.Items.length ≤ 1048576 := h.1
  simp only [impl_Drop, spec_Drop, l13Copy_some s h, copyStore_some s h, l13At_some s n h.1, placeOf_some _ n h.1, b1, b2, bind_some']
  cases b with
  | false => exact ⟨(s, false), rfl, rfl, fun e => by simp at e, fun _ => rfl⟩
  | true =>
    have R := b3.1 rfl
    simp only [Bool.not_true, Bool.false_eq_true, if_false]
    rcases pos_some (l := s.Items) (n := n) with ⟨i, e, hi, hname⟩ | ⟨e, hno⟩
    · rw [e]
      have d1 : decide ((i : Int) < 0) = false := by simp
      simp only [d1, Bool.false_eq_true, if_false, w64_succ (show i < 9223372036854775807 by omega), slices_Delete_Simpl_Item_impl_Item]
      refine ⟨(⟨s.Items.eraseIdx i, s.Next⟩, true), ?_, ?_, fun _ => ⟨R, i, hi, hname, rfl⟩, fun e => by simp at e⟩
      · simp only [Nt.del]
        rw [if_pos ⟨by omega, by omega, by omega, by omega⟩]
        simp only [bind_some', Int.toNat_natCast, List.eraseIdx_eq_take_drop_succ]
      · rw [slc_take _ _ (by omega), slc_drop _ _ hi]
        simp only [bind_some']
        rw [app_ok (by simp; omega)]
        simp only [bind_some', List.nil_append]
        rw [app_ok (by simp; omega)]
        simp only [bind_some', List.eraseIdx_eq_take_drop_succ]
    · rw [e]
      exact ⟨(s, false), rfl, rfl, fun e => by simp at e, fun _ => rfl⟩
theorem RightS.erase {s : Store} (R : RightS s) (i : Nat) : RightS ⟨s.Items.eraseIdx i, s.Next⟩ := by
  have hs : (s.Items.eraseIdx i).Sublist s.Items := List.eraseIdx_sublist _ _
  refine ⟨R.n1, R.n2, ?_, fun x hx => R.ok x (hs.subset hx), R.up.sublist hs, R.vs.sublist hs⟩
  have := hs.length_le; have := R.len
  show (s.Items.eraseIdx i).length ≤ 6
  omega
theorem erase_ne {s : Store} (R : RightS s) (i : Nat) (hi : i < s.Items.length) : ∀ y ∈ s.Items.eraseIdx i, y.Order.Name ≠ s.Items[i].Order.Name := by
  intro y hy e
  obtain ⟨j, hj, hji, rfl⟩ : ∃ j, ∃ hj : j < s.Items.length, j ≠ i ∧ s.Items[j] = y := by
    rw [List.eraseIdx_eq_take_drop_succ] at hy
    rcases List.mem_append.1 hy with hy | hy
    · obtain ⟨k, hk, rfl⟩ := List.mem_iff_getElem.1 hy
      simp only [List.length_take] at hk
      exact ⟨k, by omega, by omega, by simp⟩
    · obtain ⟨k, hk, rfl⟩ := List.mem_iff_getElem.1 hy
      simp only [List.length_drop] at hk
      exact ⟨i + 1 + k, by omega, by omega, by simp⟩
  have up := List.pairwise_iff_getElem.1 R.up
  rcases Nat.lt_or_gt_of_ne hji with hlt | hlt
  · have := up j i hj hi hlt
    rw [e, slt_irrefl] at this; simp at this
  · have := up i j hi hj hlt
    rw [e, slt_irrefl] at this; simp at this
theorem find_no (s : Store) (n : Str) (h : Store.sm s) (hno : ∀ y ∈ s.Items, y.Order.Name ≠ n) : impl_Find s n = some ((Item.mk (Order.mk [] [] 0 0 [] (Pace.mk 0 0 0 0) []) 0), false) := by
  simp only [impl_Find, placeOf_some _ n h.1, bind_some']
  rcases pos_some (l := s.Items) (n := n) with ⟨i, e, hi, hname⟩ | ⟨e, _⟩
  · exact absurd hname (hno _ (List.getElem_mem hi))
  · rw [e]; rfl
theorem find_yes (s : Store) (x : Item) (h : Store.sm s) (hx : x ∈ s.Items) (R : Asc s.Items) : impl_Find s x.Order.Name = some (x, true) := by
  simp only [impl_Find, placeOf_some _ _ h.1, bind_some']
  rcases pos_some (l := s.Items) (n := x.Order.Name) with ⟨i, e, hi, hname⟩ | ⟨_, hno⟩
  · rw [e]
    have d1 : decide ((i : Int) < 0) = false := by simp
    have : s.Items[i] = x := by
      obtain ⟨j, hj, rfl⟩ := List.mem_iff_getElem.1 hx
      have up := List.pairwise_iff_getElem.1 R
      rcases Nat.lt_trichotomy i j with hlt | rfl | hlt
      · have := up i j hi hj hlt
        rw [hname, slt_irrefl] at this; simp at this
      · rfl
      · have := up j i hj hi hlt
        rw [hname, slt_irrefl] at this; simp at this
    simp only [d1, Bool.false_eq_true, if_false, ix_nat, List.getElem?_eq_getElem hi, bind_some', this, copyItem_some x (h.2 _ hx)]
  · exact absurd rfl (hno _ hx)
theorem putIn_self (x : Item) : ∀ l, x ∈ putIn x l
  | [] => by simp [putIn]
  | y :: l => by
    simp only [putIn]
    split
    · simp
    · split
      · simp [putIn_self x l]
      · simp
theorem putIn_old {x y : Item} (hne : y.Order.Name ≠ x.Order.Name) : ∀ {l : List Item}, y ∈ l → y ∈ putIn x l
  | z :: l, h => by
    simp only [putIn]
    rcases List.mem_cons.1 h with rfl | h
    · rw [if_neg (by simpa using hne)]
      split <;> simp
    · split
      · simp [h]
      · split
        · simp [putIn_old hne h]
        · simp [h]
/-- drawn stores -/
def StoreD (k : Nat) (s : Store) : Prop := s.Items.length ≤ k ∧ ∀ x ∈ s.Items, OrderD x.Order
theorem StoreD.sm {k : Nat} {s : Store} (h : StoreD k s) (hk : k ≤ 1048576) : Store.sm s := by
  have := h.1
  exact ⟨by omega, fun x hx => (h.2 x hx).sm⟩
theorem put_D {s : Store} {o : Order} {r : Store × Bool} (h : StoreD 6 s) (ho : OrderD o) (h1 : r.2 = true → RightS s ∧ RightS r.1 ∧ r.1 = ⟨putIn ⟨o, s.Next⟩ s.Items, s.Next + 1⟩) (h2 : r.2 = false → r.1 = s) : StoreD 6 r.1 := by
  cases hr : r.2 with
  | false => rw [h2 hr]; exact h
  | true =>
    obtain ⟨_, R, e⟩ := h1 hr
    refine ⟨R.len, fun x hx => ?_⟩
    rw [e] at hx
    rcases putIn_mem hx with rfl | hx
    · exact ho
    · exact h.2 x hx
theorem drop_D {k : Nat} {s : Store} {n : Str} {r : Store × Bool} (h : StoreD k s) (h1 : r.2 = true → RightS s ∧ ∃ (i : Nat) (hi : i < s.Items.length), s.Items[i].Order.Name = n ∧ r.1 = ⟨s.Items.eraseIdx i, s.Next⟩) (h2 : r.2 = false → r.1 = s) : StoreD k r.1 := by
  cases hr : r.2 with
  | false => rw [h2 hr]; exact h
  | true =>
    obtain ⟨_, i, hi, _, e⟩ := h1 hr
    rw [e]
    have hs : (s.Items.eraseIdx i).Sublist s.Items := List.eraseIdx_sublist _ _
    exact ⟨Nat.le_trans hs.length_le h.1, fun x hx => h.2 x (hs.subset hx)⟩
theorem l13DrawRight_sp (c : L1Cur) (h : Cur c) : ∃ s d, spec_l13DrawRight c = some (s, d) ∧ StoreD 6 s ∧ Cur d := by
  have key : ∀ i : Nat, i ≤ 6 → ∀ (c : L1Cur) (s : Store), Cur c → StoreD 6 s → ∃ b i' h' n l, spec_l13DrawRight.l0 i c.b c.i c.h s.Next s.Items = some (b, i', h', n, l) ∧ StoreD 6 ⟨l, n⟩ ∧ Cur ⟨b, i', h'⟩ := by
    refine down _ fun i hi ih => ?_
    intro c s hc hs
    rw [spec_l13DrawRight.l0]
    obtain ⟨x, d, e, x0, x1, hd⟩ := below_sp c 6 hc (by omega)
    have e' : spec_l1Below (L1Cur.mk c.b c.i c.h) 6 = some (x, d) := e
    simp only [e', bind_some']
    by_cases hlt : (i : Int) < x
    · obtain ⟨b, d2, e2, hd2⟩ := once_sp d 6 hd (by omega)
      have e2' : spec_l1Once (L1Cur.mk d.b d.i d.h) 6 = some (b, d2) := e2
      have g : decide ((i : Int) < x) = true := by simpa using hlt
      have hi6 : i < 6 := by omega
      simp only [g, if_true, e2', bind_some', w64_succ (show i < 9223372036854775807 by omega)]
      cases b
      · obtain ⟨o, d3, e3, ⟨ho, _⟩, hd3⟩ := drawRight_sp d2 hd2
        have e3' : spec_l6DrawRight (L1Cur.mk d2.b d2.i d2.h) = some (o, d3) := e3
        obtain ⟨r, _, r2, r3, r4⟩ := put_same s o (hs.sm (by omega)) ho.sm
        have r2' : spec_Put (Store.mk s.Items s.Next) (Order.mk o.Name o.Target o.Low o.High o.Metrics (Pace.mk o.Pace.Up o.Pace.Down o.Pace.UpSpan o.Pace.DownSpan) o.Notes) = some r := r2
        simp only [Bool.false_eq_true, if_false, e3', r2', bind_some']
        exact ih hi6 d3 r.1 hd3 (put_D hs ho r3 r4)
      · obtain ⟨n, d3, e3, _, hd3⟩ := pick_sp d2 [[119, 101, 98], [97, 112, 105]] hd2 (by simp)
        have e3' : spec_l1Pick (L1Cur.mk d2.b d2.i d2.h) ([[119, 101, 98], [97, 112, 105]] : List Str) = some (n, d3) := e3
        obtain ⟨r, _, r2, r3, r4⟩ := drop_same s n (hs.sm (by omega))
        have r2' : spec_Drop (Store.mk s.Items s.Next) n = some r := r2
        simp only [if_true, e3', r2', bind_some']
        exact ih hi6 d3 r.1 hd3 (drop_D hs r3 r4)
    · rw [if_neg (by simpa using hlt)]
      exact ⟨_, _, _, _, _, rfl, hs, hd⟩
  obtain ⟨b, i', h', n, l, e, g1, g2⟩ := key 0 (by omega) c ⟨[], 1⟩ h ⟨by simp, fun x hx => by simp at hx⟩
  have e' : spec_l13DrawRight.l0 0 c.b c.i c.h 1 [] = some (b, i', h', n, l) := e
  simp only [spec_l13DrawRight, spec_StoreNew, bind_some', e']
  exact ⟨_, _, rfl, g1, g2⟩
theorem l13Draw_sp (c : L1Cur) (h : Cur c) : ∃ s d, spec_l13Draw c = some (s, d) ∧ StoreD 7 s ∧ Cur d := by
  obtain ⟨s, c1, e1, hs, h1⟩ := l13DrawRight_sp c h
  obtain ⟨k, c2, e2, k0, k1, h2⟩ := below_sp c1 12 h1 (by omega)
  have e2' : spec_l1Below (L1Cur.mk c1.b c1.i c1.h) 12 = some (k, c2) := e2
  have hs7 : StoreD 7 s := ⟨Nat.le_trans hs.1 (by omega), hs.2⟩
  unfold spec_l13Draw
  rw [e1, bind_some']
  dsimp only
  rw [e2', bind_some']
  dsimp only
  by_cases hk0 : (k == 0) = true
  · rw [if_pos hk0]
    obtain ⟨x, c3, e3, _, h3⟩ := pickInt_sp c2 [0, 1, 100000, 100001] h2 (by simp)
    have e3' : spec_l1PickInt (L1Cur.mk c2.b c2.i c2.h) ([0, 1, 100000, 100001] : List Int) = some (x, c3) := e3
    rw [e3', bind_some']
    exact ⟨_, _, rfl, hs7, h3⟩
  rw [if_neg hk0]
  by_cases hk1 : (k == 1) = true
  · rw [if_pos hk1]
    obtain ⟨o, c3, e3, ho, h3⟩ := draw6_sp c2 h2
    have e3' : spec_l6Draw (L1Cur.mk c2.b c2.i c2.h) = some (o, c3) := e3
    obtain ⟨v, c4, e4, _, _, h4⟩ := below_sp c3 4 h3 (by omega)
    have e4' : spec_l1Below (L1Cur.mk c3.b c3.i c3.h) 4 = some (v, c4) := e4
    have := hs.1
    rw [e3', bind_some']
    dsimp only
    rw [e4', bind_some', app_ok (by simp; omega), bind_some']
    refine ⟨_, _, rfl, ⟨by simp; omega, fun x hx => ?_⟩, h4⟩
    rcases List.mem_append.1 hx with hx | hx
    · exact hs.2 x hx
    · rw [List.mem_singleton.1 hx]; exact ho
  rw [if_neg hk1]
  by_cases hk2 : (k == 2) = true
  · rw [if_pos hk2]
    by_cases hpos : 0 < s.Items.length
    · rw [if_pos (by simpa using hpos)]
      obtain ⟨x, c3, e3, _, h3⟩ := pickInt_sp c2 [0, 1, 2, 9] h2 (by simp)
      have e3' : spec_l1PickInt (L1Cur.mk c2.b c2.i c2.h) ([0, 1, 2, 9] : List Int) = some (x, c3) := e3
      have i0 : ix s.Items 0 = some s.Items[0] := by
        have := ix_nat (l := s.Items) (i := 0)
        rw [List.getElem?_eq_getElem hpos] at this
        exact this
      have p0 : ∀ y, Nt.put s.Items 0 y = some (s.Items.set 0 y) := fun y => put_nat (i := 0) hpos
      rw [e3', bind_some', i0, bind_some', p0, bind_some']
      refine ⟨_, _, rfl, ⟨by simpa using hs7.1, fun y hy => ?_⟩, h3⟩
      rcases List.mem_or_eq_of_mem_set hy with hy | rfl
      · exact hs.2 y hy
      · exact hs.2 s.Items[0] (List.getElem_mem hpos)
    · rw [if_neg (by simpa using hpos)]
      exact ⟨_, _, rfl, hs7, h2⟩
  rw [if_neg hk2]
  exact ⟨_, _, rfl, hs7, h2⟩
theorem DrawPut_sp (a : List Int) (ha : a.length ≤ 1048576) : ∃ s o, spec_DrawPut a = some (s, o) ∧ StoreD 7 s ∧ OrderD o := by
  obtain ⟨c, e0, h0⟩ := new_sp a ha
  obtain ⟨s, c1, e1, hs, h1⟩ := l13Draw_sp c h0
  obtain ⟨o, c2, e2, ho, _⟩ := draw6_sp c1 h1
  have e2' : spec_l6Draw (L1Cur.mk c1.b c1.i c1.h) = some (o, c2) := e2
  simp only [spec_DrawPut, e0, e1, e2', bind_some']
  exact ⟨_, _, rfl, hs, ho⟩
theorem DrawFind_sp (a : List Int) (ha : a.length ≤ 1048576) : ∃ s n, spec_DrawFind a = some (s, n) ∧ StoreD 7 s := by
  obtain ⟨c, e0, h0⟩ := new_sp a ha
  obtain ⟨s, c1, e1, hs, h1⟩ := l13Draw_sp c h0
  obtain ⟨n, c2, e2, _, _⟩ := pick_sp c1 [[119, 101, 98], [97, 112, 105], [106, 111, 98, 45, 49], [110, 111, 110, 101]] h1 (by simp)
  have e2' : spec_l1Pick (L1Cur.mk c1.b c1.i c1.h) ([[119, 101, 98], [97, 112, 105], [106, 111, 98, 45, 49], [110, 111, 110, 101]] : List Str) = some (n, c2) := e2
  simp only [spec_DrawFind, e0, e1, spec_l13DrawName, e2', bind_some']
  exact ⟨_, _, rfl, hs⟩
theorem DrawDrop_sp (a : List Int) (ha : a.length ≤ 1048576) : ∃ s n, spec_DrawDrop a = some (s, n) ∧ StoreD 7 s := by
  obtain ⟨s, n, e, hs⟩ := DrawFind_sp a ha
  simp only [spec_DrawDrop, e, bind_some']
  exact ⟨_, _, rfl, hs⟩
theorem eqMetrics_self (l : List Metric) (h : l.length ≤ 1048576) : slices_Equal_Simpl_Metric_impl_Metric l l = some true := by
  have key : ∀ i : Nat, i ≤ l.length → slices_Equal_Simpl_Metric_impl_Metric.l0 l l i = some (.inr ()) := by
    refine down _ fun i hi ih => ?_
    rw [slices_Equal_Simpl_Metric_impl_Metric.l0]
    by_cases hlt : i < l.length
    · have c : decide ((i : Int) < (l.length : Int)) = true := by simpa using hlt
      simp only [c, if_true, ix_nat, List.getElem?_eq_getElem hlt, bind_some', beq_self_eq_true, Bool.and_self, Bool.not_true, Bool.false_eq_true, if_false, w64_succ (show i < 9223372036854775807 by omega)]
      exact ih hlt
    · rw [if_neg (by simpa using hlt)]
  have := key 0 (by omega)
  simp only [Int.natCast_zero] at this
  simp only [slices_Equal_Simpl_Metric_impl_Metric, bne_self_eq_false, Bool.false_eq_true, if_false, this, bind_some']
theorem eqNotes_self (l : List Note) (h : l.length ≤ 1048576) : slices_Equal_Simpl_Note_impl_Note l l = some true := by
  have key : ∀ i : Nat, i ≤ l.length → slices_Equal_Simpl_Note_impl_Note.l0 l l i = some (.inr ()) := by
    refine down _ fun i hi ih => ?_
    rw [slices_Equal_Simpl_Note_impl_Note.l0]
    by_cases hlt : i < l.length
    · have c : decide ((i : Int) < (l.length : Int)) = true := by simpa using hlt
      simp only [c, if_true, ix_nat, List.getElem?_eq_getElem hlt, bind_some', beq_self_eq_true, Bool.and_self, Bool.not_true, Bool.false_eq_true, if_false, w64_succ (show i < 9223372036854775807 by omega)]
      exact ih hlt
    · rw [if_neg (by simpa using hlt)]
  have := key 0 (by omega)
  simp only [Int.natCast_zero] at this
  simp only [slices_Equal_Simpl_Note_impl_Note, bne_self_eq_false, Bool.false_eq_true, if_false, this, bind_some']
theorem orderSame_self (o : Order) (h : Order.sm o) : impl_OrderSame o o = some true := by
  simp only [impl_OrderSame, beq_self_eq_true, if_true, eqMetrics_self _ h.2.2.1.1, eqNotes_self _ h.2.2.2.1, bind_some', Bool.and_self]
theorem spOrderSame_self (o : Order) (h : Order.sm o) : spec_OrderSame o o = some true := by
  have hm : o.Metrics.length ≤ 1048576 := h.2.2.1.1
  have hn : o.Notes.length ≤ 1048576 := h.2.2.2.1
  have k0 : ∀ i : Nat, i ≤ o.Metrics.length → spec_OrderSame.l0 o o i = some (.inr ()) := by
    refine down _ fun i hi ih => ?_
    rw [spec_OrderSame.l0]
    by_cases hlt : i < o.Metrics.length
    · have c : decide ((i : Int) < (o.Metrics.length : Int)) = true := by simpa using hlt
      simp only [c, if_true, ix_nat, List.getElem?_eq_getElem hlt, bind_some', beq_self_eq_true, Bool.and_self, Bool.not_true, Bool.false_eq_true, if_false, w64_succ (show i < 9223372036854775807 by omega)]
      exact ih hlt
    · rw [if_neg (by simpa using hlt)]
  have k1 : ∀ i : Nat, i ≤ o.Notes.length → spec_OrderSame.l1 o o i = some (.inr ()) := by
    refine down _ fun i hi ih => ?_
    rw [spec_OrderSame.l1]
    by_cases hlt : i < o.Notes.length
    · have c : decide ((i : Int) < (o.Notes.length : Int)) = true := by simpa using hlt
      simp only [c, if_true, ix_nat, List.getElem?_eq_getElem hlt, bind_some', beq_self_eq_true, Bool.and_self, Bool.not_true, Bool.false_eq_true, if_false, w64_succ (show i < 9223372036854775807 by omega)]
      exact ih hlt
    · rw [if_neg (by simpa using hlt)]
  have h0 := k0 0 (by omega)
  have h1 := k1 0 (by omega)
  simp only [Int.natCast_zero] at h0 h1
  simp only [spec_OrderSame, beq_self_eq_true, bne_self_eq_false, Bool.and_self, Bool.not_true, Bool.false_eq_true, if_false, h0, h1, bind_some']
theorem sameStore_self (s : Store) (h : Store.sm s) : laws_sameStore s s = some true := by
  have hl : s.Items.length ≤ 1048576 := h.1
  have key : ∀ i : Nat, i ≤ s.Items.length → laws_sameStore.l0 s s i = some (.inr ()) := by
    refine down _ fun i hi ih => ?_
    rw [laws_sameStore.l0]
    by_cases hlt : i < s.Items.length
    · have c : decide ((i : Int) < (s.Items.length : Int)) = true := by simpa using hlt
      simp only [c, if_true, ix_nat, List.getElem?_eq_getElem hlt, bind_some', bne_self_eq_false, spOrderSame_self _ (h.2 _ (List.getElem_mem hlt)), Bool.not_true, Bool.false_eq_true, if_false, w64_succ (show i < 9223372036854775807 by omega)]
      exact ih hlt
    · rw [if_neg (by simpa using hlt)]
  have := key 0 (by omega)
  simp only [Int.natCast_zero] at this
  simp only [laws_sameStore, bne_self_eq_false, Bool.false_eq_true, if_false, this, bind_some']
theorem Pure.FnStore (a : List Int) (ha : okL okU a) : laws_FnStore a = some true := by
  unfold laws_FnStore
  rw [show laws_big a = some (decide ((a.length : Int) > 1048576)) from rfl, bind_some']
  by_cases hb : decide ((a.length : Int) > 1048576) = true
  · rw [if_pos hb]
  · rw [if_neg hb]
    have hl : a.length ≤ 1048576 := by simp at hb; omega
    obtain ⟨s, o, e1, hs, ho⟩ := DrawPut_sp a hl
    obtain ⟨t, n, e2, ht⟩ := DrawDrop_sp a hl
    obtain ⟨u, m, e3, hu⟩ := DrawFind_sp a hl
    have hsm := hs.sm (by omega)
    have htm := ht.sm (by omega)
    have hum := hu.sm (by omega)
    have hom := ho.sm
    obtain ⟨p, p1, p2, p3, p4⟩ := put_same s o hsm hom
    obtain ⟨d, d1, d2, d3, d4⟩ := drop_same t n htm
    obtain ⟨f, f1, f2⟩ := find_same u m hum
    obtain ⟨b, b1, b2, b3⟩ := storeOk_right s hsm
    have hpm : Store.sm p.1 := by
      cases hp : p.2 with
      | false => rw [p4 hp]; exact hsm
      | true => obtain ⟨R, _, e⟩ := p3 hp; rw [e]; exact putIn_sm _ hsm hom R.len
    have hdm : Store.sm d.1 := (drop_D ht d3 d4).sm (by omega)
    have hfm : Order.sm f.1.Order := by
      have := find_same u m hum
      simp only [impl_Find, placeOf_some _ m hum.1, bind_some'] at f2
      rcases pos_some (l := u.Items) (n := m) with ⟨i, e, hi, _⟩ | ⟨e, _⟩
      · rw [e] at f2
        have c : decide ((i : Int) < 0) = false := by simp
        simp only [c, Bool.false_eq_true, if_false, ix_nat, List.getElem?_eq_getElem hi, bind_some', copyItem_some _ (hum.2 _ (List.getElem_mem hi)), Option.some.injEq] at f2
        rw [← f2]; exact hum.2 _ (List.getElem_mem hi)
      · rw [e] at f2
        have f3 : f = ((Item.mk (Order.mk [] [] 0 0 [] (Pace.mk 0 0 0 0) []) 0), false) := (Option.some.inj f2).symm
        rw [f3]
        exact ⟨by simp [smS], by simp [smS], ⟨by simp, fun x hx => by simp at hx⟩, by simp, fun x hx => by simp at hx⟩
    -- the values as the law writes them
    have p1' : impl_Put (Store.mk s.Items s.Next) (Order.mk o.Name o.Target o.Low o.High o.Metrics (Pace.mk o.Pace.Up o.Pace.Down o.Pace.UpSpan o.Pace.DownSpan) o.Notes) = some p := p1
    have p2' : spec_Put (Store.mk s.Items s.Next) (Order.mk o.Name o.Target o.Low o.High o.Metrics (Pace.mk o.Pace.Up o.Pace.Down o.Pace.UpSpan o.Pace.DownSpan) o.Notes) = some p := p2
    have q1 : laws_sameStore (Store.mk p.1.Items p.1.Next) (Store.mk p.1.Items p.1.Next) = some true := sameStore_self p.1 hpm
    have q2 : laws_sameStore (Store.mk d.1.Items d.1.Next) (Store.mk d.1.Items d.1.Next) = some true := sameStore_self d.1 hdm
    have q3 : impl_OrderSame (Order.mk f.1.Order.Name f.1.Order.Target f.1.Order.Low f.1.Order.High f.1.Order.Metrics (Pace.mk f.1.Order.Pace.Up f.1.Order.Pace.Down f.1.Order.Pace.UpSpan f.1.Order.Pace.DownSpan) f.1.Order.Notes) (Order.mk f.1.Order.Name f.1.Order.Target f.1.Order.Low f.1.Order.High f.1.Order.Metrics (Pace.mk f.1.Order.Pace.Up f.1.Order.Pace.Down f.1.Order.Pace.UpSpan f.1.Order.Pace.DownSpan) f.1.Order.Notes) = some true := orderSame_self f.1.Order hfm
    have q4 : laws_sameStore (Store.mk [] 1) (Store.mk [] 1) = some true := sameStore_self _ ⟨by simp, fun x hx => by simp at hx⟩
    rw [e1, bind_some']
    rw [p1', bind_some', p2', bind_some', e2, bind_some']
    have d1' : impl_Drop (Store.mk t.Items t.Next) n = some d := d1
    have d2' : spec_Drop (Store.mk t.Items t.Next) n = some d := d2
    have f1' : spec_Find (Store.mk u.Items u.Next) m = some f := f1
    have f2' : impl_Find (Store.mk u.Items u.Next) m = some f := f2
    have b1' : spec_StoreOk (Store.mk s.Items s.Next) = some b := b1
    have b2' : impl_StoreOk (Store.mk s.Items s.Next) = some b := b2
    rw [d1', bind_some', d2', bind_some', e3, bind_some', f2', bind_some', f1', bind_some']
    rw [if_neg (by simp), q1, bind_some', if_neg (by simp), if_neg (by simp), q2, bind_some', if_neg (by simp), if_neg (by simp), if_neg (by simp), q3, bind_some', if_neg (by simp)]
    rw [b2', bind_some', b1', bind_some', if_neg (by simp)]
    simp only [impl_StoreNew, spec_StoreNew, bind_some', q4, Bool.not_true, Bool.false_eq_true, if_false]
    -- what stands at the end
    have l0_l1 : ∀ i : Nat, i ≤ s.Items.length → laws_FnStore.l0 (s, o) p i = laws_FnStore.l1 (s, o) p i := by
      refine down _ fun i hi ih => ?_
      rw [laws_FnStore.l0, laws_FnStore.l1]
      by_cases hlt : i < s.Items.length
      · rw [w64_succ (show i < 9223372036854775807 by have := hs.1; omega), ih hlt]
      · rw [if_neg (by simpa using hlt), if_neg (by simpa using hlt)]
    have l00 := l0_l1 0 (by omega)
    simp only [Int.natCast_zero] at l00
    simp only [l00]
    have fin : (if (!p.2) = true then laws_sameStore (Store.mk p.1.Items p.1.Next) (Store.mk s.Items s.Next) >>= fun x33 => some x33 else (impl_Find (Store.mk p.1.Items p.1.Next) o.Name >>= fun x34 => (laws_FnStore.l1 (s, o) p 0 >>= fun s43 => match s43 with | .inl r => some r | .inr t40 => (if x34.2 = true then (if (x34.1.Ver == s.Next) = true then (if (p.1.Next == (IntKind.i64.wrap (s.Next + 1))) = true then (impl_OrderSame (Order.mk x34.1.Order.Name x34.1.Order.Target x34.1.Order.Low x34.1.Order.High x34.1.Order.Metrics (Pace.mk x34.1.Order.Pace.Up x34.1.Order.Pace.Down x34.1.Order.Pace.UpSpan x34.1.Order.Pace.DownSpan) x34.1.Order.Notes) (Order.mk o.Name o.Target o.Low o.High o.Metrics (Pace.mk o.Pace.Up o.Pace.Down o.Pace.UpSpan o.Pace.DownSpan) o.Notes) >>= fun x41 => (if x41 = true then (impl_StoreOk (Store.mk p.1.Items p.1.Next) >>= fun x42 => some x42) else some false)) else some false) else some false) else some false)))) = some true := by
      cases hp : p.2 with
      | false =>
        have q5 : laws_sameStore (Store.mk p.1.Items p.1.Next) (Store.mk s.Items s.Next) = some true := by
          rw [p4 hp]; exact sameStore_self s hsm
        simp only [Bool.not_false, if_true, q5, bind_some']
      | true =>
        obtain ⟨R, R2, e⟩ := p3 hp
        have hx : (⟨o, s.Next⟩ : Item) ∈ p.1.Items := by rw [e]; exact putIn_self _ _
        have g1 : impl_Find (Store.mk p.1.Items p.1.Next) o.Name = some (⟨o, s.Next⟩, true) := find_yes p.1 ⟨o, s.Next⟩ hpm hx R2.up
        have hn : IntKind.i64.wrap (s.Next + 1) = s.Next + 1 := w64_id (by have := R.n1; omega) (by have := R.n2; omega)
        have g2 : (p.1.Next == IntKind.i64.wrap (s.Next + 1)) = true := by rw [hn, e]; simp
        obtain ⟨c, c1, c2, c3⟩ := storeOk_right p.1 hpm
        have hc : c = true := c3.2 R2
        subst hc
        have g3 : impl_StoreOk (Store.mk p.1.Items p.1.Next) = some true := c2
        have g4 : impl_OrderSame (Order.mk o.Name o.Target o.Low o.High o.Metrics (Pace.mk o.Pace.Up o.Pace.Down o.Pace.UpSpan o.Pace.DownSpan) o.Notes) (Order.mk o.Name o.Target o.Low o.High o.Metrics (Pace.mk o.Pace.Up o.Pace.Down o.Pace.UpSpan o.Pace.DownSpan) o.Notes) = some true := orderSame_self o hom
        have key : ∀ i : Nat, i ≤ s.Items.length → laws_FnStore.l1 (s, o) p i = some (.inr ()) := by
          refine down _ fun i hi ih => ?_
          rw [laws_FnStore.l1]
          by_cases hlt : i < s.Items.length
          · have cc : decide ((i : Int) < (s.Items.length : Int)) = true := by simpa using hlt
            have hmem := List.getElem_mem hlt
            simp only [cc, if_true, ix_nat, List.getElem?_eq_getElem hlt, bind_some', w64_succ (show i < 9223372036854775807 by have := hs.1; omega)]
            by_cases hno : (s.Items[i].Order.Name == o.Name) = true
            · obtain ⟨w, w1, w2⟩ := find_same p.1 s.Items[i].Order.Name hpm
              have w2' : impl_Find (Store.mk p.1.Items p.1.Next) s.Items[i].Order.Name = some w := w2
              simp only [w2', bind_some', hno, Bool.not_true, Bool.false_eq_true, if_false]
              exact ih hlt
            · have hne : s.Items[i].Order.Name ≠ o.Name := by simpa using hno
              have hx2 : s.Items[i] ∈ p.1.Items := by rw [e]; exact putIn_old hne hmem
              have g5 : impl_Find (Store.mk p.1.Items p.1.Next) s.Items[i].Order.Name = some (s.Items[i], true) := find_yes p.1 _ hpm hx2 R2.up
              have hno' : (s.Items[i].Order.Name == o.Name) = false := by simpa using hno
              simp only [g5, bind_some', hno', Bool.not_false, if_true, Bool.not_true, Bool.false_eq_true, if_false, bne_self_eq_false]
              exact ih hlt
          · rw [if_neg (by simpa using hlt)]
        have key0 := key 0 (by omega)
        simp only [Int.natCast_zero] at key0
        simp only [Bool.not_true, Bool.false_eq_true, if_false, g1, key0, bind_some', if_true, beq_self_eq_true, g2, g4, g3]
    cases hd : d.2 with
    | false =>
      simp only [Bool.false_eq_true, if_false]
      exact fin
    | true =>
      obtain ⟨R, i, hi, hname, e⟩ := d3 hd
      have g1 : impl_Find (Store.mk d.1.Items d.1.Next) n = some ((Item.mk (Order.mk [] [] 0 0 [] (Pace.mk 0 0 0 0) []) 0), false) := by
        refine find_no d.1 n hdm ?_
        rw [e, ← hname]
        exact erase_ne R i hi
      have g2 : ((d.1.Items.length : Int) != IntKind.i64.wrap ((t.Items.length : Int) - 1)) = false := by
        rw [e, w64_id (by omega) (by have := R.len; omega)]
        have := List.length_eraseIdx_of_lt hi
        simp only [this, bne_eq_false_iff_eq]
        omega
      obtain ⟨c, c1, c2, c3⟩ := storeOk_right d.1 hdm
      have hc : c = true := c3.2 (by rw [e]; exact R.erase i)
      subst hc
      have g3 : impl_StoreOk (Store.mk d.1.Items d.1.Next) = some true := c2
      simp only [if_true, g1, g2, g3, bind_some', Bool.not_true, Bool.false_eq_true, if_false]
      exact fin
end Go.Pu
