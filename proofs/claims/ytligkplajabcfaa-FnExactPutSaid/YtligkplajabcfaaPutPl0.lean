import Derived.Test.YtligkplajabcfaaPutPu
set_option linter.unusedVariables false
set_option linter.unusedSimpArgs false
set_option synthInstance.maxSize 1000000000
namespace Go.Pu
open Go.Nt
theorem w64_id {n : Int} (h0 : -9223372036854775808 ≤ n) (h1 : n ≤ 9223372036854775807) : IntKind.i64.wrap n = n := by
  simp only [IntKind.wrap, IntKind.bits, IntKind.signed, Bool.true_and]
  split
  · rename_i h; simp at h; omega
  · rename_i h; simp at h; omega
theorem w64_succ {i : Nat} (h : i < 9223372036854775807) : IntKind.i64.wrap ((i : Int) + 1) = ((i + 1 : Nat) : Int) := by
  rw [w64_id (by omega) (by omega)]; omega
theorem ix_nat {α : Type} (l : List α) (i : Nat) : ix l (i : Int) = l[i]? := by simp [ix]
theorem put_nat {α : Type} {l : List α} {i : Nat} {x : α} (h : i < l.length) : Nt.put l (i : Int) x = some (l.set i x) := by simp [Nt.put, h]
theorem app_ok {α : Type} {b : Nat} {l m : List α} (h : (l.length + m.length) * b ≤ 70368744177664) : app b l m = some (l ++ m) := by
  simp only [app]; rw [if_pos h]
theorem mk_ok {α : Type} {b n : Nat} {x : α} (h : b * n ≤ 140737488355328) : Nt.mk b (n : Int) x = some (List.replicate n x) := by
  simp only [Nt.mk]; rw [if_pos ⟨by omega, by exact_mod_cast h⟩]; simp
/-- down from the end -/
theorem down {P : Nat → Prop} (n : Nat) (h : ∀ i, i ≤ n → (i < n → P (i + 1)) → P i) : ∀ i, i ≤ n → P i := by
  intro i hi
  obtain ⟨k, hk⟩ : ∃ k, k = n - i := ⟨_, rfl⟩
  induction k generalizing i with
  | zero => exact h i hi fun hlt => by omega
  | succ k ih => exact h i hi fun hlt => ih (i + 1) hlt (by omega)
theorem bind_some' {α β : Type} (x : α) (f : α → Option β) : (some x >>= f) = f x := rfl
theorem set_step {α : Type} {a v : List α} {i : Nat} (h : i < a.length) (hv : i < v.length) : some ((v.set i a[i]).take (i + 1) ++ a.drop (i + 1)) = some (v.take i ++ a.drop i) := by
  rw [List.take_set, List.take_add_one, List.getElem?_eq_getElem hv, List.set_append_right _ _ (by simp; omega), List.drop_eq_getElem_cons h]
  have : i - min i v.length = 0 := by omega
  simp [this]
def smL {α : Type} (p : α → Prop) (l : List α) : Prop := l.length ≤ 1048576 ∧ ∀ x ∈ l, p x
def smS (s : Str) : Prop := s.length ≤ 1048576
theorem in_some (a b c : Int) : spec_l1In a b c = some (decide (a ≥ b) && decide (a ≤ c)) := by
  simp only [spec_l1In]; by_cases h : a ≥ b <;> simp [h]
theorem from_some (a b c : Int) : impl_from a b c = some (decide (a ≥ b) && decide (a ≤ c)) := by
  simp only [impl_from]; by_cases h : a ≥ b <;> simp [h]
theorem nameOk_same (a : Str) (h : smS a) : ∃ b, spec_NameOk a = some b ∧ impl_NameOk a = some b := by
  unfold smS at h
  have key : ∀ i, i ≤ a.length → ∃ b, spec_NameOk.l0 a i = some b ∧ impl_NameOk.l0 a i = some b := by
    refine down _ fun i hi ih => ?_
    rw [spec_NameOk.l0, impl_NameOk.l0]
    by_cases hlt : i < a.length
    · have c : decide ((i : Int) < (a.length : Int)) = true := by simpa using hlt
      obtain ⟨b, e1, e2⟩ := ih hlt
      simp only [c, if_true, ix_nat, List.getElem?_eq_getElem hlt, bind_some', impl_isDigit, w64_succ (show i < 9223372036854775807 by omega), e1, e2]
      generalize byte a[i] = x
      by_cases h1 : x ≥ 97 <;> by_cases h2 : x ≤ 122 <;> by_cases h3 : i = 0 <;> by_cases h4 : x ≥ 48 <;> by_cases h5 : x ≤ 57 <;> by_cases h6 : x = 45 <;>
        first
        | omega
        | (have h3' : (i : Int) > 0 := by omega
           have h3'' : ¬ ((i : Int) = 0) := by omega
           have h7 : 0 < i := by omega
           simp [h1, h2, h3, h3', h3'', h7, h4, h5, h6, bind_some'])
        | (subst h3; simp [h1, h2, h4, h5, h6, bind_some'])
    · rw [if_neg (by simpa using hlt), if_neg (by simpa using hlt)]
      exact ⟨_, rfl, rfl⟩
  obtain ⟨b, e1, e2⟩ := key 0 (by omega)
  simp only [Int.natCast_zero] at e1 e2
  simp only [spec_NameOk, impl_NameOk, e1, e2, bind_some', in_some, from_some]
  cases b with
  | inl r => exact ⟨_, rfl, rfl⟩
  | inr u => exact ⟨_, rfl, rfl⟩
def Metric.sm (x : Metric) : Prop := smS x.Name
theorem szMetric_sp (x : Metric) (left : Int) (h : Metric.ok x) (h0 : 0 ≤ left) (h1 : left ≤ 1048576) : ∃ r, laws_szMetric x left = some r ∧ r ≤ left ∧ (r < 0 ∨ Metric.sm x) := by
  have := h.1
  unfold okS at this
  simp only [laws_szMetric, Metric.sm, smS]
  rw [w64_id (by omega) (by omega)]
  split
  · exact ⟨_, rfl, by omega, .inl (by omega)⟩
  · rename_i h; simp at h; exact ⟨_, rfl, by omega, .inr (by omega)⟩
theorem metricOk_same (m : Metric) (h : Metric.sm m) : ∃ b, spec_MetricOk m = some b ∧ impl_MetricOk m = some b := by
  obtain ⟨n, n1, n2⟩ := nameOk_same m.Name h
  simp only [spec_MetricOk, impl_MetricOk, n1, n2, bind_some', in_some, from_some]
  repeat' split
  all_goals exact ⟨_, rfl, rfl⟩
theorem toMetricS_some (a : List Metric) (h : smL Metric.sm a) : laws_toMetricS a = some a := by
  have hl : a.length ≤ 1048576 := h.1
  have key : ∀ i, i ≤ a.length → ∀ v : List Metric, v.length = a.length → laws_toMetricS.l0 a i v = some (v.take i ++ a.drop i) := by
    refine down _ fun i hi ih v hv => ?_
    rw [laws_toMetricS.l0]
    by_cases hlt : i < a.length
    · have c : decide ((i : Int) < (a.length : Int)) = true := by simpa using hlt
      have hv' : i < v.length := by omega
      simp only [c, if_true, ix_nat, List.getElem?_eq_getElem hlt, List.getElem?_eq_getElem hv', bind_some', laws_toMetric, put_nat hv', w64_succ (show i < 9223372036854775807 by omega)]
      rw [ih hlt _ (by simpa using hv), set_step hlt hv']
    · rw [if_neg (by simpa using hlt)]
      obtain rfl : i = a.length := by omega
      simp [List.take_of_length_le, hv]
  simp only [laws_toMetricS]
  rw [mk_ok (by omega)]
  simp only [bind_some']
  have := fun z => key 0 (by omega) (List.replicate a.length z) (by simp)
  simp only [Int.natCast_zero] at this
  simp only [this, bind_some']; simp
theorem eqMetricS_self (a : List Metric) (h : smL Metric.sm a) : laws_eqMetricS a a = some true := by
  have hl : a.length ≤ 1048576 := h.1
  have key : ∀ i, i ≤ a.length → laws_eqMetricS.l0 a a i = some (.inr ()) := by
    refine down _ fun i hi ih => ?_
    rw [laws_eqMetricS.l0]
    by_cases hlt : i < a.length
    · have c : decide ((i : Int) < (a.length : Int)) = true := by simpa using hlt
      simp only [c, if_true, ix_nat, List.getElem?_eq_getElem hlt, bind_some', laws_eqMetric, bne_self_eq_false, beq_self_eq_true, Bool.false_eq_true, if_false, Bool.not_true, w64_succ (show i < 9223372036854775807 by omega)]
      exact ih hlt
    · rw [if_neg (by simpa using hlt)]
  simp only [laws_eqMetricS, bne_self_eq_false, Bool.false_eq_true, if_false]
  have := key 0 (by omega)
  simp only [Int.natCast_zero] at this
  rw [this]; rfl
theorem szMetricS_sp (a : List Metric) (left : Int) (ha : okL Metric.ok a) (h0 : 0 ≤ left) (h1 : left ≤ 1048576) : ∃ r, laws_szMetricS a left = some r ∧ r ≤ left ∧ (r < 0 ∨ smL Metric.sm a) := by
  have hl := ha.1
  simp only [laws_szMetricS]
  rw [w64_id (by omega) (by omega)]
  by_cases h : left < a.length
  · rw [if_pos (by simp; omega)]; exact ⟨_, rfl, by omega, .inl (by omega)⟩
  · rw [if_neg (by simp; omega)]
    have key : ∀ i, i ≤ a.length → ∀ left : Int, 0 ≤ left → left ≤ 1048576 → (∃ r, laws_szMetricS.l0 a left i = some (.inl r) ∧ r < 0) ∨ ∃ r, laws_szMetricS.l0 a left i = some (.inr r) ∧ 0 ≤ r ∧ r ≤ left ∧ ∀ x ∈ a.drop i, Metric.sm x := by
      refine down _ fun i hi ih left h0 h1 => ?_
      rw [laws_szMetricS.l0]
      by_cases hlt : i < a.length
      · have c : decide ((i : Int) < (a.length : Int)) = true := by simpa using hlt
        obtain ⟨r, e, hr, hs⟩ := szMetric_sp a[i] left (ha.2 _ (List.getElem_mem hlt)) h0 h1
        simp only [c, if_true, ix_nat, List.getElem?_eq_getElem hlt, bind_some', e, w64_succ (show i < 9223372036854775807 by omega)]
        by_cases hn : r < 0
        · rw [if_pos (by simpa using hn)]; exact .inl ⟨_, rfl, by omega⟩
        · rw [if_neg (by simpa using hn)]
          rcases ih hlt r (by omega) (by omega) with ⟨q, e2, h2⟩ | ⟨q, e2, h2, h3, h4⟩
          · exact .inl ⟨q, e2, h2⟩
          · refine .inr ⟨q, e2, h2, by omega, fun x hx => ?_⟩
            rw [List.drop_eq_getElem_cons hlt] at hx
            rcases List.mem_cons.1 hx with rfl | hx
            · rcases hs with hs | hs
              · exact absurd hs hn
              · exact hs
            · exact h4 x hx
      · rw [if_neg (by simpa using hlt)]
        exact .inr ⟨_, rfl, h0, Int.le_refl _, by rw [List.drop_eq_nil_of_le (by omega)]; simp⟩
    rcases key 0 (by omega) (left - a.length) (by omega) (by omega) with ⟨q, e2, h2⟩ | ⟨q, e2, h2, h3, h4⟩
    · simp only [Int.natCast_zero] at e2
      rw [e2]; exact ⟨q, rfl, by omega, .inl h2⟩
    · simp only [Int.natCast_zero] at e2
      rw [e2]; exact ⟨q, rfl, by omega, .inr ⟨by omega, by simpa using h4⟩⟩
def Note.sm (x : Note) : Prop := smS x.Key ∧ smS x.Text
theorem szNote_sp (x : Note) (left : Int) (h : Note.ok x) (h0 : 0 ≤ left) (h1 : left ≤ 1048576) : ∃ r, laws_szNote x left = some r ∧ r ≤ left ∧ (r < 0 ∨ Note.sm x) := by
  have e1 := h.1
  have e2 := h.2
  unfold okS at e1 e2
  simp only [laws_szNote, Note.sm, smS]
  rw [w64_id (n := left - _) (by omega) (by omega)]
  split
  · exact ⟨_, rfl, by omega, .inl (by omega)⟩
  · rename_i h; simp at h
    rw [w64_id (by omega) (by omega)]
    split
    · exact ⟨_, rfl, by omega, .inl (by omega)⟩
    · rename_i h3; simp at h3; exact ⟨_, rfl, by omega, .inr ⟨by omega, by omega⟩⟩
theorem toNoteS_some (a : List Note) (h : smL Note.sm a) : laws_toNoteS a = some a := by
  have hl : a.length ≤ 1048576 := h.1
  have key : ∀ i, i ≤ a.length → ∀ v : List Note, v.length = a.length → laws_toNoteS.l0 a i v = some (v.take i ++ a.drop i) := by
    refine down _ fun i hi ih v hv => ?_
    rw [laws_toNoteS.l0]
    by_cases hlt : i < a.length
    · have c : decide ((i : Int) < (a.length : Int)) = true := by simpa using hlt
      have hv' : i < v.length := by omega
      simp only [c, if_true, ix_nat, List.getElem?_eq_getElem hlt, List.getElem?_eq_getElem hv', bind_some', laws_toNote, put_nat hv', w64_succ (show i < 9223372036854775807 by omega)]
      rw [ih hlt _ (by simpa using hv), set_step hlt hv']
    · rw [if_neg (by simpa using hlt)]
      obtain rfl : i = a.length := by omega
      simp [List.take_of_length_le, hv]
  simp only [laws_toNoteS]
  rw [mk_ok (by omega)]
  simp only [bind_some']
  have := fun z => key 0 (by omega) (List.replicate a.length z) (by simp)
  simp only [Int.natCast_zero] at this
  simp only [this, bind_some']; simp
theorem eqNoteS_self (a : List Note) (h : smL Note.sm a) : laws_eqNoteS a a = some true := by
  have hl : a.length ≤ 1048576 := h.1
  have key : ∀ i, i ≤ a.length → laws_eqNoteS.l0 a a i = some (.inr ()) := by
    refine down _ fun i hi ih => ?_
    rw [laws_eqNoteS.l0]
    by_cases hlt : i < a.length
    · have c : decide ((i : Int) < (a.length : Int)) = true := by simpa using hlt
      simp only [c, if_true, ix_nat, List.getElem?_eq_getElem hlt, bind_some', laws_eqNote, bne_self_eq_false, beq_self_eq_true, Bool.false_eq_true, if_false, Bool.not_true, w64_succ (show i < 9223372036854775807 by omega)]
      exact ih hlt
    · rw [if_neg (by simpa using hlt)]
  simp only [laws_eqNoteS, bne_self_eq_false, Bool.false_eq_true, if_false]
  have := key 0 (by omega)
  simp only [Int.natCast_zero] at this
  rw [this]; rfl
theorem szNoteS_sp (a : List Note) (left : Int) (ha : okL Note.ok a) (h0 : 0 ≤ left) (h1 : left ≤ 1048576) : ∃ r, laws_szNoteS a left = some r ∧ r ≤ left ∧ (r < 0 ∨ smL Note.sm a) := by
  have hl := ha.1
  simp only [laws_szNoteS]
  rw [w64_id (by omega) (by omega)]
  by_cases h : left < a.length
  · rw [if_pos (by simp; omega)]; exact ⟨_, rfl, by omega, .inl (by omega)⟩
  · rw [if_neg (by simp; omega)]
    have key : ∀ i, i ≤ a.length → ∀ left : Int, 0 ≤ left → left ≤ 1048576 → (∃ r, laws_szNoteS.l0 a left i = some (.inl r) ∧ r < 0) ∨ ∃ r, laws_szNoteS.l0 a left i = some (.inr r) ∧ 0 ≤ r ∧ r ≤ left ∧ ∀ x ∈ a.drop i, Note.sm x := by
      refine down _ fun i hi ih left h0 h1 => ?_
      rw [laws_szNoteS.l0]
      by_cases hlt : i < a.length
      · have c : decide ((i : Int) < (a.length : Int)) = true := by simpa using hlt
        obtain ⟨r, e, hr, hs⟩ := szNote_sp a[i] left (ha.2 _ (List.getElem_mem hlt)) h0 h1
        simp only [c, if_true, ix_nat, List.getElem?_eq_getElem hlt, bind_some', e, w64_succ (show i < 9223372036854775807 by omega)]
        by_cases hn : r < 0
        · rw [if_pos (by simpa using hn)]; exact .inl ⟨_, rfl, by omega⟩
        · rw [if_neg (by simpa using hn)]
          rcases ih hlt r (by omega) (by omega) with ⟨q, e2, h2⟩ | ⟨q, e2, h2, h3, h4⟩
          · exact .inl ⟨q, e2, h2⟩
          · refine .inr ⟨q, e2, h2, by omega, fun x hx => ?_⟩
            rw [List.drop_eq_getElem_cons hlt] at hx
            rcases List.mem_cons.1 hx with rfl | hx
            · rcases hs with hs | hs
              · exact absurd hs hn
              · exact hs
            · exact h4 x hx
      · rw [if_neg (by simpa using hlt)]
        exact .inr ⟨_, rfl, h0, Int.le_refl _, by rw [List.drop_eq_nil_of_le (by omega)]; simp⟩
    rcases key 0 (by omega) (left - a.length) (by omega) (by omega) with ⟨q, e2, h2⟩ | ⟨q, e2, h2, h3, h4⟩
    · simp only [Int.natCast_zero] at e2
      rw [e2]; exact ⟨q, rfl, by omega, .inl h2⟩
    · simp only [Int.natCast_zero] at e2
      rw [e2]; exact ⟨q, rfl, by omega, .inr ⟨by omega, by simpa using h4⟩⟩
def Order.sm (x : Order) : Prop := smS x.Name ∧ smS x.Target ∧ smL Metric.sm x.Metrics ∧ smL Note.sm x.Notes
theorem szOrder_sp (x : Order) (left : Int) (h : Order.ok x) (h0 : 0 ≤ left) (h1 : left ≤ 1048576) : ∃ r, laws_szOrder x left = some r ∧ r ≤ left ∧ (r < 0 ∨ Order.sm x) := by
  have e1 := h.1
  have e2 := h.2.1
  unfold okS at e1 e2
  simp only [laws_szOrder, Order.sm, smS]
  rw [w64_id (n := left - _) (by omega) (by omega)]
  split
  · exact ⟨_, rfl, by omega, .inl (by omega)⟩
  · rename_i hn; simp at hn
    rw [w64_id (by omega) (by omega)]
    split
    · exact ⟨_, rfl, by omega, .inl (by omega)⟩
    · rename_i hn2; simp at hn2
      obtain ⟨r, e, hr, hs⟩ := szMetricS_sp x.Metrics (left - x.Name.length - x.Target.length) h.2.2.2.2.1 (by omega) (by omega)
      simp only [e, bind_some']
      split
      · exact ⟨_, rfl, by omega, .inl (by omega)⟩
      · rename_i h3; simp at h3
        obtain ⟨r2, e2, hr2, hs2⟩ := szNoteS_sp x.Notes r h.2.2.2.2.2.2 (by omega) (by omega)
        simp only [e2, bind_some']
        split
        · exact ⟨_, rfl, by omega, .inl (by omega)⟩
        · rename_i h4; simp at h4
          rcases hs with hs | hs
          · omega
          · rcases hs2 with hs2 | hs2
            · omega
            · exact ⟨_, rfl, by omega, .inr ⟨by omega, by omega, hs, hs2⟩⟩
theorem toOrder_some (x : Order) (h : Order.sm x) : laws_toOrder x = some x := by
  simp only [laws_toOrder, toMetricS_some _ h.2.2.1, toNoteS_some _ h.2.2.2, laws_toPace, bind_some']
theorem eqOrder_self (x : Order) (h : Order.sm x) : laws_eqOrder x x = some true := by
  simp only [laws_eqOrder, eqMetricS_self _ h.2.2.1, eqNoteS_self _ h.2.2.2, laws_eqPace, bind_some', beq_self_eq_true, bne_self_eq_false, Bool.not_true, Bool.false_eq_true, if_false]
theorem paceOk_same (p : Pace) : ∃ b, spec_PaceOk p = some b ∧ impl_PaceOk p = some b := by
  simp only [spec_PaceOk, impl_PaceOk, impl_isMany, in_some, from_some, bind_some']
  repeat' split
  all_goals exact ⟨_, rfl, rfl⟩
theorem byte_u8 (c : UInt8) : (byte c).toNat.toUInt8 = c := by
  simp [byte]
theorem byte_range (c : UInt8) : 0 ≤ byte c ∧ byte c ≤ 255 := by
  unfold byte; have := c.toNat_lt; omega
theorem byte_eq (c d : UInt8) : (byte c = byte d) ↔ c = d := by
  unfold byte
  constructor
  · intro h; exact UInt8.toNat_inj.1 (by omega)
  · intro h; rw [h]
theorem indexByte_four (c : UInt8) : Nt.indexByte [95, 46, 47, 45] c < 0 ↔ ¬ (byte c = 95) ∧ ¬ (byte c = 46) ∧ ¬ (byte c = 47) ∧ ¬ (byte c = 45) := by
  have h1 : (byte c = 95) ↔ c = 95 := byte_eq c 95
  have h2 : (byte c = 46) ↔ c = 46 := byte_eq c 46
  have h3 : (byte c = 47) ↔ c = 47 := byte_eq c 47
  have h4 : (byte c = 45) ↔ c = 45 := byte_eq c 45
  rw [h1, h2, h3, h4]
  simp only [Nt.indexByte]
  by_cases g1 : c = 95
  · subst g1; decide
  by_cases g2 : c = 46
  · subst g2; decide
  by_cases g3 : c = 47
  · subst g3; decide
  by_cases g4 : c = 45
  · subst g4; decide
  have f1 : ((95 : UInt8) == c) = false := by simp; exact fun h => g1 h.symm
  have f2 : ((46 : UInt8) == c) = false := by simp; exact fun h => g2 h.symm
  have f3 : ((47 : UInt8) == c) = false := by simp; exact fun h => g3 h.symm
  have f4 : ((45 : UInt8) == c) = false := by simp; exact fun h => g4 h.symm
  simp [f1, f2, f3, f4, g1, g2, g3, g4]
theorem plainOk_same (a : Str) (h : smS a) : ∃ b, spec_PlainOk a = some b ∧ impl_PlainOk a = some b := by
  unfold smS at h
  have key : ∀ i, i ≤ a.length → ∃ b, spec_PlainOk.l0 a i = some b ∧ impl_PlainOk.l0 a i = some b := by
    refine down _ fun i hi ih => ?_
    rw [spec_PlainOk.l0, impl_PlainOk.l0]
    by_cases hlt : i < a.length
    · have c : decide ((i : Int) < (a.length : Int)) = true := by simpa using hlt
      obtain ⟨b, e1, e2⟩ := ih hlt
      have hL : ∀ n, impl_isLetter n = spec_l5Letter n := fun n => by simp only [impl_isLetter, spec_l5Letter]
      have hT : ∀ n, ∃ t, spec_l5Letter n = some t := fun n => by
        simp only [spec_l5Letter]; repeat' split
        all_goals exact ⟨_, rfl⟩
      obtain ⟨t, ht⟩ := hT (byte a[i])
      simp only [c, if_true, ix_nat, List.getElem?_eq_getElem hlt, bind_some', impl_isDigit, hL, ht, w64_succ (show i < 9223372036854775807 by omega), e1, e2, strings_IndexByte, internal_stringslite_IndexByte, internal_bytealg_IndexByteString, byte_u8]
      have hx := indexByte_four a[i]
      have hq : decide (Nt.indexByte [95, 46, 47, 45] a[i] < 0) = decide (¬ (byte a[i] = 95) ∧ ¬ (byte a[i] = 46) ∧ ¬ (byte a[i] = 47) ∧ ¬ (byte a[i] = 45)) := by simp only [hx]
      rw [hq]
      generalize byte a[i] = x
      cases t
      · by_cases h3 : i = 0
        · subst h3; simp [bind_some']
        · have h3'' : ((i : Int) == 0) = false := by simp; omega
          by_cases h4 : x ≥ 48 <;> by_cases h5 : x ≤ 57 <;> by_cases h6 : x = 95 <;> by_cases h7 : x = 46 <;> by_cases h8 : x = 47 <;> by_cases h9 : x = 45 <;>
          first
          | omega
          | simp [h3'', h4, h5, h6, h7, h8, h9, bind_some']
      · simp
    · rw [if_neg (by simpa using hlt), if_neg (by simpa using hlt)]
      exact ⟨_, rfl, rfl⟩
  obtain ⟨b, e1, e2⟩ := key 0 (by omega)
  simp only [Int.natCast_zero] at e1 e2
  simp only [spec_PlainOk, impl_PlainOk, e1, e2, bind_some', in_some, from_some]
  cases b with
  | inl r => exact ⟨_, rfl, rfl⟩
  | inr u =>
    repeat' split
    all_goals exact ⟨_, rfl, rfl⟩
theorem ours_same (s : Str) : ∃ b, spec_l6Ours s = some b ∧ strings_HasPrefix s [113, 117, 97, 121, 47] = some b := by
  simp only [spec_l6Ours, strings_HasPrefix, internal_stringslite_HasPrefix, List.length_cons, List.length_nil]
  by_cases h : (s.length : Int) ≥ 5
  · have e : slc s 0 5 = some (cut s 0 5) := by simp only [slc]; rw [if_pos ⟨by omega, by omega, by omega⟩]; rfl
    rw [if_pos (by simpa using h), if_pos (by simpa using h)]
    have e' : slc s 0 ((0 + 1 + 1 + 1 + 1 + 1 : Nat) : Int) = some (cut s 0 5) := e
    rw [e, e']
    exact ⟨_, rfl, rfl⟩
  · rw [if_neg (by simpa using h), if_neg (by simpa using h)]
    exact ⟨_, rfl, rfl⟩
theorem textOk_same (a : Str) (h : smS a) : ∃ b, spec_TextOk a = some b ∧ impl_TextOk a = some b := by
  unfold smS at h
  have key : ∀ i, i ≤ a.length → ∃ b, spec_TextOk.l0 a i = some b ∧ impl_TextOk.l0 a i = some b := by
    refine down _ fun i hi ih => ?_
    rw [spec_TextOk.l0, impl_TextOk.l0]
    by_cases hlt : i < a.length
    · have c : decide ((i : Int) < (a.length : Int)) = true := by simpa using hlt
      obtain ⟨b, e1, e2⟩ := ih hlt
      have hb := byte_range a[i]
      simp only [c, if_true, ix_nat, List.getElem?_eq_getElem hlt, bind_some', from_some, w64_succ (show i < 9223372036854775807 by omega), e1, e2]
      rw [w64_id (by omega) (by omega)]
      generalize byte a[i] = x at hb
      by_cases h4 : x < 32 <;> by_cases h5 : x > 126 <;> first
        | omega
        | (have g4 : ¬ (32 ≤ x) ∨ 32 ≤ x := by omega
           rcases g4 with g4 | g4 <;> first
             | omega
             | (have g5 : ¬ (x ≤ 126) ∨ x ≤ 126 := by omega
                rcases g5 with g5 | g5 <;> first
                  | omega
                  | simp [h4, h5, g4, g5]))
    · rw [if_neg (by simpa using hlt), if_neg (by simpa using hlt)]
      exact ⟨_, rfl, rfl⟩
  obtain ⟨b, e1, e2⟩ := key 0 (by omega)
  simp only [Int.natCast_zero] at e1 e2
  simp only [spec_TextOk, impl_TextOk, e1, e2, bind_some']
  cases b with
  | inl r => exact ⟨_, rfl, rfl⟩
  | inr u => exact ⟨_, rfl, rfl⟩
theorem notes_same (a : List Note) (h : smL Note.sm a) : ∃ b, spec_l6Notes a = some b ∧ impl_notesOk a = some b := by
  have hl : a.length ≤ 1048576 := h.1
  have key : ∀ i, i ≤ a.length → ∃ b, spec_l6Notes.l0 a i = some b ∧ impl_notesOk.l0 a i = some b := by
    refine down _ fun i hi ih => ?_
    rw [spec_l6Notes.l0, impl_notesOk.l0]
    by_cases hlt : i < a.length
    · have c : decide ((i : Int) < (a.length : Int)) = true := by simpa using hlt
      obtain ⟨b, e1, e2⟩ := ih hlt
      have hm := h.2 _ (List.getElem_mem hlt)
      obtain ⟨p, p1, p2⟩ := plainOk_same a[i].Key hm.1
      obtain ⟨q, q1, q2⟩ := ours_same a[i].Key
      obtain ⟨t, t1, t2⟩ := textOk_same a[i].Text hm.2
      simp only [c, if_true, ix_nat, List.getElem?_eq_getElem hlt, bind_some', p1, p2, q1, q2, t1, t2, w64_succ (show i < 9223372036854775807 by omega), e1, e2]
      split
      · exact ⟨_, rfl, rfl⟩
      · split
        · exact ⟨_, rfl, rfl⟩
        · split
          · exact ⟨_, rfl, rfl⟩
          · split
            · exact ⟨_, rfl, rfl⟩
            · by_cases h0 : i = 0
              · subst h0; simp
              · have e : IntKind.i64.wrap ((i : Int) - 1) = ((i - 1 : Nat) : Int) := by rw [w64_id (by omega) (by omega)]; omega
                have c2 : decide ((i : Int) > 0) = true := by simp; omega
                simp only [c2, if_true, e, ix_nat, List.getElem?_eq_getElem (show i - 1 < a.length by omega), bind_some']
                split
                · exact ⟨_, rfl, rfl⟩
                · exact ⟨_, rfl, rfl⟩
    · rw [if_neg (by simpa using hlt), if_neg (by simpa using hlt)]
      exact ⟨_, rfl, rfl⟩
  obtain ⟨b, h1, h2⟩ := key 0 (by omega)
  simp only [Int.natCast_zero] at h1 h2
  simp only [spec_l6Notes, impl_notesOk, h1, h2, bind_some']
  cases b with
  | inl r => exact ⟨_, rfl, rfl⟩
  | inr u => exact ⟨_, rfl, rfl⟩
theorem metrics_same (o : Order) (h : smL Metric.sm o.Metrics) : ∃ b : Bool, spec_l6Metrics.l0 o.Metrics 0 = some (if b then .inr () else .inl false) ∧ impl_OrderOk.l0 o 0 = some (if b then .inr () else .inl false) := by
  have hl : o.Metrics.length ≤ 1048576 := h.1
  have key : ∀ i, i ≤ o.Metrics.length → ∃ b : Bool, spec_l6Metrics.l0 o.Metrics i = some (if b then .inr () else .inl false) ∧ impl_OrderOk.l0 o i = some (if b then .inr () else .inl false) := by
    refine down _ fun i hi ih => ?_
    rw [spec_l6Metrics.l0, impl_OrderOk.l0]
    by_cases hlt : i < o.Metrics.length
    · have c : decide ((i : Int) < (o.Metrics.length : Int)) = true := by simpa using hlt
      obtain ⟨b, e1, e2⟩ := ih hlt
      obtain ⟨p, p1, p2⟩ := metricOk_same o.Metrics[i] (h.2 _ (List.getElem_mem hlt))
      simp only [c, if_true, ix_nat, List.getElem?_eq_getElem hlt, bind_some', p1, p2, w64_succ (show i < 9223372036854775807 by omega), e1, e2]
      split
      · exact ⟨false, rfl, rfl⟩
      · by_cases h0 : i = 0
        · subst h0; exact ⟨b, by simp, by simp⟩
        · have e : IntKind.i64.wrap ((i : Int) - 1) = ((i - 1 : Nat) : Int) := by rw [w64_id (by omega) (by omega)]; omega
          have c2 : decide ((i : Int) > 0) = true := by simp; omega
          simp only [c2, if_true, e, ix_nat, List.getElem?_eq_getElem (show i - 1 < o.Metrics.length by omega), bind_some']
          split
          · exact ⟨false, rfl, rfl⟩
          · exact ⟨b, rfl, rfl⟩
    · rw [if_neg (by simpa using hlt), if_neg (by simpa using hlt)]
      exact ⟨true, rfl, rfl⟩
  simpa using key 0 (by omega)
theorem orderOk_same (o : Order) (h : Order.sm o) : ∃ b, spec_OrderOk o = some b ∧ impl_OrderOk o = some b := by
  obtain ⟨n, n1, n2⟩ := nameOk_same o.Name h.1
  obtain ⟨t, t1, t2⟩ := nameOk_same o.Target h.2.1
  obtain ⟨m, m1, m2⟩ := metrics_same o h.2.2.1
  obtain ⟨p, p1, p2⟩ := paceOk_same o.Pace
  obtain ⟨q, q1, q2⟩ := notes_same o.Notes h.2.2.2
  simp only [spec_OrderOk, impl_OrderOk, spec_l6Metrics, n1, n2, t1, t2, m1, m2, p1, p2, q1, q2, in_some, from_some, bind_some']
  generalize (decide (o.Low ≥ 1) && decide (o.Low ≤ o.High)) = x
  generalize decide (o.High ≤ 1000) = y
  generalize decide ((o.Metrics.length : Int) ≤ 4) = z
  cases n <;> cases t <;> cases m <;> cases p <;> cases q <;> cases x <;> cases y <;> cases z <;> exact ⟨_, rfl, rfl⟩
def Item.sm (x : Item) : Prop := Order.sm x.Order
theorem szItem_sp (x : Item) (left : Int) (h : Item.ok x) (h0 : 0 ≤ left) (h1 : left ≤ 1048576) : ∃ r, laws_szItem x left = some r ∧ r ≤ left ∧ (r < 0 ∨ Item.sm x) := by
  obtain ⟨r, e, hr, hs⟩ := szOrder_sp x.Order left h.1 h0 h1
  simp only [laws_szItem, e, bind_some']
  split
  · exact ⟨_, rfl, by omega, .inl (by omega)⟩
  · exact ⟨_, rfl, hr, hs⟩
theorem toItem_some (x : Item) (h : Item.sm x) : laws_toItem x = some x := by
  simp only [laws_toItem, toOrder_some _ h, bind_some']
theorem eqItem_self (x : Item) (h : Item.sm x) : laws_eqItem x x = some true := by
  simp only [laws_eqItem, eqOrder_self _ h, bind_some', beq_self_eq_true, bne_self_eq_false, Bool.not_true, Bool.false_eq_true, if_false]
theorem toItemS_some (a : List Item) (h : smL Item.sm a) : laws_toItemS a = some a := by
  have hl : a.length ≤ 1048576 := h.1
  have key : ∀ i, i ≤ a.length → ∀ v : List Item, v.length = a.length → laws_toItemS.l0 a i v = some (v.take i ++ a.drop i) := by
    refine down _ fun i hi ih v hv => ?_
    rw [laws_toItemS.l0]
    by_cases hlt : i < a.length
    · have c : decide ((i : Int) < (a.length : Int)) = true := by simpa using hlt
      have hv' : i < v.length := by omega
      simp only [c, if_true, ix_nat, List.getElem?_eq_getElem hlt, List.getElem?_eq_getElem hv', bind_some', toItem_some _ (h.2 _ (List.getElem_mem hlt)), put_nat hv', w64_succ (show i < 9223372036854775807 by omega)]
      rw [ih hlt _ (by simpa using hv), set_step hlt hv']
    · rw [if_neg (by simpa using hlt)]
      obtain rfl : i = a.length := by omega
      simp [List.take_of_length_le, hv]
  simp only [laws_toItemS]
  rw [mk_ok (by omega)]
  simp only [bind_some']
  have := fun z => key 0 (by omega) (List.replicate a.length z) (by simp)
  simp only [Int.natCast_zero] at this
  simp only [this, bind_some']; simp
theorem eqItemS_self (a : List Item) (h : smL Item.sm a) : laws_eqItemS a a = some true := by
  have hl : a.length ≤ 1048576 := h.1
  have key : ∀ i, i ≤ a.length → laws_eqItemS.l0 a a i = some (.inr ()) := by
    refine down _ fun i hi ih => ?_
    rw [laws_eqItemS.l0]
    by_cases hlt : i < a.length
    · have c : decide ((i : Int) < (a.length : Int)) = true := by simpa using hlt
      simp only [c, if_true, ix_nat, List.getElem?_eq_getElem hlt, bind_some', eqItem_self _ (h.2 _ (List.getElem_mem hlt)), bne_self_eq_false, beq_self_eq_true, Bool.false_eq_true, if_false, Bool.not_true, w64_succ (show i < 9223372036854775807 by omega)]
      exact ih hlt
    · rw [if_neg (by simpa using hlt)]
  simp only [laws_eqItemS, bne_self_eq_false, Bool.false_eq_true, if_false]
  have := key 0 (by omega)
  simp only [Int.natCast_zero] at this
  rw [this]; rfl
theorem szItemS_sp (a : List Item) (left : Int) (ha : okL Item.ok a) (h0 : 0 ≤ left) (h1 : left ≤ 1048576) : ∃ r, laws_szItemS a left = some r ∧ r ≤ left ∧ (r < 0 ∨ smL Item.sm a) := by
  have hl := ha.1
  simp only [laws_szItemS]
  rw [w64_id (by omega) (by omega)]
  by_cases h : left < a.length
  · rw [if_pos (by simp; omega)]; exact ⟨_, rfl, by omega, .inl (by omega)⟩
  · rw [if_neg (by simp; omega)]
    have key : ∀ i, i ≤ a.length → ∀ left : Int, 0 ≤ left → left ≤ 1048576 → (∃ r, laws_szItemS.l0 a left i = some (.inl r) ∧ r < 0) ∨ ∃ r, laws_szItemS.l0 a left i = some (.inr r) ∧ 0 ≤ r ∧ r ≤ left ∧ ∀ x ∈ a.drop i, Item.sm x := by
      refine down _ fun i hi ih left h0 h1 => ?_
      rw [laws_szItemS.l0]
      by_cases hlt : i < a.length
      · have c : decide ((i : Int) < (a.length : Int)) = true := by simpa using hlt
        obtain ⟨r, e, hr, hs⟩ := szItem_sp a[i] left (ha.2 _ (List.getElem_mem hlt)) h0 h1
        simp only [c, if_true, ix_nat, List.getElem?_eq_getElem hlt, bind_some', e, w64_succ (show i < 9223372036854775807 by omega)]
        by_cases hn : r < 0
        · rw [if_pos (by simpa using hn)]; exact .inl ⟨_, rfl, by omega⟩
        · rw [if_neg (by simpa using hn)]
          rcases ih hlt r (by omega) (by omega) with ⟨q, e2, h2⟩ | ⟨q, e2, h2, h3, h4⟩
          · exact .inl ⟨q, e2, h2⟩
          · refine .inr ⟨q, e2, h2, by omega, fun x hx => ?_⟩
            rw [List.drop_eq_getElem_cons hlt] at hx
            rcases List.mem_cons.1 hx with rfl | hx
            · rcases hs with hs | hs
              · exact absurd hs hn
              · exact hs
            · exact h4 x hx
      · rw [if_neg (by simpa using hlt)]
        exact .inr ⟨_, rfl, h0, Int.le_refl _, by rw [List.drop_eq_nil_of_le (by omega)]; simp⟩
    rcases key 0 (by omega) (left - a.length) (by omega) (by omega) with ⟨q, e2, h2⟩ | ⟨q, e2, h2, h3, h4⟩
    · simp only [Int.natCast_zero] at e2
      rw [e2]; exact ⟨q, rfl, by omega, .inl h2⟩
    · simp only [Int.natCast_zero] at e2
      rw [e2]; exact ⟨q, rfl, by omega, .inr ⟨by omega, by simpa using h4⟩⟩
def Store.sm (x : Store) : Prop := smL Item.sm x.Items
theorem szStore_sp (x : Store) (left : Int) (h : Store.ok x) (h0 : 0 ≤ left) (h1 : left ≤ 1048576) : ∃ r, laws_szStore x left = some r ∧ r ≤ left ∧ (r < 0 ∨ Store.sm x) := by
  obtain ⟨r, e, hr, hs⟩ := szItemS_sp x.Items left h.1 h0 h1
  simp only [laws_szStore, e, bind_some']
  split
  · exact ⟨_, rfl, by omega, .inl (by omega)⟩
  · exact ⟨_, rfl, hr, hs⟩
theorem toStore_some (x : Store) (h : Store.sm x) : laws_toStore x = some x := by
  simp only [laws_toStore, toItemS_some _ h, bind_some']
theorem eqStore_self (x : Store) (h : Store.sm x) : laws_eqStore x x = some true := by
  simp only [laws_eqStore, eqItemS_self _ h, bind_some', beq_self_eq_true, bne_self_eq_false, Bool.not_true, Bool.false_eq_true, if_false]
theorem slc_take {α : Type} (l : List α) (i : Nat) (h : i ≤ l.length) : slc l 0 (i : Int) = some (l.take i) := by
  simp only [slc]; rw [if_pos ⟨by omega, by omega, by omega⟩]; simp [cut]
theorem vers1 (s : Store) (x : Item) (i : Nat) (hi : i ≤ s.Items.length) (hl : s.Items.length ≤ 1048576) : spec_StoreOk.l1 s i x 0 = some (if (s.Items.take i).any (fun y => y.Ver == x.Ver) then .inl false else .inr ()) := by
  have key : ∀ j, j ≤ i → spec_StoreOk.l1 s i x j = some (if ((s.Items.take i).drop j).any (fun y => y.Ver == x.Ver) then .inl false else .inr ()) := by
    refine down _ fun j hj ih => ?_
    rw [spec_StoreOk.l1]
    by_cases hlt : j < i
    · have c : decide ((j : Int) < (i : Int)) = true := by simpa using hlt
      have hlt' : j < s.Items.length := by omega
      have hd : (s.Items.take i).drop j = s.Items[j] :: (s.Items.take i).drop (j + 1) := by
        rw [List.drop_eq_getElem_cons (by simp; omega)]; simp
      simp only [c, if_true, ix_nat, List.getElem?_eq_getElem hlt', bind_some', w64_succ (show j < 9223372036854775807 by omega), ih hlt, hd, List.any_cons]
      cases (s.Items[j].Ver == x.Ver) <;> simp
    · rw [if_neg (by simpa using hlt)]
      rw [List.drop_eq_nil_of_le (by simp; omega)]; rfl
  have := key 0 (by omega)
  simpa only [List.drop_zero, Int.natCast_zero] using this
theorem vers2 (s : Store) (x : Item) (i : Nat) (hi : i ≤ s.Items.length) (hl : s.Items.length ≤ 1048576) : spec_StoreOk.l2 s i x 0 = some (if (s.Items.take i).any (fun y => y.Ver == x.Ver) then .inl false else .inr ()) := by
  have key : ∀ j, j ≤ i → spec_StoreOk.l2 s i x j = some (if ((s.Items.take i).drop j).any (fun y => y.Ver == x.Ver) then .inl false else .inr ()) := by
    refine down _ fun j hj ih => ?_
    rw [spec_StoreOk.l2]
    by_cases hlt : j < i
    · have c : decide ((j : Int) < (i : Int)) = true := by simpa using hlt
      have hlt' : j < s.Items.length := by omega
      have hd : (s.Items.take i).drop j = s.Items[j] :: (s.Items.take i).drop (j + 1) := by
        rw [List.drop_eq_getElem_cons (by simp; omega)]; simp
      simp only [c, if_true, ix_nat, List.getElem?_eq_getElem hlt', bind_some', w64_succ (show j < 9223372036854775807 by omega), ih hlt, hd, List.any_cons]
      cases (s.Items[j].Ver == x.Ver) <;> simp
    · rw [if_neg (by simpa using hlt)]
      rw [List.drop_eq_nil_of_le (by simp; omega)]; rfl
  have := key 0 (by omega)
  simpa only [List.drop_zero, Int.natCast_zero] using this
theorem vers3 (l : List Item) (x : Item) (hl : l.length ≤ 1048576) : slices_ContainsFunc_Simpl_Item_impl_Item_impl_StoreOk_1 l x = some (l.any (fun y => y.Ver == x.Ver), x) := by
  have key : ∀ j, j ≤ l.length → if (l.drop j).any (fun y => y.Ver == x.Ver) then (∃ k : Int, 0 ≤ k ∧ slices_IndexFunc_Simpl_Item_impl_Item_impl_StoreOk_1.l0 l j x.Order.Name x.Order.Target x.Order.Low x.Order.High x.Order.Metrics x.Order.Pace.Up x.Order.Pace.Down x.Order.Pace.UpSpan x.Order.Pace.DownSpan x.Order.Notes x.Ver = some (.inl (k, x))) else slices_IndexFunc_Simpl_Item_impl_Item_impl_StoreOk_1.l0 l j x.Order.Name x.Order.Target x.Order.Low x.Order.High x.Order.Metrics x.Order.Pace.Up x.Order.Pace.Down x.Order.Pace.UpSpan x.Order.Pace.DownSpan x.Order.Notes x.Ver = some (.inr (x.Order.Name, x.Order.Target, x.Order.Low, x.Order.High, x.Order.Metrics, x.Order.Pace.Up, x.Order.Pace.Down, x.Order.Pace.UpSpan, x.Order.Pace.DownSpan, x.Order.Notes, x.Ver)) := by
    refine down _ fun j hj ih => ?_
    by_cases hlt : j < l.length
    · have c : decide ((j : Int) < (l.length : Int)) = true := by simpa using hlt
      have ih' := ih hlt
      rw [List.drop_eq_getElem_cons hlt, List.any_cons]
      rw [slices_IndexFunc_Simpl_Item_impl_Item_impl_StoreOk_1.l0]
      simp only [c, if_true, ix_nat, List.getElem?_eq_getElem hlt, bind_some', impl_StoreOk_1, w64_succ (show j < 9223372036854775807 by omega)]
      cases hv : (l[j].Ver == x.Ver)
      · simp only [Bool.false_or, Bool.false_eq_true, if_false]
        exact ih'
      · simp only [Bool.true_or, if_true]
        exact ⟨j, by omega, rfl⟩
    · have c : decide ((j : Int) < (l.length : Int)) = false := by simpa using hlt
      rw [List.drop_eq_nil_of_le (by omega), slices_IndexFunc_Simpl_Item_impl_Item_impl_StoreOk_1.l0]
      simp only [c, List.any_nil, Bool.false_eq_true, if_false]
  have k0 := key 0 (by omega)
  simp only [List.drop_zero, Int.natCast_zero] at k0
  simp only [slices_ContainsFunc_Simpl_Item_impl_Item_impl_StoreOk_1, slices_IndexFunc_Simpl_Item_impl_Item_impl_StoreOk_1]
  cases hv : l.any (fun y => y.Ver == x.Ver)
  · rw [hv, if_neg (by simp)] at k0
    rw [k0]; rfl
  · rw [hv, if_pos rfl] at k0
    obtain ⟨k, hk, e⟩ := k0
    rw [e]
    simp only [bind_some']
    rw [show decide (k ≥ 0) = true by simpa using hk]
theorem storeOk_same (s : Store) (h : Store.sm s) : ∃ b, spec_StoreOk s = some b ∧ impl_StoreOk s = some b := by
  have hl : s.Items.length ≤ 1048576 := h.1
  have key : ∀ i, i ≤ s.Items.length → ∃ b, spec_StoreOk.l0 s i = some b ∧ impl_StoreOk.l0 s i = some b := by
    refine down _ fun i hi ih => ?_
    rw [spec_StoreOk.l0, impl_StoreOk.l0]
    by_cases hlt : i < s.Items.length
    · have c : decide ((i : Int) < (s.Items.length : Int)) = true := by simpa using hlt
      obtain ⟨b, e1, e2⟩ := ih hlt
      obtain ⟨p, p1, p2⟩ := orderOk_same s.Items[i].Order (h.2 _ (List.getElem_mem hlt))
      have ht : (s.Items.take i).length ≤ 1048576 := by simp; omega
      simp only [c, if_true, ix_nat, List.getElem?_eq_getElem hlt, bind_some', p1, p2, in_some, from_some, w64_succ (show i < 9223372036854775807 by omega), e1, e2, vers1 s _ i hi hl, vers2 s _ i hi hl, slc_take _ _ hi, vers3 _ _ ht]
      split
      · exact ⟨_, rfl, rfl⟩
      · split
        · exact ⟨_, rfl, rfl⟩
        · by_cases h0 : i = 0
          · subst h0; simp
          · have e : IntKind.i64.wrap ((i : Int) - 1) = ((i - 1 : Nat) : Int) := by rw [w64_id (by omega) (by omega)]; omega
            have c2 : decide ((i : Int) > 0) = true := by simp; omega
            simp only [c2, if_true, e, ix_nat, List.getElem?_eq_getElem (show i - 1 < s.Items.length by omega), bind_some']
            split
            · exact ⟨_, rfl, rfl⟩
            · cases (s.Items.take i).any (fun y => y.Ver == s.Items[i].Ver) <;> exact ⟨_, rfl, rfl⟩
    · rw [if_neg (by simpa using hlt), if_neg (by simpa using hlt)]
      exact ⟨_, rfl, rfl⟩
  obtain ⟨b, h1, h2⟩ := key 0 (by omega)
  simp only [Int.natCast_zero] at h1 h2
  simp only [spec_StoreOk, impl_StoreOk, h1, h2, in_some, from_some, bind_some']
  generalize (decide (s.Next ≥ 1) && decide (s.Next ≤ 100000)) = x
  generalize decide ((s.Items.length : Int) > 6) = y
  cases b with
  | inl r => cases x <;> cases y <;> exact ⟨_, rfl, rfl⟩
  | inr u => cases x <;> cases y <;> exact ⟨_, rfl, rfl⟩
theorem slt_irrefl (a : Str) : slt a a = false := by
  unfold slt
  induction a with
  | nil => rfl
  | cons x l ih => simp [Op.bytesLess, ih]
theorem slt_trans (a b c : Str) (h1 : slt a b = true) (h2 : slt b c = true) : slt a c = true := by
  unfold slt at *
  induction a generalizing b c with
  | nil =>
    cases b with
    | nil => simp [Op.bytesLess] at h1
    | cons y m =>
      cases c with
      | nil => simp [Op.bytesLess] at h2
      | cons z n => rfl
  | cons x l ih =>
    cases b with
    | nil => simp [Op.bytesLess] at h1
    | cons y m =>
      cases c with
      | nil => simp [Op.bytesLess] at h2
      | cons z n =>
        simp only [Op.bytesLess, Bool.or_eq_true, decide_eq_true_eq, Bool.and_eq_true, beq_iff_eq] at *
        rcases h1 with h1 | ⟨rfl, h1⟩
        · rcases h2 with h2 | ⟨rfl, h2⟩
          · left; rw [UInt8.lt_iff_toNat_lt] at *; omega
          · left; exact h1
        · rcases h2 with h2 | ⟨rfl, h2⟩
          · left; exact h2
          · right; exact ⟨rfl, ih _ _ h1 h2⟩
theorem cat_ok {s t : Str} (h : s.length + t.length ≤ 4398046511104) : cat s t = some (s ++ t) := by
  unfold cat
  rw [if_neg]
  have : IntKind.i64.max = 9223372036854775807 := rfl
  omega
theorem bx {α β : Type} {e : Option α} {x : α} (h : e = some x) (f : α → Option β) : (e >>= f) = f x := by rw [h]; rfl
/-! trees within bounds -/
theorem cloneL {α : Type} {b : Nat} {l : List α} (h : l.length * b ≤ 70368744177664) : Nt.clone b l = some l := by unfold Nt.clone; rw [if_pos h]
theorem copyOrder_some (o : Order) (h : Order.sm o) : impl_copyOrder o = some o := by
  obtain ⟨h1, h2, h3, h4⟩ := h
  have := h3.1; have := h4.1
  simp only [impl_copyOrder, slices_Clone_Simpl_Metric_impl_Metric, slices_Clone_Simpl_Note_impl_Note]
  rw [cloneL (by omega), cloneL (by omega)]; rfl
theorem copyItem_some (x : Item) (h : Item.sm x) : impl_copyItem x = some x := by
  simp only [impl_copyItem, copyOrder_some _ h, bind_some']
theorem l6Copy_some (o : Order) (h : Order.sm o) : spec_l6Copy o = some o := by
  obtain ⟨h1, h2, h3, h4⟩ := h
  have := h3.1; have := h4.1
  simp only [spec_l6Copy]
  rw [app_ok (by simp; omega), app_ok (by simp; omega)]
  simp only [bind_some', List.nil_append]
theorem take_app {α : Type} {a : List α} {i : Nat} (h : i < a.length) : a.take i ++ [a[i]] = a.take (i + 1) := by
  rw [List.take_add_one, List.getElem?_eq_getElem h]; rfl
theorem copyItems_some (a : List Item) (h : smL Item.sm a) : impl_copyItems a = some a := by
  have hl : a.length ≤ 1048576 := h.1
  have key : ∀ i, i ≤ a.length → impl_copyItems.l0 a i (a.take i) = some a := by
    refine down _ fun i hi ih => ?_
    rw [impl_copyItems.l0]
    by_cases hlt : i < a.length
    · have c : decide ((i : Int) < (a.length : Int)) = true := by simpa using hlt
      simp only [c, if_true, ix_nat, List.getElem?_eq_getElem hlt, bind_some', copyItem_some _ (h.2 _ (List.getElem_mem hlt)), w64_succ (show i < 9223372036854775807 by omega)]
      rw [app_ok (by simp; omega)]
      simp only [bind_some', take_app hlt]
      exact ih hlt
    · rw [if_neg (by simpa using hlt)]
      rw [List.take_of_length_le (by omega)]
  have := key 0 (by omega)
  simp only [Int.natCast_zero, List.take_zero] at this
  simp only [impl_copyItems, this, bind_some']
theorem copyStore_some (s : Store) (h : Store.sm s) : impl_copyStore s = some s := by
  simp only [impl_copyStore, copyItems_some _ h, bind_some']
theorem l13Copy_some (s : Store) (h : Store.sm s) : spec_l13Copy s = some s := by
  have hl : s.Items.length ≤ 1048576 := h.1
  have key : ∀ i, i ≤ s.Items.length → spec_l13Copy.l0 s i (s.Items.take i) = some s.Items := by
    refine down _ fun i hi ih => ?_
    rw [spec_l13Copy.l0]
    by_cases hlt : i < s.Items.length
    · have c : decide ((i : Int) < (s.Items.length : Int)) = true := by simpa using hlt
      simp only [c, if_true, ix_nat, List.getElem?_eq_getElem hlt, bind_some', l6Copy_some _ (h.2 _ (List.getElem_mem hlt)), w64_succ (show i < 9223372036854775807 by omega)]
      rw [app_ok (by simp; omega)]
      simp only [bind_some']
      rw [show (Item.mk s.Items[i].Order s.Items[i].Ver) = s.Items[i] from rfl, take_app hlt]
      exact ih hlt
    · rw [if_neg (by simpa using hlt)]
      rw [List.take_of_length_le (by omega)]
  have := key 0 (by omega)
  simp only [Int.natCast_zero, List.take_zero] at this
  simp only [spec_l13Copy, this, bind_some']
/-- the first from i on -/
def fd {α : Type} (p : α → Bool) (l : List α) (i : Nat) : Option Nat := ((l.drop i).findIdx? p).map (· + i)
theorem fd_step {α : Type} {p : α → Bool} {l : List α} {i : Nat} (h : i < l.length) : fd p l i = if p l[i] then some i else fd p l (i + 1) := by
  unfold fd
  rw [List.drop_eq_getElem_cons h, List.findIdx?_cons]
  split
  · simp
  · simp only [Option.map_map]
    congr 1
    funext x
    simp only [Function.comp]; omega
theorem fd_end {α : Type} {p : α → Bool} {l : List α} {i : Nat} (h : l.length ≤ i) : fd p l i = none := by
  unfold fd; rw [List.drop_eq_nil_of_le h]; rfl
theorem fd_zero {α : Type} (p : α → Bool) (l : List α) : fd p l 0 = l.findIdx? p := by simp [fd]
def named (n : Str) (x : Item) : Bool := x.Order.Name == n
/-- the place of a name; -1 -/
def pos (l : List Item) (n : Str) : Int := match l.findIdx? (named n) with
  | some i => i
  | none => -1
theorem l13At_some (s : Store) (n : Str) (hl : s.Items.length ≤ 1048576) : spec_l13At s n = some (pos s.Items n) := by
  have key : ∀ i, i ≤ s.Items.length → spec_l13At.l0 s n i = some (match fd (named n) s.Items i with | some k => .inl (k : Int) | none => .inr ()) := by
    refine down _ fun i hi ih => ?_
    rw [spec_l13At.l0]
    by_cases hlt : i < s.Items.length
    · have c : decide ((i : Int) < (s.Items.length : Int)) = true := by simpa using hlt
      have hd := fd_step (p := named n) hlt
      simp only [c, if_true, ix_nat, List.getElem?_eq_getElem hlt, bind_some', w64_succ (show i < 9223372036854775807 by omega)]
      by_cases hn : ((s.Items[i].Order.Name == n)) = true
      · rw [if_pos (show named n s.Items[i] = true from hn)] at hd
        rw [if_pos hn, hd]
      · rw [if_neg (show ¬ named n s.Items[i] = true from hn)] at hd
        rw [if_neg hn, hd]; exact ih hlt
    · rw [if_neg (by simpa using hlt), fd_end (by omega)]
  have := key 0 (by omega)
  simp only [Int.natCast_zero, fd_zero] at this
  simp only [spec_l13At, this, bind_some', pos]
  cases s.Items.findIdx? (named n) <;> rfl
theorem pos_some {l : List Item} {n : Str} : (∃ i : Nat, pos l n = i ∧ ∃ h : i < l.length, l[i].Order.Name = n) ∨ (pos l n = -1 ∧ ∀ x ∈ l, x.Order.Name ≠ n) := by
  unfold pos
  cases h : l.findIdx? (named n) with
  | none =>
    right
    refine ⟨rfl, fun x hx e => ?_⟩
    have := List.findIdx?_eq_none_iff.1 h x hx
    simp [named, e] at this
  | some i =>
    left
    obtain ⟨h1, h2, _⟩ := List.findIdx?_eq_some_iff_getElem.1 h
    exact ⟨i, rfl, h1, by simpa [named] using h2⟩
/-- a name that comes later -/
def later (n : Str) (x : Item) : Bool := !(slt x.Order.Name n || x.Order.Name == n)
def posL (l : List Item) (n : Str) : Int := match l.findIdx? (later n) with
  | some i => i
  | none => -1
theorem idx2_some (l : List Item) (x : Item) (hl : l.length ≤ 1048577) : slices_IndexFunc_Simpl_Item_impl_Item_impl_put_2_D l x = some (posL l x.Order.Name, l, x) := by
  unfold slices_IndexFunc_Simpl_Item_impl_Item_impl_put_2_D
  rw [if_pos (by omega)]
  unfold firstT posL
  rw [List.findIdx?_map]; rfl
/-- all but those of a name -/
def restS (n : Str) (l : List Item) : List Item := l.filter fun y => !(named n y)
theorem delFunc_some (l : List Item) (x : Item) (hl : l.length ≤ 1048576) : slices_DeleteFunc_Simpl_Item_impl_Item_impl_put_1 l x = some (restS x.Order.Name l, x) := by
  unfold slices_DeleteFunc_Simpl_Item_impl_Item_impl_put_1
  rw [if_pos (by omega)]; rfl
/-- a place for x -/
def putAt (l : List Item) (x : Item) : List Item := (match (restS x.Order.Name l).findIdx? (later x.Order.Name) with
  | some k => (restS x.Order.Name l).take k ++ [x] ++ (restS x.Order.Name l).drop k
  | none => restS x.Order.Name l ++ [x])
theorem put_some' (l : List Item) (x : Item) (h : smL Item.sm l) (hx : Item.sm x) : impl_put l x = some (putAt l x) := by
  have hl : l.length ≤ 1048576 := h.1
  have hr : (restS x.Order.Name l).length ≤ l.length := List.length_filter_le _ _
  simp only [impl_put, copyItems_some l h, bind_some', delFunc_some l x hl]
  rw [show (Item.mk (Order.mk x.Order.Name x.Order.Target x.Order.Low x.Order.High x.Order.Metrics (Pace.mk x.Order.Pace.Up x.Order.Pace.Down x.Order.Pace.UpSpan x.Order.Pace.DownSpan) x.Order.Notes) x.Ver) = x from rfl]
  simp only [idx2_some _ x (show (restS x.Order.Name l).length ≤ 1048577 by omega), bind_some']
  rw [show (Item.mk (Order.mk x.Order.Name x.Order.Target x.Order.Low x.Order.High x.Order.Metrics (Pace.mk x.Order.Pace.Up x.Order.Pace.Down x.Order.Pace.UpSpan x.Order.Pace.DownSpan) x.Order.Notes) x.Ver) = x from rfl]
  simp only [copyItem_some x hx, bind_some', slices_Insert_Simpl_Item_impl_Item]
  unfold posL putAt
  cases hf : (restS x.Order.Name l).findIdx? (later x.Order.Name) with
  | none =>
    have c : decide ((-1 : Int) < 0) = true := rfl
    simp only [c, if_true]
    unfold Nt.ins
    rw [if_pos ⟨by omega, by omega, by simp, by simp; omega⟩]
    simp
  | some k =>
    obtain ⟨hk, _⟩ := List.findIdx?_eq_some_iff_getElem.1 hf
    have c : decide ((k : Int) < 0) = false := by simp
    simp only [c, Bool.false_eq_true, if_false]
    unfold Nt.ins
    rw [if_pos ⟨by omega, by omega, by simp, by simp; omega⟩]
    simp
/-- what is asked of the k-th item -/
def CondK (s : Store) (k : Nat) (hk : k < s.Items.length) : Prop :=
  spec_OrderOk s.Items[k].Order = some true ∧ 1 ≤ s.Items[k].Ver ∧ s.Items[k].Ver ≤ s.Next - 1 ∧ (∀ h0 : 0 < k, slt (s.Items[k-1]'(by omega)).Order.Name s.Items[k].Order.Name = true) ∧ ∀ j (hj : j < k), s.Items[j].Ver ≠ s.Items[k].Ver
structure RightS (s : Store) : Prop where
  n1 : 1 ≤ s.Next
  n2 : s.Next ≤ 100000
  len : s.Items.length ≤ 6
  ok : ∀ x ∈ s.Items, spec_OrderOk x.Order = some true ∧ 1 ≤ x.Ver ∧ x.Ver ≤ s.Next - 1
  up : s.Items.Pairwise fun a b => slt a.Order.Name b.Order.Name = true
  vs : s.Items.Pairwise fun a b => a.Ver ≠ b.Ver
theorem any_take (s : Store) (k : Nat) (hk : k < s.Items.length) : (s.Items.take k).any (fun y => y.Ver == s.Items[k].Ver) = false ↔ ∀ j (hj : j < k), s.Items[j].Ver ≠ s.Items[k].Ver := by
  rw [List.any_eq_false]
  constructor
  · intro h j hj e
    have : s.Items[j] ∈ s.Items.take k := by
      rw [List.mem_iff_getElem]; exact ⟨j, by simp; omega, by simp⟩
    have := h _ this
    simp [e] at this
  · intro h y hy
    obtain ⟨j, hj, rfl⟩ := List.mem_iff_getElem.1 hy
    simp only [List.length_take] at hj
    have := h j (by omega)
    simpa using this
theorem storeOk_right (s : Store) (h : Store.sm s) : ∃ b, spec_StoreOk s = some b ∧ impl_StoreOk s = some b ∧ (b = true ↔ RightS s) := by
  obtain ⟨b, hb1, hb2⟩ := storeOk_same s h
  refine ⟨b, hb1, hb2, ?_⟩
  have hl : s.Items.length ≤ 1048576 := h.1
  -- the loop
  have key : 1 ≤ s.Next → s.Next ≤ 100000 → ∀ i, i ≤ s.Items.length → (spec_StoreOk.l0 s i = some (.inr ()) ∧ ∀ k, i ≤ k → ∀ hk : k < s.Items.length, CondK s k hk) ∨ (spec_StoreOk.l0 s i = some (.inl false) ∧ ¬ ∀ k, i ≤ k → ∀ hk : k < s.Items.length, CondK s k hk) := by
    intro hn1 hn2
    refine down _ fun i hi ih => ?_
    rw [spec_StoreOk.l0]
    by_cases hlt : i < s.Items.length
    · have c : decide ((i : Int) < (s.Items.length : Int)) = true := by simpa using hlt
      obtain ⟨p, p1, _⟩ := orderOk_same s.Items[i].Order (h.2 _ (List.getElem_mem hlt))
      have e1 : IntKind.i64.wrap (s.Next - 1) = s.Next - 1 := w64_id (by omega) (by omega)
      simp only [c, if_true, ix_nat, List.getElem?_eq_getElem hlt, bind_some', p1, in_some, e1, w64_succ (show i < 9223372036854775807 by omega), vers1 s _ i hi hl, vers2 s _ i hi hl]
      cases p with
      | false =>
        right
        refine ⟨rfl, fun hc => ?_⟩
        have := (hc i (Nat.le_refl _) hlt).1
        rw [p1] at this; simp at this
      | true =>
        simp only [Bool.not_true, Bool.false_eq_true, if_false]
        cases hv : (decide (s.Items[i].Ver ≥ 1) && decide (s.Items[i].Ver ≤ s.Next - 1)) with
        | false =>
          right
          refine ⟨by simp, fun hc => ?_⟩
          obtain ⟨_, h2, h3, _⟩ := hc i (Nat.le_refl _) hlt
          have : (decide (s.Items[i].Ver ≥ 1) && decide (s.Items[i].Ver ≤ s.Next - 1)) = true := by simp; omega
          rw [this] at hv; simp at hv
        | true =>
          simp only [Bool.not_true, Bool.false_eq_true, if_false]
          have hv' : 1 ≤ s.Items[i].Ver ∧ s.Items[i].Ver ≤ s.Next - 1 := by simpa using hv
          have step : ∀ (hs : ∀ h0 : 0 < i, slt (s.Items[i-1]'(by omega)).Order.Name s.Items[i].Order.Name = true), ((match (if (s.Items.take i).any (fun y => y.Ver == s.Items[i].Ver) then (.inl false : Bool ⊕ Unit) else .inr ()) with | .inl r => some (.inl r) | .inr t => spec_StoreOk.l0 s ((i + 1 : Nat) : Int)) = some (.inr ()) ∧ ∀ k, i ≤ k → ∀ hk : k < s.Items.length, CondK s k hk) ∨ ((match (if (s.Items.take i).any (fun y => y.Ver == s.Items[i].Ver) then (.inl false : Bool ⊕ Unit) else .inr ()) with | .inl r => some (.inl r) | .inr t => spec_StoreOk.l0 s ((i + 1 : Nat) : Int)) = some (.inl false) ∧ ¬ ∀ k, i ≤ k → ∀ hk : k < s.Items.length, CondK s k hk) := by
            intro hs
            cases ha : (s.Items.take i).any (fun y => y.Ver == s.Items[i].Ver) with
            | true =>
              right
              refine ⟨rfl, fun hc => ?_⟩
              obtain ⟨_, _, _, _, h5⟩ := hc i (Nat.le_refl _) hlt
              rw [(any_take s i hlt).2 h5] at ha; simp at ha
            | false =>
              have h5 := (any_take s i hlt).1 ha
              rcases ih hlt with ⟨g1, g2⟩ | ⟨g1, g2⟩
              · left
                refine ⟨g1, fun k hk hkl => ?_⟩
                rcases Nat.eq_or_lt_of_le hk with rfl | hk'
                · exact ⟨p1, hv'.1, hv'.2, hs, h5⟩
                · exact g2 k hk' hkl
              · right
                exact ⟨g1, fun hc => g2 fun k hk hkl => hc k (by omega) hkl⟩
          by_cases h0 : i = 0
          · have c2 : decide ((i : Int) > 0) = false := by simp; omega
            simp only [c2, Bool.false_eq_true, if_false]
            exact step fun h => by omega
          · have e : IntKind.i64.wrap ((i : Int) - 1) = ((i - 1 : Nat) : Int) := by rw [w64_id (by omega) (by omega)]; omega
            have c2 : decide ((i : Int) > 0) = true := by simp; omega
            simp only [c2, if_true, e, ix_nat, List.getElem?_eq_getElem (show i - 1 < s.Items.length by omega), bind_some']
            cases hsl : slt (s.Items[i-1]'(by omega)).Order.Name s.Items[i].Order.Name with
            | false =>
              right
              refine ⟨by simp, fun hc => ?_⟩
              obtain ⟨_, _, _, h4, _⟩ := hc i (Nat.le_refl _) hlt
              rw [h4 (by omega)] at hsl; simp at hsl
            | true =>
              simp only [Bool.not_true, Bool.false_eq_true, if_false]
              exact step fun _ => hsl
    · rw [if_neg (by simpa using hlt)]
      exact .inl ⟨rfl, fun k hk hkl => by omega⟩
  have hR : RightS s ↔ (1 ≤ s.Next ∧ s.Next ≤ 100000 ∧ s.Items.length ≤ 6 ∧ ∀ k (hk : k < s.Items.length), CondK s k hk) := by
    constructor
    · intro r
      refine ⟨r.n1, r.n2, r.len, fun k hk => ?_⟩
      obtain ⟨a, b, c⟩ := r.ok _ (List.getElem_mem hk)
      exact ⟨a, b, c, fun h0 => List.pairwise_iff_getElem.1 r.up _ _ _ _ (by omega), fun j hj => List.pairwise_iff_getElem.1 r.vs _ _ _ _ hj⟩
    · rintro ⟨a, b, c, d⟩
      refine ⟨a, b, c, fun x hx => ?_, List.pairwise_iff_getElem.2 fun i j hi hj hij => ?_, List.pairwise_iff_getElem.2 fun i j hi hj hij => ?_⟩
      · obtain ⟨k, hk, rfl⟩ := List.mem_iff_getElem.1 hx
        obtain ⟨e1, e2, e3, _⟩ := d k hk
        exact ⟨e1, e2, e3⟩
      · have grow : ∀ m, ∀ hm : i + 1 + m < s.Items.length, slt s.Items[i].Order.Name (s.Items[i + 1 + m]).Order.Name = true := by
          intro m
          induction m with
          | zero => intro hm; have := (d (i + 1) hm).2.2.2.1 (by omega); simpa using this
          | succ m ihm =>
            intro hm
            have h1 := ihm (by omega)
            have h2 := (d (i + 1 + (m + 1)) hm).2.2.2.1 (by omega)
            exact slt_trans _ _ _ h1 (by simpa [show i + 1 + (m + 1) - 1 = i + 1 + m by omega] using h2)
        have := grow (j - (i + 1)) (by omega)
        simpa [show i + 1 + (j - (i + 1)) = j by omega] using this
      · exact (d j hj).2.2.2.2 i hij
  rw [hR]
  simp only [spec_StoreOk, in_some, bind_some'] at hb1
  by_cases hn : 1 ≤ s.Next ∧ s.Next ≤ 100000
  · have c1 : (decide (s.Next ≥ 1) && decide (s.Next ≤ 100000)) = true := by simp; omega
    simp only [c1, Bool.not_true, Bool.false_eq_true, if_false] at hb1
    by_cases hlen : s.Items.length ≤ 6
    · have c2 : decide ((s.Items.length : Int) > 6) = false := by simp; omega
      simp only [c2, Bool.false_eq_true, if_false] at hb1
      have k0 := key hn.1 hn.2 0 (by omega)
      simp only [Int.natCast_zero] at k0
      rcases k0 with ⟨g1, g2⟩ | ⟨g1, g2⟩
      · rw [g1] at hb1
        simp only [bind_some', Option.some.injEq] at hb1
        subst hb1
        simp only [true_iff]
        exact ⟨hn.1, hn.2, hlen, fun k hk => g2 k (by omega) hk⟩
      · rw [g1] at hb1
        simp only [bind_some', Option.some.injEq] at hb1
        subst hb1
        simp only [Bool.false_eq_true, false_iff]
        rintro ⟨_, _, _, hc⟩
        exact g2 fun k _ hk => hc k hk
    · have c2 : decide ((s.Items.length : Int) > 6) = true := by simp; omega
      simp only [c2, if_true, Option.some.injEq] at hb1
      subst hb1
      simp only [Bool.false_eq_true, false_iff]
      rintro ⟨_, _, h3, _⟩; exact hlen h3
  · have c1 : (decide (s.Next ≥ 1) && decide (s.Next ≤ 100000)) = false := by simp; omega
    simp only [c1, Bool.not_false, if_true, Option.some.injEq] at hb1
    subst hb1
    simp only [Bool.false_eq_true, false_iff]
    rintro ⟨h1, h2, _⟩; exact hn ⟨h1, h2⟩
theorem slt_tri : ∀ (a b : Str), slt a b = false → a ≠ b → slt b a = true := by
  intro a
  unfold slt
  induction a with
  | nil =>
    intro b h hne
    cases b with
    | nil => exact absurd rfl hne
    | cons y m => simp [Op.bytesLess] at h
  | cons x l ih =>
    intro b h hne
    cases b with
    | nil => rfl
    | cons y m =>
      simp only [Op.bytesLess, Bool.or_eq_false_iff, decide_eq_false_iff_not, Bool.and_eq_false_imp, beq_iff_eq] at h
      simp only [Op.bytesLess, Bool.or_eq_true, decide_eq_true_eq, Bool.and_eq_true, beq_iff_eq]
      by_cases hxy : x = y
      · subst hxy
        right
        exact ⟨rfl, ih m (h.2 rfl) fun e => hne (by rw [e])⟩
      · left
        have h1 := h.1
        rw [UInt8.lt_iff_toNat_lt] at *
        have : x.toNat ≠ y.toNat := fun e => hxy (UInt8.toNat_inj.1 e)
        omega
theorem later_iff (n : Str) (y : Item) : later n y = true ↔ slt n y.Order.Name = true := by
  unfold later
  constructor
  · intro h
    simp only [Bool.not_eq_true', Bool.or_eq_false_iff, beq_eq_false_iff_ne] at h
    exact slt_tri _ _ h.1 h.2
  · intro h
    simp only [Bool.not_eq_true', Bool.or_eq_false_iff, beq_eq_false_iff_ne]
    refine ⟨?_, fun e => ?_⟩
    · cases h2 : slt y.Order.Name n with
      | false => rfl
      | true => have := slt_trans _ _ _ h h2; rw [slt_irrefl] at this; simp at this
    · rw [e, slt_irrefl] at h; simp at h
def Asc (l : List Item) : Prop := l.Pairwise fun a b => slt a.Order.Name b.Order.Name = true
/-- where the names grow: in the place of one of the name, or ahead of the later ones -/
def putIn (x : Item) : List Item → List Item
  | [] => [x]
  | y :: l => if y.Order.Name == x.Order.Name then x :: l else if slt y.Order.Name x.Order.Name then y :: putIn x l else x :: y :: l
theorem rest_none {n : Str} {l : List Item} (h : ∀ y ∈ l, y.Order.Name ≠ n) : restS n l = l := by
  unfold restS
  rw [List.filter_eq_self]
  intro y hy
  simp [named, h y hy]
theorem asc_ne {n : Str} {l : List Item} (h : ∀ y ∈ l, slt n y.Order.Name = true) : ∀ y ∈ l, y.Order.Name ≠ n := by
  intro y hy e
  have := h y hy
  rw [e, slt_irrefl] at this; simp at this
theorem ahead {x : Item} {l : List Item} (h : ∀ y ∈ l, slt x.Order.Name y.Order.Name = true) : (match l.findIdx? (later x.Order.Name) with | some k => l.take k ++ [x] ++ l.drop k | none => l ++ [x]) = x :: l := by
  cases l with
  | nil => rfl
  | cons y l =>
    have : later x.Order.Name y = true := (later_iff _ _).2 (h y (by simp))
    simp [List.findIdx?_cons, this]
theorem putAt_asc (x : Item) : ∀ (l : List Item), Asc l → putAt l x = putIn x l
  | [], _ => rfl
  | y :: l, h => by
    obtain ⟨h1, h2⟩ := List.pairwise_cons.1 h
    have ih := putAt_asc x l h2
    simp only [putIn]
    by_cases hn : (y.Order.Name == x.Order.Name) = true
    · rw [if_pos hn]
      have e : y.Order.Name = x.Order.Name := by simpa using hn
      have hr : restS x.Order.Name (y :: l) = l := by
        have : restS x.Order.Name (y :: l) = restS x.Order.Name l := by simp [restS, named, e]
        rw [this, rest_none (asc_ne fun z hz => by rw [← e]; exact h1 z hz)]
      unfold putAt
      rw [hr]
      exact ahead fun z hz => by rw [← e]; exact h1 z hz
    · rw [if_neg hn]
      have hne : y.Order.Name ≠ x.Order.Name := by simpa using hn
      have hr : restS x.Order.Name (y :: l) = y :: restS x.Order.Name l := by simp [restS, named, hne]
      by_cases hs : slt y.Order.Name x.Order.Name = true
      · rw [if_pos hs]
        have hl : later x.Order.Name y = false := by
          cases hv : later x.Order.Name y with
          | false => rfl
          | true =>
            have := slt_trans _ _ _ hs ((later_iff _ _).1 hv)
            rw [slt_irrefl] at this; simp at this
        rw [← ih]
        unfold putAt
        rw [hr]
        simp only [List.findIdx?_cons, hl, Bool.false_eq_true, if_false]
        cases (restS x.Order.Name l).findIdx? (later x.Order.Name) with
        | none => simp
        | some k => simp
      · rw [if_neg hs]
        have hxy : slt x.Order.Name y.Order.Name = true := slt_tri _ _ (by simpa using hs) hne
        have hall : ∀ z ∈ l, slt x.Order.Name z.Order.Name = true := fun z hz => slt_trans _ _ _ hxy (h1 z hz)
        have hr2 : restS x.Order.Name (y :: l) = y :: l := by rw [hr, rest_none (asc_ne hall)]
        unfold putAt
        rw [hr2]
        exact ahead fun z hz => by
          rcases List.mem_cons.1 hz with rfl | hz
          · exact hxy
          · exact hall z hz
/-! the reference's way -/
theorem set_putIn (x : Item) : ∀ (l : List Item) (i : Nat) (hi : i < l.length), Asc l → l[i].Order.Name = x.Order.Name → l.set i x = putIn x l
  | [], i, hi, _, _ => by simp at hi
  | y :: l, 0, hi, h, e => by
    simp only [List.getElem_cons_zero] at e
    simp [putIn, e]
  | y :: l, i + 1, hi, h, e => by
    obtain ⟨h1, h2⟩ := List.pairwise_cons.1 h
    simp only [List.length_cons] at hi
    simp only [List.getElem_cons_succ] at e
    have hs : slt y.Order.Name x.Order.Name = true := by rw [← e]; exact h1 _ (List.getElem_mem (by omega))
    have hne : (y.Order.Name == x.Order.Name) = false := by
      simp only [beq_eq_false_iff_ne]; intro e'; rw [e', slt_irrefl] at hs; simp at hs
    simp only [putIn, hne, Bool.false_eq_true, if_false, hs, if_true, List.set_cons_succ]
    rw [set_putIn x l i (by omega) h2 e]
theorem first_putIn (x : Item) : ∀ (l : List Item), Asc l → (∀ y ∈ l, y.Order.Name ≠ x.Order.Name) → l.take (l.findIdx fun y => !(slt y.Order.Name x.Order.Name)) ++ [x] ++ l.drop (l.findIdx fun y => !(slt y.Order.Name x.Order.Name)) = putIn x l
  | [], _, _ => rfl
  | y :: l, h, hn => by
    obtain ⟨h1, h2⟩ := List.pairwise_cons.1 h
    have hne : (y.Order.Name == x.Order.Name) = false := by simpa using hn y (by simp)
    simp only [putIn, hne, Bool.false_eq_true, if_false, List.findIdx_cons]
    cases hs : slt y.Order.Name x.Order.Name with
    | false => simp
    | true =>
      simp only [Bool.not_true, cond_false, if_true]
      rw [← first_putIn x l h2 fun z hz => hn z (by simp [hz])]
      simp
theorem specPut_l0 (o : Order) (s : Store) (hl : s.Items.length ≤ 1048576) : spec_Put.l0 o s 0 = some ((s.Items.findIdx fun y => !(slt y.Order.Name o.Name) : Nat) : Int) := by
  have key : ∀ i, i ≤ s.Items.length → spec_Put.l0 o s i = some ((i + (s.Items.drop i).findIdx fun y => !(slt y.Order.Name o.Name) : Nat) : Int) := by
    refine down _ fun i hi ih => ?_
    rw [spec_Put.l0]
    by_cases hlt : i < s.Items.length
    · have c : decide ((i : Int) < (s.Items.length : Int)) = true := by simpa using hlt
      rw [List.drop_eq_getElem_cons hlt, List.findIdx_cons]
      simp only [c, if_true, ix_nat, List.getElem?_eq_getElem hlt, bind_some', w64_succ (show i < 9223372036854775807 by omega)]
      cases hs : slt s.Items[i].Order.Name o.Name with
      | false => simp
      | true =>
        simp only [if_true, Bool.not_true, cond_false]
        rw [ih hlt]
        congr 1; omega
    · rw [if_neg (by simpa using hlt), List.drop_eq_nil_of_le (by omega)]
      simp
  have := key 0 (by omega)
  simpa using this
theorem putIn_mem {x y : Item} : ∀ {l : List Item}, y ∈ putIn x l → y = x ∨ y ∈ l
  | [], h => by simp [putIn] at h; exact .inl h
  | z :: l, h => by
    simp only [putIn] at h
    split at h
    · rcases List.mem_cons.1 h with h | h
      · exact .inl h
      · exact .inr (by simp [h])
    · split at h
      · rcases List.mem_cons.1 h with h | h
        · exact .inr (by simp [h])
        · rcases putIn_mem h with h | h
          · exact .inl h
          · exact .inr (by simp [h])
      · rcases List.mem_cons.1 h with h | h
        · exact .inl h
        · exact .inr h
theorem putIn_len {x : Item} : ∀ {l : List Item}, (putIn x l).length ≤ l.length + 1
  | [] => by simp [putIn]
  | z :: l => by
    have := putIn_len (x := x) (l := l)
    simp only [putIn]
    split
    · simp
    · split
      · simp; omega
      · simp
theorem putIn_sm {s : Store} {x : Item} (n : Int) (h : Store.sm s) (hx : Item.sm x) (hl : s.Items.length ≤ 6) : Store.sm ⟨putIn x s.Items, n⟩ := by
  refine ⟨?_, fun y hy => ?_⟩
  · have := putIn_len (x := x) (l := s.Items)
    show (putIn x s.Items).length ≤ 1048576
    omega
  · rcases putIn_mem hy with rfl | hy
    · exact hx
    · exact h.2 _ hy
theorem slc_drop {α : Type} (l : List α) (i : Nat) (h : i ≤ l.length) : slc l (i : Int) (l.length : Int) = some (l.drop i) := by
  simp only [slc]; rw [if_pos ⟨by omega, by omega, by omega⟩]; simp [cut]
/-- Put -/
theorem put_same (s : Store) (o : Order) (h : Store.sm s) (ho : Order.sm o) : ∃ r : Store × Bool, impl_Put s o = some r ∧ spec_Put s o = some r ∧ (r.2 = true → RightS s ∧ RightS r.1 ∧ r.1 = ⟨putIn ⟨o, s.Next⟩ s.Items, s.Next + 1⟩) ∧ (r.2 = false → r.1 = s) := by
  obtain ⟨b, b1, b2, b3⟩ := storeOk_right s h
  have hx : Item.sm ⟨o, s.Next⟩ := ho
  simp only [impl_Put, spec_Put, put_some' s.Items ⟨o, s.Next⟩ h hx, l13Copy_some s h, copyStore_some s h, b1, b2, bind_some']
  cases b with
  | false => exact ⟨(s, false), rfl, rfl, fun e => by simp at e, fun _ => rfl⟩
  | true =>
    have R := b3.1 rfl
    have hup : Asc s.Items := R.up
    have hn : IntKind.i64.wrap (s.Next + 1) = s.Next + 1 := w64_id (by have := R.n1; omega) (by have := R.n2; omega)
    have hlen := R.len
    obtain ⟨c, c1, c2, c3⟩ := storeOk_right ⟨putIn ⟨o, s.Next⟩ s.Items, s.Next + 1⟩ (putIn_sm _ h hx hlen)
    have hend : ∃ r : Store × Bool, (if (!c) = true then some (s, false) else some (Store.mk (putIn ⟨o, s.Next⟩ s.Items) (s.Next + 1), true)) = some r ∧ (r.2 = true → RightS s ∧ RightS r.1 ∧ r.1 = ⟨putIn ⟨o, s.Next⟩ s.Items, s.Next + 1⟩) ∧ (r.2 = false → r.1 = s) := by
      cases c with
      | false => exact ⟨_, rfl, fun e => by simp at e, fun _ => rfl⟩
      | true => exact ⟨_, rfl, fun _ => ⟨R, c3.1 rfl, rfl⟩, fun e => by simp at e⟩
    obtain ⟨r, r1, r2⟩ := hend
    refine ⟨r, ?_, ?_, r2⟩
    · rw [putAt_asc _ _ hup, hn, c2]
      exact r1
    · simp only [Bool.not_true, Bool.false_eq_true, if_false, l6Copy_some o ho, bind_some', l13At_some s _ h.1]
      rcases pos_some (l := s.Items) (n := o.Name) with ⟨i, e, hi, hname⟩ | ⟨e, hno⟩
      · rw [e]
        have d1 : decide ((i : Int) ≥ 0) = true := by simp
        simp only [d1, if_true, ix_nat, List.getElem?_eq_getElem hi, bind_some', put_nat hi]
        rw [set_putIn ⟨o, s.Next⟩ s.Items i hi hup hname, hn, c1]
        exact r1
      · rw [e]
        have d1 : decide ((-1 : Int) ≥ 0) = false := rfl
        have hk : (s.Items.findIdx fun y => !(slt y.Order.Name o.Name)) ≤ s.Items.length := List.findIdx_le_length
        have hf := first_putIn ⟨o, s.Next⟩ s.Items hup hno
        simp only [d1, Bool.false_eq_true, if_false, specPut_l0 o s h.1, bind_some']
        generalize (s.Items.findIdx fun y => !(slt y.Order.Name o.Name)) = k at hk hf
        rw [slc_take _ _ hk, slc_drop _ _ hk]
        simp only [bind_some']
        rw [app_ok (by simp; omega)]
        simp only [bind_some', List.nil_append]
        rw [app_ok (by simp; omega)]
        simp only [bind_some']
        rw [app_ok (by simp; omega)]
        simp only [bind_some']
        rw [hf, hn, c1]
        exact r1
theorem mt_l0 : ∀ (n : Nat) (v : Int) (s : Str), 0 ≤ v → v < 10 ^ n → v ≤ 1000000000000000000 → s.length + n ≤ 1000 → ∃ r, laws_markText.l0 v s = some r ∧ r.length ≤ 1000 := by
  intro n
  induction n with
  | zero =>
    intro v s h0 h1 _ h2
    rw [laws_markText.l0, if_neg (by simp at h1 ⊢; omega)]
    exact ⟨s, rfl, by omega⟩
  | succ n ih =>
    intro v s h0 h1 h3 h2
    rw [laws_markText.l0]
    by_cases hv : v > 0
    · have hd : Int.tdiv v 10 = v / 10 := Int.tdiv_eq_ediv_of_nonneg h0
      have e : IntKind.i64.wrap (Int.tdiv v 10) = v / 10 := by rw [hd]; exact w64_id (by omega) (by omega)
      rw [if_pos (by simpa using hv), cat_ok (by simp [strOf]; omega)]
      simp only [bind_some', e]
      have h10 : v < 10 * 10 ^ n := by rw [Int.pow_succ] at h1; omega
      exact ih (v / 10) _ (by omega) (by omega) (by omega) (by simp [strOf]; omega)
    · rw [if_neg (by simpa using hv)]
      exact ⟨s, rfl, by omega⟩
theorem mt_some (k : Int) (h0 : 0 ≤ k) (h1 : k < 1000000000000000000) : ∃ s, laws_markText k = some s := by
  unfold laws_markText
  split
  · exact ⟨_, rfl⟩
  · obtain ⟨r, e, hr⟩ := mt_l0 18 k [] h0 (by simpa using h1) (by omega) (by simp)
    simp only [e, bind_some']
    rw [cat_ok (by simp; omega)]
    exact ⟨_, rfl⟩
theorem ixA {α : Type} (d r : List α) (x : α) : ix (d ++ x :: r) (d.length : Int) = some x := by rw [ix_nat]; simp
theorem putA {α : Type} (d r : List α) (x y : α) : Nt.put (d ++ x :: r) (d.length : Int) y = some (d ++ y :: r) := by
  rw [put_nat (by simp)]; simp
theorem lenA {α : Type} (d r : List α) (x : α) : decide ((d.length : Int) < ((d ++ x :: r).length : Int)) = true := by simp; omega
theorem lenN {α : Type} (d : List α) : decide ((d.length : Int) < ((d ++ []).length : Int)) = false := by simp
theorem w1 {k : Int} (h0 : 0 ≤ k) (h1 : k < 1000000000000000000) : IntKind.i64.wrap (k + 1) = k + 1 := w64_id (by omega) (by omega)
theorem snocA {α : Type} (d r : List α) (x : α) : d ++ x :: r = (d ++ [x]) ++ r := by simp
theorem wlen {α : Type} (d : List α) (x : α) (h : d.length < 1000000000000000000) : IntKind.i64.wrap ((d.length : Int) + 1) = ((d ++ [x]).length : Int) := by rw [w1 (by omega) (by omega)]; simp
/-! what is marked -/
def MkM (k : Int) : List Metric → Int → Prop
  | [], e => e = k
  | x :: l, e => laws_markText k = some x.Name ∧ x.Kind = k + 1 ∧ x.Goal = k + 1 + 1 ∧ MkM (k + 1 + 1 + 1) l e
def MkN (k : Int) : List Note → Int → Prop
  | [], e => e = k
  | x :: l, e => laws_markText k = some x.Key ∧ laws_markText (k + 1) = some x.Text ∧ MkN (k + 1 + 1) l e
def MkI (k : Int) : List Item → Int → Prop
  | [], e => e = k
  | x :: l, e => laws_markText k = some x.Order.Name ∧ laws_markText (k + 1) = some x.Order.Target ∧ x.Order.Low = k + 1 + 1 ∧ x.Order.High = k + 1 + 1 + 1 ∧ ∃ a, MkM (k + 1 + 1 + 1 + 1) x.Order.Metrics a ∧ k + 1 + 1 + 1 + 1 ≤ a ∧ x.Order.Pace = ⟨a, a + 1, a + 1 + 1, a + 1 + 1 + 1⟩ ∧ ∃ b, MkN (a + 1 + 1 + 1 + 1) x.Order.Notes b ∧ a + 1 + 1 + 1 + 1 ≤ b ∧ x.Ver = b ∧ b ≤ e ∧ MkI (b + 1) l e
theorem MkM_app : ∀ (l m : List Metric) (k e f : Int), MkM k l e → MkM e m f → MkM k (l ++ m) f
  | [], m, k, e, f, h, h2 => by simp only [MkM] at h; subst h; exact h2
  | x :: l, m, k, e, f, h, h2 => ⟨h.1, h.2.1, h.2.2.1, MkM_app l m _ _ _ h.2.2.2 h2⟩
theorem MkN_app : ∀ (l m : List Note) (k e f : Int), MkN k l e → MkN e m f → MkN k (l ++ m) f
  | [], m, k, e, f, h, h2 => by simp only [MkN] at h; subst h; exact h2
  | x :: l, m, k, e, f, h, h2 => ⟨h.1, h.2.1, MkN_app l m _ _ _ h.2.2 h2⟩
theorem MkM_end : ∀ (l : List Metric) (k e : Int), MkM k l e → e = k + 3 * (l.length : Int)
  | [], k, e, h => by simp only [MkM] at h; subst h; simp
  | x :: l, k, e, h => by have := MkM_end l _ _ h.2.2.2; simp only [List.length_cons]; omega
theorem MkN_end : ∀ (l : List Note) (k e : Int), MkN k l e → e = k + 2 * (l.length : Int)
  | [], k, e, h => by simp only [MkN] at h; subst h; simp
  | x :: l, k, e, h => by have := MkN_end l _ _ h.2.2; simp only [List.length_cons]; omega
theorem MkI_app : ∀ (l m : List Item) (k e f : Int), MkI k l e → e ≤ f → MkI e m f → MkI k (l ++ m) f
  | [], m, k, e, f, h, _, h2 => by simp only [MkI] at h; subst h; exact h2
  | x :: l, m, k, e, f, h, hf, h2 => by
    obtain ⟨h1, h3, h4, h5, a, h6, h7, h8, b, h9, h10, h11, h12, h13⟩ := h
    exact ⟨h1, h3, h4, h5, a, h6, h7, h8, b, h9, h10, h11, by omega, MkI_app l m _ _ _ h13 hf h2⟩
theorem markM_l0 (k0 : Int) : ∀ (r d : List Metric) (e : Int), MkM k0 d e → 0 ≤ e → e + 3 * (r.length : Int) < 100000000000000000 → d.length + r.length ≤ 1048576 → ∃ m e', laws_markMetricS.l0 e d.length (d ++ r) = some (e', m) ∧ MkM k0 m e' ∧ m.length = d.length + r.length ∧ e' = e + 3 * (r.length : Int)
  | [], d, e, h, _, _, _ => ⟨d, e, by rw [laws_markMetricS.l0, if_neg (by rw [lenN]; simp), List.append_nil], h, by simp, by simp⟩
  | x :: r, d, e, h, h0, h1, h2 => by
    simp only [List.length_cons] at h1 h2
    obtain ⟨s, hs⟩ := mt_some e h0 (by omega)
    rw [laws_markMetricS.l0]
    simp only [lenA, if_true, hs, ixA, putA, bind_some', w1 h0 (by omega), w1 (k := e + 1) (by omega) (by omega), w1 (k := e + 1 + 1) (by omega) (by omega), wlen d (Metric.mk s (e + 1) (e + 1 + 1)) (by omega)]
    rw [snocA d r]
    obtain ⟨m, e', g1, g2, g3, g4⟩ := markM_l0 k0 r (d ++ [⟨s, e + 1, e + 1 + 1⟩]) (e + 1 + 1 + 1) (MkM_app _ _ _ _ _ h ⟨hs, rfl, rfl, rfl⟩) (by omega) (by omega) (by simp; omega)
    exact ⟨m, e', g1, g2, by simp at g3 ⊢; omega, by simp only [List.length_cons]; omega⟩
theorem markN_l0 (k0 : Int) : ∀ (r d : List Note) (e : Int), MkN k0 d e → 0 ≤ e → e + 2 * (r.length : Int) < 100000000000000000 → d.length + r.length ≤ 1048576 → ∃ m e', laws_markNoteS.l0 e d.length (d ++ r) = some (e', m) ∧ MkN k0 m e' ∧ m.length = d.length + r.length ∧ e' = e + 2 * (r.length : Int)
  | [], d, e, h, _, _, _ => ⟨d, e, by rw [laws_markNoteS.l0, if_neg (by rw [lenN]; simp), List.append_nil], h, by simp, by simp⟩
  | x :: r, d, e, h, h0, h1, h2 => by
    simp only [List.length_cons] at h1 h2
    obtain ⟨s, hs⟩ := mt_some e h0 (by omega)
    obtain ⟨s', hs'⟩ := mt_some (e + 1) (by omega) (by omega)
    rw [laws_markNoteS.l0]
    simp only [lenA, if_true, hs, hs', ixA, putA, bind_some', w1 h0 (by omega), w1 (k := e + 1) (by omega) (by omega), wlen d (Note.mk s s') (by omega)]
    rw [snocA d r]
    obtain ⟨m, e', g1, g2, g3, g4⟩ := markN_l0 k0 r (d ++ [⟨s, s'⟩]) (e + 1 + 1) (MkN_app _ _ _ _ _ h ⟨hs, hs', rfl⟩) (by omega) (by omega) (by simp; omega)
    exact ⟨m, e', g1, g2, by simp at g3 ⊢; omega, by simp only [List.length_cons]; omega⟩
theorem markM_some (a : List Metric) (k : Int) (h : a.length ≤ 1048576) (h0 : 0 ≤ k) (h1 : k < 10000000000000000) : ∃ m, laws_markMetricS a k = some (k + 3 * (a.length : Int), m) ∧ MkM k m (k + 3 * (a.length : Int)) ∧ m.length = a.length := by
  obtain ⟨m, e, g1, g2, g3, rfl⟩ := markM_l0 k a [] k rfl h0 (by omega) (by simpa using h)
  simp only [List.length_nil, Int.natCast_zero, List.nil_append] at g1
  simp only [laws_markMetricS, g1, bind_some']
  exact ⟨m, rfl, g2, by simpa using g3⟩
theorem markN_some (a : List Note) (k : Int) (h : a.length ≤ 1048576) (h0 : 0 ≤ k) (h1 : k < 10000000000000000) : ∃ m, laws_markNoteS a k = some (k + 2 * (a.length : Int), m) ∧ MkN k m (k + 2 * (a.length : Int)) ∧ m.length = a.length := by
  obtain ⟨m, e, g1, g2, g3, rfl⟩ := markN_l0 k a [] k rfl h0 (by omega) (by simpa using h)
  simp only [List.length_nil, Int.natCast_zero, List.nil_append] at g1
  simp only [laws_markNoteS, g1, bind_some']
  exact ⟨m, rfl, g2, by simpa using g3⟩
theorem heldM_l0 : ∀ (r d : List Metric) (e f : Int), MkM e r f → 0 ≤ e → e + 3 * (r.length : Int) < 100000000000000000 → d.length + r.length < 100000000000000000 → laws_heldMetricS.l0 (d ++ r) e d.length = some (.inr f)
  | [], d, e, f, h, _, _, _ => by simp only [MkM] at h; subst h; rw [laws_heldMetricS.l0, if_neg (by rw [lenN]; simp)]
  | x :: r, d, e, f, h, h0, h1, h2 => by
    simp only [List.length_cons] at h1 h2
    obtain ⟨g1, g2, g3, g4⟩ := h
    rw [laws_heldMetricS.l0]
    simp only [lenA, if_true, ixA, g1, bind_some', beq_self_eq_true, Bool.not_true, Bool.false_eq_true, if_false, w1 h0 (by omega), w1 (k := e + 1) (by omega) (by omega), w1 (k := e + 1 + 1) (by omega) (by omega), g2, g3, bne_self_eq_false, wlen d x (by omega)]
    rw [snocA d r]
    exact heldM_l0 r (d ++ [x]) _ f g4 (by omega) (by omega) (by simp; omega)
theorem heldN_l0 : ∀ (r d : List Note) (e f : Int), MkN e r f → 0 ≤ e → e + 2 * (r.length : Int) < 100000000000000000 → d.length + r.length < 100000000000000000 → laws_heldNoteS.l0 (d ++ r) e d.length = some (.inr f)
  | [], d, e, f, h, _, _, _ => by simp only [MkN] at h; subst h; rw [laws_heldNoteS.l0, if_neg (by rw [lenN]; simp)]
  | x :: r, d, e, f, h, h0, h1, h2 => by
    simp only [List.length_cons] at h1 h2
    obtain ⟨g1, g2, g4⟩ := h
    rw [laws_heldNoteS.l0]
    simp only [lenA, if_true, ixA, g1, g2, bind_some', beq_self_eq_true, Bool.not_true, Bool.false_eq_true, if_false, w1 h0 (by omega), w1 (k := e + 1) (by omega) (by omega), wlen d x (by omega)]
    rw [snocA d r]
    exact heldN_l0 r (d ++ [x]) _ f g4 (by omega) (by omega) (by simp; omega)
theorem heldM_some (m : List Metric) (k f : Int) (h : MkM k m f) (h0 : 0 ≤ k) (h1 : k < 10000000000000000) (h2 : m.length < 10000000000000000) : laws_heldMetricS m k = some f := by
  have := heldM_l0 m [] k f h h0 (by omega) (by simp; omega)
  simp only [List.length_nil, Int.natCast_zero, List.nil_append] at this
  simp only [laws_heldMetricS, this, bind_some']
theorem heldN_some (m : List Note) (k f : Int) (h : MkN k m f) (h0 : 0 ≤ k) (h1 : k < 10000000000000000) (h2 : m.length < 10000000000000000) : laws_heldNoteS m k = some f := by
  have := heldN_l0 m [] k f h h0 (by omega) (by simp; omega)
  simp only [List.length_nil, Int.natCast_zero, List.nil_append] at this
  simp only [laws_heldNoteS, this, bind_some']
theorem lendC_some {β : Type} (x : List β) (k : Int) {c : Option (Int × List β)} {k' : Int} {m : List β} (h : c = some (k', m)) (h0 : x = [] → k' = k ∧ m = []) : Nt.lendC x k c = some (k', m) := by
  cases x with
  | nil => obtain ⟨rfl, rfl⟩ := h0 rfl; rfl
  | cons => exact h
theorem lendA {α β : Type} {x : List β} {k k' : Int} {m : List β} {c : Option (Int × List β)} (h : Nt.lendC x k c = some (k', m)) (d r : List α) (y : α) (u : List β → α) : Nt.lendP (Nt.lendC x k c) (d ++ y :: r) (d.length : Int) u = some (k', d ++ u m :: r) := by
  rw [h]; simp only [Nt.lendP, Option.bind_some, putA, Option.map_some]
theorem markI_l0 (k0 : Int) : ∀ (r d : List Item) (e : Int), MkI k0 d e → 0 ≤ e → e + 10000000 * (r.length : Int) < 1000000000000000 → d.length + r.length ≤ 1048576 → (∀ x ∈ r, Item.sm x) → ∃ m e', laws_markItemS_d.l0 e d.length (d ++ r) = some (e', m) ∧ MkI k0 m e' ∧ m.length = d.length + r.length ∧ e ≤ e' ∧ e' ≤ e + 10000000 * (r.length : Int)
  | [], d, e, h, _, _, _, _ => ⟨d, e, by rw [laws_markItemS_d.l0, if_neg (by rw [lenN]; simp), List.append_nil], h, by simp, by omega, by simp⟩
  | x :: r, d, e, h, h0, h1, h2, h3 => by
    simp only [List.length_cons] at h1 h2
    have hx := h3 x (by simp)
    have hm : x.Order.Metrics.length ≤ 1048576 := hx.2.2.1.1
    have hn : x.Order.Notes.length ≤ 1048576 := hx.2.2.2.1
    obtain ⟨s, hs⟩ := mt_some e h0 (by omega)
    obtain ⟨s', hs'⟩ := mt_some (e + 1) (by omega) (by omega)
    obtain ⟨m1, a1, a2, a3⟩ := markM_some x.Order.Metrics (e + 1 + 1 + 1 + 1) hm (by omega) (by omega)
    generalize ha : e + 1 + 1 + 1 + 1 + 3 * (x.Order.Metrics.length : Int) = a at a1 a2
    obtain ⟨m2, b1, b2, b3⟩ := markN_some x.Order.Notes (a + 1 + 1 + 1 + 1) hn (by omega) (by omega)
    generalize hb : a + 1 + 1 + 1 + 1 + 2 * (x.Order.Notes.length : Int) = b at b1 b2
    have c1 := lendC_some x.Order.Metrics (e + 1 + 1 + 1 + 1) a1 (fun h => by rw [h] at ha a3; simp at ha a3; exact ⟨by omega, a3⟩)
    have c2 := lendC_some x.Order.Notes (a + 1 + 1 + 1 + 1) b1 (fun h => by rw [h] at hb b3; simp at hb b3; exact ⟨by omega, b3⟩)
    rw [laws_markItemS_d.l0]
    simp only [lenA, if_true, hs, hs', ixA, putA, bind_some', w1 h0 (by omega), w1 (k := e + 1) (by omega) (by omega), w1 (k := e + 1 + 1) (by omega) (by omega), w1 (k := e + 1 + 1 + 1) (by omega) (by omega), lendA c1, w1 (k := a) (by omega) (by omega), w1 (k := a + 1) (by omega) (by omega), w1 (k := a + 1 + 1) (by omega) (by omega), w1 (k := a + 1 + 1 + 1) (by omega) (by omega), lendA c2, w1 (k := b) (by omega) (by omega)]
    rw [w1 (k := (d.length : Int)) (by omega) (by omega)]
    have hl : ∀ y : Item, ((d.length : Int) + 1) = ((d ++ [y]).length : Int) := fun y => by simp
    rw [hl ⟨⟨s, s', e + 1 + 1, e + 1 + 1 + 1, m1, ⟨a, a + 1, a + 1 + 1, a + 1 + 1 + 1⟩, m2⟩, b⟩, snocA d r]
    obtain ⟨m, e', g1, g2, g3, g4, g5⟩ := markI_l0 k0 r (d ++ [⟨⟨s, s', e + 1 + 1, e + 1 + 1 + 1, m1, ⟨a, a + 1, a + 1 + 1, a + 1 + 1 + 1⟩, m2⟩, b⟩]) (b + 1) (MkI_app _ _ _ _ _ h (by omega) ⟨hs, hs', rfl, rfl, a, a2, by omega, rfl, b, b2, by omega, rfl, by omega, rfl⟩) (by omega) (by omega) (by simp; omega) (fun y hy => h3 y (by simp [hy]))
    exact ⟨m, e', g1, g2, by simp at g3 ⊢; omega, by omega, by simp only [List.length_cons]; omega⟩
theorem markI_some (a : List Item) (h : smL Item.sm a) : ∃ m e, laws_markItemS_d a 1 = some (e, m) ∧ MkI 1 m e ∧ m.length = a.length ∧ 1 ≤ e ∧ e ≤ 100000000000000 := by
  have hl := h.1
  obtain ⟨m, e, g1, g2, g3, g4, g5⟩ := markI_l0 1 a [] 1 rfl (by omega) (by omega) (by simpa using hl) h.2
  simp only [List.length_nil, Int.natCast_zero, List.nil_append] at g1
  simp only [laws_markItemS_d, g1, bind_some']
  exact ⟨m, e, rfl, g2, by simpa using g3, g4, by omega⟩
theorem MkI_le : ∀ (l : List Item) (k e : Int), MkI k l e → k ≤ e
  | [], k, e, h => by simp only [MkI] at h; omega
  | x :: l, k, e, h => by
    obtain ⟨_, _, _, _, a, _, _, _, b, _, _, _, _, h⟩ := h
    have := MkI_le l _ _ h
    omega
theorem heldI_l0 : ∀ (r d : List Item) (e f : Int), MkI e r f → 0 ≤ e → f < 1000000000000000 → d.length + r.length ≤ 1048576 → laws_heldItemS.l0 (d ++ r) e d.length = some (.inr f)
  | [], d, e, f, h, _, _, _ => by simp only [MkI] at h; subst h; rw [laws_heldItemS.l0, if_neg (by rw [lenN]; simp)]
  | x :: r, d, e, f, h, h0, h1, h2 => by
    simp only [List.length_cons] at h2
    obtain ⟨g1, g2, g3, g4, a, g5, g6, g7, b, g8, g9, g10, g11, g12⟩ := h
    have hle := MkI_le _ _ _ g12
    have hx1 := MkM_end _ _ _ g5
    have hx2 := MkN_end _ _ _ g8
    have c1 := heldM_some _ _ _ g5 (by omega) (by omega) (by omega)
    have c2 := heldN_some _ _ _ g8 (by omega) (by omega) (by omega)
    rw [laws_heldItemS.l0]
    simp only [lenA, if_true, ixA, g1, g2, bind_some', beq_self_eq_true, Bool.not_true, Bool.false_eq_true, if_false, w1 h0 (by omega), w1 (k := e + 1) (by omega) (by omega), w1 (k := e + 1 + 1) (by omega) (by omega), w1 (k := e + 1 + 1 + 1) (by omega) (by omega), g3, g4, bne_self_eq_false, c1]
    rw [if_neg (by simp; omega)]
    simp only [g7, bne_self_eq_false, Bool.false_eq_true, if_false, bind_some', ixA, w1 (k := a) (by omega) (by omega), w1 (k := a + 1) (by omega) (by omega), w1 (k := a + 1 + 1) (by omega) (by omega), w1 (k := a + 1 + 1 + 1) (by omega) (by omega), c2]
    rw [if_neg (by simp; omega)]
    simp only [g10, bne_self_eq_false, Bool.false_eq_true, if_false, bind_some', ixA, w1 (k := b) (by omega) (by omega), wlen d x (by omega)]
    rw [snocA d r]
    exact heldI_l0 r (d ++ [x]) _ f g12 (by omega) h1 (by simp; omega)
theorem heldI_some (m : List Item) (f : Int) (h : MkI 1 m f) (h1 : f ≤ 100000000000000) (h2 : m.length ≤ 1048576) : laws_heldItemS m 1 = some f := by
  have := heldI_l0 m [] 1 f h (by omega) (by omega) (by simpa using h2)
  simp only [List.length_nil, Int.natCast_zero, List.nil_append] at this
  simp only [laws_heldItemS, this, bind_some']
theorem put_sm (s : Store) (o : Order) (h : Store.sm s) (ho : Order.sm o) : ∃ r : Store × Bool, impl_Put s o = some r ∧ spec_Put s o = some r ∧ Store.sm r.1 := by
  obtain ⟨r, h1, h2, h3, h4⟩ := put_same s o h ho
  refine ⟨r, h1, h2, ?_⟩
  cases hr : r.2 with
  | false => rw [h4 hr]; exact h
  | true =>
    obtain ⟨R, _, e⟩ := h3 hr
    have hx : Item.sm ⟨o, s.Next⟩ := ho
    rw [e]
    exact putIn_sm _ h hx R.len
theorem markOrder_k (o : Order) (k : Int) (h : Order.sm o) (h0 : 0 ≤ k) (h1 : k ≤ 100000000000000) : ∃ m e, laws_markOrder_nnnnonnnno o k = some (e, m) ∧ 0 ≤ e := by
  have hx1 := h.2.2.1.1
  have hx2 := h.2.2.2.1
  obtain ⟨a, a1, a2, a3⟩ := markM_some o.Metrics k hx1 (by omega) (by omega)
  obtain ⟨b, b1, b2, b3⟩ := markN_some o.Notes (k + 3 * (o.Metrics.length : Int)) hx2 (by omega) (by omega)
  simp only [laws_markOrder_nnnnonnnno, a1, b1, bind_some']
  exact ⟨_, _, rfl, by omega⟩
theorem mark_held2 (s : Store) (h : Store.sm s) : ∃ m k, laws_markStore_dn s 1 = some (k, m) ∧ decide (k < 0) = false ∧ (∀ n, laws_heldStore (Store.mk m n) 1 = some k) ∧ 0 ≤ k ∧ k ≤ 100000000000000 := by
  obtain ⟨m, k, m1, m2, m3, m4, m5⟩ := markI_some s.Items h
  have hl := h.1
  refine ⟨m, k, by simp only [laws_markStore_dn, m1, bind_some'], by simp; omega, fun n => ?_, by omega, m5⟩
  simp only [laws_heldStore, heldI_some m k m2 m5 (by omega), bind_some']
  rw [if_neg (by simp; omega)]
theorem Pure.FnExactPut (s : Store) (o : Order) (hs : Store.ok s) (ho : Order.ok o) : laws_FnExactPut s o = some true := by
  unfold laws_FnExactPut
  obtain ⟨r, e, hle, hr⟩ := szStore_sp s _ hs (by omega : (0 : Int) ≤ 1048576) (by omega)
  rw [bx e]
  rcases hr with hr | hr
  · rw [if_pos (by simpa using hr)]
  · by_cases hc2 : decide (r < 0) = true
    · rw [if_pos hc2]
    · rw [if_neg hc2]
      simp only [decide_eq_true_eq, Int.not_lt] at hc2
      obtain ⟨r2, e2, _, hr2⟩ := szOrder_sp o r ho hc2 (by omega)
      rw [bx e2]
      rcases hr2 with hr2 | hr2
      · rw [if_pos (by simpa using hr2)]
      · by_cases hc3 : decide (r2 < 0) = true
        · rw [if_pos hc3]
        · rw [if_neg hc3]
          obtain ⟨x, x1, x2, x3⟩ := put_sm s o hr hr2
          have he : laws_eqStore (Store.mk x.1.Items x.1.Next) (Store.mk x.1.Items x.1.Next) = some true := eqStore_self x.1 x3
          obtain ⟨m, k, m1, m2, m3, m4, m5⟩ := mark_held2 s hr
          obtain ⟨m', k', m1', m2', m3', _, _⟩ := mark_held2 x.1 x3
          obtain ⟨mo, ko, o1, o2⟩ := markOrder_k o k hr2 m4 m5
          have o3 : decide (ko < 0) = false := by simp; omega
          have m1'' : laws_markStore_dn (Store.mk x.1.Items x.1.Next) 1 = some (k', m') := m1'
          simp only [toStore_some s hr, toOrder_some o hr2, bind_some', x1, x2, he, Bool.not_true, Bool.false_eq_true, if_false, bne_self_eq_false, eqStore_self s hr, eqOrder_self o hr2, m1, m2, o1, o3, m1'', m2', m3']
end Go.Pu
