import Derived.Test.YtnjjfghnbgbclaaGreatFetchPu
set_option linter.unusedVariables false
set_option linter.unusedSimpArgs false
set_option synthInstance.maxSize 1000000000
namespace Go.Pu
open Go.Nt
theorem w64_id {n : Int} (h0 : -9223372036854775808 ≤ n) (h1 : n ≤ 9223372036854775807) : IntKind.i64.wrap n = n := by
  simp only [IntKind.wrap, IntKind.bits, IntKind.signed, Bool.true_and]
  split
  · rename_i h; simp at h; omega
  · rename_i h; simp at h; omega
theorem w64_succ {i : Nat} (h : i < 9223372036854775807) : IntKind.i64.wrap ((i : Int) + 1) = ((i + 1 : Nat) : Int) := by
  rw [w64_id (by omega) (by omega)]; omega
theorem ix_nat {α : Type} (l : List α) (i : Nat) : ix l (i : Int) = l[i]? := by simp [ix]
theorem put_nat {α : Type} {l : List α} {i : Nat} {x : α} (h : i < l.length) : Nt.put l (i : Int) x = some (l.set i x) := by simp [Nt.put, h]
theorem app_ok {α : Type} {b : Nat} {l m : List α} (h : (l.length + m.length) * b ≤ 70368744177664) : app b l m = some (l ++ m) := by
  simp only [app]; rw [if_pos h]
theorem mk_ok {α : Type} {b n : Nat} {x : α} (h : b * n ≤ 140737488355328) : Nt.mk b (n : Int) x = some (List.replicate n x) := by
  simp only [Nt.mk]; rw [if_pos ⟨by omega, by exact_mod_cast h⟩]; simp
/-- down from the end -/
theorem down {P : Nat → Prop} (n : Nat) (h : ∀ i, i ≤ n → (i < n → P (i + 1)) → P i) : ∀ i, i ≤ n → P i := by
  intro i hi
  obtain ⟨k, hk⟩ : ∃ k, k = n - i := ⟨_, rfl⟩
  induction k generalizing i with
  | zero => exact h i hi fun hlt => by omega
  | succ k ih => exact h i hi fun hlt => ih (i + 1) hlt (by omega)
theorem bind_some' {α β : Type} (x : α) (f : α → Option β) : (some x >>= f) = f x := rfl
theorem set_step {α : Type} {a v : List α} {i : Nat} (h : i < a.length) (hv : i < v.length) : some ((v.set i a[i]).take (i + 1) ++ a.drop (i + 1)) = some (v.take i ++ a.drop i) := by
  rw [List.take_set, List.take_add_one, List.getElem?_eq_getElem hv, List.set_append_right _ _ (by simp; omega), List.drop_eq_getElem_cons h]
  have : i - min i v.length = 0 := by omega
  simp [this]
def smL {α : Type} (p : α → Prop) (l : List α) : Prop := l.length ≤ 1048576 ∧ ∀ x ∈ l, p x
def smS (s : Str) : Prop := s.length ≤ 1048576
theorem in_some (a b c : Int) : spec_l1In a b c = some (decide (a ≥ b) && decide (a ≤ c)) := by
  simp only [spec_l1In]; by_cases h : a ≥ b <;> simp [h]
theorem from_some (a b c : Int) : impl_from a b c = some (decide (a ≥ b) && decide (a ≤ c)) := by
  simp only [impl_from]; by_cases h : a ≥ b <;> simp [h]
theorem nameOk_same (a : Str) (h : smS a) : ∃ b, spec_NameOk a = some b ∧ impl_NameOk a = some b := by
  unfold smS at h
  have key : ∀ i, i ≤ a.length → ∃ b, spec_NameOk.l0 a i = some b ∧ impl_NameOk.l0 a i = some b := by
    refine down _ fun i hi ih => ?_
    rw [spec_NameOk.l0, impl_NameOk.l0]
    by_cases hlt : i < a.length
    · have c : decide ((i : Int) < (a.length : Int)) = true := by simpa using hlt
      obtain ⟨b, e1, e2⟩ := ih hlt
      simp only [c, if_true, ix_nat, List.getElem?_eq_getElem hlt, bind_some', impl_isDigit, w64_succ (show i < 9223372036854775807 by omega), e1, e2]
      generalize byte a[i] = x
      by_cases h1 : x ≥ 97 <;> by_cases h2 : x ≤ 122 <;> by_cases h3 : i = 0 <;> by_cases h4 : x ≥ 48 <;> by_cases h5 : x ≤ 57 <;> by_cases h6 : x = 45 <;>
        first
        | omega
        | (have h3' : (i : Int) > 0 := by omega
           have h3'' : ¬ ((i : Int) = 0) := by omega
           have h7 : 0 < i := by omega
           simp [h1, h2, h3, h3', h3'', h7, h4, h5, h6, bind_some'])
        | (subst h3; simp [h1, h2, h4, h5, h6, bind_some'])
    · rw [if_neg (by simpa using hlt), if_neg (by simpa using hlt)]
      exact ⟨_, rfl, rfl⟩
  obtain ⟨b, e1, e2⟩ := key 0 (by omega)
  simp only [Int.natCast_zero] at e1 e2
  simp only [spec_NameOk, impl_NameOk, e1, e2, bind_some', in_some, from_some]
  cases b with
  | inl r => exact ⟨_, rfl, rfl⟩
  | inr u => exact ⟨_, rfl, rfl⟩
def Metric.sm (x : Metric) : Prop := smS x.Name
theorem szMetric_sp (x : Metric) (left : Int) (h : Metric.ok x) (h0 : 0 ≤ left) (h1 : left ≤ 1048576) : ∃ r, laws_szMetric x left = some r ∧ r ≤ left ∧ (r < 0 ∨ Metric.sm x) := by
  have := h.1
  unfold okS at this
  simp only [laws_szMetric, Metric.sm, smS]
  rw [w64_id (by omega) (by omega)]
  split
  · exact ⟨_, rfl, by omega, .inl (by omega)⟩
  · rename_i h; simp at h; exact ⟨_, rfl, by omega, .inr (by omega)⟩
theorem metricOk_same (m : Metric) (h : Metric.sm m) : ∃ b, spec_MetricOk m = some b ∧ impl_MetricOk m = some b := by
  obtain ⟨n, n1, n2⟩ := nameOk_same m.Name h
  simp only [spec_MetricOk, impl_MetricOk, n1, n2, bind_some', in_some, from_some]
  repeat' split
  all_goals exact ⟨_, rfl, rfl⟩
theorem toMetricS_some (a : List Metric) (h : smL Metric.sm a) : laws_toMetricS a = some a := by
  have hl : a.length ≤ 1048576 := h.1
  have key : ∀ i, i ≤ a.length → ∀ v : List Metric, v.length = a.length → laws_toMetricS.l0 a i v = some (v.take i ++ a.drop i) := by
    refine down _ fun i hi ih v hv => ?_
    rw [laws_toMetricS.l0]
    by_cases hlt : i < a.length
    · have c : decide ((i : Int) < (a.length : Int)) = true := by simpa using hlt
      have hv' : i < v.length := by omega
      simp only [c, if_true, ix_nat, List.getElem?_eq_getElem hlt, List.getElem?_eq_getElem hv', bind_some', laws_toMetric, put_nat hv', w64_succ (show i < 9223372036854775807 by omega)]
      rw [ih hlt _ (by simpa using hv), set_step hlt hv']
    · rw [if_neg (by simpa using hlt)]
      obtain rfl : i = a.length := by omega
      simp [List.take_of_length_le, hv]
  simp only [laws_toMetricS]
  rw [mk_ok (by omega)]
  simp only [bind_some']
  have := fun z => key 0 (by omega) (List.replicate a.length z) (by simp)
  simp only [Int.natCast_zero] at this
  simp only [this, bind_some']; simp
theorem eqMetricS_self (a : List Metric) (h : smL Metric.sm a) : laws_eqMetricS a a = some true := by
  have hl : a.length ≤ 1048576 := h.1
  have key : ∀ i, i ≤ a.length → laws_eqMetricS.l0 a a i = some (.inr ()) := by
    refine down _ fun i hi ih => ?_
    rw [laws_eqMetricS.l0]
    by_cases hlt : i < a.length
    · have c : decide ((i : Int) < (a.length : Int)) = true := by simpa using hlt
      simp only [c, if_true, ix_nat, List.getElem?_eq_getElem hlt, bind_some', laws_eqMetric, bne_self_eq_false, beq_self_eq_true, Bool.false_eq_true, if_false, Bool.not_true, w64_succ (show i < 9223372036854775807 by omega)]
      exact ih hlt
    · rw [if_neg (by simpa using hlt)]
  simp only [laws_eqMetricS, bne_self_eq_false, Bool.false_eq_true, if_false]
  have := key 0 (by omega)
  simp only [Int.natCast_zero] at this
  rw [this]; rfl
theorem szMetricS_sp (a : List Metric) (left : Int) (ha : okL Metric.ok a) (h0 : 0 ≤ left) (h1 : left ≤ 1048576) : ∃ r, laws_szMetricS a left = some r ∧ r ≤ left ∧ (r < 0 ∨ smL Metric.sm a) := by
  have hl := ha.1
  simp only [laws_szMetricS]
  rw [w64_id (by omega) (by omega)]
  by_cases h : left < a.length
  · rw [if_pos (by simp; omega)]; exact ⟨_, rfl, by omega, .inl (by omega)⟩
  · rw [if_neg (by simp; omega)]
    have key : ∀ i, i ≤ a.length → ∀ left : Int, 0 ≤ left → left ≤ 1048576 → (∃ r, laws_szMetricS.l0 a left i = some (.inl r) ∧ r < 0) ∨ ∃ r, laws_szMetricS.l0 a left i = some (.inr r) ∧ 0 ≤ r ∧ r ≤ left ∧ ∀ x ∈ a.drop i, Metric.sm x := by
      refine down _ fun i hi ih left h0 h1 => ?_
      rw [laws_szMetricS.l0]
      by_cases hlt : i < a.length
      · have c : decide ((i : Int) < (a.length : Int)) = true := by simpa using hlt
        obtain ⟨r, e, hr, hs⟩ := szMetric_sp a[i] left (ha.2 _ (List.getElem_mem hlt)) h0 h1
        simp only [c, if_true, ix_nat, List.getElem?_eq_getElem hlt, bind_some', e, w64_succ (show i < 9223372036854775807 by omega)]
        by_cases hn : r < 0
        · rw [if_pos (by simpa using hn)]; exact .inl ⟨_, rfl, by omega⟩
        · rw [if_neg (by simpa using hn)]
          rcases ih hlt r (by omega) (by omega) with ⟨q, e2, h2⟩ | ⟨q, e2, h2, h3, h4⟩
          · exact .inl ⟨q, e2, h2⟩
          · refine .inr ⟨q, e2, h2, by omega, fun x hx => ?_⟩
            rw [List.drop_eq_getElem_cons hlt] at hx
            rcases List.mem_cons.1 hx with rfl | hx
            · rcases hs with hs | hs
              · exact absurd hs hn
              · exact hs
            · exact h4 x hx
      · rw [if_neg (by simpa using hlt)]
        exact .inr ⟨_, rfl, h0, Int.le_refl _, by rw [List.drop_eq_nil_of_le (by omega)]; simp⟩
    rcases key 0 (by omega) (left - a.length) (by omega) (by omega) with ⟨q, e2, h2⟩ | ⟨q, e2, h2, h3, h4⟩
    · simp only [Int.natCast_zero] at e2
      rw [e2]; exact ⟨q, rfl, by omega, .inl h2⟩
    · simp only [Int.natCast_zero] at e2
      rw [e2]; exact ⟨q, rfl, by omega, .inr ⟨by omega, by simpa using h4⟩⟩
def Note.sm (x : Note) : Prop := smS x.Key ∧ smS x.Text
theorem szNote_sp (x : Note) (left : Int) (h : Note.ok x) (h0 : 0 ≤ left) (h1 : left ≤ 1048576) : ∃ r, laws_szNote x left = some r ∧ r ≤ left ∧ (r < 0 ∨ Note.sm x) := by
  have e1 := h.1
  have e2 := h.2
  unfold okS at e1 e2
  simp only [laws_szNote, Note.sm, smS]
  rw [w64_id (n := left - _) (by omega) (by omega)]
  split
  · exact ⟨_, rfl, by omega, .inl (by omega)⟩
  · rename_i h; simp at h
    rw [w64_id (by omega) (by omega)]
    split
    · exact ⟨_, rfl, by omega, .inl (by omega)⟩
    · rename_i h3; simp at h3; exact ⟨_, rfl, by omega, .inr ⟨by omega, by omega⟩⟩
theorem toNoteS_some (a : List Note) (h : smL Note.sm a) : laws_toNoteS a = some a := by
  have hl : a.length ≤ 1048576 := h.1
  have key : ∀ i, i ≤ a.length → ∀ v : List Note, v.length = a.length → laws_toNoteS.l0 a i v = some (v.take i ++ a.drop i) := by
    refine down _ fun i hi ih v hv => ?_
    rw [laws_toNoteS.l0]
    by_cases hlt : i < a.length
    · have c : decide ((i : Int) < (a.length : Int)) = true := by simpa using hlt
      have hv' : i < v.length := by omega
      simp only [c, if_true, ix_nat, List.getElem?_eq_getElem hlt, List.getElem?_eq_getElem hv', bind_some', laws_toNote, put_nat hv', w64_succ (show i < 9223372036854775807 by omega)]
      rw [ih hlt _ (by simpa using hv), set_step hlt hv']
    · rw [if_neg (by simpa using hlt)]
      obtain rfl : i = a.length := by omega
      simp [List.take_of_length_le, hv]
  simp only [laws_toNoteS]
  rw [mk_ok (by omega)]
  simp only [bind_some']
  have := fun z => key 0 (by omega) (List.replicate a.length z) (by simp)
  simp only [Int.natCast_zero] at this
  simp only [this, bind_some']; simp
theorem eqNoteS_self (a : List Note) (h : smL Note.sm a) : laws_eqNoteS a a = some true := by
  have hl : a.length ≤ 1048576 := h.1
  have key : ∀ i, i ≤ a.length → laws_eqNoteS.l0 a a i = some (.inr ()) := by
    refine down _ fun i hi ih => ?_
    rw [laws_eqNoteS.l0]
    by_cases hlt : i < a.length
    · have c : decide ((i : Int) < (a.length : Int)) = true := by simpa using hlt
      simp only [c, if_true, ix_nat, List.getElem?_eq_getElem hlt, bind_some', laws_eqNote, bne_self_eq_false, beq_self_eq_true, Bool.false_eq_true, if_false, Bool.not_true, w64_succ (show i < 9223372036854775807 by omega)]
      exact ih hlt
    · rw [if_neg (by simpa using hlt)]
  simp only [laws_eqNoteS, bne_self_eq_false, Bool.false_eq_true, if_false]
  have := key 0 (by omega)
  simp only [Int.natCast_zero] at this
  rw [this]; rfl
theorem szNoteS_sp (a : List Note) (left : Int) (ha : okL Note.ok a) (h0 : 0 ≤ left) (h1 : left ≤ 1048576) : ∃ r, laws_szNoteS a left = some r ∧ r ≤ left ∧ (r < 0 ∨ smL Note.sm a) := by
  have hl := ha.1
  simp only [laws_szNoteS]
  rw [w64_id (by omega) (by omega)]
  by_cases h : left < a.length
  · rw [if_pos (by simp; omega)]; exact ⟨_, rfl, by omega, .inl (by omega)⟩
  · rw [if_neg (by simp; omega)]
    have key : ∀ i, i ≤ a.length → ∀ left : Int, 0 ≤ left → left ≤ 1048576 → (∃ r, laws_szNoteS.l0 a left i = some (.inl r) ∧ r < 0) ∨ ∃ r, laws_szNoteS.l0 a left i = some (.inr r) ∧ 0 ≤ r ∧ r ≤ left ∧ ∀ x ∈ a.drop i, Note.sm x := by
      refine down _ fun i hi ih left h0 h1 => ?_
      rw [laws_szNoteS.l0]
      by_cases hlt : i < a.length
      · have c : decide ((i : Int) < (a.length : Int)) = true := by simpa using hlt
        obtain ⟨r, e, hr, hs⟩ := szNote_sp a[i] left (ha.2 _ (List.getElem_mem hlt)) h0 h1
        simp only [c, if_true, ix_nat, List.getElem?_eq_getElem hlt, bind_some', e, w64_succ (show i < 9223372036854775807 by omega)]
        by_cases hn : r < 0
        · rw [if_pos (by simpa using hn)]; exact .inl ⟨_, rfl, by omega⟩
        · rw [if_neg (by simpa using hn)]
          rcases ih hlt r (by omega) (by omega) with ⟨q, e2, h2⟩ | ⟨q, e2, h2, h3, h4⟩
          · exact .inl ⟨q, e2, h2⟩
          · refine .inr ⟨q, e2, h2, by omega, fun x hx => ?_⟩
            rw [List.drop_eq_getElem_cons hlt] at hx
            rcases List.mem_cons.1 hx with rfl | hx
            · rcases hs with hs | hs
              · exact absurd hs hn
              · exact hs
            · exact h4 x hx
      · rw [if_neg (by simpa using hlt)]
        exact .inr ⟨_, rfl, h0, Int.le_refl _, by rw [List.drop_eq_nil_of_le (by omega)]; simp⟩
    rcases key 0 (by omega) (left - a.length) (by omega) (by omega) with ⟨q, e2, h2⟩ | ⟨q, e2, h2, h3, h4⟩
    · simp only [Int.natCast_zero] at e2
      rw [e2]; exact ⟨q, rfl, by omega, .inl h2⟩
    · simp only [Int.natCast_zero] at e2
      rw [e2]; exact ⟨q, rfl, by omega, .inr ⟨by omega, by simpa using h4⟩⟩
def Order.sm (x : Order) : Prop := smS x.Name ∧ smS x.Target ∧ smL Metric.sm x.Metrics ∧ smL Note.sm x.Notes
theorem szOrder_sp (x : Order) (left : Int) (h : Order.ok x) (h0 : 0 ≤ left) (h1 : left ≤ 1048576) : ∃ r, laws_szOrder x left = some r ∧ r ≤ left ∧ (r < 0 ∨ Order.sm x) := by
  have e1 := h.1
  have e2 := h.2.1
  unfold okS at e1 e2
  simp only [laws_szOrder, Order.sm, smS]
  rw [w64_id (n := left - _) (by omega) (by omega)]
  split
  · exact ⟨_, rfl, by omega, .inl (by omega)⟩
  · rename_i hn; simp at hn
    rw [w64_id (by omega) (by omega)]
    split
    · exact ⟨_, rfl, by omega, .inl (by omega)⟩
    · rename_i hn2; simp at hn2
      obtain ⟨r, e, hr, hs⟩ := szMetricS_sp x.Metrics (left - x.Name.length - x.Target.length) h.2.2.2.2.1 (by omega) (by omega)
      simp only [e, bind_some']
      split
      · exact ⟨_, rfl, by omega, .inl (by omega)⟩
      · rename_i h3; simp at h3
        obtain ⟨r2, e2, hr2, hs2⟩ := szNoteS_sp x.Notes r h.2.2.2.2.2.2 (by omega) (by omega)
        simp only [e2, bind_some']
        split
        · exact ⟨_, rfl, by omega, .inl (by omega)⟩
        · rename_i h4; simp at h4
          rcases hs with hs | hs
          · omega
          · rcases hs2 with hs2 | hs2
            · omega
            · exact ⟨_, rfl, by omega, .inr ⟨by omega, by omega, hs, hs2⟩⟩
theorem toOrder_some (x : Order) (h : Order.sm x) : laws_toOrder x = some x := by
  simp only [laws_toOrder, toMetricS_some _ h.2.2.1, toNoteS_some _ h.2.2.2, laws_toPace, bind_some']
theorem eqOrder_self (x : Order) (h : Order.sm x) : laws_eqOrder x x = some true := by
  simp only [laws_eqOrder, eqMetricS_self _ h.2.2.1, eqNoteS_self _ h.2.2.2, laws_eqPace, bind_some', beq_self_eq_true, bne_self_eq_false, Bool.not_true, Bool.false_eq_true, if_false]
theorem paceOk_same (p : Pace) : ∃ b, spec_PaceOk p = some b ∧ impl_PaceOk p = some b := by
  simp only [spec_PaceOk, impl_PaceOk, impl_isMany, in_some, from_some, bind_some']
  repeat' split
  all_goals exact ⟨_, rfl, rfl⟩
theorem byte_u8 (c : UInt8) : (byte c).toNat.toUInt8 = c := by
  simp [byte]
theorem byte_range (c : UInt8) : 0 ≤ byte c ∧ byte c ≤ 255 := by
  unfold byte; have := c.toNat_lt; omega
theorem byte_eq (c d : UInt8) : (byte c = byte d) ↔ c = d := by
  unfold byte
  constructor
  · intro h; exact UInt8.toNat_inj.1 (by omega)
  · intro h; rw [h]
theorem indexByte_four (c : UInt8) : Nt.indexByte [95, 46, 47, 45] c < 0 ↔ ¬ (byte c = 95) ∧ ¬ (byte c = 46) ∧ ¬ (byte c = 47) ∧ ¬ (byte c = 45) := by
  have h1 : (byte c = 95) ↔ c = 95 := byte_eq c 95
  have h2 : (byte c = 46) ↔ c = 46 := byte_eq c 46
  have h3 : (byte c = 47) ↔ c = 47 := byte_eq c 47
  have h4 : (byte c = 45) ↔ c = 45 := byte_eq c 45
  rw [h1, h2, h3, h4]
  simp only [Nt.indexByte]
  by_cases g1 : c = 95
  · subst g1; decide
  by_cases g2 : c = 46
  · subst g2; decide
  by_cases g3 : c = 47
  · subst g3; decide
  by_cases g4 : c = 45
  · subst g4; decide
  have f1 : ((95 : UInt8) == c) = false := by simp; exact fun h => g1 h.symm
  have f2 : ((46 : UInt8) == c) = false := by simp; exact fun h => g2 h.symm
  have f3 : ((47 : UInt8) == c) = false := by simp; exact fun h => g3 h.symm
  have f4 : ((45 : UInt8) == c) = false := by simp; exact fun h => g4 h.symm
  simp [f1, f2, f3, f4, g1, g2, g3, g4]
theorem plainOk_same (a : Str) (h : smS a) : ∃ b, spec_PlainOk a = some b ∧ impl_PlainOk a = some b := by
  unfold smS at h
  have key : ∀ i, i ≤ a.length → ∃ b, spec_PlainOk.l0 a i = some b ∧ impl_PlainOk.l0 a i = some b := by
    refine down _ fun i hi ih => ?_
    rw [spec_PlainOk.l0, impl_PlainOk.l0]
    by_cases hlt : i < a.length
    · have c : decide ((i : Int) < (a.length : Int)) = true := by simpa using hlt
      obtain ⟨b, e1, e2⟩ := ih hlt
      have hL : ∀ n, impl_isLetter n = spec_l5Letter n := fun n => by simp only [impl_isLetter, spec_l5Letter]
      have hT : ∀ n, ∃ t, spec_l5Letter n = some t := fun n => by
        simp only [spec_l5Letter]; repeat' split
        all_goals exact ⟨_, rfl⟩
      obtain ⟨t, ht⟩ := hT (byte a[i])
      simp only [c, if_true, ix_nat, List.getElem?_eq_getElem hlt, bind_some', impl_isDigit, hL, ht, w64_succ (show i < 9223372036854775807 by omega), e1, e2, strings_IndexByte, internal_stringslite_IndexByte, internal_bytealg_IndexByteString, byte_u8]
      have hx := indexByte_four a[i]
      have hq : decide (Nt.indexByte [95, 46, 47, 45] a[i] < 0) = decide (¬ (byte a[i] = 95) ∧ ¬ (byte a[i] = 46) ∧ ¬ (byte a[i] = 47) ∧ ¬ (byte a[i] = 45)) := by simp only [hx]
      rw [hq]
      generalize byte a[i] = x
      cases t
      · by_cases h3 : i = 0
        · subst h3; simp [bind_some']
        · have h3'' : ((i : Int) == 0) = false := by simp; omega
          by_cases h4 : x ≥ 48 <;> by_cases h5 : x ≤ 57 <;> by_cases h6 : x = 95 <;> by_cases h7 : x = 46 <;> by_cases h8 : x = 47 <;> by_cases h9 : x = 45 <;>
          first
          | omega
          | simp [h3'', h4, h5, h6, h7, h8, h9, bind_some']
      · simp
    · rw [if_neg (by simpa using hlt), if_neg (by simpa using hlt)]
      exact ⟨_, rfl, rfl⟩
  obtain ⟨b, e1, e2⟩ := key 0 (by omega)
  simp only [Int.natCast_zero] at e1 e2
  simp only [spec_PlainOk, impl_PlainOk, e1, e2, bind_some', in_some, from_some]
  cases b with
  | inl r => exact ⟨_, rfl, rfl⟩
  | inr u =>
    repeat' split
    all_goals exact ⟨_, rfl, rfl⟩
theorem ours_same (s : Str) : ∃ b, spec_l6Ours s = some b ∧ strings_HasPrefix s [113, 117, 97, 121, 47] = some b := by
  simp only [spec_l6Ours, strings_HasPrefix, internal_stringslite_HasPrefix, List.length_cons, List.length_nil]
  by_cases h : (s.length : Int) ≥ 5
  · have e : slc s 0 5 = some (cut s 0 5) := by simp only [slc]; rw [if_pos ⟨by omega, by omega, by omega⟩]; rfl
    rw [if_pos (by simpa using h), if_pos (by simpa using h)]
    have e' : slc s 0 ((0 + 1 + 1 + 1 + 1 + 1 : Nat) : Int) = some (cut s 0 5) := e
    rw [e, e']
    exact ⟨_, rfl, rfl⟩
  · rw [if_neg (by simpa using h), if_neg (by simpa using h)]
    exact ⟨_, rfl, rfl⟩
theorem textOk_same (a : Str) (h : smS a) : ∃ b, spec_TextOk a = some b ∧ impl_TextOk a = some b := by
  unfold smS at h
  have key : ∀ i, i ≤ a.length → ∃ b, spec_TextOk.l0 a i = some b ∧ impl_TextOk.l0 a i = some b := by
    refine down _ fun i hi ih => ?_
    rw [spec_TextOk.l0, impl_TextOk.l0]
    by_cases hlt : i < a.length
    · have c : decide ((i : Int) < (a.length : Int)) = true := by simpa using hlt
      obtain ⟨b, e1, e2⟩ := ih hlt
      have hb := byte_range a[i]
      simp only [c, if_true, ix_nat, List.getElem?_eq_getElem hlt, bind_some', from_some, w64_succ (show i < 9223372036854775807 by omega), e1, e2]
      rw [w64_id (by omega) (by omega)]
      generalize byte a[i] = x at hb
      by_cases h4 : x < 32 <;> by_cases h5 : x > 126 <;> first
        | omega
        | (have g4 : ¬ (32 ≤ x) ∨ 32 ≤ x := by omega
           rcases g4 with g4 | g4 <;> first
             | omega
             | (have g5 : ¬ (x ≤ 126) ∨ x ≤ 126 := by omega
                rcases g5 with g5 | g5 <;> first
                  | omega
                  | simp [h4, h5, g4, g5]))
    · rw [if_neg (by simpa using hlt), if_neg (by simpa using hlt)]
      exact ⟨_, rfl, rfl⟩
  obtain ⟨b, e1, e2⟩ := key 0 (by omega)
  simp only [Int.natCast_zero] at e1 e2
  simp only [spec_TextOk, impl_TextOk, e1, e2, bind_some']
  cases b with
  | inl r => exact ⟨_, rfl, rfl⟩
  | inr u => exact ⟨_, rfl, rfl⟩
theorem notes_same (a : List Note) (h : smL Note.sm a) : ∃ b, spec_l6Notes a = some b ∧ impl_notesOk a = some b := by
  have hl : a.length ≤ 1048576 := h.1
  have key : ∀ i, i ≤ a.length → ∃ b, spec_l6Notes.l0 a i = some b ∧ impl_notesOk.l0 a i = some b := by
    refine down _ fun i hi ih => ?_
    rw [spec_l6Notes.l0, impl_notesOk.l0]
    by_cases hlt : i < a.length
    · have c : decide ((i : Int) < (a.length : Int)) = true := by simpa using hlt
      obtain ⟨b, e1, e2⟩ := ih hlt
      have hm := h.2 _ (List.getElem_mem hlt)
      obtain ⟨p, p1, p2⟩ := plainOk_same a[i].Key hm.1
      obtain ⟨q, q1, q2⟩ := ours_same a[i].Key
      obtain ⟨t, t1, t2⟩ := textOk_same a[i].Text hm.2
      simp only [c, if_true, ix_nat, List.getElem?_eq_getElem hlt, bind_some', p1, p2, q1, q2, t1, t2, w64_succ (show i < 9223372036854775807 by omega), e1, e2]
      split
      · exact ⟨_, rfl, rfl⟩
      · split
        · exact ⟨_, rfl, rfl⟩
        · split
          · exact ⟨_, rfl, rfl⟩
          · split
            · exact ⟨_, rfl, rfl⟩
            · by_cases h0 : i = 0
              · subst h0; simp
              · have e : IntKind.i64.wrap ((i : Int) - 1) = ((i - 1 : Nat) : Int) := by rw [w64_id (by omega) (by omega)]; omega
                have c2 : decide ((i : Int) > 0) = true := by simp; omega
                simp only [c2, if_true, e, ix_nat, List.getElem?_eq_getElem (show i - 1 < a.length by omega), bind_some']
                split
                · exact ⟨_, rfl, rfl⟩
                · exact ⟨_, rfl, rfl⟩
    · rw [if_neg (by simpa using hlt), if_neg (by simpa using hlt)]
      exact ⟨_, rfl, rfl⟩
  obtain ⟨b, h1, h2⟩ := key 0 (by omega)
  simp only [Int.natCast_zero] at h1 h2
  simp only [spec_l6Notes, impl_notesOk, h1, h2, bind_some']
  cases b with
  | inl r => exact ⟨_, rfl, rfl⟩
  | inr u => exact ⟨_, rfl, rfl⟩
theorem metrics_same (o : Order) (h : smL Metric.sm o.Metrics) : ∃ b : Bool, spec_l6Metrics.l0 o.Metrics 0 = some (if b then .inr () else .inl false) ∧ impl_OrderOk.l0 o 0 = some (if b then .inr () else .inl false) := by
  have hl : o.Metrics.length ≤ 1048576 := h.1
  have key : ∀ i, i ≤ o.Metrics.length → ∃ b : Bool, spec_l6Metrics.l0 o.Metrics i = some (if b then .inr () else .inl false) ∧ impl_OrderOk.l0 o i = some (if b then .inr () else .inl false) := by
    refine down _ fun i hi ih => ?_
    rw [spec_l6Metrics.l0, impl_OrderOk.l0]
    by_cases hlt : i < o.Metrics.length
    · have c : decide ((i : Int) < (o.Metrics.length : Int)) = true := by simpa using hlt
      obtain ⟨b, e1, e2⟩ := ih hlt
      obtain ⟨p, p1, p2⟩ := metricOk_same o.Metrics[i] (h.2 _ (List.getElem_mem hlt))
      simp only [c, if_true, ix_nat, List.getElem?_eq_getElem hlt, bind_some', p1, p2, w64_succ (show i < 9223372036854775807 by omega), e1, e2]
      split
      · exact ⟨false, rfl, rfl⟩
      · by_cases h0 : i = 0
        · subst h0; exact ⟨b, by simp, by simp⟩
        · have e : IntKind.i64.wrap ((i : Int) - 1) = ((i - 1 : Nat) : Int) := by rw [w64_id (by omega) (by omega)]; omega
          have c2 : decide ((i : Int) > 0) = true := by simp; omega
          simp only [c2, if_true, e, ix_nat, List.getElem?_eq_getElem (show i - 1 < o.Metrics.length by omega), bind_some']
          split
          · exact ⟨false, rfl, rfl⟩
          · exact ⟨b, rfl, rfl⟩
    · rw [if_neg (by simpa using hlt), if_neg (by simpa using hlt)]
      exact ⟨true, rfl, rfl⟩
  simpa using key 0 (by omega)
theorem orderOk_same (o : Order) (h : Order.sm o) : ∃ b, spec_OrderOk o = some b ∧ impl_OrderOk o = some b := by
  obtain ⟨n, n1, n2⟩ := nameOk_same o.Name h.1
  obtain ⟨t, t1, t2⟩ := nameOk_same o.Target h.2.1
  obtain ⟨m, m1, m2⟩ := metrics_same o h.2.2.1
  obtain ⟨p, p1, p2⟩ := paceOk_same o.Pace
  obtain ⟨q, q1, q2⟩ := notes_same o.Notes h.2.2.2
  simp only [spec_OrderOk, impl_OrderOk, spec_l6Metrics, n1, n2, t1, t2, m1, m2, p1, p2, q1, q2, in_some, from_some, bind_some']
  generalize (decide (o.Low ≥ 1) && decide (o.Low ≤ o.High)) = x
  generalize decide (o.High ≤ 1000) = y
  generalize decide ((o.Metrics.length : Int) ≤ 4) = z
  cases n <;> cases t <;> cases m <;> cases p <;> cases q <;> cases x <;> cases y <;> cases z <;> exact ⟨_, rfl, rfl⟩
def Item.sm (x : Item) : Prop := Order.sm x.Order
theorem szItem_sp (x : Item) (left : Int) (h : Item.ok x) (h0 : 0 ≤ left) (h1 : left ≤ 1048576) : ∃ r, laws_szItem x left = some r ∧ r ≤ left ∧ (r < 0 ∨ Item.sm x) := by
  obtain ⟨r, e, hr, hs⟩ := szOrder_sp x.Order left h.1 h0 h1
  simp only [laws_szItem, e, bind_some']
  split
  · exact ⟨_, rfl, by omega, .inl (by omega)⟩
  · exact ⟨_, rfl, hr, hs⟩
theorem toItem_some (x : Item) (h : Item.sm x) : laws_toItem x = some x := by
  simp only [laws_toItem, toOrder_some _ h, bind_some']
theorem eqItem_self (x : Item) (h : Item.sm x) : laws_eqItem x x = some true := by
  simp only [laws_eqItem, eqOrder_self _ h, bind_some', beq_self_eq_true, bne_self_eq_false, Bool.not_true, Bool.false_eq_true, if_false]
theorem toItemS_some (a : List Item) (h : smL Item.sm a) : laws_toItemS a = some a := by
  have hl : a.length ≤ 1048576 := h.1
  have key : ∀ i, i ≤ a.length → ∀ v : List Item, v.length = a.length → laws_toItemS.l0 a i v = some (v.take i ++ a.drop i) := by
    refine down _ fun i hi ih v hv => ?_
    rw [laws_toItemS.l0]
    by_cases hlt : i < a.length
    · have c : decide ((i : Int) < (a.length : Int)) = true := by simpa using hlt
      have hv' : i < v.length := by omega
      simp only [c, if_true, ix_nat, List.getElem?_eq_getElem hlt, List.getElem?_eq_getElem hv', bind_some', toItem_some _ (h.2 _ (List.getElem_mem hlt)), put_nat hv', w64_succ (show i < 9223372036854775807 by omega)]
      rw [ih hlt _ (by simpa using hv), set_step hlt hv']
    · rw [if_neg (by simpa using hlt)]
      obtain rfl : i = a.length := by omega
      simp [List.take_of_length_le, hv]
  simp only [laws_toItemS]
  rw [mk_ok (by omega)]
  simp only [bind_some']
  have := fun z => key 0 (by omega) (List.replicate a.length z) (by simp)
  simp only [Int.natCast_zero] at this
  simp only [this, bind_some']; simp
theorem eqItemS_self (a : List Item) (h : smL Item.sm a) : laws_eqItemS a a = some true := by
  have hl : a.length ≤ 1048576 := h.1
  have key : ∀ i, i ≤ a.length → laws_eqItemS.l0 a a i = some (.inr ()) := by
    refine down _ fun i hi ih => ?_
    rw [laws_eqItemS.l0]
    by_cases hlt : i < a.length
    · have c : decide ((i : Int) < (a.length : Int)) = true := by simpa using hlt
      simp only [c, if_true, ix_nat, List.getElem?_eq_getElem hlt, bind_some', eqItem_self _ (h.2 _ (List.getElem_mem hlt)), bne_self_eq_false, beq_self_eq_true, Bool.false_eq_true, if_false, Bool.not_true, w64_succ (show i < 9223372036854775807 by omega)]
      exact ih hlt
    · rw [if_neg (by simpa using hlt)]
  simp only [laws_eqItemS, bne_self_eq_false, Bool.false_eq_true, if_false]
  have := key 0 (by omega)
  simp only [Int.natCast_zero] at this
  rw [this]; rfl
theorem szItemS_sp (a : List Item) (left : Int) (ha : okL Item.ok a) (h0 : 0 ≤ left) (h1 : left ≤ 1048576) : ∃ r, laws_szItemS a left = some r ∧ r ≤ left ∧ (r < 0 ∨ smL Item.sm a) := by
  have hl := ha.1
  simp only [laws_szItemS]
  rw [w64_id (by omega) (by omega)]
  by_cases h : left < a.length
  · rw [if_pos (by simp; omega)]; exact ⟨_, rfl, by omega, .inl (by omega)⟩
  · rw [if_neg (by simp; omega)]
    have key : ∀ i, i ≤ a.length → ∀ left : Int, 0 ≤ left → left ≤ 1048576 → (∃ r, laws_szItemS.l0 a left i = some (.inl r) ∧ r < 0) ∨ ∃ r, laws_szItemS.l0 a left i = some (.inr r) ∧ 0 ≤ r ∧ r ≤ left ∧ ∀ x ∈ a.drop i, Item.sm x := by
      refine down _ fun i hi ih left h0 h1 => ?_
      rw [laws_szItemS.l0]
      by_cases hlt : i < a.length
      · have c : decide ((i : Int) < (a.length : Int)) = true := by simpa using hlt
        obtain ⟨r, e, hr, hs⟩ := szItem_sp a[i] left (ha.2 _ (List.getElem_mem hlt)) h0 h1
        simp only [c, if_true, ix_nat, List.getElem?_eq_getElem hlt, bind_some', e, w64_succ (show i < 9223372036854775807 by omega)]
        by_cases hn : r < 0
        · rw [if_pos (by simpa using hn)]; exact .inl ⟨_, rfl, by omega⟩
        · rw [if_neg (by simpa using hn)]
          rcases ih hlt r (by omega) (by omega) with ⟨q, e2, h2⟩ | ⟨q, e2, h2, h3, h4⟩
          · exact .inl ⟨q, e2, h2⟩
          · refine .inr ⟨q, e2, h2, by omega, fun x hx => ?_⟩
            rw [List.drop_eq_getElem_cons hlt] at hx
            rcases List.mem_cons.1 hx with rfl | hx
            · rcases hs with hs | hs
              · exact absurd hs hn
              · exact hs
            · exact h4 x hx
      · rw [if_neg (by simpa using hlt)]
        exact .inr ⟨_, rfl, h0, Int.le_refl _, by rw [List.drop_eq_nil_of_le (by omega)]; simp⟩
    rcases key 0 (by omega) (left - a.length) (by omega) (by omega) with ⟨q, e2, h2⟩ | ⟨q, e2, h2, h3, h4⟩
    · simp only [Int.natCast_zero] at e2
      rw [e2]; exact ⟨q, rfl, by omega, .inl h2⟩
    · simp only [Int.natCast_zero] at e2
      rw [e2]; exact ⟨q, rfl, by omega, .inr ⟨by omega, by simpa using h4⟩⟩
def Store.sm (x : Store) : Prop := smL Item.sm x.Items
theorem szStore_sp (x : Store) (left : Int) (h : Store.ok x) (h0 : 0 ≤ left) (h1 : left ≤ 1048576) : ∃ r, laws_szStore x left = some r ∧ r ≤ left ∧ (r < 0 ∨ Store.sm x) := by
  obtain ⟨r, e, hr, hs⟩ := szItemS_sp x.Items left h.1 h0 h1
  simp only [laws_szStore, e, bind_some']
  split
  · exact ⟨_, rfl, by omega, .inl (by omega)⟩
  · exact ⟨_, rfl, hr, hs⟩
theorem toStore_some (x : Store) (h : Store.sm x) : laws_toStore x = some x := by
  simp only [laws_toStore, toItemS_some _ h, bind_some']
theorem eqStore_self (x : Store) (h : Store.sm x) : laws_eqStore x x = some true := by
  simp only [laws_eqStore, eqItemS_self _ h, bind_some', beq_self_eq_true, bne_self_eq_false, Bool.not_true, Bool.false_eq_true, if_false]
theorem slc_take {α : Type} (l : List α) (i : Nat) (h : i ≤ l.length) : slc l 0 (i : Int) = some (l.take i) := by
  simp only [slc]; rw [if_pos ⟨by omega, by omega, by omega⟩]; simp [cut]
theorem vers1 (s : Store) (x : Item) (i : Nat) (hi : i ≤ s.Items.length) (hl : s.Items.length ≤ 1048576) : spec_StoreOk.l1 s i x 0 = some (if (s.Items.take i).any (fun y => y.Ver == x.Ver) then .inl false else .inr ()) := by
  have key : ∀ j, j ≤ i → spec_StoreOk.l1 s i x j = some (if ((s.Items.take i).drop j).any (fun y => y.Ver == x.Ver) then .inl false else .inr ()) := by
    refine down _ fun j hj ih => ?_
    rw [spec_StoreOk.l1]
    by_cases hlt : j < i
    · have c : decide ((j : Int) < (i : Int)) = true := by simpa using hlt
      have hlt' : j < s.Items.length := by omega
      have hd : (s.Items.take i).drop j = s.Items[j] :: (s.Items.take i).drop (j + 1) := by
        rw [List.drop_eq_getElem_cons (by simp; omega)]; simp
      simp only [c, if_true, ix_nat, List.getElem?_eq_getElem hlt', bind_some', w64_succ (show j < 9223372036854775807 by omega), ih hlt, hd, List.any_cons]
      cases (s.Items[j].Ver == x.Ver) <;> simp
    · rw [if_neg (by simpa using hlt)]
      rw [List.drop_eq_nil_of_le (by simp; omega)]; rfl
  have := key 0 (by omega)
  simpa only [List.drop_zero, Int.natCast_zero] using this
theorem vers2 (s : Store) (x : Item) (i : Nat) (hi : i ≤ s.Items.length) (hl : s.Items.length ≤ 1048576) : spec_StoreOk.l2 s i x 0 = some (if (s.Items.take i).any (fun y => y.Ver == x.Ver) then .inl false else .inr ()) := by
  have key : ∀ j, j ≤ i → spec_StoreOk.l2 s i x j = some (if ((s.Items.take i).drop j).any (fun y => y.Ver == x.Ver) then .inl false else .inr ()) := by
    refine down _ fun j hj ih => ?_
    rw [spec_StoreOk.l2]
    by_cases hlt : j < i
    · have c : decide ((j : Int) < (i : Int)) = true := by simpa using hlt
      have hlt' : j < s.Items.length := by omega
      have hd : (s.Items.take i).drop j = s.Items[j] :: (s.Items.take i).drop (j + 1) := by
        rw [List.drop_eq_getElem_cons (by simp; omega)]; simp
      simp only [c, if_true, ix_nat, List.getElem?_eq_getElem hlt', bind_some', w64_succ (show j < 9223372036854775807 by omega), ih hlt, hd, List.any_cons]
      cases (s.Items[j].Ver == x.Ver) <;> simp
    · rw [if_neg (by simpa using hlt)]
      rw [List.drop_eq_nil_of_le (by simp; omega)]; rfl
  have := key 0 (by omega)
  simpa only [List.drop_zero, Int.natCast_zero] using this
theorem vers3 (l : List Item) (x : Item) (hl : l.length ≤ 1048576) : slices_ContainsFunc_Simpl_Item_impl_Item_impl_StoreOk_1 l x = some (l.any (fun y => y.Ver == x.Ver), x) := by
  have key : ∀ j, j ≤ l.length → if (l.drop j).any (fun y => y.Ver == x.Ver) then (∃ k : Int, 0 ≤ k ∧ slices_IndexFunc_Simpl_Item_impl_Item_impl_StoreOk_1.l0 l j x.Order.Name x.Order.Target x.Order.Low x.Order.High x.Order.Metrics x.Order.Pace.Up x.Order.Pace.Down x.Order.Pace.UpSpan x.Order.Pace.DownSpan x.Order.Notes x.Ver = some (.inl (k, x))) else slices_IndexFunc_Simpl_Item_impl_Item_impl_StoreOk_1.l0 l j x.Order.Name x.Order.Target x.Order.Low x.Order.High x.Order.Metrics x.Order.Pace.Up x.Order.Pace.Down x.Order.Pace.UpSpan x.Order.Pace.DownSpan x.Order.Notes x.Ver = some (.inr (x.Order.Name, x.Order.Target, x.Order.Low, x.Order.High, x.Order.Metrics, x.Order.Pace.Up, x.Order.Pace.Down, x.Order.Pace.UpSpan, x.Order.Pace.DownSpan, x.Order.Notes, x.Ver)) := by
    refine down _ fun j hj ih => ?_
    by_cases hlt : j < l.length
    · have c : decide ((j : Int) < (l.length : Int)) = true := by simpa using hlt
      have ih' := ih hlt
      rw [List.drop_eq_getElem_cons hlt, List.any_cons]
      rw [slices_IndexFunc_Simpl_Item_impl_Item_impl_StoreOk_1.l0]
      simp only [c, if_true, ix_nat, List.getElem?_eq_getElem hlt, bind_some', impl_StoreOk_1, w64_succ (show j < 9223372036854775807 by omega)]
      cases hv : (l[j].Ver == x.Ver)
      · simp only [Bool.false_or, Bool.false_eq_true, if_false]
        exact ih'
      · simp only [Bool.true_or, if_true]
        exact ⟨j, by omega, rfl⟩
    · have c : decide ((j : Int) < (l.length : Int)) = false := by simpa using hlt
      rw [List.drop_eq_nil_of_le (by omega), slices_IndexFunc_Simpl_Item_impl_Item_impl_StoreOk_1.l0]
      simp only [c, List.any_nil, Bool.false_eq_true, if_false]
  have k0 := key 0 (by omega)
  simp only [List.drop_zero, Int.natCast_zero] at k0
  simp only [slices_ContainsFunc_Simpl_Item_impl_Item_impl_StoreOk_1, slices_IndexFunc_Simpl_Item_impl_Item_impl_StoreOk_1]
  cases hv : l.any (fun y => y.Ver == x.Ver)
  · rw [hv, if_neg (by simp)] at k0
    rw [k0]; rfl
  · rw [hv, if_pos rfl] at k0
    obtain ⟨k, hk, e⟩ := k0
    rw [e]
    simp only [bind_some']
    rw [show decide (k ≥ 0) = true by simpa using hk]
theorem storeOk_same (s : Store) (h : Store.sm s) : ∃ b, spec_StoreOk s = some b ∧ impl_StoreOk s = some b := by
  have hl : s.Items.length ≤ 1048576 := h.1
  have key : ∀ i, i ≤ s.Items.length → ∃ b, spec_StoreOk.l0 s i = some b ∧ impl_StoreOk.l0 s i = some b := by
    refine down _ fun i hi ih => ?_
    rw [spec_StoreOk.l0, impl_StoreOk.l0]
    by_cases hlt : i < s.Items.length
    · have c : decide ((i : Int) < (s.Items.length : Int)) = true := by simpa using hlt
      obtain ⟨b, e1, e2⟩ := ih hlt
      obtain ⟨p, p1, p2⟩ := orderOk_same s.Items[i].Order (h.2 _ (List.getElem_mem hlt))
      have ht : (s.Items.take i).length ≤ 1048576 := by simp; omega
      simp only [c, if_true, ix_nat, List.getElem?_eq_getElem hlt, bind_some', p1, p2, in_some, from_some, w64_succ (show i < 9223372036854775807 by omega), e1, e2, vers1 s _ i hi hl, vers2 s _ i hi hl, slc_take _ _ hi, vers3 _ _ ht]
      split
      · exact ⟨_, rfl, rfl⟩
      · split
        · exact ⟨_, rfl, rfl⟩
        · by_cases h0 : i = 0
          · subst h0; simp
          · have e : IntKind.i64.wrap ((i : Int) - 1) = ((i - 1 : Nat) : Int) := by rw [w64_id (by omega) (by omega)]; omega
            have c2 : decide ((i : Int) > 0) = true := by simp; omega
            simp only [c2, if_true, e, ix_nat, List.getElem?_eq_getElem (show i - 1 < s.Items.length by omega), bind_some']
            split
            · exact ⟨_, rfl, rfl⟩
            · cases (s.Items.take i).any (fun y => y.Ver == s.Items[i].Ver) <;> exact ⟨_, rfl, rfl⟩
    · rw [if_neg (by simpa using hlt), if_neg (by simpa using hlt)]
      exact ⟨_, rfl, rfl⟩
  obtain ⟨b, h1, h2⟩ := key 0 (by omega)
  simp only [Int.natCast_zero] at h1 h2
  simp only [spec_StoreOk, impl_StoreOk, h1, h2, in_some, from_some, bind_some']
  generalize (decide (s.Next ≥ 1) && decide (s.Next ≤ 100000)) = x
  generalize decide ((s.Items.length : Int) > 6) = y
  cases b with
  | inl r => cases x <;> cases y <;> exact ⟨_, rfl, rfl⟩
  | inr u => cases x <;> cases y <;> exact ⟨_, rfl, rfl⟩
theorem metricOk_goal (m : Metric) (h : impl_MetricOk m = some true) : 1 ≤ m.Kind ∧ m.Kind ≤ 3 ∧ 1 ≤ m.Goal ∧ m.Goal ≤ 1000000 := by
  simp only [impl_MetricOk, from_some, bind_some'] at h
  cases hn : impl_NameOk m.Name with
  | none => rw [hn] at h; simp at h
  | some b =>
    rw [hn] at h
    simp only [bind_some'] at h
    split at h
    · split at h
      · rename_i h2
        simp at h h2; omega
      · simp at h
    · simp at h
/-- what an order is, where it is right -/
theorem orderOk_true (o : Order) (hs : Order.sm o) (h : impl_OrderOk o = some true) : 1 ≤ o.Low ∧ o.Low ≤ o.High ∧ o.High ≤ 1000 ∧ o.Metrics.length ≤ 4 ∧ impl_OrderOk.l0 o 0 = some (.inr ()) ∧ impl_NameOk o.Name = some true ∧ impl_NameOk o.Target = some true ∧ impl_PaceOk o.Pace = some true ∧ impl_notesOk o.Notes = some true := by
  obtain ⟨n, n1, n2⟩ := nameOk_same o.Name hs.1
  obtain ⟨t, t1, t2⟩ := nameOk_same o.Target hs.2.1
  obtain ⟨m, m1, m2⟩ := metrics_same o hs.2.2.1
  obtain ⟨p, p1, p2⟩ := paceOk_same o.Pace
  obtain ⟨q, q1, q2⟩ := notes_same o.Notes hs.2.2.2
  simp only [impl_OrderOk, n2, t2, m2, p2, q2, from_some, bind_some'] at h
  by_cases hx : o.Low ≥ 1 ∧ o.Low ≤ o.High <;> by_cases hy : o.High ≤ 1000 <;> by_cases hz : (o.Metrics.length : Int) ≤ 4 <;> cases n <;> cases t <;> cases m <;> cases p <;> cases q <;> simp [hx, hy, hz, bind_some'] at h
  all_goals first
    | (refine ⟨by omega, by omega, by omega, by omega, by rw [m2]; rfl, n2, t2, p2, q2⟩)
    | omega
theorem paceOk_true (p : Pace) (h : impl_PaceOk p = some true) : 0 ≤ p.Up ∧ p.Up ≤ 1000 ∧ 0 ≤ p.Down ∧ p.Down ≤ 1000 ∧ 0 ≤ p.UpSpan ∧ p.UpSpan ≤ 3600 ∧ 0 ≤ p.DownSpan ∧ p.DownSpan ≤ 3600 := by
  simp only [impl_PaceOk, impl_isMany, from_some, bind_some'] at h
  by_cases a : p.Up ≥ 0 ∧ p.Up ≤ 1000 <;> by_cases b : p.Down ≥ 0 ∧ p.Down ≤ 1000 <;> by_cases c : p.UpSpan ≥ 0 ∧ p.UpSpan ≤ 3600 <;> by_cases d : p.DownSpan ≥ 0 ∧ p.DownSpan ≤ 3600 <;> simp [a, b, c, d] at h <;> omega
theorem slt_irrefl (a : Str) : slt a a = false := by
  unfold slt
  induction a with
  | nil => rfl
  | cons x l ih => simp [Op.bytesLess, ih]
theorem slt_trans (a b c : Str) (h1 : slt a b = true) (h2 : slt b c = true) : slt a c = true := by
  unfold slt at *
  induction a generalizing b c with
  | nil =>
    cases b with
    | nil => simp [Op.bytesLess] at h1
    | cons y m =>
      cases c with
      | nil => simp [Op.bytesLess] at h2
      | cons z n => rfl
  | cons x l ih =>
    cases b with
    | nil => simp [Op.bytesLess] at h1
    | cons y m =>
      cases c with
      | nil => simp [Op.bytesLess] at h2
      | cons z n =>
        simp only [Op.bytesLess, Bool.or_eq_true, decide_eq_true_eq, Bool.and_eq_true, beq_iff_eq] at *
        rcases h1 with h1 | ⟨rfl, h1⟩
        · rcases h2 with h2 | ⟨rfl, h2⟩
          · left; rw [UInt8.lt_iff_toNat_lt] at *; omega
          · left; exact h1
        · rcases h2 with h2 | ⟨rfl, h2⟩
          · left; exact h2
          · right; exact ⟨rfl, ih _ _ h1 h2⟩
/-- the names of a right order's metrics grow -/
theorem metrics_up (o : Order) (h : smL Metric.sm o.Metrics) (hok : impl_OrderOk.l0 o 0 = some (.inr ())) : (∀ i (hi : i < o.Metrics.length), impl_MetricOk o.Metrics[i] = some true) ∧ ∀ i j (hi : i < j) (hj : j < o.Metrics.length), o.Metrics[i].Name ≠ o.Metrics[j].Name := by
  have hl : o.Metrics.length ≤ 1048576 := h.1
  have key : ∀ i, i ≤ o.Metrics.length → impl_OrderOk.l0 o i = some (.inr ()) → ∀ k, i ≤ k → ∀ hk : k < o.Metrics.length, impl_MetricOk o.Metrics[k] = some true ∧ ∀ h0 : 0 < k, slt (o.Metrics[k-1]'(by omega)).Name o.Metrics[k].Name = true := by
    refine down _ fun i hi ih hok k hik hk => ?_
    have hlt : i < o.Metrics.length := by omega
    rw [impl_OrderOk.l0] at hok
    have c : decide ((i : Int) < (o.Metrics.length : Int)) = true := by simpa using hlt
    obtain ⟨p, p1, p2⟩ := metricOk_same o.Metrics[i] (h.2 _ (List.getElem_mem hlt))
    simp only [c, if_true, ix_nat, List.getElem?_eq_getElem hlt, bind_some', p2, w64_succ (show i < 9223372036854775807 by omega)] at hok
    cases p
    · simp at hok
    simp only [Bool.not_true, Bool.false_eq_true, if_false] at hok
    by_cases h0 : i = 0
    · subst h0
      simp only [Int.natCast_zero, Int.lt_irrefl, gt_iff_lt, decide_false, Bool.false_eq_true, if_false] at hok
      by_cases hk0 : k = 0
      · subst hk0; exact ⟨p2, fun h => by omega⟩
      · exact ih hlt hok k (by omega) hk
    · have e : IntKind.i64.wrap ((i : Int) - 1) = ((i - 1 : Nat) : Int) := by rw [w64_id (by omega) (by omega)]; omega
      have c2 : decide ((i : Int) > 0) = true := decide_eq_true (by omega)
      simp only [c2, if_true, e, ix_nat, List.getElem?_eq_getElem (show i - 1 < o.Metrics.length by omega), bind_some'] at hok
      by_cases hs : slt (o.Metrics[i-1]'(by omega)).Name o.Metrics[i].Name = true
      · rw [if_neg (by simp [hs])] at hok
        by_cases hki : k = i
        · subst hki; exact ⟨p2, fun _ => hs⟩
        · exact ih hlt hok k (by omega) hk
      · rw [if_pos (by simpa using hs)] at hok; simp at hok
  have k0 := key 0 (by omega) (by simpa using hok)
  refine ⟨fun i hi => (k0 i (by omega) hi).1, fun i j hi hj he => ?_⟩
  have up : ∀ d i, (h : i + 1 + d < o.Metrics.length) → slt (o.Metrics[i]'(by omega)).Name o.Metrics[i + 1 + d].Name = true := by
    intro d
    induction d with
    | zero => intro i h; exact (k0 (i + 1) (by omega) h).2 (by omega)
    | succ d ih => intro i h; exact slt_trans _ _ _ (ih i (by omega)) ((k0 (i + 1 + (d + 1)) (by omega) h).2 (by omega))
  obtain ⟨d, rfl⟩ : ∃ d, j = i + 1 + d := ⟨j - i - 1, by omega⟩
  have := up d i hj
  rw [he, slt_irrefl] at this
  simp at this
theorem metricOk_name (m : Metric) (hs : Metric.sm m) (h : impl_MetricOk m = some true) : impl_NameOk m.Name = some true := by
  obtain ⟨n, n1, n2⟩ := nameOk_same m.Name hs
  simp only [impl_MetricOk, n2, bind_some'] at h
  cases n
  · simp at h
  · exact n2
inductive Tr where
  | mk (k n : Int) (s : Str) (ks : List Str) (kids : List Tr)
theorem Tr.ind {P : Tr → Prop} (h : ∀ k n s ks kids, (∀ t ∈ kids, P t) → P (.mk k n s ks kids)) : ∀ t, P t
  | .mk k n s ks kids => h k n s ks kids fun t ht => Tr.ind h t
  termination_by t => SizeOf.sizeOf t
  decreasing_by have := List.sizeOf_lt_of_mem ht; simp only [Tr.mk.sizeOf_spec]; omega
mutual
def Tr.no : Tr → Node
  | .mk k n s ks kids => Node.mk k n s ks (Tr.nos kids)
def Tr.nos : List Tr → List RNode
  | [] => []
  | t :: l => rN_Node (Tr.no t) :: Tr.nos l
end
mutual
def Tr.deep : Tr → Nat
  | .mk _ _ _ _ kids => Tr.deeps kids + 1
def Tr.deeps : List Tr → Nat
  | [] => 0
  | t :: l => max (Tr.deep t) (Tr.deeps l)
end
mutual
def Tr.size : Tr → Nat
  | .mk _ _ _ _ kids => Tr.sizes kids + 1
def Tr.sizes : List Tr → Nat
  | [] => 0
  | t :: l => Tr.size t + Tr.sizes l
end
theorem Tr.nos_map : ∀ l : List Tr, Tr.nos l = l.map fun t => rN_Node (Tr.no t)
  | [] => rfl
  | t :: l => by rw [Tr.nos, Tr.nos_map l]; rfl
theorem Tr.nos_len (l : List Tr) : (Tr.nos l).length = l.length := by rw [Tr.nos_map]; simp
theorem Tr.nos_get (l : List Tr) (i : Nat) (h : i < l.length) : (Tr.nos l)[i]? = some (rN_Node (Tr.no l[i])) := by rw [Tr.nos_map]; simp [h]
theorem Tr.deeps_le : ∀ (l : List Tr) (t : Tr), t ∈ l → Tr.deep t ≤ Tr.deeps l
  | a :: l, t, h => by
    rw [Tr.deeps]
    rcases List.mem_cons.1 h with rfl | h
    · omega
    · have := Tr.deeps_le l t h; omega
theorem Tr.deep_pos : ∀ t : Tr, 1 ≤ Tr.deep t
  | .mk _ _ _ _ _ => by rw [Tr.deep]; omega
theorem Tr.deep_size : ∀ t : Tr, Tr.deep t ≤ Tr.size t := Tr.ind fun k n s ks kids ih => by
  rw [Tr.deep, Tr.size]
  have : ∀ l : List Tr, (∀ t ∈ l, Tr.deep t ≤ Tr.size t) → Tr.deeps l ≤ Tr.sizes l := by
    intro l
    induction l with
    | nil => intro _; rw [Tr.deeps]; omega
    | cons a l ih =>
      intro h
      have h1 := h a (by simp)
      have h2 := ih fun t ht => h t (by simp [ht])
      rw [Tr.deeps, Tr.sizes]; omega
  have := this kids ih
  omega
/-- a kid, read -/
theorem kid {β : Type} (l : List Tr) (i : Nat) (h : i < l.length) (f : Node → Option β) : (ix (Tr.nos l) (i : Int) >>= fun x => dN_Node x >>= f) = f (Tr.no l[i]) := by
  rw [ix_nat, Tr.nos_get l i h]
  show (dN_Node (rN_Node (Tr.no l[i])) >>= f) = _
  rw [dN_Node_rN]; rfl
inductive Tr.Ok : Tr → Prop
  | mk {k n s ks kids} : okI k → okI n → okS s → okL okS ks → kids.length ≤ 9223372036854775807 → (∀ t ∈ kids, Tr.Ok t) → Tr.Ok (.mk k n s ks kids)
/-- small -/
inductive Tr.Sm : Tr → Prop
  | mk {k n s ks kids} : smS s → smL smS ks → kids.length ≤ 1048576 → (∀ t ∈ kids, Tr.Sm t) → Tr.Sm (.mk k n s ks kids)
theorem Tr.size_le : ∀ (l : List Tr) (t : Tr), t ∈ l → Tr.size t ≤ Tr.sizes l
  | a :: l, t, h => by
    rw [Tr.sizes]
    rcases List.mem_cons.1 h with rfl | h
    · omega
    · have := Tr.size_le l t h; omega
theorem fuel1 {t : Tr} {k n : Int} {s : Str} {ks : List Str} {kids : List Tr} (e : t = .mk k n s ks kids) {m : Nat} (h : Tr.deep t ≤ m) : ∃ m', m = m' + 1 ∧ Tr.deeps kids ≤ m' := by
  subst e
  rw [Tr.deep] at h
  exact ⟨m - 1, by omega, by omega⟩
theorem no_kids {k n : Int} {s : Str} {ks : List Str} {kids : List Tr} : (Tr.no (.mk k n s ks kids)).Kids = Tr.nos kids := by rw [Tr.no]
theorem deep_some : ∀ t : Tr, Tr.size t ≤ 2000000 → ∀ k, Tr.deep t ≤ k → spec_l3Deep_n k (Tr.no t) = some (Tr.deep t : Int) := by
  refine Tr.ind fun kd n s ks kids ih hsz k hk => ?_
  obtain ⟨k, rfl, hk⟩ := fuel1 rfl hk
  have hds := Tr.deep_size (.mk kd n s ks kids)
  rw [Tr.size] at hsz hds
  rw [Tr.deep] at hds
  have key : ∀ i, i ≤ kids.length → ∀ v : Nat, spec_l3Deep.l0 (spec_l3Deep_n k) (Tr.no (.mk kd n s ks kids)) v i = some ((max v (Tr.deeps (kids.drop i)) : Nat) : Int) := by
    refine down _ fun i hi ih2 v => ?_
    rw [spec_l3Deep.l0]
    rw [no_kids]
    by_cases hlt : i < kids.length
    · have c3 : decide ((i : Int) < ((Tr.nos kids).length : Int)) = true := by rw [Tr.nos_len]; simpa using hlt
      have hm : kids[i] ∈ kids := List.getElem_mem hlt
      have hs1 := Tr.size_le kids _ hm
      have hl : kids.length ≤ 2000000 := by
        have : ∀ l : List Tr, l.length ≤ Tr.sizes l := by
          intro l
          induction l with
          | nil => simp
          | cons a l ih => rw [Tr.sizes]; have : 1 ≤ Tr.size a := by cases a; rw [Tr.size]; omega
                           simp only [List.length_cons]; omega
        have := this kids; omega
      rw [if_pos c3, kid kids i hlt, ih _ hm (by omega) k (by have := Tr.deeps_le kids _ hm; omega), bind_some']
      have e : spec_l1Max (v : Int) (Tr.deep kids[i] : Int) = some ((max v (Tr.deep kids[i]) : Nat) : Int) := by
        simp only [spec_l1Max]
        by_cases h : (v : Int) > (Tr.deep kids[i] : Int)
        · rw [if_pos (by simpa using h)]; congr 1; omega
        · rw [if_neg (by simpa using h)]; congr 1; omega
      rw [e, bind_some', w64_succ (show i < 9223372036854775807 by omega)]
      have := ih2 hlt (max v (Tr.deep kids[i]))
      rw [this, List.drop_eq_getElem_cons hlt, Tr.deeps]
      congr 2; omega
    · obtain rfl : i = kids.length := by omega
      rw [if_neg (by simp [Tr.nos_len])]
      simp [Tr.deeps]
  have := key 0 (by omega) 0
  simp only [Int.natCast_zero, List.drop_zero] at this
  show spec_l3Deep_F (spec_l3Deep_n k) _ = _
  simp only [spec_l3Deep_F, this, bind_some', Tr.deep]
  rw [w64_id (by omega) (by omega)]
  congr 1 <;> omega
theorem len_sizes : ∀ l : List Tr, l.length ≤ Tr.sizes l
  | [] => by simp
  | a :: l => by
    have := len_sizes l
    rw [Tr.sizes]
    have h1 : 1 ≤ Tr.size a := by cases a; rw [Tr.size]; omega
    simp only [List.length_cons]; omega
theorem size_some : ∀ t : Tr, Tr.size t ≤ 2000000 → ∀ k, Tr.deep t ≤ k → spec_l3Size_n k (Tr.no t) = some (Tr.size t : Int) := by
  refine Tr.ind fun kd n s ks kids ih hsz k hk => ?_
  obtain ⟨k, rfl, hk⟩ := fuel1 rfl hk
  rw [Tr.size] at hsz
  have hl : kids.length ≤ 2000000 := by have := len_sizes kids; omega
  have drops : ∀ i, Tr.sizes (kids.drop i) ≤ Tr.sizes kids := by
    have : ∀ (l : List Tr) (i : Nat), Tr.sizes (l.drop i) ≤ Tr.sizes l := by
      intro l
      induction l with
      | nil => intro i; simp
      | cons a l ih =>
        intro i
        cases i with
        | zero => simp
        | succ i => simp only [List.drop_succ_cons, Tr.sizes]; have := ih i; omega
    exact this kids
  have key : ∀ i, i ≤ kids.length → ∀ v : Nat, v + Tr.sizes (kids.drop i) ≤ 2000001 → spec_l3Size.l0 (spec_l3Size_n k) (Tr.no (.mk kd n s ks kids)) v i = some ((v + Tr.sizes (kids.drop i) : Nat) : Int) := by
    refine down _ fun i hi ih2 v hv => ?_
    rw [spec_l3Size.l0]
    rw [no_kids]
    by_cases hlt : i < kids.length
    · have c3 : decide ((i : Int) < ((Tr.nos kids).length : Int)) = true := by rw [Tr.nos_len]; simpa using hlt
      have hm : kids[i] ∈ kids := List.getElem_mem hlt
      have hs1 := Tr.size_le kids _ hm
      rw [List.drop_eq_getElem_cons hlt, Tr.sizes] at hv
      rw [if_pos c3, kid kids i hlt, ih _ hm (by omega) k (by have := Tr.deeps_le kids _ hm; omega), bind_some']
      have e : IntKind.i64.wrap ((v : Int) + (Tr.size kids[i] : Int)) = ((v + Tr.size kids[i] : Nat) : Int) := by rw [w64_id (by omega) (by omega)]; omega
      rw [e, w64_succ (show i < 9223372036854775807 by omega)]
      have := ih2 hlt (v + Tr.size kids[i]) (by omega)
      rw [this, List.drop_eq_getElem_cons hlt, Tr.sizes]
      congr 2; omega
    · obtain rfl : i = kids.length := by omega
      rw [if_neg (by simp [Tr.nos_len])]
      simp [Tr.sizes]
  have := key 0 (by omega) 1 (by simp only [List.drop_zero]; omega)
  simp only [Int.natCast_zero, List.drop_zero, Int.natCast_one] at this
  show spec_l3Size_F (spec_l3Size_n k) _ = _
  simp only [spec_l3Size_F, this, bind_some', Tr.size]
  congr 2; omega
theorem isize_some : ∀ t : Tr, Tr.size t ≤ 2000000 → ∀ r : Int, 0 ≤ r → r ≤ 9 → ∃ p q : Int, (∀ k, Tr.deep t ≤ k → impl_size_n k (Tr.no t) r = some (p, q)) ∧ ((Tr.deep t : Int) ≤ r → p = (min (Tr.size t) 201 : Nat) ∧ q = Tr.deep t) ∧ (r < (Tr.deep t : Int) → 9 ≤ q) ∧ 0 ≤ q ∧ q ≤ 9 + r ∧ 0 ≤ p ∧ p ≤ 201 := by
  refine Tr.ind fun kd n s ks kids ih hsz r r0 r9 => ?_
  have hdp := Tr.deep_pos (.mk kd n s ks kids)
  rw [Tr.size] at hsz
  have hl : kids.length ≤ 2000000 := by have := len_sizes kids; omega
  by_cases hr : r = 0
  · subst hr
    refine ⟨201, 9, fun k hk => ?_, fun h => by omega, fun _ => by omega, by omega, by omega, by omega, by omega⟩
    obtain ⟨k, rfl, hk⟩ := fuel1 rfl hk
    show impl_size_F (impl_size_n k) _ 0 = _
    rfl
  · have e0 : IntKind.i64.wrap (r - 1) = r - 1 := w64_id (by omega) (by omega)
    have key : ∀ i, i ≤ kids.length → ∀ v m : Nat, v ≤ 201 → (m : Int) ≤ 8 + r → ∃ p q : Int, (∀ k, Tr.deeps kids ≤ k → impl_size.l0 (impl_size_n k) (Tr.no (.mk kd n s ks kids)) r v m i = some (p, q)) ∧
        ((Tr.deeps (kids.drop i) : Int) ≤ r - 1 → p = (min (v + Tr.sizes (kids.drop i)) 201 : Nat) ∧ q = (max m (Tr.deeps (kids.drop i)) : Nat)) ∧ (r - 1 < (Tr.deeps (kids.drop i) : Int) → 9 ≤ q) ∧ (m : Int) ≤ q ∧ q ≤ 8 + r ∧ 0 ≤ p ∧ p ≤ 201 := by
      refine down _ fun i hi ih2 v m hv hm0 => ?_
      by_cases hlt : i < kids.length
      · have c3 : decide ((i : Int) < ((Tr.nos kids).length : Int)) = true := by rw [Tr.nos_len]; simpa using hlt
        have hm : kids[i] ∈ kids := List.getElem_mem hlt
        have hs1 := Tr.size_le kids _ hm
        obtain ⟨p, q, e, a1, a2, a3, a4, a5, a6⟩ := ih _ hm (by omega) (r - 1) (by omega) (by omega)
        obtain ⟨p', rfl⟩ : ∃ p' : Nat, p = p' := ⟨p.toNat, by omega⟩
        obtain ⟨q', rfl⟩ : ∃ q' : Nat, q = q' := ⟨q.toNat, by omega⟩
        obtain ⟨x, y, e2, b1, b2, b3, b4, b5, b6⟩ := ih2 hlt (min (v + p') 201) (max m q') (by omega) (by omega)
        refine ⟨x, y, fun k hk => ?_, ?_, ?_, by omega, b4, b5, b6⟩
        · rw [impl_size.l0]
          rw [no_kids, if_pos c3, kid kids i hlt, e0, e k (by have := Tr.deeps_le kids _ hm; omega), bind_some']
          have e3 : IntKind.i64.wrap ((v : Int) + (p' : Int)) = (v : Int) + (p' : Int) := w64_id (by omega) (by omega)
          have e4 : (if 201 < (v : Int) + (p' : Int) then (201 : Int) else (v : Int) + (p' : Int)) = ((min (v + p') 201 : Nat) : Int) := by split <;> omega
          have e5 : (if (q' : Int) > (m : Int) then (q' : Int) else (m : Int)) = ((max m q' : Nat) : Int) := by split <;> omega
          simp only [e3, e4, e5]
          rw [w64_succ (show i < 9223372036854775807 by omega)]
          have := e2 k hk
          exact this
        · intro hd
          rw [List.drop_eq_getElem_cons hlt, Tr.deeps] at hd
          obtain ⟨c1, c2⟩ := a1 (by omega)
          obtain ⟨d1, d2⟩ := b1 (by omega)
          rw [List.drop_eq_getElem_cons hlt, Tr.deeps, Tr.sizes]
          constructor
          · rw [d1]; omega
          · rw [d2]; omega
        · intro hd
          rw [List.drop_eq_getElem_cons hlt, Tr.deeps] at hd
          by_cases h1 : r - 1 < (Tr.deep kids[i] : Int)
          · have := a2 h1; omega
          · exact b2 (by omega)
      · obtain rfl : i = kids.length := by omega
        refine ⟨v, m, fun k hk => ?_, fun h => ?_, fun h => ?_, by omega, by omega, by omega, by omega⟩
        · rw [impl_size.l0]
          rw [no_kids, if_neg (by simp [Tr.nos_len])]
        · simp [Tr.deeps, Tr.sizes]; omega
        · simp [Tr.deeps] at h; omega
    obtain ⟨p, q, e, a1, a2, a3, a4, a5, a6⟩ := key 0 (by omega) 1 0 (by omega) (by omega)
    simp only [List.drop_zero] at a1 a2
    refine ⟨p, q + 1, fun k hk => ?_, fun h => ?_, fun h => ?_, by omega, by omega, a5, a6⟩
    · obtain ⟨k1, e1, hk1⟩ := fuel1 rfl hk
      subst e1
      have := e k1 hk1
      simp only [Int.natCast_zero, Int.natCast_one] at this
      show impl_size_F (impl_size_n k1) _ r = _
      simp only [impl_size_F]
      rw [if_neg (by simpa using hr), this, bind_some']
      show some (p, IntKind.i64.wrap (q + 1)) = _
      rw [w64_id (by omega) (by omega)]
    · rw [Tr.deep] at h ⊢
      obtain ⟨c1, c2⟩ := a1 (by omega)
      rw [Tr.size]
      constructor
      · rw [c1]; omega
      · rw [c2]; omega
    · rw [Tr.deep] at h
      have := a2 (by omega)
      omega
theorem keys_same (a : Node) (h : smL smS a.Keys) : ∃ b : Bool, spec_l3Keys a.Keys = some b ∧ impl_shapeOk.l5 a 0 = some (if b then .inr () else .inl false) := by
  have hl : a.Keys.length ≤ 1048576 := h.1
  have key : ∀ i, i ≤ a.Keys.length → ∃ b : Bool, spec_l3Keys.l0 a.Keys i = some (if b then .inr () else .inl false) ∧ impl_shapeOk.l5 a i = some (if b then .inr () else .inl false) := by
    refine down _ fun i hi ih => ?_
    rw [spec_l3Keys.l0, impl_shapeOk.l5]
    by_cases hlt : i < a.Keys.length
    · have c : decide ((i : Int) < (a.Keys.length : Int)) = true := by simpa using hlt
      obtain ⟨b, e1, e2⟩ := ih hlt
      obtain ⟨x, x1, x2⟩ := textOk_same a.Keys[i] (h.2 _ (List.getElem_mem hlt))
      simp only [c, if_true, ix_nat, List.getElem?_eq_getElem hlt, bind_some', x1, x2, w64_succ (show i < 9223372036854775807 by omega), e1, e2]
      cases x
      · exact ⟨false, rfl, rfl⟩
      · simp only [Bool.not_true, Bool.false_eq_true, if_false]
        by_cases h0 : 0 < i
        · have c2 : decide ((i : Int) > 0) = true := by simpa using h0
          have e : IntKind.i64.wrap ((i : Int) - 1) = ((i - 1 : Nat) : Int) := by rw [w64_id (by omega) (by omega)]; omega
          have hlt2 : i - 1 < a.Keys.length := by omega
          simp only [c2, if_true, e, ix_nat, List.getElem?_eq_getElem hlt2, bind_some']
          cases slt a.Keys[i - 1] a.Keys[i]
          · exact ⟨false, rfl, rfl⟩
          · exact ⟨b, rfl, rfl⟩
        · have c2 : decide ((i : Int) > 0) = false := by simpa using h0
          simp only [c2, if_false, Bool.false_eq_true]
          exact ⟨b, rfl, rfl⟩
    · rw [if_neg (by simpa using hlt), if_neg (by simpa using hlt)]
      exact ⟨true, rfl, rfl⟩
  obtain ⟨b, e1, e2⟩ := key 0 (by omega)
  simp only [Int.natCast_zero] at e1 e2
  refine ⟨b, ?_, e2⟩
  simp only [spec_l3Keys, e1, bind_some']
  cases b <;> rfl
theorem leaf_same (a : Node) (hs : smS a.S) (h4 : a.Kind ≠ 4) (h5 : a.Kind ≠ 5) : ∃ b, spec_l3Leaf a = some b ∧ impl_shapeOk a = some b ∧ (b = true → a.Kids.length = 0) := by
  obtain ⟨x, x1, x2⟩ := textOk_same a.S hs
  have k4 : (a.Kind == 4) = false := by simpa using h4
  have k5 : (a.Kind == 5) = false := by simpa using h5
  simp only [spec_l3Leaf, impl_shapeOk, impl_shapeOk.l0, impl_shapeOk.l1, impl_shapeOk.l2, impl_shapeOk.l3, in_some, from_some, x1, x2, bind_some', k4, k5, beq_self_eq_true, Bool.false_eq_true, if_false, if_true]
  by_cases a0 : a.Kids.length = 0
  · have c1 : decide ((a.Kids.length : Int) > 0) = false := decide_eq_false (by omega)
    have c2 : ((a.Kids.length : Int) == 0) = true := by simp [a0]
    simp only [c1, c2, Bool.false_eq_true, if_false]
    by_cases b0 : a.Keys.length = 0
    · have d1 : decide ((a.Keys.length : Int) > 0) = false := decide_eq_false (by omega)
      have d2 : ((a.Keys.length : Int) == 0) = true := by simp [b0]
      simp only [d1, d2, Bool.false_eq_true, if_false, if_true]
      cases (a.Kind == 0) <;> cases (a.Kind == 1) <;> cases (a.Kind == 2) <;> cases (a.Kind == 3) <;> cases (a.N == 0) <;> cases (a.S == ([] : Str)) <;> cases (decide (a.N ≥ 0) && decide (a.N ≤ 1)) <;> cases (decide (a.N ≥ -1000000000000) && decide (a.N ≤ 1000000000000)) <;> cases x <;> exact ⟨_, rfl, rfl, fun _ => a0⟩
    · have d1 : decide ((a.Keys.length : Int) > 0) = true := decide_eq_true (by omega)
      have d2 : ((a.Keys.length : Int) == 0) = false := by simpa using b0
      simp only [d1, d2, Bool.false_eq_true, if_false, if_true]
      cases (a.Kind == 0) <;> cases (a.Kind == 1) <;> cases (a.Kind == 2) <;> cases (a.Kind == 3) <;> cases (a.N == 0) <;> cases (a.S == ([] : Str)) <;> cases (decide (a.N ≥ 0) && decide (a.N ≤ 1)) <;> cases (decide (a.N ≥ -1000000000000) && decide (a.N ≤ 1000000000000)) <;> cases x <;> exact ⟨_, rfl, rfl, fun _ => a0⟩
  · have c1 : decide ((a.Kids.length : Int) > 0) = true := decide_eq_true (by omega)
    have c2 : ((a.Kids.length : Int) == 0) = false := by simpa using a0
    simp only [c1, c2, if_true]
    refine ⟨false, rfl, ?_, fun h => by cases h⟩
    cases (a.Kind == 0) <;> cases (a.Kind == 1) <;> cases (a.Kind == 2) <;> cases (a.Kind == 3) <;> cases (a.N == 0) <;> cases (a.S == ([] : Str)) <;> cases ((a.Keys.length : Int) == 0) <;> cases (decide (a.N ≥ 0) && decide (a.N ≤ 1)) <;> cases (decide (a.N ≥ -1000000000000) && decide (a.N ≤ 1000000000000)) <;> cases x <;> rfl
theorem kids_end (kids : List Tr) : ¬ (decide ((kids.length : Int) < ((Tr.nos kids).length : Int)) = true) := by simp [Tr.nos_len]
theorem bx {α β : Type} {e : Option α} {x : α} (h : e = some x) (f : α → Option β) : (e >>= f) = f x := by rw [h]; rfl
/-! trees within bounds -/
inductive Tr.Bd : Tr → Prop
  | mk {k n s ks kids} : ks.length ≤ 4194304 → kids.length ≤ 4194304 → (∀ t ∈ kids, Tr.Bd t) → Tr.Bd (.mk k n s ks kids)
theorem Tr.nos_append (l m : List Tr) : Tr.nos (l ++ m) = Tr.nos l ++ Tr.nos m := by simp [Tr.nos_map]
theorem Tr.nos_take (l : List Tr) (i : Nat) : (Tr.nos l).take i = Tr.nos (l.take i) := by simp [Tr.nos_map, List.map_take]
theorem Tr.nos_drop (l : List Tr) (i : Nat) : (Tr.nos l).drop i = Tr.nos (l.drop i) := by simp [Tr.nos_map, List.map_drop]
theorem Tr.nos_one (t : Tr) : [rN_Node (Tr.no t)] = Tr.nos [t] := by simp [Tr.nos_map]
theorem clone_ok' {α : Type} {b : Nat} {l : List α} (h : l.length * b ≤ 70368744177664) : Nt.clone b l = some l := by unfold Nt.clone; rw [if_pos h]
theorem copy_both : ∀ t : Tr, Tr.Bd t → ∀ k, Tr.deep t ≤ k → spec_l3Copy_n k (Tr.no t) = some (Tr.no t) ∧ impl_copyTree_n k (Tr.no t) = some (Tr.no t) := by
  refine Tr.ind fun kd n s ks kids ih hb k hk => ?_
  cases hb with
  | mk b1 b2 b3 =>
  obtain ⟨k, rfl, hk⟩ := fuel1 rfl hk
  have hT : Tr.no (.mk kd n s ks kids) = Node.mk kd n s ks (Tr.nos kids) := by rw [Tr.no]
  have key : ∀ i, i ≤ kids.length → ∀ v : List RNode, v.length = i → spec_l3Copy.l0 (spec_l3Copy_n k) (Node.mk kd n s ks (Tr.nos kids)) i v = some (v ++ (Tr.nos kids).drop i) ∧ impl_copyTree.l0 (impl_copyTree_n k) (Node.mk kd n s ks (Tr.nos kids)) i v = some (v ++ (Tr.nos kids).drop i) := by
    refine down _ fun i hi ih2 v hv => ?_
    rw [spec_l3Copy.l0, impl_copyTree.l0]
    dsimp only
    by_cases hlt : i < kids.length
    · have c3 : decide ((i : Int) < ((Tr.nos kids).length : Int)) = true := by rw [Tr.nos_len]; simpa using hlt
      have hm : kids[i] ∈ kids := List.getElem_mem hlt
      have hd := Tr.deeps_le kids _ hm
      obtain ⟨x1, x2⟩ := ih _ hm (b3 _ hm) k (by omega)
      have e : (v ++ [rN_Node (Tr.no kids[i])]) ++ (Tr.nos kids).drop (i + 1) = v ++ (Tr.nos kids).drop i := by
        rw [List.append_assoc]; congr 1
        have hl : i < (Tr.nos kids).length := by rw [Tr.nos_len]; exact hlt
        rw [List.drop_eq_getElem_cons hl]
        have := Tr.nos_get kids i hlt
        rw [List.getElem?_eq_getElem hl] at this
        rw [Option.some.inj this]; rfl
      have w1 : IntKind.i64.wrap ((i : Int) + 1) = ((i + 1 : Nat) : Int) := w64_succ (by omega)
      obtain ⟨y1, y2⟩ := ih2 hlt (v ++ [rN_Node (Tr.no kids[i])]) (by simp; omega)
      rw [if_pos c3, if_pos c3, kid kids i hlt, kid kids i hlt, bx x1, bx x2, bx (app_ok (by simp; omega)), bx (app_ok (by simp; omega)), w1, y1, y2, e]
      exact ⟨rfl, rfl⟩
    · obtain rfl : i = kids.length := by omega
      rw [if_neg (kids_end kids), if_neg (kids_end kids), List.drop_eq_nil_of_le (by rw [Tr.nos_len]; exact Nat.le_refl _)]; simp
  obtain ⟨y1, y2⟩ := key 0 (by omega) [] rfl
  simp only [Int.natCast_zero, List.nil_append, List.drop_zero] at y1 y2
  rw [hT]
  show spec_l3Copy_F (spec_l3Copy_n k) _ = _ ∧ impl_copyTree_F (impl_copyTree_n k) _ = _
  unfold spec_l3Copy_F impl_copyTree_F slices_Clone_Sstring_string
  rw [bx (app_ok (by simp; omega)), bx (clone_ok' (by show ks.length * 16 ≤ _; omega)), bx y1, bx y2]
  exact ⟨rfl, rfl⟩
theorem copy_spec (t : Tr) (h : Tr.Bd t) : spec_l3Copy (Tr.no t) = some (Tr.no t) := Nt.lim_of _ fun k hk => (copy_both t h k hk).1
theorem copy_impl (t : Tr) (h : Tr.Bd t) : impl_copyTree (Tr.no t) = some (Tr.no t) := Nt.lim_of _ fun k hk => (copy_both t h k hk).2
/-! are two trees the same -/
def posA (key : Str) : List Str → Option Nat
  | [] => none
  | k :: ks => if k = key then some 0 else (posA key ks).map (· + 1)
theorem posA_some {key : Str} : ∀ {ks : List Str} {p : Nat}, posA key ks = some p → ks[p]? = some key
  | [], _, h => by simp [posA] at h
  | k :: ks, p, h => by
    simp only [posA] at h
    split at h
    · rename_i e; cases h; simp [e]
    · obtain ⟨q, h1, rfl⟩ := Option.map_eq_some_iff.1 h
      simpa using posA_some h1
theorem posA_lt {key : Str} {ks : List Str} {p : Nat} (h : posA key ks = some p) : p < ks.length := (List.getElem?_eq_some_iff.1 (posA_some h)).1
theorem posA_none {key : Str} : ∀ {ks : List Str}, posA key ks = none → key ∉ ks
  | [], _ => by simp
  | k :: ks, h => by
    simp only [posA] at h
    split at h
    · cases h
    · rename_i e
      have := posA_none (Option.map_eq_none_iff.1 h)
      simp only [List.mem_cons, not_or]
      exact ⟨fun h => e h.symm, this⟩
theorem posA_drop {key : Str} {ks : List Str} {i : Nat} (h : i < ks.length) : posA key (ks.drop i) = if ks[i] = key then some 0 else (posA key (ks.drop (i + 1))).map (· + 1) := by
  rw [List.drop_eq_getElem_cons h, posA]
theorem index_impl (ks : List Str) (key : Str) (hl : ks.length ≤ 4194304) : slices_Index_Sstring_string ks key = some (match posA key ks with | some p => (p : Int) | none => -1) := by
  have key' : ∀ i, i ≤ ks.length → slices_Index_Sstring_string.l0 ks key i = some (match posA key (ks.drop i) with | some p => .inl ((i + p : Nat) : Int) | none => .inr ()) := by
    refine down _ fun i hi ih => ?_
    rw [slices_Index_Sstring_string.l0]
    by_cases hlt : i < ks.length
    · have c : decide ((i : Int) < (ks.length : Int)) = true := by simpa using hlt
      rw [if_pos c, ix_nat, List.getElem?_eq_getElem hlt, bind_some', posA_drop hlt]
      by_cases e : ks[i] = key
      · rw [if_pos (by simp [e]), if_pos e]; rfl
      · rw [if_neg (by simpa using fun h => e h.symm), if_neg e, w64_succ (by omega), ih hlt]
        cases posA key (ks.drop (i + 1)) with
        | none => rfl
        | some p => simp only [Option.map_some]; congr 3; omega
    · obtain rfl : i = ks.length := by omega
      rw [if_neg (by simp), List.drop_length]; rfl
  have := key' 0 (by omega)
  simp only [Int.natCast_zero, List.drop_zero] at this
  unfold slices_Index_Sstring_string
  rw [bx this]
  cases posA key ks with
  | none => rfl
  | some p => simp
theorem at_spec (T : Node) (ks : List Str) (kids : List Tr) (key : Str) (h5 : T.Kind = 5) (hK : T.Keys = ks) (hT : T.Kids = Tr.nos kids) (hl : ks.length ≤ 4194304) : spec_l3At T key = some (match posA key ks with | some p => if p < kids.length then (p : Int) else -1 | none => -1) := by
  have key' : ∀ i, i ≤ ks.length → spec_l3At.l0 T key i = some (match posA key (ks.drop i) with | some p => if i + p < kids.length then .inl ((i + p : Nat) : Int) else .inr () | none => .inr ()) := by
    refine down _ fun i hi ih => ?_
    rw [spec_l3At.l0, hK, hT]
    by_cases hlt : i < ks.length
    · have c : decide ((i : Int) < (ks.length : Int)) = true := by simpa using hlt
      rw [if_pos c]
      by_cases hlt2 : i < kids.length
      · have c2 : decide ((i : Int) < ((Tr.nos kids).length : Int)) = true := by rw [Tr.nos_len]; simpa using hlt2
        rw [if_pos c2, if_pos (by simpa using h5), ix_nat, List.getElem?_eq_getElem hlt, bind_some', posA_drop hlt]
        by_cases e : ks[i] = key
        · rw [if_pos (by simpa using e), if_pos e]; simp [hlt2]
        · rw [if_neg (by simpa using e), if_neg e, w64_succ (by omega), ih hlt]
          cases posA key (ks.drop (i + 1)) with
          | none => rfl
          | some p => simp only [Option.map_some]; rw [show i + 1 + p = i + (p + 1) by omega]
      · have c2 : ¬ (decide ((i : Int) < ((Tr.nos kids).length : Int)) = true) := by rw [Tr.nos_len]; simpa using hlt2
        rw [if_neg c2]
        cases posA key (ks.drop i) with
        | none => rfl
        | some p => simp only; rw [if_neg (by omega)]
    · obtain rfl : i = ks.length := by omega
      rw [if_neg (by simp), List.drop_length]; rfl
  have := key' 0 (by omega)
  simp only [Int.natCast_zero, List.drop_zero, Nat.zero_add] at this
  unfold spec_l3At
  rw [bx this]
  cases posA key ks with
  | none => rfl
  | some p =>
    by_cases hlt : p < kids.length
    · simp only [if_pos hlt]
    · simp only [if_neg hlt]
def Tr.keys : Tr → List Str
  | .mk _ _ _ ks _ => ks
/-- a map as it is built: no more than c keys, a kid each -/
def OutT (c : Nat) (o : Tr) : Prop := ∃ n s ks kids, o = .mk 5 n s ks kids ∧ ks.length = kids.length ∧ ks.length ≤ c ∧ ∀ t ∈ kids, Tr.Bd t
theorem OutT.bd {c : Nat} {o : Tr} (h : OutT c o) (hc : c ≤ 4194304) : Tr.Bd o := by
  obtain ⟨n, s, ks, kids, rfl, h1, h2, h3⟩ := h
  exact .mk (by omega) (by omega) h3
/-- what setting a key makes -/
def SetT (o : Tr) (key : Str) (o' : Tr) : Prop := (∀ y, y ∈ o'.keys ↔ y ∈ o.keys ∨ y = key) ∧ (o.keys.Nodup → o'.keys.Nodup)
theorem slc_take' {α : Type} (l : List α) (i : Nat) (h : i ≤ l.length) : slc l 0 (i : Int) = some (l.take i) := by
  unfold slc; rw [if_pos (by omega)]; simp [cut]
theorem slc_drop' {α : Type} (l : List α) (i n : Nat) (h : i ≤ l.length) (hn : l.length = n) : slc l (i : Int) (n : Int) = some (l.drop i) := by
  unfold slc; rw [if_pos (by omega)]; simp [cut, ← hn]
theorem mem_ins {α : Type} {l : List α} {q : Nat} {x y : α} : y ∈ l.take q ++ [x] ++ l.drop q ↔ y ∈ l ∨ y = x := by
  have : y ∈ l ↔ y ∈ l.take q ∨ y ∈ l.drop q := by rw [← List.mem_append, List.take_append_drop]
  rw [this]; simp only [List.mem_append, List.mem_singleton]
  constructor
  · rintro ((h | h) | h)
    · exact .inl (.inl h)
    · exact .inr h
    · exact .inl (.inr h)
  · rintro ((h | h) | h)
    · exact .inl (.inl h)
    · exact .inr h
    · exact .inl (.inr h)
theorem nodup_ins {l : List Str} {q : Nat} {x : Str} (h : l.Nodup) (hx : x ∉ l) : (l.take q ++ [x] ++ l.drop q).Nodup := by
  have hp : (l.take q ++ [x] ++ l.drop q).Perm (x :: l) := by
    have h1 : (l.take q ++ [x] ++ l.drop q).Perm ([x] ++ l.take q ++ l.drop q) := List.Perm.append_right _ List.perm_append_comm
    refine h1.trans ?_
    rw [List.append_assoc, List.take_append_drop]; exact List.Perm.refl _
  exact hp.nodup_iff.2 (List.nodup_cons.2 ⟨hx, h⟩)
/-- put in, or put over -/
theorem out_ins {c q : Nat} {n : Int} {s key : Str} {ks : List Str} {kids : List Tr} {x : Tr} (h1 : ks.length = kids.length) (h2 : ks.length ≤ c) (h3 : ∀ t ∈ kids, Tr.Bd t) (hx : Tr.Bd x) (hq : q ≤ ks.length) (hk : key ∉ ks) :
    OutT (c + 1) (.mk 5 n s (ks.take q ++ [key] ++ ks.drop q) (kids.take q ++ [x] ++ kids.drop q)) ∧ SetT (.mk 5 n s ks kids) key (.mk 5 n s (ks.take q ++ [key] ++ ks.drop q) (kids.take q ++ [x] ++ kids.drop q)) :=
  ⟨⟨n, s, _, _, rfl, by simp; omega, by simp; omega, fun t ht => by
    rcases mem_ins.1 ht with h | rfl
    · exact h3 t h
    · exact hx⟩, fun y => mem_ins, fun h => nodup_ins h hk⟩
theorem out_put {c p : Nat} {n : Int} {s key : Str} {ks : List Str} {kids : List Tr} {x : Tr} (h1 : ks.length = kids.length) (h2 : ks.length ≤ c) (h3 : ∀ t ∈ kids, Tr.Bd t) (hx : Tr.Bd x) (hk : key ∈ ks) :
    OutT (c + 1) (.mk 5 n s ks (kids.set p x)) ∧ SetT (.mk 5 n s ks kids) key (.mk 5 n s ks (kids.set p x)) :=
  ⟨⟨n, s, ks, _, rfl, by simpa using h1, by omega, fun t ht => by
    rcases List.mem_or_eq_of_mem_set ht with h | rfl
    · exact h3 t h
    · exact hx⟩, fun y => ⟨fun h => .inl h, fun h => h.elim id fun e => e ▸ hk⟩, id⟩
theorem nos_set (kids : List Tr) (p : Nat) (x : Tr) : (Tr.nos kids).set p (rN_Node (Tr.no x)) = Tr.nos (kids.set p x) := by simp [Tr.nos_map, List.map_set]
theorem ins_ok {α : Type} {b q : Nat} {l v : List α} (h1 : q ≤ l.length) (h2 : 0 < v.length) (h3 : (l.length + v.length) * b ≤ 70368744177664) : Nt.ins b l (q : Int) v = some (l.take q ++ v ++ l.drop q) := by
  unfold Nt.ins
  rw [if_pos ⟨by omega, by omega, h2, h3⟩]; simp
/-- what of a right tree the writers lean on -/
inductive Tr.Kd : Tr → Prop
  | mk {k n s ks kids} : (k = 5 → ks.length = kids.length) → (k ≠ 4 → k ≠ 5 → kids = []) → (∀ t ∈ kids, Tr.Kd t) → Tr.Kd (.mk k n s ks kids)
theorem kids_same2 (kids : List Tr) (T : Node) (hT : T.Kids = Tr.nos kids) (hl : kids.length ≤ 1048576) (ih : ∀ t ∈ kids, ∃ b, (∀ k, Tr.deep t ≤ k → spec_l3Right_n k (Tr.no t) = some b ∧ impl_allShapes_n k (Tr.no t) = some b) ∧ (b = true → Tr.Kd t)) :
    ∃ b : Bool, (b = true → ∀ t ∈ kids, Tr.Kd t) ∧ ∀ k, Tr.deeps kids ≤ k → spec_l3Right.l2 (spec_l3Right_n k) T 0 = some (if b then .inr () else .inl false) ∧ spec_l3Right.l5 (spec_l3Right_n k) T 0 = some (if b then .inr () else .inl false) ∧ slices_ContainsFunc_Simpl_Node_impl_Node_impl_allShapes_1 (impl_allShapes_n k) T.Kids = some (!b) := by
  have key : ∀ i, i ≤ kids.length → ∃ (b : Bool) (j : Nat), (b = true → ∀ t ∈ kids.drop i, Tr.Kd t) ∧ ∀ k, Tr.deeps kids ≤ k → spec_l3Right.l2 (spec_l3Right_n k) T i = some (if b then .inr () else .inl false) ∧ spec_l3Right.l5 (spec_l3Right_n k) T i = some (if b then .inr () else .inl false) ∧ slices_IndexFunc_Simpl_Node_impl_Node_impl_allShapes_1.l0 (impl_allShapes_n k) T.Kids i = some (if b then .inr () else .inl (j : Int)) := by
    refine down _ fun i hi ih2 => ?_
    by_cases hlt : i < kids.length
    · have c3 : decide ((i : Int) < ((Tr.nos kids).length : Int)) = true := by rw [Tr.nos_len]; simpa using hlt
      have hm : kids[i] ∈ kids := List.getElem_mem hlt
      obtain ⟨x, hx, hxk⟩ := ih _ hm
      obtain ⟨b, j, hbk, hb⟩ := ih2 hlt
      have hd := Tr.deeps_le kids _ hm
      cases x with
      | false =>
        refine ⟨false, i, (fun h => by cases h), fun k hk => ?_⟩
        obtain ⟨x1, x2⟩ := hx k (by omega)
        rw [spec_l3Right.l2, spec_l3Right.l5, slices_IndexFunc_Simpl_Node_impl_Node_impl_allShapes_1.l0, hT, if_pos c3, kid kids i hlt, if_pos c3, kid kids i hlt, if_pos c3, kid kids i hlt, x1]
        simp only [impl_allShapes_1, x2, bind_some']
        exact ⟨rfl, rfl, rfl⟩
      | true =>
        refine ⟨b, j, fun h t ht => ?_, fun k hk => ?_⟩
        · rw [List.drop_eq_getElem_cons hlt] at ht
          rcases List.mem_cons.1 ht with rfl | ht
          · exact hxk rfl
          · exact hbk h t ht
        obtain ⟨x1, x2⟩ := hx k (by omega)
        obtain ⟨y1, y2, y3⟩ := hb k hk
        rw [hT] at y3
        rw [spec_l3Right.l2, spec_l3Right.l5, slices_IndexFunc_Simpl_Node_impl_Node_impl_allShapes_1.l0, hT, if_pos c3, kid kids i hlt, if_pos c3, kid kids i hlt, if_pos c3, kid kids i hlt, x1]
        simp only [impl_allShapes_1, x2, bind_some', Bool.not_true, Bool.false_eq_true, if_false, w64_succ (show i < 9223372036854775807 by omega), y1, y2, y3]
        exact ⟨trivial, trivial, trivial⟩
    · obtain rfl : i = kids.length := by omega
      refine ⟨true, 0, (fun _ t ht => by simp at ht), fun k hk => ?_⟩
      rw [spec_l3Right.l2, spec_l3Right.l5, slices_IndexFunc_Simpl_Node_impl_Node_impl_allShapes_1.l0, hT, if_neg (kids_end kids), if_neg (kids_end kids), if_neg (kids_end kids)]
      exact ⟨rfl, rfl, rfl⟩
  obtain ⟨b, j, hbk, hb⟩ := key 0 (by omega)
  refine ⟨b, by simpa using hbk, fun k hk => ?_⟩
  obtain ⟨y1, y2, y3⟩ := hb k hk
  simp only [Int.natCast_zero] at y1 y2 y3
  refine ⟨y1, y2, ?_⟩
  simp only [slices_ContainsFunc_Simpl_Node_impl_Node_impl_allShapes_1, slices_IndexFunc_Simpl_Node_impl_Node_impl_allShapes_1, y3, bind_some']
  cases b
  · show some (decide ((j : Int) ≥ 0)) = _
    have : decide ((j : Int) ≥ 0) = true := decide_eq_true (by omega)
    rw [this]; rfl
  · rfl
theorem right_same2 : ∀ t : Tr, Tr.Sm t → ∃ b, (∀ k, Tr.deep t ≤ k → spec_l3Right_n k (Tr.no t) = some b ∧ impl_allShapes_n k (Tr.no t) = some b) ∧ (b = true → Tr.Kd t) := by
  refine Tr.ind fun kd n s ks kids ih hsm => ?_
  cases hsm with
  | mk s1 s2 s3 s4 =>
  obtain ⟨b, hbk, hb⟩ := kids_same2 kids (Tr.no (.mk kd n s ks kids)) no_kids s3 fun t ht => ih t ht (s4 t ht)
  generalize hT : Tr.no (.mk kd n s ks kids) = T at hb
  have hk : T.Kids = Tr.nos kids := by rw [← hT]; exact no_kids
  have hK : T.Keys = ks := by rw [← hT, Tr.no]
  have hS : T.S = s := by rw [← hT, Tr.no]
  have hKd : T.Kind = kd := by rw [← hT, Tr.no]
  have mkKd : b = true → (T.Kind = 5 → ks.length = kids.length) → (T.Kind ≠ 4 → T.Kind ≠ 5 → kids = []) → Tr.Kd (.mk kd n s ks kids) := fun h h5 h0 => .mk (by rw [← hKd]; exact h5) (by rw [← hKd]; exact h0) (hbk h)
  have main : ∃ b, (∀ k, Tr.deeps kids ≤ k → spec_l3Right_F (spec_l3Right_n k) T = some b ∧ impl_allShapes_F (impl_allShapes_n k) T = some b) ∧ (b = true → Tr.Kd (.mk kd n s ks kids)) := by
    by_cases k4 : T.Kind = 4
    · have c4 : (T.Kind != 4) = false := by simpa using k4
      have d4 : (T.Kind == 4) = true := by simpa using k4
      have d5 : (T.Kind == 5) = false := by simp [k4]
      have d0 : (T.Kind == 0) = false := by simp [k4]
      have d1 : (T.Kind == 1) = false := by simp [k4]
      have d2 : (T.Kind == 2) = false := by simp [k4]
      have d3 : (T.Kind == 3) = false := by simp [k4]
      by_cases hc : T.N = 0 ∧ T.S = [] ∧ T.Keys.length = 0
      · obtain ⟨n0, s0, l0⟩ := hc
        refine ⟨b, fun k hk' => ?_, fun h => mkKd h (fun h5 => absurd (k4.symm.trans h5) (by decide)) (fun h4 => absurd k4 h4)⟩
        obtain ⟨y1, y2, y3⟩ := hb k hk'
        have e1 : (T.N != 0) = false := by simpa using n0
        have e1' : (T.N == 0) = true := by simpa using n0
        have e2 : (T.S == ([] : Str)) = true := by simpa using s0
        have e3 : decide ((T.Keys.length : Int) > 0) = false := decide_eq_false (by omega)
        have e4 : ((T.Keys.length : Int) == 0) = true := by simp [l0]
        simp only [spec_l3Right_F, impl_allShapes_F, impl_shapeOk, impl_shapeOk.l4, c4, d0, d1, d2, d3, d4, d5, e1, e1', e2, e3, e4, y2, y3, bind_some', Bool.false_eq_true, Bool.not_true, if_false, if_true, beq_self_eq_true]
        cases b <;> exact ⟨rfl, rfl⟩
      · refine ⟨false, fun k hk' => ?_, fun h => by cases h⟩
        obtain ⟨y1, y2, y3⟩ := hb k hk'
        simp only [spec_l3Right_F, impl_allShapes_F, impl_shapeOk, impl_shapeOk.l4, c4, d0, d1, d2, d3, d4, d5, y2, y3, bind_some', Bool.false_eq_true, Bool.not_true, if_false, if_true, beq_self_eq_true]
        by_cases n0 : T.N = 0
        · have e1 : (T.N != 0) = false := by simpa using n0
          have e1' : (T.N == 0) = true := by simpa using n0
          by_cases s0 : T.S = []
          · have e2 : (T.S == ([] : Str)) = true := by simpa using s0
            have l0 : T.Keys.length ≠ 0 := fun h => hc ⟨n0, s0, h⟩
            have e3 : decide ((T.Keys.length : Int) > 0) = true := decide_eq_true (by omega)
            have e4 : ((T.Keys.length : Int) == 0) = false := by simpa using l0
            simp only [e1, e1', e2, e3, e4, Bool.false_eq_true, Bool.not_true, if_false, if_true, bind_some', and_self]
          · have e2 : (T.S == ([] : Str)) = false := by simpa using s0
            simp only [e1, e1', e2, Bool.false_eq_true, Bool.not_false, if_false, if_true, bind_some', and_self]
        · have e1 : (T.N != 0) = true := by simpa using n0
          have e1' : (T.N == 0) = false := by simpa using n0
          simp only [e1, e1', Bool.false_eq_true, if_false, if_true, bind_some', and_self]
    · by_cases k5 : T.Kind = 5
      · have c4 : (T.Kind != 4) = true := by simpa using k4
        have c5 : (T.Kind != 5) = false := by simpa using k5
        have d4 : (T.Kind == 4) = false := by simpa using k4
        have d5 : (T.Kind == 5) = true := by simpa using k5
        have d0 : (T.Kind == 0) = false := by simp [k5]
        have d1 : (T.Kind == 1) = false := by simp [k5]
        have d2 : (T.Kind == 2) = false := by simp [k5]
        have d3 : (T.Kind == 3) = false := by simp [k5]
        obtain ⟨x, x1, x2⟩ := keys_same T (by rw [hK]; exact s2)
        by_cases hc : T.N = 0 ∧ T.S = [] ∧ T.Keys.length = T.Kids.length ∧ x = true
        · obtain ⟨n0, s0, l0, rfl⟩ := hc
          refine ⟨b, fun k hk' => ?_, fun h => mkKd h (fun _ => by rw [hK, hk, Tr.nos_len] at l0; exact l0) (fun _ h5 => absurd k5 h5)⟩
          obtain ⟨y1, y2, y3⟩ := hb k hk'
          have e1 : (T.N != 0) = false := by simpa using n0
          have e1' : (T.N == 0) = true := by simpa using n0
          have e2 : (T.S == ([] : Str)) = true := by simpa using s0
          have e3 : ((T.Keys.length : Int) != (T.Kids.length : Int)) = false := by simp [l0]
          simp only [spec_l3Right_F, impl_allShapes_F, impl_shapeOk, c4, c5, d0, d1, d2, d3, d4, d5, e1, e1', e2, e3, x1, x2, y1, y3, bind_some', Bool.false_eq_true, Bool.not_true, if_false, if_true, beq_self_eq_true]
          cases b <;> exact ⟨rfl, rfl⟩
        · refine ⟨false, fun k hk' => ?_, fun h => by cases h⟩
          obtain ⟨y1, y2, y3⟩ := hb k hk'
          simp only [spec_l3Right_F, impl_allShapes_F, impl_shapeOk, c4, c5, d0, d1, d2, d3, d4, d5, x1, x2, y1, y3, bind_some', Bool.false_eq_true, Bool.not_true, if_false, if_true, beq_self_eq_true]
          by_cases l0 : T.Keys.length = T.Kids.length
          · have e3 : ((T.Keys.length : Int) != (T.Kids.length : Int)) = false := by simp [l0]
            simp only [e3, Bool.false_eq_true, if_false]
            cases hx : x
            · subst hx
              simp only [Bool.false_eq_true, if_false, if_true, Bool.not_false, bind_some']
              constructor
              · split
                · rfl
                · split <;> rfl
              · trivial
            · subst hx
              simp only [Bool.not_true, Bool.false_eq_true, if_false, if_true]
              by_cases n0 : T.N = 0
              · have e1 : (T.N != 0) = false := by simpa using n0
                have e1' : (T.N == 0) = true := by simpa using n0
                have s0 : T.S ≠ [] := fun h => hc ⟨n0, h, l0, rfl⟩
                have e2 : (T.S == ([] : Str)) = false := by simpa using s0
                simp only [e1, e1', e2, Bool.false_eq_true, Bool.not_false, if_false, if_true, bind_some', and_self]
              · have e1 : (T.N != 0) = true := by simpa using n0
                have e1' : (T.N == 0) = false := by simpa using n0
                simp only [e1, e1', Bool.false_eq_true, if_false, if_true, bind_some', and_self]
          · have e3 : ((T.Keys.length : Int) != (T.Kids.length : Int)) = true := by simp only [bne_iff_ne, ne_eq]; omega
            simp only [e3, Bool.false_eq_true, if_false, if_true, bind_some']
            constructor
            · split
              · rfl
              · split <;> rfl
            · trivial
      · have c4 : (T.Kind != 4) = true := by simpa using k4
        have c5 : (T.Kind != 5) = true := by simpa using k5
        obtain ⟨x, x1, x2, x3⟩ := leaf_same T (by rw [hS]; exact s1) k4 k5
        have hnil : x = true → kids = [] := fun h => List.eq_nil_of_length_eq_zero (by have := x3 h; rw [hk, Tr.nos_len] at this; exact this)
        refine ⟨x, fun k hk' => ?_, fun h => .mk (fun h5 => absurd (hKd.trans h5) k5) (fun _ _ => hnil h) (fun t ht => by rw [hnil h] at ht; cases ht)⟩
        simp only [spec_l3Right_F, impl_allShapes_F, c4, c5, x1, x2, bind_some', if_true]
        cases x
        · exact ⟨trivial, rfl⟩
        · have h0 : T.Kids = [] := List.eq_nil_of_length_eq_zero (x3 rfl)
          have : slices_IndexFunc_Simpl_Node_impl_Node_impl_allShapes_1.l0 (impl_allShapes_n k) [] 0 = some (.inr ()) := by
            rw [slices_IndexFunc_Simpl_Node_impl_Node_impl_allShapes_1.l0]; rfl
          simp only [slices_ContainsFunc_Simpl_Node_impl_Node_impl_allShapes_1, slices_IndexFunc_Simpl_Node_impl_Node_impl_allShapes_1, h0, this, bind_some', if_true]
          exact ⟨trivial, rfl⟩
  obtain ⟨b, hm, hmk⟩ := main
  refine ⟨b, fun k hk' => ?_, hmk⟩
  obtain ⟨k1, e1, hk1⟩ := fuel1 rfl hk'
  subst e1
  exact hm k1 hk1
theorem tree_same (t : Tr) (hs : Tr.Sm t) (hz : Tr.size t ≤ 2000000) : ∃ x, spec_TreeOk (Tr.no t) = some x ∧ impl_TreeOk (Tr.no t) = some x ∧ (x = true → Tr.Kd t) := by
  have t3 : spec_l3Deep (Tr.no t) = some (Tr.deep t : Int) := Nt.lim_of _ (deep_some t hz)
  have t4 : spec_l3Size (Tr.no t) = some (Tr.size t : Int) := Nt.lim_of _ (size_some t hz)
  obtain ⟨p, q, e5, q1, q2, q3, q4, q5, q6⟩ := isize_some t hz 9 (by omega) (by omega)
  have t5 : impl_size (Tr.no t) 9 = some (p, q) := Nt.lim_of _ e5
  obtain ⟨b, hb, hbk⟩ := right_same2 t hs
  have t6 : spec_l3Right (Tr.no t) = some b := Nt.lim_of _ fun k hk => (hb k hk).1
  have t7 : impl_allShapes (Tr.no t) = some b := Nt.lim_of _ fun k hk => (hb k hk).2
  simp only [spec_TreeOk, impl_TreeOk, t3, t4, t5, t6, t7, bind_some']
  by_cases g : Tr.deep t ≤ 8 ∧ Tr.size t ≤ 200
  · obtain ⟨g1, g2⟩ := g
    obtain ⟨w1, w2⟩ := q1 (by omega)
    have c1 : decide ((Tr.deep t : Int) ≤ 8) = true := decide_eq_true (by omega)
    have c2 : decide ((Tr.size t : Int) ≤ 200) = true := decide_eq_true (by omega)
    have c3 : decide (p ≤ 200) = true := decide_eq_true (by omega)
    have c4 : decide (q ≤ 8) = true := decide_eq_true (by omega)
    simp only [c1, c2, c3, c4, if_true]
    exact ⟨b, rfl, rfl, hbk⟩
  · refine ⟨false, ?_, ?_, fun h => by cases h⟩
    · by_cases g1 : Tr.deep t ≤ 8
      · have c1 : decide ((Tr.deep t : Int) ≤ 8) = true := decide_eq_true (by omega)
        have c2 : decide ((Tr.size t : Int) ≤ 200) = false := decide_eq_false (by omega)
        simp only [c1, c2, if_true, if_false, Bool.false_eq_true]
      · have c1 : decide ((Tr.deep t : Int) ≤ 8) = false := decide_eq_false (by omega)
        simp only [c1, if_false, Bool.false_eq_true]
    · by_cases g3 : p ≤ 200
      · have c3 : decide (p ≤ 200) = true := decide_eq_true g3
        have c4 : decide (q ≤ 8) = false := by
          refine decide_eq_false fun h => ?_
          by_cases g4 : (Tr.deep t : Int) ≤ 9
          · obtain ⟨w1, w2⟩ := q1 g4
            exact g ⟨by omega, by omega⟩
          · have := q2 (by omega)
            omega
        simp only [c3, c4, if_true, if_false, Bool.false_eq_true]
      · have c3 : decide (p ≤ 200) = false := decide_eq_false g3
        simp only [c3, if_false, Bool.false_eq_true]
theorem cat_big {s t : Str} (h : s.length + t.length ≤ 1152921504606846976) : cat s t = some (s ++ t) := by
  unfold cat
  rw [if_neg]
  have : IntKind.i64.max = 9223372036854775807 := rfl
  omega
def dgt (m : Nat) : Str := if h : m = 0 then [] else dgt (m / 10) ++ [UInt8.ofNat (48 + m % 10)]
  termination_by m
  decreasing_by omega
theorem dgt_zero : dgt 0 = [] := by rw [dgt]; rfl
theorem dgt_step {m : Nat} (h : 0 < m) : dgt m = dgt (m / 10) ++ [UInt8.ofNat (48 + m % 10)] := by rw [dgt, dif_neg (by omega)]
theorem dgt_len : ∀ (k m : Nat), m < 10 ^ k → (dgt m).length ≤ k
  | 0, m, h => by have : m = 0 := by omega
                  subst this; rw [dgt_zero]; simp
  | k + 1, m, h => by
    by_cases h0 : m = 0
    · subst h0; rw [dgt_zero]; simp
    · rw [dgt_step (by omega)]
      have := dgt_len k (m / 10) (by rw [Nat.pow_succ] at h; omega)
      simp only [List.length_append, List.length_cons, List.length_nil]; omega
theorem dig_char (d : Nat) (h : d < 10) : strOf [IntKind.u8.wrap (IntKind.i64.wrap (48 + (d : Int)))] = [UInt8.ofNat (48 + d)] := by
  have : d = 0 ∨ d = 1 ∨ d = 2 ∨ d = 3 ∨ d = 4 ∨ d = 5 ∨ d = 6 ∨ d = 7 ∨ d = 8 ∨ d = 9 := by omega
  rcases this with rfl | rfl | rfl | rfl | rfl | rfl | rfl | rfl | rfl | rfl <;> decide
theorem dig_rune (d : Nat) (h : d < 10) : rune (IntKind.i32.wrap (IntKind.i64.wrap (48 + (d : Int)))) = [UInt8.ofNat (48 + d)] := by
  have : d = 0 ∨ d = 1 ∨ d = 2 ∨ d = 3 ∨ d = 4 ∨ d = 5 ∨ d = 6 ∨ d = 7 ∨ d = 8 ∨ d = 9 := by omega
  rcases this with rfl | rfl | rfl | rfl | rfl | rfl | rfl | rfl | rfl | rfl <;> decide
theorem tdiv_abs (v : Int) : (Int.tdiv v 10).natAbs = v.natAbs / 10 := by rw [Int.natAbs_tdiv]; rfl
theorem tmod_abs (v : Int) : (Int.tmod v 10).natAbs = v.natAbs % 10 := by rw [Int.natAbs_tmod]; rfl
theorem tdiv_okI {v : Int} (h : okI v) : okI (Int.tdiv v 10) := by
  have := tdiv_abs v
  unfold okI at *
  omega
theorem sDigits_l0 : ∀ (m : Nat) (v : Int) (acc : Str), v.natAbs = m → okI v → m + acc.length ≤ 576460752303423488000 → acc.length ≤ 1000 → m < 10 ^ 100 → ∀ k, m < 10 ^ k → k + acc.length ≤ 1000 → spec_Digits.l0 v acc = some (dgt m ++ acc) := by
  intro m
  induction m using Nat.strongRecOn with
  | _ m ih =>
    intro v acc hm hv hb ha hp k hk hka
    rw [spec_Digits.l0]
    by_cases h0 : v = 0
    · subst h0
      rw [if_neg (by decide)]
      have : m = 0 := by omega
      subst this; rw [dgt_zero]; rfl
    · have hne : (v != 0) = true := by simpa using h0
      have hmp : 0 < m := by omega
      have hmod := tmod_abs v
      have hdiv := tdiv_abs v
      have hw : IntKind.i64.wrap (Int.tdiv v 10) = Int.tdiv v 10 := by
        have := tdiv_okI hv
        unfold okI at this
        exact w64_id this.1 this.2
      have hok := tdiv_okI hv
      cases k with
      | zero => omega
      | succ k =>
      have hk' : m / 10 < 10 ^ k := by rw [Nat.pow_succ] at hk; omega
      have rec_ : spec_Digits.l0 (Int.tdiv v 10) ([UInt8.ofNat (48 + m % 10)] ++ acc) = some (dgt (m / 10) ++ ([UInt8.ofNat (48 + m % 10)] ++ acc)) :=
        ih (m / 10) (by omega) (Int.tdiv v 10) _ (by rw [hdiv, hm]) hok (by simp; omega) (by simp; omega) (by omega) k hk' (by simp; omega)
      have fin : dgt (m / 10) ++ ([UInt8.ofNat (48 + m % 10)] ++ acc) = dgt m ++ acc := by rw [dgt_step hmp]; simp
      rw [if_pos hne]
      by_cases hs : Int.tmod v 10 < 0
      · rw [if_pos (decide_eq_true hs)]
        have e1 : IntKind.i64.wrap (0 - Int.tmod v 10) = ((m % 10 : Nat) : Int) := by rw [w64_id (by omega) (by omega)]; omega
        rw [e1, dig_char _ (Nat.mod_lt _ (by omega)), cat_big (by simp; omega), bind_some', hw, rec_, fin]
      · rw [if_neg (by simpa using hs)]
        have e1 : Int.tmod v 10 = ((m % 10 : Nat) : Int) := by omega
        rw [e1, dig_char _ (Nat.mod_lt _ (by omega)), cat_big (by simp; omega), bind_some', hw, rec_, fin]
def digV (v : Int) : Str := if v = 0 then [48] else if v < 0 then [45] ++ dgt v.natAbs else dgt v.natAbs
theorem digV_len (v : Int) (h : okI v) : (digV v).length ≤ 40 := by
  unfold okI at h
  have := dgt_len 20 v.natAbs (by omega)
  unfold digV
  split
  · simp
  · split
    · simp; omega
    · omega
theorem sDigits (v : Int) (h : okI v) : spec_Digits v = some (digV v) := by
  unfold spec_Digits
  by_cases h0 : v = 0
  · subst h0; rfl
  · rw [if_neg (by simpa using h0)]
    have hn : v.natAbs < 10 ^ 20 := by unfold okI at h; omega
    rw [sDigits_l0 v.natAbs v [] rfl h (by simp; omega) (by simp) (by omega) 20 hn (by simp), bind_some']
    have hl := dgt_len 20 v.natAbs hn
    unfold digV
    rw [if_neg h0]
    by_cases hs : v < 0
    · rw [if_pos (decide_eq_true hs), if_pos hs, List.append_nil, cat_big (by simp; omega)]; rfl
    · rw [if_neg (by simpa using hs), if_neg hs, List.append_nil]
theorem dgt_small (x : Nat) (hx : x < 10) : (if x = 0 then ([48] : Str) else dgt x) = [UInt8.ofNat (48 + x)] := by
  by_cases h0 : x = 0
  · subst h0; rfl
  · rw [if_neg h0, dgt_step (by omega), show x / 10 = 0 by omega, dgt_zero, show x % 10 = x by omega]; rfl
theorem iDigits_n : ∀ (k : Nat) (v : Int), okI v → v.natAbs < 10 ^ k → impl_Digits_n (k + 2) v = some (digV v) := by
  intro k
  induction k with
  | zero =>
    intro v hv hk
    have : v = 0 := by omega
    subst this
    rfl
  | succ k ih =>
    intro v hv hk
    have hmod := tmod_abs v
    have hdiv := tdiv_abs v
    have hw : IntKind.i64.wrap (Int.tdiv v 10) = Int.tdiv v 10 := by
      have := tdiv_okI hv
      unfold okI at this
      exact w64_id this.1 this.2
    have hrec := ih (Int.tdiv v 10) (tdiv_okI hv) (by rw [hdiv]; rw [Nat.pow_succ] at hk; omega)
    have hlen := digV_len _ (tdiv_okI hv)
    show impl_Digits_F (impl_Digits_n (k + 2)) v = _
    unfold impl_Digits_F
    have small : ∀ x : Nat, x < 10 → ∀ j, impl_Digits_n (j + 1) (x : Int) = some (if x = 0 then [48] else dgt x) := by
      intro x hx j
      show impl_Digits_F (impl_Digits_n j) (x : Int) = _
      unfold impl_Digits_F
      rw [if_neg (by simp), if_neg (by simp), if_pos (decide_eq_true (by omega)), dig_rune x hx]
      by_cases h0 : x = 0
      · subst h0; rfl
      · rw [if_neg h0, dgt_step (by omega), show x / 10 = 0 by omega, dgt_zero, show x % 10 = x by omega]; rfl
    by_cases hs : v < 0
    · rw [if_pos (decide_eq_true hs)]
      by_cases h10 : v > -10
      · rw [if_pos (decide_eq_true h10)]
        have e : IntKind.i64.wrap (0 - v) = ((v.natAbs : Nat) : Int) := by rw [w64_id (by omega) (by omega)]; omega
        rw [e, small v.natAbs (by omega) (k + 1), bind_some', if_neg (by omega), cat_big (by have := dgt_len 1 v.natAbs (by rw [Nat.pow_one]; omega); simp; omega), bind_some']
        unfold digV
        rw [if_neg (by omega), if_pos hs]
      · rw [if_neg (by simpa using h10), if_pos (decide_eq_true hs), hw, hrec, bind_some']
        have hneg : 0 ≤ Int.tmod (-v) 10 := Int.tmod_nonneg _ (by omega)
        rw [Int.neg_tmod] at hneg
        have e : IntKind.i64.wrap (0 - Int.tmod v 10) = ((v.natAbs % 10 : Nat) : Int) := by rw [w64_id (by omega) (by omega)]; omega
        have hsm := small (v.natAbs % 10) (by omega) (k + 1)
        have hl1 : (if v.natAbs % 10 = 0 then ([48] : Str) else dgt (v.natAbs % 10)).length ≤ 1 := by
          split
          · simp
          · exact dgt_len 1 _ (by rw [Nat.pow_one]; omega)
        rw [e, hsm, bind_some', cat_big (by omega), bind_some']
        unfold digV
        have hd0 : Int.tdiv v 10 ≠ 0 := by intro h0; rw [h0] at hdiv; simp at hdiv; omega
        have hdn : Int.tdiv v 10 < 0 := by
          rcases Int.lt_trichotomy (Int.tdiv v 10) 0 with h | h | h
          · exact h
          · exact absurd h hd0
          · have := Int.tdiv_nonneg (a := -v) (b := 10) (by omega) (by omega)
            rw [Int.neg_tdiv] at this
            omega
        rw [dgt_small (v.natAbs % 10) (by omega), if_neg hd0, if_pos hdn, if_neg (by omega), if_pos hs, hdiv, dgt_step (m := v.natAbs) (by omega), List.append_assoc]
    · rw [if_neg (by simpa using hs), if_neg (by simpa using hs)]
      by_cases h10 : v < 10
      · obtain ⟨x, rfl⟩ : ∃ x : Nat, v = x := ⟨v.toNat, by omega⟩
        rw [if_pos (decide_eq_true h10), dig_rune x (by omega)]
        unfold digV
        by_cases h0 : x = 0
        · subst h0; rfl
        · rw [if_neg (by omega), if_neg (by omega)]
          show _ = some (dgt x)
          rw [dgt_step (by omega), show x / 10 = 0 by omega, dgt_zero, show x % 10 = x by omega]; rfl
      · rw [if_neg (by simpa using h10), hw, hrec, bind_some']
        have e : Int.tmod v 10 = ((v.natAbs % 10 : Nat) : Int) := by
          have : 0 ≤ Int.tmod v 10 := Int.tmod_nonneg _ (by omega)
          omega
        rw [e, dig_rune _ (by omega), cat_big (by simp; omega), bind_some']
        unfold digV
        have hd0 : Int.tdiv v 10 ≠ 0 := by intro h0; rw [h0] at hdiv; simp at hdiv; omega
        have hdn : ¬ Int.tdiv v 10 < 0 := by
          have := Int.tdiv_nonneg (a := v) (b := 10) (by omega) (by omega)
          omega
        rw [if_neg hd0, if_neg hdn, if_neg (by omega), if_neg hs, hdiv, dgt_step (m := v.natAbs) (by omega)]
theorem n_up : ∀ (j : Nat) (v : Int) (r : Str), impl_Digits_n j v = some r → impl_Digits_n (j + 1) v = some r := by
  intro j
  induction j with
  | zero => intro v r h; cases h
  | succ j ih =>
    intro v r h
    change impl_Digits_F (impl_Digits_n j) v = some r at h
    show impl_Digits_F (impl_Digits_n (j + 1)) v = some r
    unfold impl_Digits_F at h ⊢
    by_cases c1 : decide (v < 0) = true
    · rw [if_pos c1] at h ⊢
      by_cases c2 : decide (v > -10) = true
      · rw [if_pos c2] at h ⊢
        obtain ⟨x, h1, h2⟩ := bnd h
        rw [ih _ _ h1]; exact h2
      · rw [if_neg c2, if_pos c1] at h ⊢
        obtain ⟨x, h1, h2⟩ := bnd h
        obtain ⟨y, h3, h4⟩ := bnd h2
        rw [ih _ _ h1, bind_some', ih _ _ h3]; exact h4
    · rw [if_neg c1, if_neg c1] at h ⊢
      by_cases c4 : decide (v < 10) = true
      · rw [if_pos c4] at h ⊢; exact h
      · rw [if_neg c4] at h ⊢
        obtain ⟨x, h1, h2⟩ := bnd h
        rw [ih _ _ h1]; exact h2
theorem iDigits (v : Int) (h : okI v) : impl_Digits v = some (digV v) := by
  have h22 := iDigits_n 20 v h (by unfold okI at h; omega)
  refine Nt.lim_of 22 fun k hk => ?_
  induction hk with
  | refl => exact h22
  | step _ ih => exact n_up _ _ _ ih
theorem quote_same (s : Str) (h : smS s) : ∃ r, spec_Quote s = some r ∧ impl_Quote s = some r ∧ r.length ≤ 2097154 := by
  unfold smS at h
  have key : ∀ i, i ≤ s.length → ∀ v : List Int, v.length ≤ 2 * i + 1 → ∃ r, spec_Quote.l0 s i v = some r ∧ impl_Quote.l0 s i v = some r ∧ r.length ≤ 2 * s.length + 1 := by
    refine down _ fun i hi ih v hv => ?_
    rw [spec_Quote.l0, impl_Quote.l0]
    by_cases hlt : i < s.length
    · have c : decide ((i : Int) < (s.length : Int)) = true := by simpa using hlt
      have a1 : ∀ (u : List Int) (x : Int), u.length ≤ 2 * i + 2 → app 1 u [x] = some (u ++ [x]) := fun u x hu => app_ok (by simp; omega)
      have a2 : ∀ x : Int, app 1 v [x] = some (v ++ [x]) := fun x => a1 v x (by omega)
      have a3 : ∀ x y : Int, app 1 (v ++ [x]) [y] = some (v ++ [x] ++ [y]) := fun x y => a1 _ y (by simp; omega)
      obtain ⟨r1, e1, e1', l1⟩ := ih hlt (v ++ [92] ++ [byte s[i]]) (by simp; omega)
      obtain ⟨r2, e2, e2', l2⟩ := ih hlt (v ++ [byte s[i]]) (by simp; omega)
      simp only [c, if_true, ix_nat, List.getElem?_eq_getElem hlt, bind_some', a2, a3, w64_succ (show i < 9223372036854775807 by omega), e1, e1', e2, e2']
      by_cases b1 : (byte s[i] == 34) = true
      · rw [if_pos b1]; exact ⟨_, rfl, rfl, l1⟩
      · rw [if_neg b1]
        by_cases b2 : (byte s[i] == 92) = true
        · rw [if_pos b2]; exact ⟨_, rfl, rfl, l1⟩
        · rw [if_neg b2]; exact ⟨_, rfl, rfl, l2⟩
    · rw [if_neg (by simpa using hlt), if_neg (by simpa using hlt)]
      exact ⟨_, rfl, rfl, by omega⟩
  obtain ⟨r, e1, e2, l⟩ := key 0 (by omega) [34] (by simp)
  simp only [Int.natCast_zero] at e1 e2
  obtain ⟨x, x1, x2⟩ := textOk_same s h
  simp only [spec_Quote, impl_Quote, x1, x2, bind_some', e1, e2]
  rw [app_ok (by simp; omega)]
  cases x
  · exact ⟨_, rfl, rfl, by simp⟩
  · exact ⟨_, rfl, rfl, by simp [strOf]; omega⟩
def tot : List Str → Nat
  | [] => 0
  | p :: l => p.length + tot l
def jt : List Str → Str
  | [] => []
  | p :: l => [44] ++ p ++ jt l
def jz : Nat → List Str → Str
  | 0, [] => []
  | 0, p :: l => p ++ jt l
  | _ + 1, l => jt l
theorem jt_len : ∀ l : List Str, (jt l).length = tot l + l.length
  | [] => rfl
  | p :: l => by
    have := jt_len l
    simp only [jt, tot, List.length_append, List.length_cons, List.length_nil, this]; omega
theorem jz_inter : ∀ l : List Str, jz 0 l = ([44] : Str).intercalate l
  | [] => rfl
  | p :: l => by
    have key : ∀ (l : List Str) (p : Str), ([44] : Str).intercalate (p :: l) = p ++ jt l := by
      intro l
      induction l with
      | nil => intro p; simp [List.intercalate, jt]
      | cons q l ih =>
        intro p
        have := ih q
        simp only [List.intercalate, List.intersperse, List.flatten_cons] at this ⊢
        rw [this, jt]; simp
    rw [key]; rfl
theorem jz_len (l : List Str) : (jz 0 l).length ≤ tot l + l.length := by
  cases l with
  | nil => simp [jz, tot]
  | cons p l => simp only [jz, tot, List.length_append, List.length_cons, jt_len]; omega
theorem join_ok {a : List Str} (h : tot a + a.length ≤ 70368744177664) : Nt.join a [44] = some (jz 0 a) := by
  have h1 := jz_len a
  rw [jz_inter] at h1
  unfold Nt.join
  rw [if_pos ⟨by omega, by omega⟩, jz_inter]
theorem sizes_drop (l : List Tr) (i : Nat) (h : i < l.length) : Tr.sizes (l.drop i) = Tr.size l[i] + Tr.sizes (l.drop (i + 1)) := by
  rw [List.drop_eq_getElem_cons h, Tr.sizes]
def bigText (t : Tr) (r : Str) : Prop := r.length + 4194304 ≤ Tr.size t * 8388608
/-- the pieces of a map -/
theorem braced_map (kids : List Tr) (T : Node) (hT : T.Kids = Tr.nos kids) (hl : Tr.sizes kids ≤ 2000000) (hk : smL smS T.Keys) (h5 : T.Kind = 5) (h6 : T.Keys.length = kids.length)
    (ih : ∀ t ∈ kids, ∃ r, (∀ k, Tr.deep t ≤ k → spec_l4Text_n k (Tr.no t) = some r ∧ impl_braced_n k (Tr.no t) = some r) ∧ bigText t r) :
    ∀ i, i ≤ kids.length → ∃ ps : List Str, ps.length = kids.length - i ∧ tot ps + ps.length * 2097149 ≤ Tr.sizes (kids.drop i) * 8388608 ∧ ∀ k, Tr.deeps kids ≤ k →
      (∀ w : Str, w.length + (tot ps + ps.length) ≤ 1125899906842624 → spec_l4Text.l0 (spec_l4Text_n k) T w i = some (w ++ jz i ps)) ∧
      (∀ v : List Str, v.length = i → impl_braced.l0 (impl_braced_n k) T i v = some (v ++ ps)) := by
  have hn := len_sizes kids
  refine down _ fun i hi ih2 => ?_
  by_cases hlt : i < kids.length
  · have c3 : decide ((i : Int) < ((Tr.nos kids).length : Int)) = true := by rw [Tr.nos_len]; simpa using hlt
    have hm : kids[i] ∈ kids := List.getElem_mem hlt
    have hd := Tr.deeps_le kids _ hm
    have hlt' : i < T.Keys.length := by omega
    have e5 : (T.Kind == 5) = true := by simpa using h5
    obtain ⟨r, hr, hb⟩ := ih _ hm
    obtain ⟨ps, p1, p2, p3⟩ := ih2 hlt
    obtain ⟨q, q1, q2, q3⟩ := quote_same T.Keys[i] (hk.2 _ (List.getElem_mem hlt'))
    have hs := sizes_drop kids i hlt
    have hsz := Tr.size_le kids _ hm
    have hln : (q ++ [58] ++ r).length = q.length + 1 + r.length := by simp; omega
    unfold bigText at hb
    have w1 : IntKind.i64.wrap ((i : Int) + 1) = ((i + 1 : Nat) : Int) := w64_succ (by omega)
    refine ⟨(q ++ [58] ++ r) :: ps, by simp; omega, ?_, fun k hk' => ?_⟩
    · simp only [tot, List.length_cons, hln]
      omega
    obtain ⟨x1, x2⟩ := hr k (by omega)
    obtain ⟨y1, y2⟩ := p3 k hk'
    constructor
    · intro w hw
      simp only [tot, List.length_cons, hln] at hw
      rw [spec_l4Text.l0, hT, if_pos c3]
      cases i with
      | zero =>
        rw [if_neg (by simp)]
        rw [if_pos e5, ix_nat, List.getElem?_eq_getElem hlt', bind_some', bx q1, bx (cat_big (by omega)), bx (cat_big (by simp; omega)), kid kids 0 hlt, bx x1, bx (cat_big (by simp; omega)), w1, y1 _ (by simp; omega)]
        simp [jz]
      | succ i =>
        rw [if_pos (by simp), bx (cat_big (by simp; omega))]
        rw [if_pos e5, ix_nat, List.getElem?_eq_getElem hlt', bind_some', bx q1, bx (cat_big (by simp; omega)), bx (cat_big (by simp; omega)), kid kids (i + 1) hlt, bx x1, bx (cat_big (by simp; omega)), w1, y1 _ (by simp; omega)]
        simp [jz, jt]
    · intro v hv
      rw [impl_braced.l0, hT, if_pos c3, kid kids i hlt, bx x2, if_pos e5, ix_nat, List.getElem?_eq_getElem hlt', bind_some', bx q2, bx (cat_big (by simp; omega)), bx (cat_big (by simp; omega)), bx (app_ok (by simp; omega)), w1, y2 _ (by simp; omega)]
      simp
  · obtain rfl : i = kids.length := by omega
    refine ⟨[], by simp, by simp [tot], fun k hk' => ⟨fun w hw => ?_, fun v hv => ?_⟩⟩
    · rw [spec_l4Text.l0, hT, if_neg (kids_end kids)]
      cases kids <;> simp [jz, jt]
    · rw [impl_braced.l0, hT, if_neg (kids_end kids)]; simp
/-- the pieces of a list -/
theorem braced_list (kids : List Tr) (T : Node) (hT : T.Kids = Tr.nos kids) (hl : Tr.sizes kids ≤ 2000000) (h5 : T.Kind ≠ 5)
    (ih : ∀ t ∈ kids, ∃ r, (∀ k, Tr.deep t ≤ k → spec_l4Text_n k (Tr.no t) = some r ∧ impl_braced_n k (Tr.no t) = some r) ∧ bigText t r) :
    ∀ i, i ≤ kids.length → ∃ ps : List Str, ps.length = kids.length - i ∧ tot ps + ps.length * 2097149 ≤ Tr.sizes (kids.drop i) * 8388608 ∧ ∀ k, Tr.deeps kids ≤ k →
      (∀ w : Str, w.length + (tot ps + ps.length) ≤ 1125899906842624 → spec_l4Text.l1 (spec_l4Text_n k) T w i = some (w ++ jz i ps)) ∧
      (∀ v : List Str, v.length = i → impl_braced.l0 (impl_braced_n k) T i v = some (v ++ ps)) := by
  have hn := len_sizes kids
  refine down _ fun i hi ih2 => ?_
  by_cases hlt : i < kids.length
  · have c3 : decide ((i : Int) < ((Tr.nos kids).length : Int)) = true := by rw [Tr.nos_len]; simpa using hlt
    have hm : kids[i] ∈ kids := List.getElem_mem hlt
    have hd := Tr.deeps_le kids _ hm
    have e5 : ¬ (T.Kind == 5) = true := by simpa using h5
    obtain ⟨r, hr, hb⟩ := ih _ hm
    obtain ⟨ps, p1, p2, p3⟩ := ih2 hlt
    have hs := sizes_drop kids i hlt
    have hsz := Tr.size_le kids _ hm
    unfold bigText at hb
    have w1 : IntKind.i64.wrap ((i : Int) + 1) = ((i + 1 : Nat) : Int) := w64_succ (by omega)
    refine ⟨r :: ps, by simp; omega, ?_, fun k hk' => ?_⟩
    · simp only [tot, List.length_cons]
      omega
    obtain ⟨x1, x2⟩ := hr k (by omega)
    obtain ⟨y1, y2⟩ := p3 k hk'
    constructor
    · intro w hw
      simp only [tot, List.length_cons] at hw
      rw [spec_l4Text.l1, hT, if_pos c3]
      cases i with
      | zero =>
        rw [if_neg (by simp)]
        rw [if_neg e5, kid kids 0 hlt, bx x1, bx (cat_big (by omega)), w1, y1 _ (by simp; omega)]
        simp [jz]
      | succ i =>
        rw [if_pos (by simp), bx (cat_big (by simp; omega))]
        rw [if_neg e5, kid kids (i + 1) hlt, bx x1, bx (cat_big (by simp; omega)), w1, y1 _ (by simp; omega)]
        simp [jz, jt]
    · intro v hv
      rw [impl_braced.l0, hT, if_pos c3, kid kids i hlt, bx x2, if_neg e5, bx (app_ok (by simp; omega)), w1, y2 _ (by simp; omega)]
      simp
  · obtain rfl : i = kids.length := by omega
    refine ⟨[], by simp, by simp [tot], fun k hk' => ⟨fun w hw => ?_, fun v hv => ?_⟩⟩
    · rw [spec_l4Text.l1, hT, if_neg (kids_end kids)]
      cases kids <;> simp [jz, jt]
    · rw [impl_braced.l0, hT, if_neg (kids_end kids)]; simp
theorem braced_same : ∀ t : Tr, Tr.Sm t → Tr.Ok t → Tr.Kd t → Tr.size t ≤ 2000000 → ∃ r, (∀ k, Tr.deep t ≤ k → spec_l4Text_n k (Tr.no t) = some r ∧ impl_braced_n k (Tr.no t) = some r) ∧ bigText t r := by
  refine Tr.ind fun kd n s ks kids ih hsm hok hkd hz => ?_
  cases hsm with
  | mk s1 s2 s3 s4 =>
  cases hok with
  | mk o1 o2 o3 o4 o5 o6 =>
  cases hkd with
  | mk d1 d2 d3 =>
  have hzz : Tr.size (.mk kd n s ks kids) = Tr.sizes kids + 1 := by rw [Tr.size]
  have hn := len_sizes kids
  have ih' : ∀ t ∈ kids, ∃ r, (∀ k, Tr.deep t ≤ k → spec_l4Text_n k (Tr.no t) = some r ∧ impl_braced_n k (Tr.no t) = some r) ∧ bigText t r := fun t ht => ih t ht (s4 t ht) (o6 t ht) (d3 t ht) (by have := Tr.size_le kids t ht; omega)
  have hT : Tr.no (.mk kd n s ks kids) = Node.mk kd n s ks (Tr.nos kids) := by rw [Tr.no]
  have main : ∃ r, (∀ k, Tr.deeps kids ≤ k → spec_l4Text_F (spec_l4Text_n k) (Node.mk kd n s ks (Tr.nos kids)) = some r ∧ impl_braced_F (impl_braced_n k) (Node.mk kd n s ks (Tr.nos kids)) = some r) ∧ bigText (.mk kd n s ks kids) r := by
    unfold bigText
    rw [hzz]
    by_cases k0 : (kd == 0) = true
    · refine ⟨[110, 117, 108, 108], fun k hk => ⟨?_, ?_⟩, ?_⟩
      · unfold spec_l4Text_F; dsimp only; rw [if_pos k0]
      · unfold impl_braced_F; dsimp only; rw [if_pos k0]
      · simp; omega
    by_cases k1 : (kd == 1) = true
    · by_cases n1 : (n == 1) = true
      · refine ⟨[116, 114, 117, 101], fun k hk => ⟨?_, ?_⟩, ?_⟩
        · unfold spec_l4Text_F; dsimp only; rw [if_neg k0, if_pos k1, if_pos n1]
        · unfold impl_braced_F; dsimp only; rw [if_neg k0, if_pos k1, if_pos n1]
        · simp; omega
      · refine ⟨[102, 97, 108, 115, 101], fun k hk => ⟨?_, ?_⟩, ?_⟩
        · unfold spec_l4Text_F; dsimp only; rw [if_neg k0, if_pos k1, if_neg n1]
        · unfold impl_braced_F; dsimp only; rw [if_neg k0, if_pos k1, if_neg n1]
        · simp; omega
    by_cases k2 : (kd == 2) = true
    · refine ⟨digV n, fun k hk => ⟨?_, ?_⟩, ?_⟩
      · unfold spec_l4Text_F; dsimp only; rw [if_neg k0, if_neg k1, if_pos k2, bx (sDigits n o2)]
      · unfold impl_braced_F; dsimp only; rw [if_neg k0, if_neg k1, if_pos k2, bx (iDigits n o2)]
      · have := digV_len n o2; omega
    by_cases k3 : (kd == 3) = true
    · obtain ⟨q, q1, q2, q3⟩ := quote_same s s1
      refine ⟨q, fun k hk => ⟨?_, ?_⟩, ?_⟩
      · unfold spec_l4Text_F; dsimp only; rw [if_neg k0, if_neg k1, if_neg k2, if_pos k3, bx q1]
      · unfold impl_braced_F; dsimp only; rw [if_neg k0, if_neg k1, if_neg k2, if_pos k3, bx q2]
      · omega
    by_cases k5 : kd = 5
    · have e5 : (kd == 5) = true := by simpa using k5
      obtain ⟨ps, p1, p2, p3⟩ := braced_map kids (Node.mk kd n s ks (Tr.nos kids)) rfl (by omega) s2 k5 (d1 k5) ih' 0 (by omega)
      have hj := jz_len ps
      rw [List.drop_zero] at p2
      refine ⟨[123] ++ jz 0 ps ++ [125], fun k hk => ?_, ?_⟩
      · obtain ⟨y1, y2⟩ := p3 k hk
        have y1' := y1 [123] (by simp; omega)
        have y2' := y2 [] rfl
        simp only [Int.natCast_zero] at y1' y2'
        constructor
        · unfold spec_l4Text_F; dsimp only; rw [if_neg k0, if_neg k1, if_neg k2, if_neg k3, if_pos e5, bx y1', bx (cat_big (by simp; omega))]
        · unfold impl_braced_F; dsimp only; rw [if_neg k0, if_neg k1, if_neg k2, if_neg k3, bx y2', if_pos e5, List.nil_append]
          unfold strings_Join
          rw [bx (join_ok (by omega)), bx (cat_big (by simp; omega)), bx (cat_big (by simp; omega))]
      · simp; omega
    · have e5 : ¬ (kd == 5) = true := by simpa using k5
      obtain ⟨ps, p1, p2, p3⟩ := braced_list kids (Node.mk kd n s ks (Tr.nos kids)) rfl (by omega) k5 ih' 0 (by omega)
      have hj := jz_len ps
      rw [List.drop_zero] at p2
      refine ⟨[91] ++ jz 0 ps ++ [93], fun k hk => ?_, ?_⟩
      · obtain ⟨y1, y2⟩ := p3 k hk
        have y1' := y1 [91] (by simp; omega)
        have y2' := y2 [] rfl
        simp only [Int.natCast_zero] at y1' y2'
        constructor
        · unfold spec_l4Text_F; dsimp only; rw [if_neg k0, if_neg k1, if_neg k2, if_neg k3, if_neg e5, bx y1', bx (cat_big (by simp; omega))]
        · unfold impl_braced_F; dsimp only; rw [if_neg k0, if_neg k1, if_neg k2, if_neg k3, bx y2', if_neg e5, List.nil_append]
          unfold strings_Join
          rw [bx (join_ok (by omega)), bx (cat_big (by simp; omega)), bx (cat_big (by simp; omega))]
      · simp; omega
  obtain ⟨r, hr, hb⟩ := main
  refine ⟨r, fun k hk' => ?_, hb⟩
  obtain ⟨k1, e1, hk1⟩ := fuel1 rfl hk'
  subst e1
  rw [hT]
  exact hr k1 hk1
theorem size_pos : ∀ t : Tr, 1 ≤ Tr.size t
  | .mk _ _ _ _ _ => by rw [Tr.size]; omega
theorem both_braced (t : Tr) (h1 : Tr.Sm t) (h2 : Tr.Ok t) (hz : Tr.size t ≤ 2000000) : ∃ r, spec_Braced (Tr.no t) = some r ∧ impl_Braced (Tr.no t) = some r ∧ r.length ≤ Tr.size t * 8388608 := by
  obtain ⟨x, x1, x2, x3⟩ := tree_same t h1 hz
  unfold spec_Braced impl_Braced
  rw [bx x1, bx x2]
  cases x with
  | false => exact ⟨[], rfl, rfl, by simp⟩
  | true =>
    obtain ⟨r, hr, hb⟩ := braced_same t h1 h2 (x3 rfl) hz
    have e1 : spec_l4Text (Tr.no t) = some r := Nt.lim_of _ fun k hk => (hr k hk).1
    have e2 : impl_braced (Tr.no t) = some r := Nt.lim_of _ fun k hk => (hr k hk).2
    unfold bigText at hb
    refine ⟨r, ?_, ?_, by omega⟩
    · rw [if_neg (by decide), bx e1]
    · rw [if_neg (by decide), bx e2]
theorem both_inline (t : Tr) (h1 : Tr.Sm t) (h2 : Tr.Ok t) (hz : Tr.size t ≤ 2000000) : ∃ r, spec_Inline (Tr.no t) = some r ∧ impl_Inline (Tr.no t) = some r ∧ r.length ≤ Tr.size t * 8388608 := by
  obtain ⟨r, r1, r2, r3⟩ := both_braced t h1 h2 hz
  have hp := size_pos t
  have hS : smS (Tr.no t).S := by cases h1; rw [Tr.no]; assumption
  unfold spec_Inline impl_Inline
  by_cases k3 : ((Tr.no t).Kind == 3) = true
  · obtain ⟨x, x1, x2, x3⟩ := tree_same t h1 hz
    obtain ⟨p, p1, p2⟩ := plainOk_same (Tr.no t).S hS
    unfold smS at hS
    rw [if_pos k3, if_pos k3, bx x1, bx p2]
    cases x with
    | false =>
      rw [if_neg Bool.false_ne_true, bx r1]
      cases p with
      | false => rw [if_neg Bool.false_ne_true, bx r2]; exact ⟨r, rfl, rfl, r3⟩
      | true => rw [if_pos rfl, bx x2, if_neg Bool.false_ne_true, bx r2]; exact ⟨r, rfl, rfl, r3⟩
    | true =>
      rw [if_pos rfl, bx p1]
      cases p with
      | false => rw [if_neg Bool.false_ne_true, if_neg Bool.false_ne_true, bx r1, bx r2]; exact ⟨r, rfl, rfl, r3⟩
      | true => rw [if_pos rfl, if_pos rfl, bx x2, if_pos rfl]; exact ⟨_, rfl, rfl, by omega⟩
  · rw [if_neg k3, if_neg k3, bx r1, bx r2]; exact ⟨r, rfl, rfl, r3⟩
theorem block_kd (t : Tr) (h : Tr.Kd t) : spec_l5Block (Tr.no t) = some (decide (((Tr.no t).Kids.length : Int) > 0)) := by
  cases h with
  | @mk kd n s ks kids h5 h0 h =>
  rw [Tr.no]
  unfold spec_l5Block
  dsimp only
  by_cases k4 : kd = 4
  · rw [if_pos (by simpa using k4)]
  · rw [if_neg (by simpa using k4)]
    by_cases k5 : kd = 5
    · rw [if_pos (by simpa using k5)]
    · rw [if_neg (by simpa using k5), h0 k4 k5]; rfl
theorem indent_kids (kids : List Tr) (T : Node) (b : Nat) (B : Str) (hT : T.Kids = Tr.nos kids) (hl : Tr.sizes kids ≤ 2000000) (hk : smL smS T.Keys) (hk45 : T.Kind = 4 ∨ T.Kind = 5) (hlen : T.Kind = 5 → T.Keys.length = kids.length)
    (hb : b + 2 ≤ 4194304) (hB : B.length = b) (hrep : strings_Repeat [32] (b : Int) = some B)
    (hgd : ∀ t ∈ kids, Tr.Sm t ∧ Tr.Ok t ∧ Tr.Kd t)
    (ih : ∀ t ∈ kids, 0 < (Tr.no t).Kids.length → ∃ r, (∀ k, Tr.deep t ≤ k → spec_l5Write_n k (Tr.no t) (B ++ [32, 32]) = some r ∧ impl_indented_n k (Tr.no t) ((b + 2 : Nat) : Int) = some r) ∧ r.length + 16777216 ≤ Tr.size t * 33554432) :
    ∀ i, i ≤ kids.length → ∃ u : Str, u.length ≤ Tr.sizes (kids.drop i) * 33554432 ∧ ∀ k, Tr.deeps kids ≤ k →
      (∀ w : Str, w.length + u.length ≤ 1125899906842624 → spec_l5Write.l0 (spec_l5Write_n k) T B w i = some (w ++ u)) ∧
      (∀ w : Str, w.length + u.length ≤ 1125899906842624 → impl_indented.l0 (impl_indented_n k) T (b : Int) w i = some (w ++ u)) := by
  have hn := len_sizes kids
  refine down _ fun i hi ih2 => ?_
  by_cases hlt : i < kids.length
  · have c3 : decide ((i : Int) < ((Tr.nos kids).length : Int)) = true := by rw [Tr.nos_len]; simpa using hlt
    have hm : kids[i] ∈ kids := List.getElem_mem hlt
    have hd := Tr.deeps_le kids _ hm
    have hs := sizes_drop kids i hlt
    have hsz := Tr.size_le kids _ hm
    have hsp := size_pos kids[i]
    obtain ⟨g1, g2, g3⟩ := hgd _ hm
    obtain ⟨u, u1, p3⟩ := ih2 hlt
    have hblk := block_kd _ g3
    have w1 : IntKind.i64.wrap ((i : Int) + 1) = ((i + 1 : Nat) : Int) := w64_succ (by omega)
    have w2 : IntKind.i64.wrap ((b : Int) + 2) = ((b + 2 : Nat) : Int) := by rw [w64_id (by omega) (by omega)]; omega
    by_cases hkk : 0 < (Tr.no kids[i]).Kids.length
    · have hpos : decide (((Tr.no kids[i]).Kids.length : Int) > 0) = true := decide_eq_true (by omega)
      obtain ⟨r, hr, hrl⟩ := ih _ hm hkk
      rcases hk45 with h4 | h5
      · have e4 : (T.Kind == 4) = true := by simpa using h4
        have e5 : ¬ (T.Kind == 5) = true := by simp [h4]
        refine ⟨B ++ [45] ++ ([10] ++ r) ++ u, by simp only [List.length_append, List.length_cons, List.length_nil]; omega, fun k hk' => ?_⟩
        obtain ⟨y1, y2⟩ := p3 k hk'
        obtain ⟨x1, x2⟩ := hr k (by omega)
        constructor
        · intro w hw
          simp only [List.length_append, List.length_cons, List.length_nil] at hw
          have z1 := y1
          rw [spec_l5Write.l0, hT, if_pos c3, if_neg e5, bx (cat_big (by first | omega | (simp; omega))), bx (cat_big (by simp; omega)), kid kids i hlt, bx hblk, if_pos hpos, bx (cat_big (by simp; omega)), kid kids i hlt, bx (cat_big (by simp; omega)), bx x1, bx (cat_big (by simp; omega)), w1, z1 _ (by simp; omega)]
          simp
        · intro w hw
          simp only [List.length_append, List.length_cons, List.length_nil] at hw
          have z2 := y2
          rw [impl_indented.l0, hT, if_pos c3, kid kids i hlt, bx hrep, bx (cat_big (by first | omega | (simp; omega))), if_pos e4, bx (cat_big (by simp; omega)), if_pos hpos, w2, bx x2, bx (cat_big (by simp; omega)), bx (cat_big (by simp; omega)), w1, z2 _ (by simp; omega)]
          simp
      · have e4 : ¬ (T.Kind == 4) = true := by simp [h5]
        have e5 : (T.Kind == 5) = true := by simpa using h5
        have hlt' : i < T.Keys.length := by rw [hlen h5]; exact hlt
        have hks := hk.2 _ (List.getElem_mem hlt')
        obtain ⟨q, q1, q2, q3⟩ := quote_same T.Keys[i] hks
        obtain ⟨p, p1', p2'⟩ := plainOk_same T.Keys[i] hks
        unfold smS at hks
        cases p with
        | true =>
          refine ⟨B ++ (T.Keys[i] ++ [58]) ++ ([10] ++ r) ++ u, by simp only [List.length_append, List.length_cons, List.length_nil]; omega, fun k hk' => ?_⟩
          obtain ⟨y1, y2⟩ := p3 k hk'
          obtain ⟨x1, x2⟩ := hr k (by omega)
          constructor
          · intro w hw
            simp only [List.length_append, List.length_cons, List.length_nil] at hw
            have z1 := y1
            rw [spec_l5Write.l0, hT, if_pos c3, if_pos e5, ix_nat, List.getElem?_eq_getElem hlt', bind_some', bx q1, bx (cat_big (by first | omega | (simp; omega))), bind_some', bx p1', if_pos rfl, bind_some', bx (cat_big (by first | omega | (simp; omega))), bx (cat_big (by first | omega | (simp; omega))), bx (cat_big (by simp; omega)), kid kids i hlt, bx hblk, if_pos hpos, bx (cat_big (by simp; omega)), kid kids i hlt, bx (cat_big (by simp; omega)), bx x1, bx (cat_big (by simp; omega)), w1, z1 _ (by simp; omega)]
            simp
          · intro w hw
            simp only [List.length_append, List.length_cons, List.length_nil] at hw
            have z2 := y2
            rw [impl_indented.l0, hT, if_pos c3, kid kids i hlt, bx hrep, bx (cat_big (by first | omega | (simp; omega))), if_neg e4, ix_nat, List.getElem?_eq_getElem hlt', bind_some', bx p2', if_pos rfl, bind_some', bx (cat_big (by first | omega | (simp; omega))), bx (cat_big (by simp; omega)), if_pos hpos, w2, bx x2, bx (cat_big (by simp; omega)), bx (cat_big (by simp; omega)), w1, z2 _ (by simp; omega)]
            simp
        | false =>
          refine ⟨B ++ (q ++ [58]) ++ ([10] ++ r) ++ u, by simp only [List.length_append, List.length_cons, List.length_nil]; omega, fun k hk' => ?_⟩
          obtain ⟨y1, y2⟩ := p3 k hk'
          obtain ⟨x1, x2⟩ := hr k (by omega)
          constructor
          · intro w hw
            simp only [List.length_append, List.length_cons, List.length_nil] at hw
            have z1 := y1
            rw [spec_l5Write.l0, hT, if_pos c3, if_pos e5, ix_nat, List.getElem?_eq_getElem hlt', bind_some', bx q1, bx (cat_big (by first | omega | (simp; omega))), bind_some', bx p1', if_neg Bool.false_ne_true, bx (cat_big (by first | omega | (simp; omega))), bx (cat_big (by simp; omega)), kid kids i hlt, bx hblk, if_pos hpos, bx (cat_big (by simp; omega)), kid kids i hlt, bx (cat_big (by simp; omega)), bx x1, bx (cat_big (by simp; omega)), w1, z1 _ (by simp; omega)]
            simp
          · intro w hw
            simp only [List.length_append, List.length_cons, List.length_nil] at hw
            have z2 := y2
            rw [impl_indented.l0, hT, if_pos c3, kid kids i hlt, bx hrep, bx (cat_big (by first | omega | (simp; omega))), if_neg e4, ix_nat, List.getElem?_eq_getElem hlt', bind_some', bx p2', if_neg Bool.false_ne_true, bind_some', bx q2, bx (cat_big (by first | omega | (simp; omega))), bx (cat_big (by simp; omega)), if_pos hpos, w2, bx x2, bx (cat_big (by simp; omega)), bx (cat_big (by simp; omega)), w1, z2 _ (by simp; omega)]
            simp
    · have hpos : ¬ decide (((Tr.no kids[i]).Kids.length : Int) > 0) = true := by simpa using hkk
      obtain ⟨r, x1, x2, hrl⟩ := both_inline kids[i] g1 g2 (by omega)
      rcases hk45 with h4 | h5
      · have e4 : (T.Kind == 4) = true := by simpa using h4
        have e5 : ¬ (T.Kind == 5) = true := by simp [h4]
        refine ⟨B ++ [45] ++ ([32] ++ r ++ [10]) ++ u, by simp only [List.length_append, List.length_cons, List.length_nil]; omega, fun k hk' => ?_⟩
        obtain ⟨y1, y2⟩ := p3 k hk'
        constructor
        · intro w hw
          simp only [List.length_append, List.length_cons, List.length_nil] at hw
          have z1 := y1
          rw [spec_l5Write.l0, hT, if_pos c3, if_neg e5, bx (cat_big (by first | omega | (simp; omega))), bx (cat_big (by simp; omega)), kid kids i hlt, bx hblk, if_neg hpos, bx (cat_big (by simp; omega)), kid kids i hlt, bx x1, bx (cat_big (by simp; omega)), bx (cat_big (by simp; omega)), w1, z1 _ (by simp; omega)]
          simp
        · intro w hw
          simp only [List.length_append, List.length_cons, List.length_nil] at hw
          have z2 := y2
          rw [impl_indented.l0, hT, if_pos c3, kid kids i hlt, bx hrep, bx (cat_big (by first | omega | (simp; omega))), if_pos e4, bx (cat_big (by simp; omega)), if_neg hpos, bx x2, bx (cat_big (by simp; omega)), bx (cat_big (by simp; omega)), bx (cat_big (by simp; omega)), w1, z2 _ (by simp; omega)]
          simp
      · have e4 : ¬ (T.Kind == 4) = true := by simp [h5]
        have e5 : (T.Kind == 5) = true := by simpa using h5
        have hlt' : i < T.Keys.length := by rw [hlen h5]; exact hlt
        have hks := hk.2 _ (List.getElem_mem hlt')
        obtain ⟨q, q1, q2, q3⟩ := quote_same T.Keys[i] hks
        obtain ⟨p, p1', p2'⟩ := plainOk_same T.Keys[i] hks
        unfold smS at hks
        cases p with
        | true =>
          refine ⟨B ++ (T.Keys[i] ++ [58]) ++ ([32] ++ r ++ [10]) ++ u, by simp only [List.length_append, List.length_cons, List.length_nil]; omega, fun k hk' => ?_⟩
          obtain ⟨y1, y2⟩ := p3 k hk'
          constructor
          · intro w hw
            simp only [List.length_append, List.length_cons, List.length_nil] at hw
            have z1 := y1
            rw [spec_l5Write.l0, hT, if_pos c3, if_pos e5, ix_nat, List.getElem?_eq_getElem hlt', bind_some', bx q1, bx (cat_big (by first | omega | (simp; omega))), bind_some', bx p1', if_pos rfl, bind_some', bx (cat_big (by first | omega | (simp; omega))), bx (cat_big (by first | omega | (simp; omega))), bx (cat_big (by simp; omega)), kid kids i hlt, bx hblk, if_neg hpos, bx (cat_big (by simp; omega)), kid kids i hlt, bx x1, bx (cat_big (by simp; omega)), bx (cat_big (by simp; omega)), w1, z1 _ (by simp; omega)]
            simp
          · intro w hw
            simp only [List.length_append, List.length_cons, List.length_nil] at hw
            have z2 := y2
            rw [impl_indented.l0, hT, if_pos c3, kid kids i hlt, bx hrep, bx (cat_big (by first | omega | (simp; omega))), if_neg e4, ix_nat, List.getElem?_eq_getElem hlt', bind_some', bx p2', if_pos rfl, bind_some', bx (cat_big (by first | omega | (simp; omega))), bx (cat_big (by simp; omega)), if_neg hpos, bx x2, bx (cat_big (by simp; omega)), bx (cat_big (by simp; omega)), bx (cat_big (by simp; omega)), w1, z2 _ (by simp; omega)]
            simp
        | false =>
          refine ⟨B ++ (q ++ [58]) ++ ([32] ++ r ++ [10]) ++ u, by simp only [List.length_append, List.length_cons, List.length_nil]; omega, fun k hk' => ?_⟩
          obtain ⟨y1, y2⟩ := p3 k hk'
          constructor
          · intro w hw
            simp only [List.length_append, List.length_cons, List.length_nil] at hw
            have z1 := y1
            rw [spec_l5Write.l0, hT, if_pos c3, if_pos e5, ix_nat, List.getElem?_eq_getElem hlt', bind_some', bx q1, bx (cat_big (by first | omega | (simp; omega))), bind_some', bx p1', if_neg Bool.false_ne_true, bx (cat_big (by first | omega | (simp; omega))), bx (cat_big (by simp; omega)), kid kids i hlt, bx hblk, if_neg hpos, bx (cat_big (by simp; omega)), kid kids i hlt, bx x1, bx (cat_big (by simp; omega)), bx (cat_big (by simp; omega)), w1, z1 _ (by simp; omega)]
            simp
          · intro w hw
            simp only [List.length_append, List.length_cons, List.length_nil] at hw
            have z2 := y2
            rw [impl_indented.l0, hT, if_pos c3, kid kids i hlt, bx hrep, bx (cat_big (by first | omega | (simp; omega))), if_neg e4, ix_nat, List.getElem?_eq_getElem hlt', bind_some', bx p2', if_neg Bool.false_ne_true, bind_some', bx q2, bx (cat_big (by first | omega | (simp; omega))), bx (cat_big (by simp; omega)), if_neg hpos, bx x2, bx (cat_big (by simp; omega)), bx (cat_big (by simp; omega)), bx (cat_big (by simp; omega)), w1, z2 _ (by simp; omega)]
            simp
  · obtain rfl : i = kids.length := by omega
    refine ⟨[], by simp, fun k hk' => ⟨fun w hw => ?_, fun w hw => ?_⟩⟩
    · rw [spec_l5Write.l0, hT, if_neg (kids_end kids)]; simp
    · rw [impl_indented.l0, hT, if_neg (kids_end kids)]; simp
theorem reps_len : ∀ b : Nat, (reps [32] b).length = b
  | 0 => rfl
  | b + 1 => by rw [reps, List.length_append, reps_len b]; simp; omega
theorem reps_two : ∀ b : Nat, reps [32] b ++ [32, 32] = reps [32] (b + 2)
  | 0 => rfl
  | b + 1 => by rw [reps, List.append_assoc, reps_two b]; rfl
theorem repeat_ok (b : Nat) (h : b ≤ 4194304) : strings_Repeat [32] (b : Int) = some (reps [32] b) := by
  unfold strings_Repeat Nt.repeats
  rw [if_pos (by simp; omega)]; simp
theorem indent_same : ∀ t : Tr, Tr.Sm t → Tr.Ok t → Tr.Kd t → Tr.size t ≤ 2000000 → 0 < (Tr.no t).Kids.length → ∀ b : Nat, b + 2 * Tr.deep t ≤ 4194304 → ∃ r, (∀ k, Tr.deep t ≤ k → spec_l5Write_n k (Tr.no t) (reps [32] b) = some r ∧ impl_indented_n k (Tr.no t) (b : Int) = some r) ∧ r.length + 16777216 ≤ Tr.size t * 33554432 := by
  refine Tr.ind fun kd n s ks kids ih hsm hok hkd hz hkk b hb => ?_
  cases hsm with
  | mk s1 s2 s3 s4 =>
  cases hok with
  | mk o1 o2 o3 o4 o5 o6 =>
  cases hkd with
  | mk d1 d2 d3 =>
  have hzz : Tr.size (.mk kd n s ks kids) = Tr.sizes kids + 1 := by rw [Tr.size]
  have hdd : Tr.deep (.mk kd n s ks kids) = Tr.deeps kids + 1 := by rw [Tr.deep]
  rw [no_kids, Tr.nos_len] at hkk
  have hT : Tr.no (.mk kd n s ks kids) = Node.mk kd n s ks (Tr.nos kids) := by rw [Tr.no]
  have hk45 : kd = 4 ∨ kd = 5 := by
    by_cases k4 : kd = 4
    · exact .inl k4
    · by_cases k5 : kd = 5
      · exact .inr k5
      · rw [d2 k4 k5] at hkk; simp at hkk
  obtain ⟨u, u1, u2⟩ := indent_kids kids (Node.mk kd n s ks (Tr.nos kids)) b (reps [32] b) rfl (by omega) s2 hk45 d1 (by omega) (reps_len b) (repeat_ok b (by omega)) (fun t ht => ⟨s4 t ht, o6 t ht, d3 t ht⟩) (fun t ht htk => by
    rw [reps_two]
    have h1 := Tr.size_le kids t ht
    have h2 := Tr.deeps_le kids t ht
    exact ih t ht (s4 t ht) (o6 t ht) (d3 t ht) (by omega) htk (b + 2) (by omega)) 0 (by omega)
  rw [List.drop_zero] at u1
  refine ⟨u, fun k hk' => ?_, by omega⟩
  obtain ⟨k1, e1, hk1⟩ := fuel1 rfl hk'
  subst e1
  obtain ⟨y1, y2⟩ := u2 k1 hk1
  have y1' := y1 [] (by simp; omega)
  have y2' := y2 [] (by simp; omega)
  simp only [Int.natCast_zero, List.nil_append] at y1' y2'
  rw [hT]
  show spec_l5Write_F (spec_l5Write_n k1) _ _ = _ ∧ impl_indented_F (impl_indented_n k1) _ _ = _
  unfold spec_l5Write_F impl_indented_F
  constructor
  · rw [bx y1']
  · rw [if_neg (by simp [Tr.nos_len]; intro h; rw [h] at hkk; simp at hkk), bx y2']
theorem both_indented (t : Tr) (h1 : Tr.Sm t) (h2 : Tr.Ok t) (hz : Tr.size t ≤ 2000000) : ∃ r, spec_Indented (Tr.no t) = some r ∧ impl_Indented (Tr.no t) = some r := by
  obtain ⟨x, x1, x2, x3⟩ := tree_same t h1 hz
  unfold spec_Indented impl_Indented
  rw [bx x1, bx x2]
  cases x with
  | false => exact ⟨[], rfl, rfl⟩
  | true =>
    have hkd := x3 rfl
    have hblk := block_kd t hkd
    rw [if_neg (by decide), if_neg (by decide), bx hblk]
    by_cases hkk : 0 < (Tr.no t).Kids.length
    · have hpos : decide (((Tr.no t).Kids.length : Int) > 0) = true := decide_eq_true (by omega)
      have hds := Tr.deep_size t
      obtain ⟨r, hr, hb⟩ := indent_same t h1 h2 hkd hz hkk 0 (by omega)
      have e1 : spec_l5Write (Tr.no t) [] = some r := Nt.lim_of _ fun k hk => (hr k hk).1
      have e2 : impl_indented (Tr.no t) 0 = some r := Nt.lim_of _ fun k hk => (hr k hk).2
      rw [if_pos hpos, bx e1, bx e2]
      exact ⟨r, rfl, rfl⟩
    · have hpos : ¬ decide (((Tr.no t).Kids.length : Int) > 0) = true := by simpa using hkk
      obtain ⟨r, r1, r2, r3⟩ := both_inline t h1 h2 hz
      have e2 : impl_indented (Tr.no t) 0 = some (r ++ [10]) := Nt.lim_of 1 fun k hk => by
        obtain ⟨k, rfl⟩ : ∃ k', k = k' + 1 := ⟨k - 1, by omega⟩
        show impl_indented_F (impl_indented_n k) _ _ = _
        unfold impl_indented_F
        rw [if_pos (by simp; simpa using hkk), bx r2, bx (cat_big (by simp; omega))]
      rw [if_neg hpos, bx r1, bx e2, bx (cat_big (by simp; omega))]
      exact ⟨_, rfl, rfl⟩
theorem sm_bd : ∀ t : Tr, Tr.Sm t → Tr.Bd t := Tr.ind fun k n s ks kids ih h => by
  cases h with
  | mk s1 s2 s3 s4 => exact .mk (by have := s2.1; omega) (by omega) fun t ht => ih t ht (s4 t ht)
theorem cloneL {α : Type} {b : Nat} {l : List α} (h : l.length * b ≤ 70368744177664) : Nt.clone b l = some l := by unfold Nt.clone; rw [if_pos h]
theorem copyOrder_some (o : Order) (h : Order.sm o) : impl_copyOrder o = some o := by
  obtain ⟨h1, h2, h3, h4⟩ := h
  have := h3.1; have := h4.1
  simp only [impl_copyOrder, slices_Clone_Simpl_Metric_impl_Metric, slices_Clone_Simpl_Note_impl_Note]
  rw [cloneL (by omega), cloneL (by omega)]; rfl
theorem copyItem_some (x : Item) (h : Item.sm x) : impl_copyItem x = some x := by
  simp only [impl_copyItem, copyOrder_some _ h, bind_some']
theorem l6Copy_some (o : Order) (h : Order.sm o) : spec_l6Copy o = some o := by
  obtain ⟨h1, h2, h3, h4⟩ := h
  have := h3.1; have := h4.1
  simp only [spec_l6Copy]
  rw [app_ok (by simp; omega), app_ok (by simp; omega)]
  simp only [bind_some', List.nil_append]
theorem take_app {α : Type} {a : List α} {i : Nat} (h : i < a.length) : a.take i ++ [a[i]] = a.take (i + 1) := by
  rw [List.take_add_one, List.getElem?_eq_getElem h]; rfl
/-- the first from i on -/
def fd {α : Type} (p : α → Bool) (l : List α) (i : Nat) : Option Nat := ((l.drop i).findIdx? p).map (· + i)
theorem fd_step {α : Type} {p : α → Bool} {l : List α} {i : Nat} (h : i < l.length) : fd p l i = if p l[i] then some i else fd p l (i + 1) := by
  unfold fd
  rw [List.drop_eq_getElem_cons h, List.findIdx?_cons]
  split
  · simp
  · simp only [Option.map_map]
    congr 1
    funext x
    simp only [Function.comp]; omega
theorem fd_end {α : Type} {p : α → Bool} {l : List α} {i : Nat} (h : l.length ≤ i) : fd p l i = none := by
  unfold fd; rw [List.drop_eq_nil_of_le h]; rfl
theorem fd_zero {α : Type} (p : α → Bool) (l : List α) : fd p l 0 = l.findIdx? p := by simp [fd]
def named (n : Str) (x : Item) : Bool := x.Order.Name == n
/-- the place of a name; -1 -/
def pos (l : List Item) (n : Str) : Int := match l.findIdx? (named n) with
  | some i => i
  | none => -1
theorem l13At_some (s : Store) (n : Str) (hl : s.Items.length ≤ 1048576) : spec_l13At s n = some (pos s.Items n) := by
  have key : ∀ i, i ≤ s.Items.length → spec_l13At.l0 s n i = some (match fd (named n) s.Items i with | some k => .inl (k : Int) | none => .inr ()) := by
    refine down _ fun i hi ih => ?_
    rw [spec_l13At.l0]
    by_cases hlt : i < s.Items.length
    · have c : decide ((i : Int) < (s.Items.length : Int)) = true := by simpa using hlt
      have hd := fd_step (p := named n) hlt
      simp only [c, if_true, ix_nat, List.getElem?_eq_getElem hlt, bind_some', w64_succ (show i < 9223372036854775807 by omega)]
      by_cases hn : ((s.Items[i].Order.Name == n)) = true
      · rw [if_pos (show named n s.Items[i] = true from hn)] at hd
        rw [if_pos hn, hd]
      · rw [if_neg (show ¬ named n s.Items[i] = true from hn)] at hd
        rw [if_neg hn, hd]; exact ih hlt
    · rw [if_neg (by simpa using hlt), fd_end (by omega)]
  have := key 0 (by omega)
  simp only [Int.natCast_zero, fd_zero] at this
  simp only [spec_l13At, this, bind_some', pos]
  cases s.Items.findIdx? (named n) <;> rfl
theorem placeOf_some (l : List Item) (n : Str) (hl : l.length ≤ 1048576) : impl_placeOf l n = some (pos l n) := by
  have key : ∀ i, i ≤ l.length → slices_IndexFunc_Simpl_Item_impl_Item_impl_placeOf_1.l0 l i n = some (match fd (named n) l i with | some k => .inl ((k : Int), n) | none => .inr n) := by
    refine down _ fun i hi ih => ?_
    rw [slices_IndexFunc_Simpl_Item_impl_Item_impl_placeOf_1.l0]
    by_cases hlt : i < l.length
    · have c : decide ((i : Int) < (l.length : Int)) = true := by simpa using hlt
      have hd := fd_step (p := named n) hlt
      simp only [c, if_true, ix_nat, List.getElem?_eq_getElem hlt, bind_some', impl_placeOf_1, w64_succ (show i < 9223372036854775807 by omega)]
      by_cases hn : ((l[i].Order.Name == n)) = true
      · rw [if_pos (show named n l[i] = true from hn)] at hd
        rw [if_pos hn, hd]
      · rw [if_neg (show ¬ named n l[i] = true from hn)] at hd
        rw [if_neg hn, hd]; exact ih hlt
    · rw [if_neg (by simpa using hlt), fd_end (by omega)]
  have := key 0 (by omega)
  simp only [Int.natCast_zero, fd_zero] at this
  simp only [impl_placeOf, slices_IndexFunc_Simpl_Item_impl_Item_impl_placeOf_1, this, bind_some', pos]
  cases l.findIdx? (named n) <;> rfl
theorem pos_some {l : List Item} {n : Str} : (∃ i : Nat, pos l n = i ∧ ∃ h : i < l.length, l[i].Order.Name = n) ∨ (pos l n = -1 ∧ ∀ x ∈ l, x.Order.Name ≠ n) := by
  unfold pos
  cases h : l.findIdx? (named n) with
  | none =>
    right
    refine ⟨rfl, fun x hx e => ?_⟩
    have := List.findIdx?_eq_none_iff.1 h x hx
    simp [named, e] at this
  | some i =>
    left
    obtain ⟨h1, h2, _⟩ := List.findIdx?_eq_some_iff_getElem.1 h
    exact ⟨i, rfl, h1, by simpa [named] using h2⟩
def insA (key : Str) : List Str → Nat
  | [] => 0
  | k :: ks => if slt k key then insA key ks + 1 else 0
theorem insA_le (key : Str) : ∀ ks, insA key ks ≤ ks.length
  | [] => Nat.le_refl _
  | k :: ks => by
    simp only [insA]; split
    · have := insA_le key ks; simp; omega
    · simp
theorem insA_drop {key : Str} {ks : List Str} {i : Nat} (h : i < ks.length) : insA key (ks.drop i) = if slt ks[i] key then insA key (ks.drop (i + 1)) + 1 else 0 := by
  rw [List.drop_eq_getElem_cons h]; rfl
def Tr.set (key : Str) (x : Tr) : Tr → Tr
  | .mk k n s ks kids => match posA key ks with
    | some p => .mk k n s ks (kids.set p x)
    | none => .mk k n s (ks.take (insA key ks) ++ [key] ++ ks.drop (insA key ks)) (kids.take (insA key ks) ++ [x] ++ kids.drop (insA key ks))
theorem set_one {c : Nat} {o x : Tr} (key : Str) (ho : OutT c o) (hc : c < 4194304) (hx : Tr.Bd x) : spec_Set (Tr.no o) key (Tr.no x) = some (Tr.no (Tr.set key x o)) ∧ impl_Set (Tr.no o) key (Tr.no x) = some (Tr.no (Tr.set key x o)) ∧ OutT (c + 1) (Tr.set key x o) ∧ SetT o key (Tr.set key x o) := by
  have hbd := ho.bd (by omega)
  obtain ⟨n, s, ks, kids, rfl, h1, h2, h3⟩ := ho
  have hT : Tr.no (.mk 5 n s ks kids) = Node.mk 5 n s ks (Tr.nos kids) := by rw [Tr.no]
  have hcp := copy_spec _ hbd
  have hci := copy_impl _ hbd
  have hm : impl_isMap (Node.mk 5 n s ks (Tr.nos kids)) = some true := by
    unfold impl_isMap
    dsimp only
    rw [if_pos (by decide), Tr.nos_len]; simp [h1]
  cases hp : posA key ks with
  | some p =>
    have hlt := posA_lt hp
    have hlt2 : p < kids.length := by omega
    obtain ⟨g1, g2⟩ := out_put (c := c) (p := p) (n := n) (s := s) (key := key) (x := x) h1 h2 h3 hx (List.mem_of_getElem? (posA_some hp))
    have e : Tr.set key x (.mk 5 n s ks kids) = .mk 5 n s ks (kids.set p x) := by simp [Tr.set, hp]
    rw [e]
    refine ⟨?_, ?_, g1, g2⟩
    · unfold spec_Set
      rw [bx hcp, hT]
      dsimp only
      rw [if_neg (by decide), if_neg (by rw [Tr.nos_len]; simp [h1]), bx (at_spec (Node.mk 5 n s ks (Tr.nos kids)) ks kids key rfl rfl rfl (by omega)), hp]
      simp only [if_pos hlt2]
      rw [if_pos (by simp), bx (copy_spec x hx), kid kids p hlt2, bx (put_nat (by rw [Tr.nos_len]; exact hlt2)), nos_set, Tr.no]
    · unfold impl_Set
      rw [bx hci, hT]
      dsimp only
      rw [bx hm, if_neg (by decide), bx (index_impl ks key (by omega)), hp]
      simp only
      rw [if_pos (by simp), bx (copy_impl x hx), kid kids p hlt2, bx (put_nat (by rw [Tr.nos_len]; exact hlt2)), nos_set, Tr.no]
  | none =>
    have hk := posA_none hp
    have hql := insA_le key ks
    obtain ⟨g1, g2⟩ := out_ins (c := c) (q := insA key ks) (n := n) (s := s) (key := key) (x := x) h1 h2 h3 hx hql hk
    have e : Tr.set key x (.mk 5 n s ks kids) = .mk 5 n s (ks.take (insA key ks) ++ [key] ++ ks.drop (insA key ks)) (kids.take (insA key ks) ++ [x] ++ kids.drop (insA key ks)) := by simp only [Tr.set, hp]
    rw [e]
    have hkl : (Tr.nos kids).length = kids.length := Tr.nos_len kids
    refine ⟨?_, ?_, g1, g2⟩
    · unfold spec_Set
      rw [bx hcp, hT]
      dsimp only
      rw [if_neg (by decide), if_neg (by rw [Tr.nos_len]; simp [h1]), bx (at_spec (Node.mk 5 n s ks (Tr.nos kids)) ks kids key rfl rfl rfl (by omega)), hp]
      simp only
      rw [if_neg (by simp)]
      have hq : ∀ i, i ≤ ks.length → spec_Set.l0 (Node.mk 5 n s ks (Tr.nos kids)) key i = some ((i + insA key (ks.drop i) : Nat) : Int) := by
        refine down _ fun i hi ih => ?_
        rw [spec_Set.l0]
        dsimp only
        by_cases hlt : i < ks.length
        · rw [if_pos (by simpa using hlt), ix_nat, List.getElem?_eq_getElem hlt, bind_some', insA_drop hlt]
          by_cases hs : slt ks[i] key = true
          · rw [if_pos hs, w64_succ (by omega), ih hlt, if_pos hs]; congr 2; omega
          · rw [if_neg hs, if_neg hs]; simp
        · rw [if_neg (by simpa using hlt), List.drop_eq_nil_of_le (by omega)]; simp [insA]
      have q2 := hq 0 (by omega)
      simp only [Int.natCast_zero, List.drop_zero, Nat.zero_add] at q2
      rw [bx q2, bx (slc_take' ks _ hql), bx (app_ok (by simp; omega)), bx (app_ok (by simp; omega)), bx (slc_take' (Tr.nos kids) _ (by omega)), bx (app_ok (by simp; omega)), bx (copy_spec x hx), bx (app_ok (by simp; omega)), bx (slc_drop' ks _ _ hql rfl), bx (app_ok (by simp; omega)), bx (slc_drop' (Tr.nos kids) _ _ (by omega) rfl), bx (app_ok (by simp; omega))]
      rw [Tr.no, Tr.nos_append, Tr.nos_append, ← Tr.nos_one, Tr.nos_take, Tr.nos_drop]
      simp
    · unfold impl_Set
      rw [bx hci, hT]
      dsimp only
      rw [bx hm, if_neg (by decide), bx (index_impl ks key (by omega)), hp]
      simp only
      rw [if_neg (by decide)]
      have hq : ∀ i, i ≤ ks.length → slices_IndexFunc_Sstring_string_impl_Set_1.l0 ks i key = some (if i + insA key (ks.drop i) < ks.length then .inl (((i + insA key (ks.drop i) : Nat) : Int), ks, key) else .inr key) := by
        refine down _ fun i hi ih => ?_
        rw [slices_IndexFunc_Sstring_string_impl_Set_1.l0]
        by_cases hlt : i < ks.length
        · rw [if_pos (by simpa using hlt), ix_nat, List.getElem?_eq_getElem hlt, bind_some', insA_drop hlt]
          have hne : ¬ ks[i] = key := fun e => hk (e ▸ List.getElem_mem hlt)
          unfold impl_Set_1
          rw [bind_some']
          dsimp only
          by_cases hs : slt ks[i] key = true
          · rw [if_neg (by simp [hs]), w64_succ (by omega), ih hlt, if_pos hs, show i + 1 + insA key (ks.drop (i + 1)) = i + (insA key (ks.drop (i + 1)) + 1) by omega]
          · rw [if_pos (by simp [hs, hne]), if_neg hs, if_pos (by omega)]; simp
        · rw [if_neg (by simpa using hlt), List.drop_eq_nil_of_le (by omega), if_neg (by simp [insA]; omega)]
      have hf : slices_IndexFunc_Sstring_string_impl_Set_1 ks key = some (if insA key ks < ks.length then (insA key ks : Int) else -1, ks, key) := by
        unfold slices_IndexFunc_Sstring_string_impl_Set_1
        have h := hq 0 (by omega)
        simp only [Int.natCast_zero, List.drop_zero, Nat.zero_add] at h
        rw [bx h]
        by_cases hc : insA key ks < ks.length
        · simp only [if_pos hc]
        · simp only [if_neg hc]
      rw [bx hf]
      dsimp only
      unfold slices_Insert_Sstring_string slices_Insert_Simpl_Node_impl_Node
      by_cases hc : insA key ks < ks.length
      · rw [if_pos hc, if_neg (by simp), bx (ins_ok (by omega) (by simp) (by simp; omega)), bx (copy_impl x hx), bx (ins_ok (by omega) (by simp) (by simp; omega))]
        rw [Tr.no, Tr.nos_append, Tr.nos_append, ← Tr.nos_one, Tr.nos_take, Tr.nos_drop]
      · have he : insA key ks = ks.length := by omega
        rw [if_neg hc, if_pos (by simp), bx (ins_ok (Nat.le_refl _) (by simp) (by simp; omega)), bx (copy_impl x hx), bx (ins_ok (by omega) (by simp) (by simp; omega)), he]
        rw [Tr.no, Tr.nos_append, Tr.nos_append, ← Tr.nos_one, Tr.nos_take, Tr.nos_drop]
theorem cat_len {s t u : Str} (h : cat s t = some u) : u.length = s.length + t.length := by
  unfold cat at h
  split at h
  · simp at h
  · simp only [Option.some.injEq] at h; subst h; simp
theorem app_len {α : Type} {b : Nat} {l m r : List α} (h : app b l m = some r) : r.length = l.length + m.length := by
  unfold app at h
  split at h
  · simp only [Option.some.injEq] at h; subst h; simp
  · simp at h
theorem w64_nat {i n : Nat} (h : i < n) (hn : n ≤ 4611686018427387904) : IntKind.i64.wrap ((i : Int) + 1) = ((i + 1 : Nat) : Int) := w64_succ (by omega)
theorem quote_len {s r : Str} (hs : s.length ≤ 4611686018427387904) (h : spec_Quote s = some r) : r.length ≤ 2 * s.length + 2 := by
  unfold spec_Quote at h
  obtain ⟨x, hx, h⟩ := bnd h
  split at h
  · simp only [Option.some.injEq] at h; subst h; simp
  · obtain ⟨t, ht, h⟩ := bnd h
    obtain ⟨m, hm, h⟩ := bnd h
    simp only [Option.some.injEq] at h
    subst h
    have key := spec_Quote.l0.partial_correctness s (fun v acc out => ∀ i : Nat, v = i → i ≤ s.length → out.length ≤ acc.length + 2 * (s.length - i)) (by
      intro l0 IH v acc out h i hv hi
      subst hv
      by_cases hlt : i < s.length
      · rw [if_pos (by simpa using hlt)] at h
        have w1 := w64_nat hlt hs
        rw [w1] at h
        obtain ⟨c, _, h⟩ := bnd h
        by_cases h1 : (byte c == 34) = true
        · rw [if_pos h1] at h
          obtain ⟨m6, e1, h⟩ := bnd h
          obtain ⟨c7, _, h⟩ := bnd h
          obtain ⟨m8, e2, h⟩ := bnd h
          have := IH _ _ _ h (i + 1) rfl (by omega)
          have a1 := app_len e1; have a2 := app_len e2
          simp at a1 a2; omega
        · rw [if_neg h1] at h
          obtain ⟨c9, _, h⟩ := bnd h
          by_cases h2 : (byte c9 == 92) = true
          · rw [if_pos h2] at h
            obtain ⟨m6, e1, h⟩ := bnd h
            obtain ⟨c7, _, h⟩ := bnd h
            obtain ⟨m8, e2, h⟩ := bnd h
            have := IH _ _ _ h (i + 1) rfl (by omega)
            have a1 := app_len e1; have a2 := app_len e2
            simp at a1 a2; omega
          · rw [if_neg h2] at h
            obtain ⟨c7, _, h⟩ := bnd h
            obtain ⟨m8, e2, h⟩ := bnd h
            have := IH _ _ _ h (i + 1) rfl (by omega)
            have a2 := app_len e2
            simp at a2; omega
      · rw [if_neg (by simpa using hlt)] at h
        simp only [Option.some.injEq] at h
        subst h; omega) 0 [34] t ht 0 rfl (by omega)
    have a := app_len hm
    simp [strOf] at a key ⊢
    omega
def kl : List Str → Nat
  | [] => 0
  | k :: l => 2 * k.length + 8 + kl l
mutual
def Tr.wt : Tr → Nat
  | .mk _ _ s ks kids => 48 + 2 * s.length + kl ks + Tr.wts kids
def Tr.wts : List Tr → Nat
  | [] => 0
  | t :: l => Tr.wt t + Tr.wts l
end
theorem wts_drop (l : List Tr) (i : Nat) (h : i < l.length) : Tr.wts (l.drop i) = Tr.wt l[i] + Tr.wts (l.drop (i + 1)) := by rw [List.drop_eq_getElem_cons h, Tr.wts]
theorem kl_drop (l : List Str) (i : Nat) (h : i < l.length) : kl (l.drop i) = 2 * l[i].length + 8 + kl (l.drop (i + 1)) := by rw [List.drop_eq_getElem_cons h, kl]
theorem kl_le (l : List Str) (i : Nat) : kl (l.drop (i + 1)) ≤ kl (l.drop i) := by
  by_cases h : i < l.length
  · rw [kl_drop l i h]; omega
  · rw [List.drop_eq_nil_of_le (by omega), List.drop_eq_nil_of_le (by omega)]; exact Nat.le_refl _
theorem text0_len (rc : Node → Option Str) (kids : List Tr) (T : Node) (hT : T.Kids = Tr.nos kids) (hl : kids.length ≤ 4611686018427387904) (hk : ∀ k ∈ T.Keys, k.length ≤ 4611686018427387904)
    (hrc : ∀ t ∈ kids, ∀ r, rc (Tr.no t) = some r → r.length + 1 ≤ Tr.wt t) {w r : Str} (h : spec_l4Text.l0 rc T w 0 = some r) : r.length ≤ w.length + Tr.wts kids + kl T.Keys := by
  have key := spec_l4Text.l0.partial_correctness rc T (fun w v r => ∀ i : Nat, v = i → i ≤ kids.length → r.length ≤ w.length + Tr.wts (kids.drop i) + kl (T.Keys.drop i)) (by
    intro l0 IH w v r h i hv hi
    subst hv
    by_cases hlt : i < kids.length
    · rw [if_pos (by rw [hT, Tr.nos_len]; simpa using hlt)] at h
      have w1 := w64_nat hlt hl
      rw [w1] at h
      have hm : kids[i] ∈ kids := List.getElem_mem hlt
      have hs := wts_drop kids i hlt
      have hkl := kl_le T.Keys i
      have body : ∀ s6 : Str, s6.length ≤ w.length + 1 → (if (T.Kind == 5) = true then (ix T.Keys i >>= fun x7 => (spec_Quote x7 >>= fun x8 => (cat s6 x8 >>= fun s9 => (cat s9 [58] >>= fun s10 => (ix T.Kids i >>= fun x11 => (dN_Node x11 >>= fun y12 => (rc y12 >>= fun x13 => (cat s10 x13 >>= fun s14 => l0 s14 ((i + 1 : Nat) : Int)))))))))
          else (ix T.Kids i >>= fun x15 => (dN_Node x15 >>= fun y16 => (rc y16 >>= fun x17 => (cat s6 x17 >>= fun s18 => l0 s18 ((i + 1 : Nat) : Int)))))) = some r → r.length ≤ w.length + Tr.wts (kids.drop i) + kl (T.Keys.drop i) := by
        intro s6 h6 h
        by_cases k5 : (T.Kind == 5) = true
        · rw [if_pos k5] at h
          obtain ⟨x7, e7, h⟩ := bnd h
          obtain ⟨x8, e8, h⟩ := bnd h
          obtain ⟨s9, e9, h⟩ := bnd h
          obtain ⟨s10, e10, h⟩ := bnd h
          rw [hT, kid kids i hlt] at h
          obtain ⟨x13, e13, h⟩ := bnd h
          obtain ⟨s14, e14, h⟩ := bnd h
          have ih := IH _ _ _ h (i + 1) rfl (by omega)
          obtain ⟨_, g⟩ := ix_some e7
          simp only [Int.toNat_natCast] at g
          obtain ⟨hki, g⟩ := List.getElem?_eq_some_iff.1 g
          subst g
          have q := quote_len (hk _ (List.getElem_mem hki)) e8
          have hd := kl_drop T.Keys i hki
          have b := hrc _ hm _ e13
          have c1 := cat_len e9; have c2 := cat_len e10; have c3 := cat_len e14
          simp at c2
          omega
        · rw [if_neg k5, hT, kid kids i hlt] at h
          obtain ⟨x13, e13, h⟩ := bnd h
          obtain ⟨s14, e14, h⟩ := bnd h
          have ih := IH _ _ _ h (i + 1) rfl (by omega)
          have b := hrc _ hm _ e13
          have c3 := cat_len e14
          omega
      split at h
      · obtain ⟨s6, e6, h⟩ := bnd h
        have c := cat_len e6
        exact body s6 (by simp at c; omega) h
      · exact body w (by omega) h
    · rw [if_neg (by rw [hT, Tr.nos_len]; simpa using hlt)] at h
      simp only [Option.some.injEq] at h
      subst h; omega) w 0 r h 0 rfl (by omega)
  simpa using key
theorem text1_len (rc : Node → Option Str) (kids : List Tr) (T : Node) (hT : T.Kids = Tr.nos kids) (hl : kids.length ≤ 4611686018427387904) (hk : ∀ k ∈ T.Keys, k.length ≤ 4611686018427387904)
    (hrc : ∀ t ∈ kids, ∀ r, rc (Tr.no t) = some r → r.length + 1 ≤ Tr.wt t) {w r : Str} (h : spec_l4Text.l1 rc T w 0 = some r) : r.length ≤ w.length + Tr.wts kids + kl T.Keys := by
  have key := spec_l4Text.l1.partial_correctness rc T (fun w v r => ∀ i : Nat, v = i → i ≤ kids.length → r.length ≤ w.length + Tr.wts (kids.drop i) + kl (T.Keys.drop i)) (by
    intro l0 IH w v r h i hv hi
    subst hv
    by_cases hlt : i < kids.length
    · rw [if_pos (by rw [hT, Tr.nos_len]; simpa using hlt)] at h
      have w1 := w64_nat hlt hl
      rw [w1] at h
      have hm : kids[i] ∈ kids := List.getElem_mem hlt
      have hs := wts_drop kids i hlt
      have hkl := kl_le T.Keys i
      have body : ∀ s6 : Str, s6.length ≤ w.length + 1 → (if (T.Kind == 5) = true then (ix T.Keys i >>= fun x7 => (spec_Quote x7 >>= fun x8 => (cat s6 x8 >>= fun s9 => (cat s9 [58] >>= fun s10 => (ix T.Kids i >>= fun x11 => (dN_Node x11 >>= fun y12 => (rc y12 >>= fun x13 => (cat s10 x13 >>= fun s14 => l0 s14 ((i + 1 : Nat) : Int)))))))))
          else (ix T.Kids i >>= fun x15 => (dN_Node x15 >>= fun y16 => (rc y16 >>= fun x17 => (cat s6 x17 >>= fun s18 => l0 s18 ((i + 1 : Nat) : Int)))))) = some r → r.length ≤ w.length + Tr.wts (kids.drop i) + kl (T.Keys.drop i) := by
        intro s6 h6 h
        by_cases k5 : (T.Kind == 5) = true
        · rw [if_pos k5] at h
          obtain ⟨x7, e7, h⟩ := bnd h
          obtain ⟨x8, e8, h⟩ := bnd h
          obtain ⟨s9, e9, h⟩ := bnd h
          obtain ⟨s10, e10, h⟩ := bnd h
          rw [hT, kid kids i hlt] at h
          obtain ⟨x13, e13, h⟩ := bnd h
          obtain ⟨s14, e14, h⟩ := bnd h
          have ih := IH _ _ _ h (i + 1) rfl (by omega)
          obtain ⟨_, g⟩ := ix_some e7
          simp only [Int.toNat_natCast] at g
          obtain ⟨hki, g⟩ := List.getElem?_eq_some_iff.1 g
          subst g
          have q := quote_len (hk _ (List.getElem_mem hki)) e8
          have hd := kl_drop T.Keys i hki
          have b := hrc _ hm _ e13
          have c1 := cat_len e9; have c2 := cat_len e10; have c3 := cat_len e14
          simp at c2
          omega
        · rw [if_neg k5, hT, kid kids i hlt] at h
          obtain ⟨x13, e13, h⟩ := bnd h
          obtain ⟨s14, e14, h⟩ := bnd h
          have ih := IH _ _ _ h (i + 1) rfl (by omega)
          have b := hrc _ hm _ e13
          have c3 := cat_len e14
          omega
      split at h
      · obtain ⟨s6, e6, h⟩ := bnd h
        have c := cat_len e6
        exact body s6 (by simp at c; omega) h
      · exact body w (by omega) h
    · rw [if_neg (by rw [hT, Tr.nos_len]; simpa using hlt)] at h
      simp only [Option.some.injEq] at h
      subst h; omega) w 0 r h 0 rfl (by omega)
  simpa using key
theorem text_len : ∀ t : Tr, Tr.Ok t → Tr.Sm t → ∀ k r, spec_l4Text_n k (Tr.no t) = some r → r.length + 1 ≤ Tr.wt t := by
  refine Tr.ind fun kd n s ks kids ih hok hsm k r h => ?_
  cases hok with
  | mk o1 o2 o3 o4 o5 o6 =>
  cases hsm with
  | mk s1 s2 s3 s4 =>
  cases k with
  | zero => simp [spec_l4Text_n] at h
  | succ k =>
    have hT : Tr.no (.mk kd n s ks kids) = Node.mk kd n s ks (Tr.nos kids) := by rw [Tr.no]
    have h : spec_l4Text_F (spec_l4Text_n k) (Node.mk kd n s ks (Tr.nos kids)) = some r := by rw [← hT]; exact h
    have hw : Tr.wt (.mk kd n s ks kids) = 48 + 2 * s.length + kl ks + Tr.wts kids := by rw [Tr.wt]
    have ih' : ∀ t ∈ kids, ∀ r, spec_l4Text_n k (Tr.no t) = some r → r.length + 1 ≤ Tr.wt t := fun t ht r h => ih t ht (o6 t ht) (s4 t ht) k r h
    have hkk : ∀ k ∈ ks, k.length ≤ 4611686018427387904 := fun k hk => by have := s2.2 k hk; unfold smS at this; omega
    unfold smS at s1
    rw [hw]
    unfold spec_l4Text_F at h
    dsimp only at h
    split at h
    · simp only [Option.some.injEq] at h; subst h; simp; omega
    split at h
    · split at h <;> (simp only [Option.some.injEq] at h; subst h; simp; omega)
    split at h
    · obtain ⟨x, hx, h⟩ := bnd h
      simp only [Option.some.injEq] at h; subst h
      rw [sDigits n o2] at hx
      simp only [Option.some.injEq] at hx; subst hx
      have := digV_len n o2; omega
    split at h
    · obtain ⟨x, hx, h⟩ := bnd h
      simp only [Option.some.injEq] at h; subst h
      have := quote_len (by omega) hx; omega
    split at h
    · obtain ⟨x, hx, h⟩ := bnd h
      obtain ⟨y, hy, h⟩ := bnd h
      simp only [Option.some.injEq] at h; subst h
      have a := text0_len _ kids (Node.mk kd n s ks (Tr.nos kids)) rfl (by omega) hkk ih' hx
      have b := cat_len hy
      simp at a b; omega
    · obtain ⟨x, hx, h⟩ := bnd h
      obtain ⟨y, hy, h⟩ := bnd h
      simp only [Option.some.injEq] at h; subst h
      have a := text1_len _ kids (Node.mk kd n s ks (Tr.nos kids)) rfl (by omega) hkk ih' hx
      have b := cat_len hy
      simp at a b; omega
/-- all that is asked of a tree, with its size and its text's -/
structure Gd (t : Tr) (n w : Nat) : Prop where
  sm : Tr.Sm t
  ok : Tr.Ok t
  sz : Tr.size t ≤ n
  wt : Tr.wt t ≤ w
theorem Gd.mono {t : Tr} {n w n' w' : Nat} (h : Gd t n w) (hn : n ≤ n') (hw : w ≤ w') : Gd t n' w' := ⟨h.sm, h.ok, Nat.le_trans h.sz hn, Nat.le_trans h.wt hw⟩
def tx (s : Str) : Tr := .mk 3 0 s [] []
def nm (n : Int) : Tr := .mk 2 n [] [] []
def m0 : Tr := .mk 5 0 [] [] []
theorem tx_gd {s : Str} (h : s.length ≤ 1048576) : Gd (tx s) 1 (48 + 2 * s.length) := by
  refine ⟨.mk h ⟨by simp, by simp⟩ (by simp) (by simp), .mk (by unfold okI; omega) (by unfold okI; omega) (by unfold okS; omega) ⟨by simp, by simp⟩ (by simp) (by simp), ?_, ?_⟩
  · simp [tx, Tr.size, Tr.sizes]
  · simp [tx, Tr.wt, Tr.wts, kl]
theorem nm_gd {n : Int} (h : okI n) : Gd (nm n) 1 48 := by
  refine ⟨.mk (by simp [smS]) ⟨by simp, by simp⟩ (by simp) (by simp), .mk (by unfold okI; omega) h (by simp [okS]) ⟨by simp, by simp⟩ (by simp) (by simp), ?_, ?_⟩
  · simp [nm, Tr.size, Tr.sizes]
  · simp [nm, Tr.wt, Tr.wts, kl]
theorem m0_gd : Gd m0 1 48 := by
  refine ⟨.mk (by simp [smS]) ⟨by simp, by simp⟩ (by simp) (by simp), .mk (by unfold okI; omega) (by unfold okI; omega) (by simp [okS]) ⟨by simp, by simp⟩ (by simp) (by simp), ?_, ?_⟩
  · simp [m0, Tr.size, Tr.sizes]
  · simp [m0, Tr.wt, Tr.wts, kl]
theorem m0_out : OutT 0 m0 := ⟨0, [], [], [], rfl, rfl, Nat.le_refl _, by simp⟩
theorem sizes_append : ∀ a b : List Tr, Tr.sizes (a ++ b) = Tr.sizes a + Tr.sizes b
  | [], b => by simp [Tr.sizes]
  | t :: a, b => by simp only [List.cons_append, Tr.sizes, sizes_append a b]; omega
theorem wts_append : ∀ a b : List Tr, Tr.wts (a ++ b) = Tr.wts a + Tr.wts b
  | [], b => by simp [Tr.wts]
  | t :: a, b => by simp only [List.cons_append, Tr.wts, wts_append a b]; omega
theorem kl_append : ∀ a b : List Str, kl (a ++ b) = kl a + kl b
  | [], b => by simp [kl]
  | t :: a, b => by simp only [List.cons_append, kl, kl_append a b]; omega
theorem sizes_set : ∀ (l : List Tr) (p : Nat) (x : Tr), Tr.sizes (l.set p x) ≤ Tr.sizes l + Tr.size x
  | [], _, _ => by simp [Tr.sizes]
  | t :: l, 0, x => by simp only [List.set_cons_zero, Tr.sizes]; omega
  | t :: l, p + 1, x => by have := sizes_set l p x; simp only [List.set_cons_succ, Tr.sizes]; omega
theorem wts_set : ∀ (l : List Tr) (p : Nat) (x : Tr), Tr.wts (l.set p x) ≤ Tr.wts l + Tr.wt x
  | [], _, _ => by simp [Tr.wts]
  | t :: l, 0, x => by simp only [List.set_cons_zero, Tr.wts]; omega
  | t :: l, p + 1, x => by have := wts_set l p x; simp only [List.set_cons_succ, Tr.wts]; omega
theorem set_gd {c n w n' w' : Nat} {o x : Tr} {key : Str} (ho : OutT c o) (hc : c < 1048576) (h1 : Gd o n w) (h2 : Gd x n' w') (hk : key.length ≤ 1048576) : Gd (Tr.set key x o) (n + n') (w + w' + 2 * key.length + 8) := by
  obtain ⟨m, s, ks, kids, rfl, e1, e2, e3⟩ := ho
  obtain ⟨a1, a2, a3, a4⟩ := h1
  obtain ⟨b1, b2, b3, b4⟩ := h2
  cases a1 with
  | mk s1 s2 s3 s4 =>
  cases a2 with
  | mk o1 o2 o3 o4 o5 o6 =>
  rw [Tr.size] at a3
  rw [Tr.wt] at a4
  simp only [Tr.set]
  split
  · rename_i p hp
    have mem : ∀ t ∈ kids.set p x, t ∈ kids ∨ t = x := fun t ht => List.mem_or_eq_of_mem_set ht
    have z := sizes_set kids p x
    have z' := wts_set kids p x
    refine ⟨.mk s1 s2 (by simpa using s3) fun t ht => ?_, .mk o1 o2 o3 o4 (by simpa using o5) fun t ht => ?_, ?_, ?_⟩
    · rcases mem t ht with h | rfl
      · exact s4 t h
      · exact b1
    · rcases mem t ht with h | rfl
      · exact o6 t h
      · exact b2
    · rw [Tr.size]; omega
    · rw [Tr.wt]; omega
  · have mem : ∀ t ∈ kids.take (insA key ks) ++ [x] ++ kids.drop (insA key ks), t ∈ kids ∨ t = x := fun t ht => mem_ins.1 ht
    have memk : ∀ t ∈ ks.take (insA key ks) ++ [key] ++ ks.drop (insA key ks), t ∈ ks ∨ t = key := fun t ht => mem_ins.1 ht
    have z : Tr.sizes (kids.take (insA key ks) ++ [x] ++ kids.drop (insA key ks)) = Tr.sizes kids + Tr.size x := by
      have := sizes_append (kids.take (insA key ks)) (kids.drop (insA key ks))
      rw [List.take_append_drop] at this
      rw [sizes_append, sizes_append]; simp only [Tr.sizes]; omega
    have z' : Tr.wts (kids.take (insA key ks) ++ [x] ++ kids.drop (insA key ks)) = Tr.wts kids + Tr.wt x := by
      have := wts_append (kids.take (insA key ks)) (kids.drop (insA key ks))
      rw [List.take_append_drop] at this
      rw [wts_append, wts_append]; simp only [Tr.wts]; omega
    have zk : kl (ks.take (insA key ks) ++ [key] ++ ks.drop (insA key ks)) = kl ks + (2 * key.length + 8) := by
      have := kl_append (ks.take (insA key ks)) (ks.drop (insA key ks))
      rw [List.take_append_drop] at this
      rw [kl_append, kl_append]; simp only [kl]; omega
    have hq := insA_le key ks
    refine ⟨.mk s1 ⟨by simp; omega, fun t ht => ?_⟩ (by simp; omega) fun t ht => ?_, .mk o1 o2 o3 ⟨by simp; omega, fun t ht => ?_⟩ (by simp; omega) fun t ht => ?_, ?_, ?_⟩
    · rcases memk t ht with h | rfl
      · exact s2.2 t h
      · exact hk
    · rcases mem t ht with h | rfl
      · exact s4 t h
      · exact b1
    · rcases memk t ht with h | rfl
      · exact o4.2 t h
      · unfold okS; omega
    · rcases mem t ht with h | rfl
      · exact o6 t h
      · exact b2
    · rw [Tr.size, z]; omega
    · rw [Tr.wt, z', zk]; omega
/-! both sides make the same tree -/
def Bo (s i : Option Node) (n w : Nat) : Prop := ∃ t, s = some (Tr.no t) ∧ i = some (Tr.no t) ∧ Gd t n w
/-- .. a map of no more than c keys -/
def BoM (s i : Option Node) (c n w : Nat) : Prop := ∃ t, s = some (Tr.no t) ∧ i = some (Tr.no t) ∧ Gd t n w ∧ OutT c t
theorem no_tx (s : Str) : Tr.no (tx s) = Node.mk 3 0 s [] [] := by simp [tx, Tr.no, Tr.nos]
theorem no_nm (n : Int) : Tr.no (nm n) = Node.mk 2 n [] [] [] := by simp [nm, Tr.no, Tr.nos]
theorem no_m0 : Tr.no m0 = Node.mk 5 0 [] [] [] := by simp [m0, Tr.no, Tr.nos]
def bld : List Str → List Tr → Tr → Tr
  | k :: ks, x :: xs, o => bld ks xs (Tr.set k x o)
  | _, _, o => o
def sumK : List Str → Nat
  | [] => 0
  | k :: l => 2 * k.length + 8 + sumK l
theorem bld_gd : ∀ (ks : List Str) (xs : List Tr) (o : Tr) (c n w : Nat), OutT c o → c + ks.length < 1048576 → Gd o n w → (∀ k ∈ ks, k.length ≤ 1048576) → (∀ x ∈ xs, Tr.Sm x ∧ Tr.Ok x) → Gd (bld ks xs o) (n + Tr.sizes xs) (w + Tr.wts xs + sumK ks) ∧ OutT (c + ks.length) (bld ks xs o)
  | [], xs, o, c, n, w, ho, _, hg, _, _ => ⟨hg.mono (by omega) (by omega), ho⟩
  | k :: ks, [], o, c, n, w, ho, _, hg, _, _ => by
    obtain ⟨m, s, ks', kids, rfl, e1, e2, e3⟩ := ho
    exact ⟨hg.mono (by omega) (by omega), m, s, ks', kids, rfl, e1, by omega, e3⟩
  | k :: ks, x :: xs, o, c, n, w, ho, hc, hg, hk, hx => by
    simp only [List.length_cons] at hc
    have gx : Gd x (Tr.size x) (Tr.wt x) := ⟨(hx x (by simp)).1, (hx x (by simp)).2, Nat.le_refl _, Nat.le_refl _⟩
    have h1 := set_gd (key := k) ho (by omega) hg gx (hk k (by simp))
    have h2 := (set_one k ho (by omega) (sm_bd x gx.sm)).2.2.1
    obtain ⟨h3, h4⟩ := bld_gd ks xs (Tr.set k x o) (c + 1) _ _ h2 (by omega) h1 (fun k hk' => hk k (by simp [hk'])) (fun x hx' => hx x (by simp [hx']))
    simp only [bld, Tr.sizes, Tr.wts, sumK, List.length_cons]
    exact ⟨h3.mono (by omega) (by omega), by rw [show c + (ks.length + 1) = c + 1 + ks.length by omega]; exact h4⟩
theorem map_both (keys : List Str) (kids : List Tr) (hl : keys.length = kids.length) (hn : keys.length < 1000000) (hk : ∀ k ∈ keys, k.length ≤ 1048576) (hx : ∀ x ∈ kids, Tr.Sm x ∧ Tr.Ok x) :
    BoM (spec_l7Map keys (Tr.nos kids)) (impl_mapOf keys (Tr.nos kids)) keys.length (1 + Tr.sizes kids) (48 + Tr.wts kids + sumK keys) := by
  have main : ∀ i, i ≤ keys.length → ∀ o : Tr, OutT i o → Tr.Sm o → 
      spec_l7Map.l0 keys (Tr.nos kids) i (Tr.no o).Kind (Tr.no o).N (Tr.no o).S (Tr.no o).Keys (Tr.no o).Kids = some ((Tr.no (bld (keys.drop i) (kids.drop i) o)).Kind, (Tr.no (bld (keys.drop i) (kids.drop i) o)).N, (Tr.no (bld (keys.drop i) (kids.drop i) o)).S, (Tr.no (bld (keys.drop i) (kids.drop i) o)).Keys, (Tr.no (bld (keys.drop i) (kids.drop i) o)).Kids) ∧
      impl_mapOf.l0 keys (Tr.nos kids) i (Tr.no o).Kind (Tr.no o).N (Tr.no o).S (Tr.no o).Keys (Tr.no o).Kids = some ((Tr.no (bld (keys.drop i) (kids.drop i) o)).Kind, (Tr.no (bld (keys.drop i) (kids.drop i) o)).N, (Tr.no (bld (keys.drop i) (kids.drop i) o)).S, (Tr.no (bld (keys.drop i) (kids.drop i) o)).Keys, (Tr.no (bld (keys.drop i) (kids.drop i) o)).Kids) := by
    refine down _ fun i hi ih o ho hs => ?_
    rw [spec_l7Map.l0, impl_mapOf.l0]
    by_cases hlt : i < keys.length
    · have hlt2 : i < kids.length := by omega
      have hx1 := hx _ (List.getElem_mem hlt2)
      obtain ⟨g1, g2, g3, g4⟩ := set_one keys[i] ho (by omega) (sm_bd _ hx1.1)
      have e : Node.mk (Tr.no o).Kind (Tr.no o).N (Tr.no o).S (Tr.no o).Keys (Tr.no o).Kids = Tr.no o := rfl
      have w1 := w64_nat hlt (by omega)
      have hs' : Tr.Sm (Tr.set keys[i] kids[i] o) := by
        have : ∃ n w, Gd o n w → True := ⟨0, 0, fun _ => trivial⟩
        obtain ⟨m, s, ks, kd, rfl, e1, e2, e3⟩ := ho
        cases hs with
        | mk s1 s2 s3 s4 =>
        simp only [Tr.set]
        split
        · refine .mk s1 s2 (by simpa using s3) fun t ht => ?_
          rcases List.mem_or_eq_of_mem_set ht with h | rfl
          · exact s4 t h
          · exact hx1.1
        · have hq := insA_le keys[i] ks
          refine .mk s1 ⟨by simp; omega, fun t ht => ?_⟩ (by simp; omega) fun t ht => ?_
          · rcases mem_ins.1 ht with h | rfl
            · exact s2.2 t h
            · exact hk _ (List.getElem_mem hlt)
          · rcases mem_ins.1 ht with h | rfl
            · exact s4 t h
            · exact hx1.1
      obtain ⟨r1, r2⟩ := ih hlt _ g3 hs'
      have hb : bld (keys.drop i) (kids.drop i) o = bld (keys.drop (i + 1)) (kids.drop (i + 1)) (Tr.set keys[i] kids[i] o) := by
        rw [List.drop_eq_getElem_cons hlt, List.drop_eq_getElem_cons hlt2, bld]
      rw [if_pos (by simpa using hlt), if_pos (by simpa using hlt), ix_nat, List.getElem?_eq_getElem hlt, bind_some', bind_some', kid kids i hlt2, kid kids i hlt2, e, bx g1, bx g2, w1, r1, r2, hb]
      exact ⟨rfl, rfl⟩
    · have : keys.drop i = [] := List.drop_eq_nil_of_le (by omega)
      rw [if_neg (by simpa using hlt), if_neg (by simpa using hlt), this]
      exact ⟨rfl, rfl⟩
  obtain ⟨r1, r2⟩ := main 0 (by omega) m0 m0_out m0_gd.sm
  simp only [Int.natCast_zero, List.drop_zero, no_m0] at r1 r2
  obtain ⟨g1, g2⟩ := bld_gd keys kids m0 0 1 48 m0_out (by omega) m0_gd hk hx
  refine ⟨bld keys kids m0, ?_, ?_, g1.mono (by omega) (by omega), by simpa using g2⟩
  · unfold spec_l7Map; rw [bx r1]
  · unfold impl_mapOf; rw [bx r2]
theorem BoM.set {s i xs xi : Option Node} {c n w n' w' : Nat} (h : BoM s i c n w) (hx : Bo xs xi n' w') (key : Str) (hk : key.length ≤ 1048576) (hc : c < 1000000) : BoM (s >>= fun a => xs >>= fun b => spec_Set a key b) (i >>= fun a => xi >>= fun b => impl_Set a key b) (c + 1) (n + n') (w + w' + 2 * key.length + 8) := by
  obtain ⟨t, rfl, rfl, g, o⟩ := h
  obtain ⟨x, rfl, rfl, gx⟩ := hx
  obtain ⟨g1, g2, g3, _⟩ := set_one key o (by omega) (sm_bd x gx.sm)
  exact ⟨_, g1, g2, set_gd o (by omega) g gx hk, g3⟩
theorem dig_both (v : Int) (h : okI v) : spec_Digits v = some (digV v) ∧ impl_Digits v = some (digV v) ∧ (digV v).length ≤ 40 := ⟨sDigits v h, iDigits v h, digV_len v h⟩
theorem amount_both (n : Int) (h0 : 0 ≤ n) (h1 : n ≤ 1000000000) : ∃ s, spec_AmountText n = some s ∧ impl_AmountText n = some s ∧ s.length ≤ 50 := by
  have hn : okI n := by unfold okI; omega
  have h6 : okI (IntKind.i64.wrap (Int.tdiv n 1000000)) := by
    rw [Int.tdiv_eq_ediv_of_nonneg h0, w64_id (by omega) (by omega)]; unfold okI; omega
  have h3 : okI (IntKind.i64.wrap (Int.tdiv n 1000)) := by
    rw [Int.tdiv_eq_ediv_of_nonneg h0, w64_id (by omega) (by omega)]; unfold okI; omega
  obtain ⟨a1, a2, a3⟩ := dig_both _ hn
  obtain ⟨b1, b2, b3⟩ := dig_both _ h6
  obtain ⟨c1, c2, c3⟩ := dig_both _ h3
  unfold spec_AmountText impl_AmountText impl_isAmount
  simp only [in_some, from_some, bind_some', a1, a2, b1, b2, c1, c2]
  have hr : (decide (n ≥ 0) && decide (n ≤ 1000000000000)) = true := by simp; omega
  simp only [hr, Bool.not_true, Bool.false_eq_true, if_false]
  by_cases hz : n = 0
  · subst hz
    refine ⟨digV (IntKind.i64.wrap (Int.tdiv 0 1000)), ?_, ?_, by omega⟩
    · rfl
    · rfl
  · have g1 : decide (n > 0) = true := by simp; omega
    have g2 : (n != 0) = true := by simpa using hz
    simp only [g1, g2, if_true]
    by_cases x6 : (Int.tmod n 1000000 == 0) = true
    · simp only [x6, if_true]
      rw [cat_big (by simp; omega)]
      exact ⟨_, rfl, rfl, by simp; omega⟩
    · simp only [x6, Bool.false_eq_true, if_false]
      by_cases x3 : (Int.tmod n 1000 == 0) = true
      · simp only [x3, if_true]; exact ⟨_, rfl, rfl, by omega⟩
      · simp only [x3, Bool.false_eq_true, if_false]
        rw [cat_big (by simp; omega)]
        exact ⟨_, rfl, rfl, by simp; omega⟩
theorem span_both (n : Int) (h0 : 0 ≤ n) (h1 : n ≤ 1000000) : ∃ s, spec_SpanText n = some s ∧ impl_SpanText n = some s ∧ s.length ≤ 50 := by
  have hn : okI n := by unfold okI; omega
  have h6 : okI (IntKind.i64.wrap (Int.tdiv n 3600)) := by
    rw [Int.tdiv_eq_ediv_of_nonneg h0, w64_id (by omega) (by omega)]; unfold okI; omega
  have h3 : okI (IntKind.i64.wrap (Int.tdiv n 60)) := by
    rw [Int.tdiv_eq_ediv_of_nonneg h0, w64_id (by omega) (by omega)]; unfold okI; omega
  obtain ⟨a1, a2, a3⟩ := dig_both _ hn
  obtain ⟨b1, b2, b3⟩ := dig_both _ h6
  obtain ⟨c1, c2, c3⟩ := dig_both _ h3
  unfold spec_SpanText impl_SpanText
  simp only [in_some, from_some, bind_some', a1, a2, b1, b2, c1, c2]
  have hr : (decide (n ≥ 0) && decide (n ≤ 1000000)) = true := by simp; omega
  simp only [hr, Bool.not_true, Bool.false_eq_true, if_false]
  rw [cat_big (s := digV n) (t := [115]) (by simp; omega), cat_big (s := digV (IntKind.i64.wrap (Int.tdiv n 3600))) (t := [104]) (by simp; omega), cat_big (s := digV (IntKind.i64.wrap (Int.tdiv n 60))) (t := [109]) (by simp; omega)]
  simp only [bind_some']
  by_cases hz : n = 0
  · subst hz
    refine ⟨digV 0 ++ [115], ?_, ?_, by simp; omega⟩
    · rfl
    · rfl
  · have g1 : decide (n > 0) = true := by simp; omega
    have g2 : (n != 0) = true := by simpa using hz
    simp only [g1, g2, if_true]
    by_cases x6 : (Int.tmod n 3600 == 0) = true
    · simp only [x6, if_true]; exact ⟨_, rfl, rfl, by simp; omega⟩
    · simp only [x6, Bool.false_eq_true, if_false]
      by_cases x3 : (Int.tmod n 60 == 0) = true
      · simp only [x3, if_true]; exact ⟨_, rfl, rfl, by simp; omega⟩
      · simp only [x3, Bool.false_eq_true, if_false]; exact ⟨_, rfl, rfl, by simp; omega⟩
theorem kind_both (k : Int) (h0 : 1 ≤ k) (h1 : k ≤ 3) : ∃ s, spec_l7Kind k = some s ∧ impl_kindWord k = some s ∧ s.length ≤ 5 := by
  obtain rfl | rfl | rfl : k = 1 ∨ k = 2 ∨ k = 3 := by omega
  · exact ⟨[115, 104, 97, 114, 101], rfl, rfl, by decide⟩
  · exact ⟨[109, 101, 97, 110], rfl, rfl, by decide⟩
  · exact ⟨[119, 104, 111, 108, 101], rfl, rfl, by decide⟩
/-- a metric that is right -/
def MOk (m : Metric) : Prop := m.Name.length ≤ 20 ∧ 1 ≤ m.Kind ∧ m.Kind ≤ 3 ∧ 0 ≤ m.Goal ∧ m.Goal ≤ 1000000000
theorem tx_ok {s : Str} (h : s.length ≤ 1048576) : Tr.Sm (tx s) ∧ Tr.Ok (tx s) := ⟨(tx_gd h).sm, (tx_gd h).ok⟩
theorem nm_ok {n : Int} (h : okI n) : Tr.Sm (nm n) ∧ Tr.Ok (nm n) := ⟨(nm_gd h).sm, (nm_gd h).ok⟩
theorem wt_tx (s : Str) : Tr.wt (tx s) = 48 + 2 * s.length := by simp [tx, Tr.wt, Tr.wts, kl]
theorem wt_nm (n : Int) : Tr.wt (nm n) = 48 := by simp [nm, Tr.wt, Tr.wts, kl]
theorem sz_tx (s : Str) : Tr.size (tx s) = 1 := by simp [tx, Tr.size, Tr.sizes]
theorem sz_nm (n : Int) : Tr.size (nm n) = 1 := by simp [nm, Tr.size, Tr.sizes]
theorem metric_both (m : Metric) (h : MOk m) : Bo (spec_MetricTree m) (impl_MetricTree m) 4 500 := by
  obtain ⟨h1, h2, h3, h4, h5⟩ := h
  obtain ⟨k, k1, k2, k3⟩ := kind_both m.Kind h2 h3
  obtain ⟨a, a1, a2, a3⟩ := amount_both m.Goal h4 h5
  have hm := map_both [[110, 97, 109, 101], [107, 105, 110, 100], [103, 111, 97, 108]] [tx m.Name, tx k, tx a] rfl (by decide) (by decide) (by
    intro x hx
    simp only [List.mem_cons, List.mem_nil_iff, or_false] at hx
    rcases hx with rfl | rfl | rfl
    · exact tx_ok (by omega)
    · exact tx_ok (by omega)
    · exact tx_ok (by omega))
  obtain ⟨t, t1, t2, t3, _⟩ := hm
  simp only [Tr.nos, no_tx] at t1 t2
  refine ⟨t, ?_, ?_, t3.mono (by simp [Tr.sizes, sz_tx]) (by simp [Tr.wts, wt_tx, sumK]; omega)⟩
  · simp only [spec_MetricTree, spec_TextOf, bind_some', k1, a1]; rw [bx t1]
  · simp only [impl_MetricTree, impl_TextOf, bind_some', k2, a2]; rw [bx t2]
theorem pace_both (p : Pace) (h0 : okI p.Up) (h1 : okI p.Down) (h2 : 0 ≤ p.UpSpan) (h3 : p.UpSpan ≤ 1000000) (h4 : 0 ≤ p.DownSpan) (h5 : p.DownSpan ≤ 1000000) : Bo (spec_PaceTree p) (impl_PaceTree p) 5 700 := by
  obtain ⟨a, a1, a2, a3⟩ := span_both p.DownSpan h4 h5
  obtain ⟨b, b1, b2, b3⟩ := span_both p.UpSpan h2 h3
  have hm := map_both [[100, 111, 119, 110], [117, 112], [100, 111, 119, 110, 115, 112, 97, 110], [117, 112, 115, 112, 97, 110]] [nm p.Down, nm p.Up, tx a, tx b] rfl (by decide) (by decide) (by
    intro x hx
    simp only [List.mem_cons, List.mem_nil_iff, or_false] at hx
    rcases hx with rfl | rfl | rfl | rfl
    · exact nm_ok h1
    · exact nm_ok h0
    · exact tx_ok (by omega)
    · exact tx_ok (by omega))
  obtain ⟨t, t1, t2, t3, _⟩ := hm
  simp only [Tr.nos, no_tx, no_nm] at t1 t2
  refine ⟨t, ?_, ?_, t3.mono (by simp [Tr.sizes, sz_tx, sz_nm]) (by simp [Tr.wts, wt_tx, wt_nm, sumK]; omega)⟩
  · simp only [spec_PaceTree, spec_TextOf, spec_IntOf, bind_some', a1, b1]; rw [bx t1]
  · simp only [impl_PaceTree, impl_TextOf, impl_IntOf, bind_some', a2, b2]; rw [bx t2]
theorem head_both (o : Order) (kind : Str) (hk : kind.length ≤ 20) (h1 : o.Name.length ≤ 1048576) (h2 : o.Target.length ≤ 1048576) (h3 : okI o.Low) (h4 : okI o.High) : ∃ w, BoM (spec_l7Head o kind) (impl_commonTree o kind) 5 6 w := by
  have hm := map_both [[107, 105, 110, 100], [110, 97, 109, 101], [116, 97, 114, 103, 101, 116], [108, 111, 119], [104, 105, 103, 104]] [tx kind, tx o.Name, tx o.Target, nm o.Low, nm o.High] rfl (by decide) (by decide) (by
    intro x hx
    simp only [List.mem_cons, List.mem_nil_iff, or_false] at hx
    rcases hx with rfl | rfl | rfl | rfl | rfl
    · exact tx_ok (by omega)
    · exact tx_ok h1
    · exact tx_ok h2
    · exact nm_ok h3
    · exact nm_ok h4)
  obtain ⟨t, t1, t2, t3, t4⟩ := hm
  simp only [Tr.nos, no_tx, no_nm] at t1 t2
  refine ⟨_, t, ?_, ?_, t3.mono (by simp [Tr.sizes, sz_tx, sz_nm]) (Nat.le_refl _), t4⟩
  · simp only [spec_l7Head, spec_TextOf, spec_IntOf, bind_some']; rw [bx t1]
  · simp only [impl_commonTree, impl_TextOf, impl_IntOf, bind_some']; rw [bx t2]
theorem metrics_both (ms : List Metric) (h : ∀ m ∈ ms, MOk m) (hl : ms.length ≤ 1000) : Bo (spec_l7Metrics ms) (impl_metricsTree ms) (1 + 4 * ms.length) (48 + 500 * ms.length) := by
  have key : ∀ i, i ≤ ms.length → ∃ ts : List Tr, ts.length = ms.length - i ∧ (∀ t ∈ ts, Tr.Sm t ∧ Tr.Ok t) ∧ Tr.sizes ts ≤ 4 * (ms.length - i) ∧ Tr.wts ts ≤ 500 * (ms.length - i) ∧ ∀ acc : List Tr, acc.length = i → spec_l7Metrics.l0 ms i (Tr.nos acc) = some (Tr.nos (acc ++ ts)) ∧ impl_metricsTree.l0 ms i (Tr.nos acc) = some (Tr.nos (acc ++ ts)) := by
    refine down _ fun i hi ih => ?_
    by_cases hlt : i < ms.length
    · obtain ⟨ts, e1, e2, e3, e4, e5⟩ := ih hlt
      obtain ⟨t, t1, t2, t3⟩ := metric_both ms[i] (h _ (List.getElem_mem hlt))
      have b1 := t3.sz
      have b2 := t3.wt
      refine ⟨t :: ts, by simp; omega, fun x hx => ?_, by simp only [Tr.sizes]; omega, by simp only [Tr.wts]; omega, fun acc ha => ?_⟩
      · rcases List.mem_cons.1 hx with rfl | hx
        · exact ⟨t3.sm, t3.ok⟩
        · exact e2 x hx
      · obtain ⟨f1, f2⟩ := e5 (acc ++ [t]) (by simp; omega)
        have hA : app 80 (Tr.nos acc) [rN_Node (Tr.no t)] = some (Tr.nos (acc ++ [t])) := by
          rw [app_ok (by simp [Tr.nos_len]; omega), Tr.nos_append, ← Tr.nos_one]
        rw [spec_l7Metrics.l0, impl_metricsTree.l0, if_pos (by simpa using hlt), if_pos (by simpa using hlt), ix_nat, List.getElem?_eq_getElem hlt, bind_some', bind_some', bx t1, bx t2, bx hA, bx hA, w64_nat hlt (by omega), f1, f2]
        simp
    · obtain rfl : i = ms.length := by omega
      refine ⟨[], by simp, by simp, by simp [Tr.sizes], by simp [Tr.wts], fun acc ha => ?_⟩
      rw [spec_l7Metrics.l0, impl_metricsTree.l0, if_neg (by simp), if_neg (by simp)]; simp
  obtain ⟨ts, e1, e2, e3, e4, e5⟩ := key 0 (by omega)
  obtain ⟨f1, f2⟩ := e5 [] rfl
  simp only [Tr.nos, Int.natCast_zero, List.nil_append] at f1 f2
  have hno : Tr.no (.mk 4 0 [] [] ts) = Node.mk 4 0 [] [] (Tr.nos ts) := by rw [Tr.no]
  refine ⟨.mk 4 0 [] [] ts, ?_, ?_, ⟨.mk (by simp [smS]) ⟨by simp, by simp⟩ (by omega) fun t ht => (e2 t ht).1, .mk (by unfold okI; omega) (by unfold okI; omega) (by simp [okS]) ⟨by simp, by simp⟩ (by omega) fun t ht => (e2 t ht).2, by rw [Tr.size]; omega, by rw [Tr.wt]; simp [kl]; omega⟩⟩
  · unfold spec_l7Metrics; rw [bx f1, hno]
  · unfold impl_metricsTree; rw [bx f2, hno]
theorem notes_both (ns : List Note) (h : smL Note.sm ns) (hl : ns.length < 1000000) : ∃ w, BoM (spec_l7Notes ns) (impl_notesTree ns) ns.length (1 + ns.length) w := by
  have key : ∀ i, i ≤ ns.length → ∀ (o : Tr) (n w : Nat), OutT i o → Gd o n w → ∃ (t : Tr) (w' : Nat), Gd t (n + (ns.length - i)) w' ∧ OutT ns.length t ∧
      spec_l7Notes.l0 ns i (Tr.no o).Kind (Tr.no o).N (Tr.no o).S (Tr.no o).Keys (Tr.no o).Kids = some ((Tr.no t).Kind, (Tr.no t).N, (Tr.no t).S, (Tr.no t).Keys, (Tr.no t).Kids) ∧
      impl_notesTree.l0 ns i (Tr.no o).Kind (Tr.no o).N (Tr.no o).S (Tr.no o).Keys (Tr.no o).Kids = some ((Tr.no t).Kind, (Tr.no t).N, (Tr.no t).S, (Tr.no t).Keys, (Tr.no t).Kids) := by
    refine down _ fun i hi ih o n w ho hg => ?_
    by_cases hlt : i < ns.length
    · have hn := h.2 _ (List.getElem_mem hlt)
      have gx := tx_gd (s := ns[i].Text) hn.2
      obtain ⟨g1, g2, g3, _⟩ := set_one ns[i].Key ho (by omega) (sm_bd _ gx.sm)
      have gd := set_gd (key := ns[i].Key) ho (by omega) hg gx hn.1
      obtain ⟨t, w', a1, a2, a3, a4⟩ := ih hlt _ _ _ g3 gd
      rw [no_tx] at g1 g2
      have e : Node.mk (Tr.no o).Kind (Tr.no o).N (Tr.no o).S (Tr.no o).Keys (Tr.no o).Kids = Tr.no o := rfl
      refine ⟨t, w', a1.mono (by omega) (Nat.le_refl _), a2, ?_, ?_⟩
      · rw [spec_l7Notes.l0, if_pos (by simpa using hlt), ix_nat, List.getElem?_eq_getElem hlt, bind_some', bind_some']
        simp only [spec_TextOf, bind_some']
        rw [e, bx g1, w64_nat hlt (by omega), a3]
      · rw [impl_notesTree.l0, if_pos (by simpa using hlt), ix_nat, List.getElem?_eq_getElem hlt, bind_some']
        simp only [impl_TextOf, bind_some']
        rw [e, bx g2, w64_nat hlt (by omega), a4]
    · obtain rfl : i = ns.length := by omega
      refine ⟨o, w, hg.mono (by omega) (Nat.le_refl _), ho, ?_, ?_⟩
      · rw [spec_l7Notes.l0, if_neg (by simp)]
      · rw [impl_notesTree.l0, if_neg (by simp)]
  obtain ⟨t, w, a1, a2, a3, a4⟩ := key 0 (by omega) m0 1 48 m0_out m0_gd
  simp only [Int.natCast_zero, no_m0] at a3 a4
  refine ⟨w, t, ?_, ?_, a1.mono (by omega) (Nat.le_refl _), a2⟩
  · unfold spec_l7Notes; rw [bx a3]
  · unfold impl_notesTree; rw [bx a4]
theorem braced_text {t : Tr} {n w : Nat} (g : Gd t n w) (hn : n ≤ 2000000) : ∃ s, spec_Braced (Tr.no t) = some s ∧ impl_Braced (Tr.no t) = some s ∧ s.length ≤ w := by
  obtain ⟨r, r1, r2, _⟩ := both_braced t g.sm g.ok (Nat.le_trans g.sz hn)
  refine ⟨r, r1, r2, ?_⟩
  unfold spec_Braced at r1
  obtain ⟨x, _, r1⟩ := bnd r1
  split at r1
  · simp only [Option.some.injEq] at r1; subst r1; simp
  · obtain ⟨y, hy, r1⟩ := bnd r1
    simp only [Option.some.injEq] at r1; subst r1
    unfold spec_l4Text at hy
    obtain ⟨k, hk⟩ := Nt.lim_ex hy
    have := text_len t g.ok g.sm k _ (hk k (Nat.le_refl k))
    have := g.wt
    omega
theorem share_both (ms : List Metric) (hl : ms.length ≤ 1000) (h : ∀ m ∈ ms, MOk m) : ∃ (n : Int) (b : Bool), spec_ShareOf ms = some (n, b) ∧ impl_ShareOf ms = some (n, b) ∧ okI n := by
  have key : ∀ i, i ≤ ms.length → (spec_ShareOf.l0 ms i = some (.inr ()) ∧ impl_ShareOf.l0 ms i = some (.inr ())) ∨ ∃ n, spec_ShareOf.l0 ms i = some (.inl (n, true)) ∧ impl_ShareOf.l0 ms i = some (.inl (n, true)) ∧ okI n := by
    refine down _ fun i hi ih => ?_
    rw [spec_ShareOf.l0, impl_ShareOf.l0]
    by_cases hlt : i < ms.length
    · rw [if_pos (by simpa using hlt), if_pos (by simpa using hlt), ix_nat, List.getElem?_eq_getElem hlt, bind_some', bind_some', w64_nat hlt (by omega)]
      have hm := h _ (List.getElem_mem hlt)
      by_cases c1 : (ms[i].Name == [99, 112, 117]) = true
      · rw [if_pos c1, if_pos c1]
        by_cases c2 : (ms[i].Kind == 1) = true
        · rw [if_pos c2, if_pos c2]
          by_cases c3 : (Int.tmod ms[i].Goal 10 == 0) = true
          · rw [if_pos c3, if_pos c3, in_some, from_some, bind_some', bind_some']
            split
            · refine .inr ⟨_, rfl, rfl, ?_⟩
              obtain ⟨_, _, _, g0, g1⟩ := hm
              rw [Int.tdiv_eq_ediv_of_nonneg g0, w64_id (by omega) (by omega)]; unfold okI; omega
            · exact ih hlt
          · rw [if_neg c3, if_neg c3]; exact ih hlt
        · rw [if_neg c2, if_neg c2]; exact ih hlt
      · rw [if_neg c1, if_neg c1]; exact ih hlt
    · rw [if_neg (by simpa using hlt), if_neg (by simpa using hlt)]; exact .inl ⟨rfl, rfl⟩
  unfold spec_ShareOf impl_ShareOf
  rcases key 0 (by omega) with ⟨a, b⟩ | ⟨n, a, b, c⟩
  · simp only [Int.natCast_zero] at a b
    rw [bx a, bx b]; exact ⟨0, false, rfl, rfl, by unfold okI; omega⟩
  · simp only [Int.natCast_zero] at a b
    rw [bx a, bx b]; exact ⟨n, true, rfl, rfl, c⟩
def cpu (m : Metric) : Bool := m.Name == [99, 112, 117]
def noCpu (l : List Metric) : List Metric := l.filter fun m => !cpu m
theorem others_some (ms : List Metric) (hl : ms.length ≤ 1000) (n : Int) (b : Bool) (hs : spec_ShareOf ms = some (n, b)) : spec_l9Others ms = some (if b then noCpu ms else ms) := by
  have key : ∀ i, i ≤ ms.length → ∀ acc : List Metric, acc.length ≤ i → spec_l9Others.l0 ms (n, b) i acc = some (acc ++ if b then noCpu (ms.drop i) else ms.drop i) := by
    refine down _ fun i hi ih acc ha => ?_
    rw [spec_l9Others.l0]
    by_cases hlt : i < ms.length
    · rw [if_pos (by simpa using hlt), w64_nat hlt (by omega)]
      have hd := List.drop_eq_getElem_cons hlt
      cases b with
      | false =>
        rw [if_pos (by simp), ix_nat, List.getElem?_eq_getElem hlt, bind_some', bx (app_ok (by simp; omega)), ih hlt _ (by simp; omega)]
        rw [hd]; simp only [Bool.false_eq_true, if_false, List.append_assoc, List.cons_append, List.nil_append]
      | true =>
        rw [if_neg (by simp), ix_nat, List.getElem?_eq_getElem hlt, bind_some']
        by_cases c : (ms[i].Name == [99, 112, 117]) = true
        · rw [if_neg (by simp [c]), ih hlt acc (by omega)]
          rw [hd]; simp only [if_true, noCpu, List.filter_cons, cpu, c, Bool.not_true, Bool.false_eq_true, if_false]
        · rw [if_pos (by simpa using c), bind_some', bx (app_ok (by simp; omega)), ih hlt _ (by simp; omega)]
          have c' : (ms[i].Name == [99, 112, 117]) = false := by simpa using c
          rw [hd]; simp only [if_true, noCpu, List.filter_cons, cpu, c', Bool.not_false, List.append_assoc, List.cons_append, List.nil_append]
    · obtain rfl : i = ms.length := by omega
      rw [if_neg (by simp)]; simp [noCpu]
  have := key 0 (by omega) [] (by simp)
  simp only [Int.natCast_zero, List.drop_zero, List.nil_append] at this
  unfold spec_l9Others
  rw [bx hs, bx this]
theorem idxC_some (l : List Metric) (hl : l.length ≤ 1000) : slices_IndexFunc_Simpl_Metric_impl_Metric_impl_PlainTree_1 l = some (match l.findIdx? cpu with | some i => (i : Int) | none => -1, l) := by
  have key : ∀ i, i ≤ l.length → slices_IndexFunc_Simpl_Metric_impl_Metric_impl_PlainTree_1.l0 l i = some (match fd cpu l i with | some k => .inl ((k : Int), l) | none => .inr ()) := by
    refine down _ fun i hi ih => ?_
    rw [slices_IndexFunc_Simpl_Metric_impl_Metric_impl_PlainTree_1.l0]
    by_cases hlt : i < l.length
    · have c : decide ((i : Int) < (l.length : Int)) = true := by simpa using hlt
      have hd := fd_step (p := cpu) hlt
      simp only [c, if_true, ix_nat, List.getElem?_eq_getElem hlt, bind_some', impl_PlainTree_1, w64_succ (show i < 9223372036854775807 by omega)]
      by_cases hn : ((l[i].Name == [99, 112, 117])) = true
      · rw [if_pos (show cpu l[i] = true from hn)] at hd
        rw [if_pos hn, hd]
      · rw [if_neg (show ¬ cpu l[i] = true from hn)] at hd
        rw [if_neg hn, hd]; exact ih hlt
    · rw [if_neg (by simpa using hlt), fd_end (by omega)]
  have := key 0 (by omega)
  simp only [Int.natCast_zero, fd_zero] at this
  simp only [slices_IndexFunc_Simpl_Metric_impl_Metric_impl_PlainTree_1, this, bind_some']
  cases l.findIdx? cpu <;> rfl
theorem delC_some (l : List Metric) (hl : l.length ≤ 1000) : slices_DeleteFunc_Simpl_Metric_impl_Metric_impl_PlainTree_1 l = some (noCpu l) := by
  simp only [slices_DeleteFunc_Simpl_Metric_impl_Metric_impl_PlainTree_1, idxC_some l hl, bind_some']
  cases hf : l.findIdx? cpu with
  | none =>
    have h0 : noCpu l = l := by
      unfold noCpu
      rw [List.filter_eq_self]
      intro y hy
      have := List.findIdx?_eq_none_iff.1 hf y hy
      simp [this]
    simp only [h0]
    rfl
  | some i0 =>
    obtain ⟨hi0, hp, hbefore⟩ := List.findIdx?_eq_some_iff_getElem.1 hf
    have c : ((i0 : Int) == -1) = false := by simp
    simp only [c, Bool.false_eq_true, if_false, w64_succ (show i0 < 9223372036854775807 by omega)]
    have key : ∀ j, j ≤ l.length → ∀ (i : Nat) (v : List Metric), v.length = l.length → i < j → v.take i = noCpu (l.take j) → v.drop j = l.drop j → ∃ (i' : Nat) (v' : List Metric), v'.length = l.length ∧ i' ≤ l.length ∧ v'.take i' = noCpu l ∧
        slices_DeleteFunc_Simpl_Metric_impl_Metric_impl_PlainTree_1.l0 i j v = some ((i' : Int), v') := by
      refine down _ fun j hj ih => ?_
      intro i v hv hij h1 h2
      rw [slices_DeleteFunc_Simpl_Metric_impl_Metric_impl_PlainTree_1.l0]
      by_cases hlt : j < l.length
      · have c : decide ((j : Int) < (v.length : Int)) = true := by rw [hv]; simpa using hlt
        have hjv : j < v.length := by omega
        have hiv : i < v.length := by omega
        have e1 : v[j] = l[j] := by
          have := congrArg (·[0]?) h2
          simp only [List.getElem?_drop, Nat.add_zero, List.getElem?_eq_getElem hjv, List.getElem?_eq_getElem hlt] at this
          exact Option.some.inj this
        have e2 : l.take (j + 1) = l.take j ++ [l[j]] := (take_app hlt).symm
        simp only [c, if_true, ix_nat, List.getElem?_eq_getElem hjv, List.getElem?_eq_getElem hiv, bind_some', impl_PlainTree_1, e1, w64_succ (show j < 9223372036854775807 by omega), w64_succ (show i < 9223372036854775807 by omega), put_nat hiv]
        cases hn : (l[j].Name == [99, 112, 117])
        · simp only [Bool.not_false, if_true]
          refine ih hlt (i + 1) (v.set i l[j]) (by simpa using hv) (by omega) ?_ ?_
          · rw [List.take_set, List.take_add_one, List.getElem?_eq_getElem hiv, List.set_append_right _ _ (by simp; omega)]
            rw [e2]
            unfold noCpu at h1 ⊢
            have e5 : List.filter (fun y => !(cpu y)) [l[j]] = [l[j]] := by simp [cpu, hn]
            rw [List.filter_append, ← h1, e5]
            have e6 : i - (List.take i v).length = 0 := by simp; omega
            rw [e6]; rfl
          · rw [List.drop_set_of_lt (by omega)]
            have := congrArg (List.drop 1) h2
            simpa [List.drop_drop] using this
        · simp only [Bool.not_true, Bool.false_eq_true, if_false]
          refine ih hlt i v hv (by omega) ?_ ?_
          · rw [e2, h1]
            unfold noCpu
            rw [List.filter_append]
            simp [cpu, hn]
          · have := congrArg (List.drop 1) h2
            simpa [List.drop_drop] using this
      · have c : decide ((j : Int) < (v.length : Int)) = false := by rw [hv]; simpa using hlt
        simp only [c, Bool.false_eq_true, if_false]
        refine ⟨i, v, hv, by omega, ?_, rfl⟩
        rw [h1, List.take_of_length_le (by omega)]
    have hstart : l.take i0 = noCpu (l.take (i0 + 1)) := by
      rw [← take_app hi0]
      unfold noCpu
      rw [List.filter_append]
      have a1 : (l.take i0).filter (fun y => !(cpu y)) = l.take i0 := by
        rw [List.filter_eq_self]
        intro y hy
        obtain ⟨k, hk, rfl⟩ := List.mem_iff_getElem.1 hy
        simp only [List.length_take] at hk
        have := hbefore k (by omega)
        rw [List.getElem_take]
        simp [this]
      rw [a1]
      simp [hp]
    obtain ⟨i', v', g1, g2, g3, g4⟩ := key (i0 + 1) (by omega) i0 l rfl (by omega) hstart rfl
    rw [g4]
    simp only [bind_some']
    have s1 : slc v' (i' : Int) (v'.length : Int) = some (v'.drop i') := by
      simp only [slc]; rw [if_pos ⟨by omega, by omega, by omega⟩]; simp [cut]
    rw [s1]
    simp only [bind_some']
    have hlen : (Nt.clr v' (i' : Int) (v'.length : Int) (Metric.mk [] 0 0)).length = l.length := by
      simp [Nt.clr]; omega
    have s2 : slc (Nt.clr v' (i' : Int) (v'.length : Int) (Metric.mk [] 0 0)) 0 (i' : Int) = some (noCpu l) := by
      rw [slc_take _ _ (by omega), ← g3]
      simp only [Nt.clr, Int.toNat_natCast]
      rw [List.append_assoc, List.take_append_of_le_length (by simp; omega), List.take_take, Nat.min_self]
    rw [s2]; rfl
/-- an order that is right -/
structure OOk (o : Order) : Prop where
  nm : o.Name.length ≤ 20
  tg : o.Target.length ≤ 20
  lo : okI o.Low
  hi : okI o.High
  ms : ∀ m ∈ o.Metrics, MOk m
  ml : o.Metrics.length ≤ 4
  pu : okI o.Pace.Up
  pd : okI o.Pace.Down
  us : 0 ≤ o.Pace.UpSpan ∧ o.Pace.UpSpan ≤ 1000000
  ds : 0 ≤ o.Pace.DownSpan ∧ o.Pace.DownSpan ≤ 1000000
  ns : smL Note.sm o.Notes
  nl : o.Notes.length < 999000
theorem setB {t x : Tr} {c n w n' w' : Nat} (g : Gd t n w) (o : OutT c t) (hc : c < 1000000) (gx : Gd x n' w') (key : Str) (hk : key.length ≤ 1048576) : ∃ u w2, spec_Set (Tr.no t) key (Tr.no x) = some (Tr.no u) ∧ impl_Set (Tr.no t) key (Tr.no x) = some (Tr.no u) ∧ Gd u (n + n') w2 ∧ OutT (c + 1) u := by
  obtain ⟨g1, g2, g3, _⟩ := set_one key o (by omega) (sm_bd x gx.sm)
  exact ⟨_, _, g1, g2, set_gd o (by omega) g gx hk, g3⟩
theorem saved_both (o : Order) (h : OOk o) : ∃ t w, spec_l8Saved o = some (Tr.no t) ∧ impl_pacedNotes o = some (Tr.no t) ∧ Gd t (2 + o.Notes.length) w ∧ OutT (o.Notes.length + 1) t := by
  obtain ⟨w, t, t1, t2, t3, t4⟩ := notes_both o.Notes h.ns (by have := h.nl; omega)
  unfold spec_l8Saved impl_pacedNotes spec_PaceNew impl_PaceNew
  rw [bx t1, bx t2, bind_some', bind_some']
  split
  · obtain ⟨p, p1, p2, p3⟩ := pace_both o.Pace h.pu h.pd h.us.1 h.us.2 h.ds.1 h.ds.2
    obtain ⟨s, s1, s2, s3⟩ := braced_text p3 (by omega)
    rw [bx p1, bx p2, bx s1, bx s2]
    unfold spec_TextOf impl_TextOf
    rw [bind_some', bind_some', ← no_tx]
    obtain ⟨u, w2, u1, u2, u3, u4⟩ := setB t3 t4 (by have := h.nl; omega) (tx_gd (s := s) (by omega)) [113, 117, 97, 121, 47, 112, 97, 99, 101] (by decide)
    rw [bx u1, bx u2]
    exact ⟨u, w2, rfl, rfl, u3.mono (by omega) (Nat.le_refl _), u4⟩
  · obtain ⟨n, s, ks, kids, rfl, e1, e2, e3⟩ := t4
    exact ⟨_, w, rfl, rfl, t3.mono (by omega) (Nat.le_refl _), n, s, ks, kids, rfl, e1, by omega, e3⟩
theorem full_both (o : Order) (h : OOk o) (b1 : spec_OrderOk o = some true) (b2 : impl_OrderOk o = some true) : ∃ t w, spec_FullTree o = some (Tr.no t) ∧ impl_FullTree o = some (Tr.no t) ∧ Gd t 1500000 w := by
  have hl := h.ml; have hn := h.nl
  obtain ⟨w, t, t1, t2, t3, t4⟩ := head_both o [102, 117, 108, 108] (by decide) (by have := h.nm; omega) (by have := h.tg; omega) h.lo h.hi
  obtain ⟨m, m1, m2, m3⟩ := metrics_both o.Metrics h.ms (by omega)
  obtain ⟨p, p1, p2, p3⟩ := pace_both o.Pace h.pu h.pd h.us.1 h.us.2 h.ds.1 h.ds.2
  obtain ⟨wn, s, s1, s2, s3, s4⟩ := notes_both o.Notes h.ns (by omega)
  obtain ⟨u, w2, u1, u2, u3, u4⟩ := setB t3 t4 (by omega) m3 [109, 101, 116, 114, 105, 99, 115] (by decide)
  obtain ⟨v, w3, v1, v2, v3, v4⟩ := setB u3 u4 (by omega) p3 [112, 97, 99, 101] (by decide)
  obtain ⟨x, w4, x1, x2, x3, x4⟩ := setB v3 v4 (by omega) s3 [110, 111, 116, 101, 115] (by decide)
  refine ⟨x, w4, ?_, ?_, x3.mono (by omega) (Nat.le_refl _)⟩
  · unfold spec_FullTree
    rw [bx b1, if_neg (by decide), bx t1, bx m1, bx u1, bx p1, bx v1, bx s1, bx x1]
  · unfold impl_FullTree
    rw [bx b2, if_neg (by decide), bx t2, bx m2, bx u2, bx p2, bx v2, bx s2, bx x2]
theorem mid_both (o : Order) (h : OOk o) (b1 : spec_OrderOk o = some true) (b2 : impl_OrderOk o = some true) : ∃ t w, spec_MidTree o = some (Tr.no t) ∧ impl_MidTree o = some (Tr.no t) ∧ Gd t 1500000 w := by
  have hl := h.ml; have hn := h.nl
  obtain ⟨w, t, t1, t2, t3, t4⟩ := head_both o [109, 105, 100, 100, 108, 101] (by decide) (by have := h.nm; omega) (by have := h.tg; omega) h.lo h.hi
  obtain ⟨m, m1, m2, m3⟩ := metrics_both o.Metrics h.ms (by omega)
  obtain ⟨s, ws, s1, s2, s3, s4⟩ := saved_both o h
  obtain ⟨u, w2, u1, u2, u3, u4⟩ := setB t3 t4 (by omega) m3 [109, 101, 116, 114, 105, 99, 115] (by decide)
  obtain ⟨x, w4, x1, x2, x3, x4⟩ := setB u3 u4 (by omega) s3 [110, 111, 116, 101, 115] (by decide)
  refine ⟨x, w4, ?_, ?_, x3.mono (by omega) (Nat.le_refl _)⟩
  · unfold spec_MidTree
    rw [bx b1, if_neg (by decide), bx t1, bx m1, bx u1, bx s1, bx x1]
  · unfold impl_MidTree
    rw [bx b2, if_neg (by decide), bx t2, bx m2, bx u2, bx s2, bx x2]
/-- the rest of a plain order, from its others on -/
theorem plain_end (ms : List Metric) (hm : ∀ m ∈ ms, MOk m) (hl : ms.length ≤ 4) {t s : Tr} {c n w k n' w' : Nat} (t3 : Gd t n w) (t4 : OutT c t) (hc : c ≤ 100) (s3 : Gd s n' w') (s4 : OutT k s) (hk : k < 999998) (hz : n + n' + 10 ≤ 1500000) : ∃ u w2,
    (if (decide ((ms.length : Int) > 0)) = true then (spec_l7Metrics ms >>= fun x9 => (spec_Braced x9 >>= fun x10 => (spec_TextOf x10 >>= fun x11 => (spec_Set (Tr.no s) [113, 117, 97, 121, 47, 109, 101, 116, 114, 105, 99, 115] x11 >>= fun x12 => (spec_Set (Tr.no t) [110, 111, 116, 101, 115] x12 >>= fun x13 => some x13))))) else (spec_Set (Tr.no t) [110, 111, 116, 101, 115] (Tr.no s) >>= fun x14 => some x14)) = some (Tr.no u) ∧
    (if (decide ((ms.length : Int) > 0)) = true then (impl_metricsTree ms >>= fun x9 => (impl_Braced x9 >>= fun x10 => (impl_TextOf x10 >>= fun x11 => (impl_Set (Tr.no s) [113, 117, 97, 121, 47, 109, 101, 116, 114, 105, 99, 115] x11 >>= fun x12 => (impl_Set (Tr.no t) [110, 111, 116, 101, 115] x12 >>= fun x13 => some x13))))) else (impl_Set (Tr.no t) [110, 111, 116, 101, 115] (Tr.no s) >>= fun x14 => some x14)) = some (Tr.no u) ∧ Gd u 1500000 w2 := by
  split
  · obtain ⟨m, m1, m2, m3⟩ := metrics_both ms hm (by omega)
    obtain ⟨r, r1, r2, r3⟩ := braced_text m3 (by omega)
    rw [bx m1, bx m2, bx r1, bx r2]
    unfold spec_TextOf impl_TextOf
    rw [bind_some', bind_some', ← no_tx]
    obtain ⟨u, w2, u1, u2, u3, u4⟩ := setB s3 s4 (by omega) (tx_gd (s := r) (by omega)) [113, 117, 97, 121, 47, 109, 101, 116, 114, 105, 99, 115] (by decide)
    obtain ⟨x, w4, x1, x2, x3, x4⟩ := setB t3 t4 (by omega) u3 [110, 111, 116, 101, 115] (by decide)
    rw [bx u1, bx u2, bx x1, bx x2]
    exact ⟨x, w4, rfl, rfl, x3.mono (by omega) (Nat.le_refl _)⟩
  · obtain ⟨x, w4, x1, x2, x3, x4⟩ := setB t3 t4 (by omega) s3 [110, 111, 116, 101, 115] (by decide)
    rw [bx x1, bx x2]
    exact ⟨x, w4, rfl, rfl, x3.mono (by omega) (Nat.le_refl _)⟩
theorem plain_both (o : Order) (h : OOk o) (b1 : spec_OrderOk o = some true) (b2 : impl_OrderOk o = some true) : ∃ t w, spec_PlainTree o = some (Tr.no t) ∧ impl_PlainTree o = some (Tr.no t) ∧ Gd t 1500000 w := by
  have hl := h.ml; have hn := h.nl
  obtain ⟨w, t, t1, t2, t3, t4⟩ := head_both o [112, 108, 97, 105, 110] (by decide) (by have := h.nm; omega) (by have := h.tg; omega) h.lo h.hi
  obtain ⟨s, ws, s1, s2, s3, s4⟩ := saved_both o h
  obtain ⟨n, b, n1, n2, n3⟩ := share_both o.Metrics (by omega) h.ms
  have ho := others_some o.Metrics (by omega) n b n1
  have hc : slices_Clone_Simpl_Metric_impl_Metric o.Metrics = some o.Metrics := by unfold slices_Clone_Simpl_Metric_impl_Metric; exact clone_ok' (by omega)
  unfold spec_PlainTree impl_PlainTree
  rw [bx b1, bx b2, if_neg (by decide), if_neg (by decide), bx t1, bx t2, bx s1, bx s2, bx n1, bx hc, bx n2]
  cases b with
  | true =>
    rw [if_pos rfl] at ho
    rw [if_pos rfl, if_pos rfl]
    unfold spec_IntOf impl_IntOf
    rw [bind_some', bind_some', ← no_nm]
    obtain ⟨v, w3, v1, v2, v3, v4⟩ := setB t3 t4 (by omega) (nm_gd n3) [115, 104, 97, 114, 101] (by decide)
    rw [bx v1, bx v2, bx ho, bx (delC_some o.Metrics (by omega))]
    have hf : (noCpu o.Metrics).length ≤ o.Metrics.length := List.length_filter_le _ _
    exact plain_end (noCpu o.Metrics) (fun m hm => h.ms m ((List.mem_filter.1 hm).1)) (by omega) v3 v4 (by omega) s3 s4 (by omega) (by omega)
  | false =>
    rw [if_neg (by simp)] at ho
    rw [if_neg (by simp), if_neg (by simp), bx ho]
    exact plain_end o.Metrics h.ms hl t3 t4 (by omega) s3 s4 (by omega) (by omega)
theorem said_both (f : Int) {t : Tr} {w : Nat} (g : Gd t 1500000 w) : ∃ s, spec_Said f (Tr.no t) = some s ∧ impl_Said f (Tr.no t) = some s := by
  have hz : Tr.size t ≤ 2000000 := by have := g.sz; omega
  unfold spec_Said impl_Said
  split
  · obtain ⟨r, r1, r2, _⟩ := both_braced t g.sm g.ok hz
    rw [bx r1, bx r2]; exact ⟨r, rfl, rfl⟩
  · split
    · obtain ⟨r, r1, r2⟩ := both_indented t g.sm g.ok hz
      rw [bx r1, bx r2]; exact ⟨r, rfl, rfl⟩
    · exact ⟨[], rfl, rfl⟩
theorem nameOk_len (s : Str) (h : impl_NameOk s = some true) : s.length ≤ 20 := by
  unfold impl_NameOk at h
  obtain ⟨x, hx, h⟩ := bnd h
  cases x with
  | inl r =>
    have key := impl_NameOk.l0.partial_correctness s (fun v out => ∀ r, out = .inl r → r = false) (by
      intro l0 IH v out h r hr
      subst hr
      repeat' (first | (obtain ⟨_, _, h⟩ := bnd h) | split at h)
      all_goals first
        | exact IH _ _ h _ rfl
        | (simp only [Option.some.injEq, Sum.inl.injEq, reduceCtorEq] at h; try exact h.symm)) 0 _ hx r rfl
    subst key
    simp at h
  | inr t =>
    simp only [from_some, bind_some', Option.some.injEq, Bool.and_eq_true, decide_eq_true_eq] at h
    omega
theorem order_ok (o : Order) (ho : Order.ok o) (hs : Order.sm o) (h : impl_OrderOk o = some true) : OOk o := by
  obtain ⟨h1, h2, h3, h4, h5, h6, h7, h8, h9⟩ := orderOk_true o hs h
  obtain ⟨p1, p2, p3, p4, p5, p6, p7, p8⟩ := paceOk_true o.Pace h8
  have hms := (metrics_up o hs.2.2.1 h5).1
  refine ⟨nameOk_len _ h6, nameOk_len _ h7, by unfold okI; omega, by unfold okI; omega, fun m hm => ?_, h4, by unfold okI; omega, by unfold okI; omega, ⟨p5, by omega⟩, ⟨p7, by omega⟩, hs.2.2.2, ?_⟩
  · obtain ⟨i, hi, rfl⟩ := List.mem_iff_getElem.1 hm
    have hk := hms i hi
    obtain ⟨g1, g2, g3, g4⟩ := metricOk_goal _ hk
    exact ⟨nameOk_len _ (metricOk_name _ (hs.2.2.1.2 _ hm) hk), g1, g2, by omega, by omega⟩
  · unfold impl_notesOk at h9
    obtain ⟨x, hx, h9⟩ := bnd h9
    cases x with
    | inl r =>
      have key := impl_notesOk.l0.partial_correctness o.Notes (fun v out => ∀ r, out = .inl r → r = false) (by
        intro l0 IH v out h r hr
        subst hr
        repeat' (first | (obtain ⟨_, _, h⟩ := bnd h) | split at h)
        all_goals first
          | exact IH _ _ h _ rfl
          | (simp only [Option.some.injEq, Sum.inl.injEq, reduceCtorEq] at h; try exact h.symm)) 0 _ hx r rfl
      subst key
      simp at h9
    | inr t =>
      simp only [Option.some.injEq, decide_eq_true_eq] at h9
      omega
theorem saidOrder_same (f sh : Int) (o : Order) (h : Order.ok o) (hsm : Order.sm o) : ∃ s, spec_SaidOrder f sh o = some s ∧ impl_SaidOrder f sh o = some s := by
  obtain ⟨b, b1, b2⟩ := orderOk_same o hsm
  unfold spec_SaidOrder impl_SaidOrder
  rw [bx b1, bx b2]
  cases b with
  | false => exact ⟨[], rfl, rfl⟩
  | true =>
    rw [if_neg (by simp), if_neg (by simp), in_some, from_some, bind_some', bind_some']
    split
    · exact ⟨[], rfl, rfl⟩
    · rename_i hsh
      have hok := order_ok o h hsm b2
      have tr : ∃ t w, spec_Shape o sh = some (Tr.no t) ∧ impl_Shape o sh = some (Tr.no t) ∧ Gd t 1500000 w := by
        unfold spec_Shape impl_Shape
        split
        · obtain ⟨t, w, t1, t2, t3⟩ := full_both o hok b1 b2
          rw [bx t1, bx t2]; exact ⟨t, w, rfl, rfl, t3⟩
        · split
          · obtain ⟨t, w, t1, t2, t3⟩ := mid_both o hok b1 b2
            rw [bx t1, bx t2]; exact ⟨t, w, rfl, rfl, t3⟩
          · split
            · obtain ⟨t, w, t1, t2, t3⟩ := plain_both o hok b1 b2
              rw [bx t1, bx t2]; exact ⟨t, w, rfl, rfl, t3⟩
            · rename_i a0 a1 a2
              simp only [Bool.not_eq_true, Bool.not_eq_false', Bool.and_eq_true, decide_eq_true_eq, beq_eq_false_iff_ne, ne_eq] at hsh a0 a1 a2
              omega
      obtain ⟨t, w, t1, t2, t3⟩ := tr
      obtain ⟨s, s1, s2⟩ := said_both f t3
      rw [bx t1, bx t2, bx s1, bx s2]
      exact ⟨s, rfl, rfl⟩
theorem eqAnswer_self (a : Answer) : laws_eqAnswer a a = some true := by
  simp only [laws_eqAnswer, bne_self_eq_false, beq_self_eq_true, Bool.not_true, Bool.false_eq_true, if_false]
theorem find_ok (s : Store) (n : Str) (hk : Store.ok s) (h : Store.sm s) : ∃ r, spec_Find s n = some r ∧ impl_Find s n = some r ∧ (r.2 = true → Order.ok r.1.Order ∧ Order.sm r.1.Order) := by
  have hl : s.Items.length ≤ 1048576 := h.1
  simp only [spec_Find, impl_Find, l13At_some s n hl, placeOf_some _ n hl, bind_some']
  rcases pos_some (l := s.Items) (n := n) with ⟨i, e, hi, _⟩ | ⟨e, _⟩
  · rw [e]
    have c : decide ((i : Int) < 0) = false := by simp
    simp only [c, Bool.false_eq_true, if_false, ix_nat, List.getElem?_eq_getElem hi, bind_some', copyItem_some _ (h.2 _ (List.getElem_mem hi)), l6Copy_some _ (h.2 _ (List.getElem_mem hi))]
    exact ⟨_, rfl, rfl, fun _ => ⟨(hk.1.2 _ (List.getElem_mem hi)).1, h.2 _ (List.getElem_mem hi)⟩⟩
  · rw [e]
    exact ⟨_, rfl, rfl, fun h => nomatch h⟩
theorem Pure.FnExactFetch (s : Store) (f : Int) (sh : Int) (n : Str) (hs : Store.ok s) (hf : okI f) (hsh : okI sh) (hn : okS n) : laws_FnExactFetch s f sh n = some true := by
  unfold laws_FnExactFetch
  split
  · rfl
  · obtain ⟨r, e, _, hr⟩ := szStore_sp s _ hs (by omega : (0 : Int) ≤ 1048576) (by omega)
    rw [bx e]
    rcases hr with hr | hr
    · rw [if_pos (by simpa using hr)]
    · split
      · rfl
      · have main : ∃ a, spec_Fetch s f sh n = some a ∧ impl_Fetch s f sh n = some a := by
          obtain ⟨x, x1, x2, x3⟩ := find_ok s n hs hr
          obtain ⟨b, b1, b2⟩ := storeOk_same s hr
          unfold spec_Fetch impl_Fetch
          rw [bx x1, bx x2, bx b1, bx b2]
          obtain ⟨x, c⟩ := x
          cases c with
          | false => cases b <;> exact ⟨_, rfl, rfl⟩
          | true =>
            cases b with
            | false => exact ⟨_, rfl, rfl⟩
            | true =>
              obtain ⟨k, m⟩ := x3 rfl
              obtain ⟨t, t1, t2⟩ := saidOrder_same f sh x.Order k m
              have t1' : spec_SaidOrder f sh (Order.mk x.Order.Name x.Order.Target x.Order.Low x.Order.High x.Order.Metrics (Pace.mk x.Order.Pace.Up x.Order.Pace.Down x.Order.Pace.UpSpan x.Order.Pace.DownSpan) x.Order.Notes) = some t := t1
              have t2' : impl_SaidOrder f sh (Order.mk x.Order.Name x.Order.Target x.Order.Low x.Order.High x.Order.Metrics (Pace.mk x.Order.Pace.Up x.Order.Pace.Down x.Order.Pace.UpSpan x.Order.Pace.DownSpan) x.Order.Notes) = some t := t2
              simp only [Bool.not_true, Bool.false_eq_true, if_false]
              rw [bx t1', bx t2']
              split <;> exact ⟨_, rfl, rfl⟩
        obtain ⟨a, a1, a2⟩ := main
        rw [bx (toStore_some s hr), bx a1, bx (toStore_some s hr), bx a2, bx (eqAnswer_self a), if_neg (by simp), bx (toStore_some s hr), bx (eqStore_self s hr)]
        rfl
end Go.Pu
