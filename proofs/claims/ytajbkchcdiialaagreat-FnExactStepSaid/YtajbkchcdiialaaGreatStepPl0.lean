import Derived.Test.YtajbkchcdiialaaGreatStepPu
set_option linter.unusedVariables false
set_option linter.unusedSimpArgs false
set_option synthInstance.maxSize 1000000000
namespace Go.Pu
open Go.Nt
theorem w64_id {n : Int} (h0 : -9223372036854775808 ≤ n) (h1 : n ≤ 9223372036854775807) : IntKind.i64.wrap n = n := by
  simp only [IntKind.wrap, IntKind.bits, IntKind.signed, Bool.true_and]
  split
  · rename_i h; simp at h; omega
  · rename_i h; simp at h; omega
theorem w64_succ {i : Nat} (h : i < 9223372036854775807) : IntKind.i64.wrap ((i : Int) + 1) = ((i + 1 : Nat) : Int) := by
  rw [w64_id (by omega) (by omega)]; omega
theorem ix_nat {α : Type} (l : List α) (i : Nat) : ix l (i : Int) = l[i]? := by simp [ix]
theorem put_nat {α : Type} {l : List α} {i : Nat} {x : α} (h : i < l.length) : Nt.put l (i : Int) x = some (l.set i x) := by simp [Nt.put, h]
theorem app_ok {α : Type} {b : Nat} {l m : List α} (h : (l.length + m.length) * b ≤ 70368744177664) : app b l m = some (l ++ m) := by
  simp only [app]; rw [if_pos h]
theorem mk_ok {α : Type} {b n : Nat} {x : α} (h : b * n ≤ 140737488355328) : Nt.mk b (n : Int) x = some (List.replicate n x) := by
  simp only [Nt.mk]; rw [if_pos ⟨by omega, by exact_mod_cast h⟩]; simp
/-- down from the end -/
theorem down {P : Nat → Prop} (n : Nat) (h : ∀ i, i ≤ n → (i < n → P (i + 1)) → P i) : ∀ i, i ≤ n → P i := by
  intro i hi
  obtain ⟨k, hk⟩ : ∃ k, k = n - i := ⟨_, rfl⟩
  induction k generalizing i with
  | zero => exact h i hi fun hlt => by omega
  | succ k ih => exact h i hi fun hlt => ih (i + 1) hlt (by omega)
theorem bind_some' {α β : Type} (x : α) (f : α → Option β) : (some x >>= f) = f x := rfl
theorem set_step {α : Type} {a v : List α} {i : Nat} (h : i < a.length) (hv : i < v.length) : some ((v.set i a[i]).take (i + 1) ++ a.drop (i + 1)) = some (v.take i ++ a.drop i) := by
  rw [List.take_set, List.take_add_one, List.getElem?_eq_getElem hv, List.set_append_right _ _ (by simp; omega), List.drop_eq_getElem_cons h]
  have : i - min i v.length = 0 := by omega
  simp [this]
def smL {α : Type} (p : α → Prop) (l : List α) : Prop := l.length ≤ 1048576 ∧ ∀ x ∈ l, p x
def smS (s : Str) : Prop := s.length ≤ 1048576
theorem toRecS_some (a : List Rec) (h : smL (fun _ => True) a) : laws_toRecS a = some a := by
  have hl : a.length ≤ 1048576 := h.1
  have key : ∀ i, i ≤ a.length → ∀ v : List Rec, v.length = a.length → laws_toRecS.l0 a i v = some (v.take i ++ a.drop i) := by
    refine down _ fun i hi ih v hv => ?_
    rw [laws_toRecS.l0]
    by_cases hlt : i < a.length
    · have c : decide ((i : Int) < (a.length : Int)) = true := by simpa using hlt
      have hv' : i < v.length := by omega
      simp only [c, if_true, ix_nat, List.getElem?_eq_getElem hlt, List.getElem?_eq_getElem hv', bind_some', laws_toRec, put_nat hv', w64_succ (show i < 9223372036854775807 by omega)]
      rw [ih hlt _ (by simpa using hv), set_step hlt hv']
    · rw [if_neg (by simpa using hlt)]
      obtain rfl : i = a.length := by omega
      simp [List.take_of_length_le, hv]
  simp only [laws_toRecS]
  rw [mk_ok (by omega)]
  simp only [bind_some']
  have := fun z => key 0 (by omega) (List.replicate a.length z) (by simp)
  simp only [Int.natCast_zero] at this
  simp only [this, bind_some']; simp
theorem eqRecS_self (a : List Rec) (h : smL (fun _ => True) a) : laws_eqRecS a a = some true := by
  have hl : a.length ≤ 1048576 := h.1
  have key : ∀ i, i ≤ a.length → laws_eqRecS.l0 a a i = some (.inr ()) := by
    refine down _ fun i hi ih => ?_
    rw [laws_eqRecS.l0]
    by_cases hlt : i < a.length
    · have c : decide ((i : Int) < (a.length : Int)) = true := by simpa using hlt
      simp only [c, if_true, ix_nat, List.getElem?_eq_getElem hlt, bind_some', laws_eqRec, bne_self_eq_false, beq_self_eq_true, Bool.false_eq_true, if_false, Bool.not_true, w64_succ (show i < 9223372036854775807 by omega)]
      exact ih hlt
    · rw [if_neg (by simpa using hlt)]
  simp only [laws_eqRecS, bne_self_eq_false, Bool.false_eq_true, if_false]
  have := key 0 (by omega)
  simp only [Int.natCast_zero] at this
  rw [this]; rfl
theorem szRecS_sp (a : List Rec) (left : Int) (ha : okL Rec.ok a) (h0 : 0 ≤ left) (h1 : left ≤ 1048576) : ∃ r, laws_szRecS a left = some r ∧ r ≤ left ∧ (r < 0 ∨ smL (fun _ => True) a) := by
  have := ha.1
  simp only [laws_szRecS]
  rw [w64_id (by omega) (by omega)]
  by_cases h : left < a.length
  · rw [if_pos (by simp; omega)]; exact ⟨_, rfl, by omega, .inl (by omega)⟩
  · rw [if_neg (by simp; omega)]; exact ⟨_, rfl, by omega, .inr ⟨by omega, by simp⟩⟩
def Sample.sm (x : Sample) : Prop := smS x.Name
theorem szSample_sp (x : Sample) (left : Int) (h : Sample.ok x) (h0 : 0 ≤ left) (h1 : left ≤ 1048576) : ∃ r, laws_szSample x left = some r ∧ r ≤ left ∧ (r < 0 ∨ Sample.sm x) := by
  have := h.1
  unfold okS at this
  simp only [laws_szSample, Sample.sm, smS]
  rw [w64_id (by omega) (by omega)]
  split
  · exact ⟨_, rfl, by omega, .inl (by omega)⟩
  · rename_i h; simp at h; exact ⟨_, rfl, by omega, .inr (by omega)⟩
theorem toSampleS_some (a : List Sample) (h : smL Sample.sm a) : laws_toSampleS a = some a := by
  have hl : a.length ≤ 1048576 := h.1
  have key : ∀ i, i ≤ a.length → ∀ v : List Sample, v.length = a.length → laws_toSampleS.l0 a i v = some (v.take i ++ a.drop i) := by
    refine down _ fun i hi ih v hv => ?_
    rw [laws_toSampleS.l0]
    by_cases hlt : i < a.length
    · have c : decide ((i : Int) < (a.length : Int)) = true := by simpa using hlt
      have hv' : i < v.length := by omega
      simp only [c, if_true, ix_nat, List.getElem?_eq_getElem hlt, List.getElem?_eq_getElem hv', bind_some', laws_toSample, put_nat hv', w64_succ (show i < 9223372036854775807 by omega)]
      rw [ih hlt _ (by simpa using hv), set_step hlt hv']
    · rw [if_neg (by simpa using hlt)]
      obtain rfl : i = a.length := by omega
      simp [List.take_of_length_le, hv]
  simp only [laws_toSampleS]
  rw [mk_ok (by omega)]
  simp only [bind_some']
  have := fun z => key 0 (by omega) (List.replicate a.length z) (by simp)
  simp only [Int.natCast_zero] at this
  simp only [this, bind_some']; simp
theorem eqSampleS_self (a : List Sample) (h : smL Sample.sm a) : laws_eqSampleS a a = some true := by
  have hl : a.length ≤ 1048576 := h.1
  have key : ∀ i, i ≤ a.length → laws_eqSampleS.l0 a a i = some (.inr ()) := by
    refine down _ fun i hi ih => ?_
    rw [laws_eqSampleS.l0]
    by_cases hlt : i < a.length
    · have c : decide ((i : Int) < (a.length : Int)) = true := by simpa using hlt
      simp only [c, if_true, ix_nat, List.getElem?_eq_getElem hlt, bind_some', laws_eqSample, bne_self_eq_false, beq_self_eq_true, Bool.false_eq_true, if_false, Bool.not_true, w64_succ (show i < 9223372036854775807 by omega)]
      exact ih hlt
    · rw [if_neg (by simpa using hlt)]
  simp only [laws_eqSampleS, bne_self_eq_false, Bool.false_eq_true, if_false]
  have := key 0 (by omega)
  simp only [Int.natCast_zero] at this
  rw [this]; rfl
theorem szSampleS_sp (a : List Sample) (left : Int) (ha : okL Sample.ok a) (h0 : 0 ≤ left) (h1 : left ≤ 1048576) : ∃ r, laws_szSampleS a left = some r ∧ r ≤ left ∧ (r < 0 ∨ smL Sample.sm a) := by
  have hl := ha.1
  simp only [laws_szSampleS]
  rw [w64_id (by omega) (by omega)]
  by_cases h : left < a.length
  · rw [if_pos (by simp; omega)]; exact ⟨_, rfl, by omega, .inl (by omega)⟩
  · rw [if_neg (by simp; omega)]
    have key : ∀ i, i ≤ a.length → ∀ left : Int, 0 ≤ left → left ≤ 1048576 → (∃ r, laws_szSampleS.l0 a left i = some (.inl r) ∧ r < 0) ∨ ∃ r, laws_szSampleS.l0 a left i = some (.inr r) ∧ 0 ≤ r ∧ r ≤ left ∧ ∀ x ∈ a.drop i, Sample.sm x := by
      refine down _ fun i hi ih left h0 h1 => ?_
      rw [laws_szSampleS.l0]
      by_cases hlt : i < a.length
      · have c : decide ((i : Int) < (a.length : Int)) = true := by simpa using hlt
        obtain ⟨r, e, hr, hs⟩ := szSample_sp a[i] left (ha.2 _ (List.getElem_mem hlt)) h0 h1
        simp only [c, if_true, ix_nat, List.getElem?_eq_getElem hlt, bind_some', e, w64_succ (show i < 9223372036854775807 by omega)]
        by_cases hn : r < 0
        · rw [if_pos (by simpa using hn)]; exact .inl ⟨_, rfl, by omega⟩
        · rw [if_neg (by simpa using hn)]
          rcases ih hlt r (by omega) (by omega) with ⟨q, e2, h2⟩ | ⟨q, e2, h2, h3, h4⟩
          · exact .inl ⟨q, e2, h2⟩
          · refine .inr ⟨q, e2, h2, by omega, fun x hx => ?_⟩
            rw [List.drop_eq_getElem_cons hlt] at hx
            rcases List.mem_cons.1 hx with rfl | hx
            · rcases hs with hs | hs
              · exact absurd hs hn
              · exact hs
            · exact h4 x hx
      · rw [if_neg (by simpa using hlt)]
        exact .inr ⟨_, rfl, h0, Int.le_refl _, by rw [List.drop_eq_nil_of_le (by omega)]; simp⟩
    rcases key 0 (by omega) (left - a.length) (by omega) (by omega) with ⟨q, e2, h2⟩ | ⟨q, e2, h2, h3, h4⟩
    · simp only [Int.natCast_zero] at e2
      rw [e2]; exact ⟨q, rfl, by omega, .inl h2⟩
    · simp only [Int.natCast_zero] at e2
      rw [e2]; exact ⟨q, rfl, by omega, .inr ⟨by omega, by simpa using h4⟩⟩
theorem in_some (a b c : Int) : spec_l1In a b c = some (decide (a ≥ b) && decide (a ≤ c)) := by
  simp only [spec_l1In]; by_cases h : a ≥ b <;> simp [h]
theorem from_some (a b c : Int) : impl_from a b c = some (decide (a ≥ b) && decide (a ≤ c)) := by
  simp only [impl_from]; by_cases h : a ≥ b <;> simp [h]
theorem recsOk_same (a : List Rec) (h : a.length ≤ 1048576) : ∃ b, spec_RecsOk a = some b ∧ impl_RecsOk a = some b := by
  have key : ∀ i, i ≤ a.length → ∃ b, spec_RecsOk.l0 a i = some b ∧ impl_RecsOk.l0 a i = some b := by
    refine down _ fun i hi ih => ?_
    rw [spec_RecsOk.l0, impl_RecsOk.l0]
    by_cases hlt : i < a.length
    · obtain ⟨b, h1, h2⟩ := ih hlt
      have c : decide ((i : Int) < (a.length : Int)) = true := by simpa using hlt
      simp only [impl_isTime, impl_isMany, in_some, from_some, bind_some', ix_nat, List.getElem?_eq_getElem hlt, w64_succ (show i < 9223372036854775807 by omega), h1, h2, c, if_true]
      split
      · exact ⟨_, rfl, rfl⟩
      · split
        · exact ⟨_, rfl, rfl⟩
        · by_cases h0 : i = 0
          · subst h0; simp
          · have e : IntKind.i64.wrap ((i : Int) - 1) = ((i - 1 : Nat) : Int) := by rw [w64_id (by omega) (by omega)]; omega
            have c2 : decide ((i : Int) > 0) = true := by simp; omega
            simp only [c2, if_true, e, ix_nat, List.getElem?_eq_getElem (show i - 1 < a.length by omega), bind_some']
            split
            · exact ⟨_, rfl, rfl⟩
            · exact ⟨_, rfl, rfl⟩
    · rw [if_neg (by simpa using hlt), if_neg (by simpa using hlt)]
      exact ⟨_, rfl, rfl⟩
  obtain ⟨b, h1, h2⟩ := key 0 (by omega)
  simp only [Int.natCast_zero] at h1 h2
  simp only [spec_RecsOk, impl_RecsOk, h1, h2, bind_some']
  cases b with
  | inl r => exact ⟨_, rfl, rfl⟩
  | inr u => exact ⟨_, rfl, rfl⟩
theorem nameOk_same (a : Str) (h : smS a) : ∃ b, spec_NameOk a = some b ∧ impl_NameOk a = some b := by
  unfold smS at h
  have key : ∀ i, i ≤ a.length → ∃ b, spec_NameOk.l0 a i = some b ∧ impl_NameOk.l0 a i = some b := by
    refine down _ fun i hi ih => ?_
    rw [spec_NameOk.l0, impl_NameOk.l0]
    by_cases hlt : i < a.length
    · have c : decide ((i : Int) < (a.length : Int)) = true := by simpa using hlt
      obtain ⟨b, e1, e2⟩ := ih hlt
      simp only [c, if_true, ix_nat, List.getElem?_eq_getElem hlt, bind_some', impl_isDigit, w64_succ (show i < 9223372036854775807 by omega), e1, e2]
      generalize byte a[i] = x
      by_cases h1 : x ≥ 97 <;> by_cases h2 : x ≤ 122 <;> by_cases h3 : i = 0 <;> by_cases h4 : x ≥ 48 <;> by_cases h5 : x ≤ 57 <;> by_cases h6 : x = 45 <;>
        first
        | omega
        | (have h3' : (i : Int) > 0 := by omega
           have h3'' : ¬ ((i : Int) = 0) := by omega
           have h7 : 0 < i := by omega
           simp [h1, h2, h3, h3', h3'', h7, h4, h5, h6, bind_some'])
        | (subst h3; simp [h1, h2, h4, h5, h6, bind_some'])
    · rw [if_neg (by simpa using hlt), if_neg (by simpa using hlt)]
      exact ⟨_, rfl, rfl⟩
  obtain ⟨b, e1, e2⟩ := key 0 (by omega)
  simp only [Int.natCast_zero] at e1 e2
  simp only [spec_NameOk, impl_NameOk, e1, e2, bind_some', in_some, from_some]
  cases b with
  | inl r => exact ⟨_, rfl, rfl⟩
  | inr u => exact ⟨_, rfl, rfl⟩
theorem samplesOk_same (a : List Sample) (h : smL Sample.sm a) : ∃ b, spec_SamplesOk a = some b ∧ impl_SamplesOk a = some b := by
  have hl : a.length ≤ 1048576 := h.1
  have key : ∀ i, i ≤ a.length → ∃ b, spec_SamplesOk.l0 a i = some b ∧ impl_SamplesOk.l0 a i = some b := by
    refine down _ fun i hi ih => ?_
    rw [spec_SamplesOk.l0, impl_SamplesOk.l0]
    by_cases hlt : i < a.length
    · have c : decide ((i : Int) < (a.length : Int)) = true := by simpa using hlt
      obtain ⟨b, e1, e2⟩ := ih hlt
      obtain ⟨n, n1, n2⟩ := nameOk_same a[i].Name (h.2 _ (List.getElem_mem hlt))
      simp only [c, if_true, impl_isValue, in_some, from_some, ix_nat, List.getElem?_eq_getElem hlt, bind_some', n1, n2, w64_succ (show i < 9223372036854775807 by omega), e1, e2]
      split
      · exact ⟨_, rfl, rfl⟩
      · split
        · exact ⟨_, rfl, rfl⟩
        · by_cases h0 : i = 0
          · subst h0; simp
          · have e : IntKind.i64.wrap ((i : Int) - 1) = ((i - 1 : Nat) : Int) := by rw [w64_id (by omega) (by omega)]; omega
            have c2 : decide ((i : Int) > 0) = true := by simp; omega
            simp only [c2, if_true, e, ix_nat, List.getElem?_eq_getElem (show i - 1 < a.length by omega), bind_some']
            split
            · exact ⟨_, rfl, rfl⟩
            · exact ⟨_, rfl, rfl⟩
    · rw [if_neg (by simpa using hlt), if_neg (by simpa using hlt)]
      exact ⟨_, rfl, rfl⟩
  obtain ⟨b, h1, h2⟩ := key 0 (by omega)
  simp only [Int.natCast_zero] at h1 h2
  simp only [spec_SamplesOk, impl_SamplesOk, h1, h2, bind_some']
  cases b with
  | inl r => exact ⟨_, rfl, rfl⟩
  | inr u => exact ⟨_, rfl, rfl⟩
theorem sampleOf_same (a : List Sample) (s : Str) (h : smL Sample.sm a) : ∃ b, spec_SampleOf a s = some b ∧ impl_SampleOf a s = some b := by
  have hl : a.length ≤ 1048576 := h.1
  have key : ∀ i, i ≤ a.length → ∃ b, spec_SampleOf.l0 a s i = some b ∧ impl_SampleOf.l0 a s i = some b := by
    refine down _ fun i hi ih => ?_
    rw [spec_SampleOf.l0, impl_SampleOf.l0]
    by_cases hlt : i < a.length
    · have c : decide ((i : Int) < (a.length : Int)) = true := by simpa using hlt
      obtain ⟨b, e1, e2⟩ := ih hlt
      simp only [c, if_true, ix_nat, List.getElem?_eq_getElem hlt, bind_some', w64_succ (show i < 9223372036854775807 by omega), e1, e2]
      split
      · exact ⟨_, rfl, rfl⟩
      · exact ⟨_, rfl, rfl⟩
    · rw [if_neg (by simpa using hlt), if_neg (by simpa using hlt)]
      exact ⟨_, rfl, rfl⟩
  obtain ⟨b, h1, h2⟩ := key 0 (by omega)
  simp only [Int.natCast_zero] at h1 h2
  simp only [spec_SampleOf, impl_SampleOf, h1, h2, bind_some']
  cases b with
  | inl r => exact ⟨_, rfl, rfl⟩
  | inr u => exact ⟨_, rfl, rfl⟩
def Metric.sm (x : Metric) : Prop := smS x.Name
theorem szMetric_sp (x : Metric) (left : Int) (h : Metric.ok x) (h0 : 0 ≤ left) (h1 : left ≤ 1048576) : ∃ r, laws_szMetric x left = some r ∧ r ≤ left ∧ (r < 0 ∨ Metric.sm x) := by
  have := h.1
  unfold okS at this
  simp only [laws_szMetric, Metric.sm, smS]
  rw [w64_id (by omega) (by omega)]
  split
  · exact ⟨_, rfl, by omega, .inl (by omega)⟩
  · rename_i h; simp at h; exact ⟨_, rfl, by omega, .inr (by omega)⟩
theorem ceilDiv_same (a b : Int) : ∃ r, spec_CeilDiv a b = some r ∧ impl_CeilDiv a b = some r := by
  simp only [spec_CeilDiv, impl_CeilDiv, in_some, from_some, bind_some']
  split
  · exact ⟨_, rfl, rfl⟩
  · split
    · exact ⟨_, rfl, rfl⟩
    · rename_i h1 h2
      simp at h2
      simp only [Nt.quo]
      rw [if_neg (by omega)]
      exact ⟨_, rfl, rfl⟩
theorem metricOk_same (m : Metric) (h : Metric.sm m) : ∃ b, spec_MetricOk m = some b ∧ impl_MetricOk m = some b := by
  obtain ⟨n, n1, n2⟩ := nameOk_same m.Name h
  simp only [spec_MetricOk, impl_MetricOk, n1, n2, bind_some', in_some, from_some]
  repeat' split
  all_goals exact ⟨_, rfl, rfl⟩
theorem byOne_same (m : Metric) (x y : Int) (h : Metric.sm m) : ∃ b, spec_ByOne m x y = some b ∧ impl_ByOne m x y = some b := by
  obtain ⟨n, n1, n2⟩ := metricOk_same m h
  obtain ⟨p, p1, p2⟩ := ceilDiv_same y m.Goal
  obtain ⟨q, q1, q2⟩ := ceilDiv_same (IntKind.i64.wrap (x * y)) m.Goal
  simp only [spec_ByOne, impl_ByOne, n1, n2, bind_some', in_some, from_some, impl_isMany, impl_isValue, p1, p2, q1, q2]
  repeat' split
  all_goals exact ⟨_, rfl, rfl⟩
def Scale.sm (x : Scale) : Prop := smS x.Name ∧ smL (fun _ => True) x.Recs
theorem szScale_sp (x : Scale) (left : Int) (h : Scale.ok x) (h0 : 0 ≤ left) (h1 : left ≤ 1048576) : ∃ r, laws_szScale x left = some r ∧ r ≤ left ∧ (r < 0 ∨ Scale.sm x) := by
  have := h.1
  unfold okS at this
  simp only [laws_szScale, Scale.sm, smS]
  rw [w64_id (by omega) (by omega)]
  split
  · exact ⟨_, rfl, by omega, .inl (by omega)⟩
  · rename_i hn; simp at hn
    obtain ⟨r, e, hr, hs⟩ := szRecS_sp x.Recs (left - x.Name.length) h.2.2 (by omega) (by omega)
    simp only [e, bind_some']
    split
    · exact ⟨_, rfl, by omega, .inl (by omega)⟩
    · rename_i h3; simp at h3
      rcases hs with hs | hs
      · omega
      · exact ⟨_, rfl, by omega, .inr ⟨by omega, hs⟩⟩
theorem toScale_some (x : Scale) (h : Scale.sm x) : laws_toScale x = some x := by
  simp only [laws_toScale, toRecS_some _ h.2, bind_some']
theorem eqScale_self (x : Scale) (h : Scale.sm x) : laws_eqScale x x = some true := by
  simp only [laws_eqScale, eqRecS_self _ h.2, bind_some', beq_self_eq_true, bne_self_eq_false, Bool.not_true, Bool.false_eq_true, if_false]
theorem scaleOk_same (x : Scale) (h : Scale.sm x) : ∃ b, spec_ScaleOk x = some b ∧ impl_ScaleOk x = some b := by
  obtain ⟨n, n1, n2⟩ := nameOk_same x.Name h.1
  obtain ⟨p, p1, p2⟩ := recsOk_same x.Recs h.2.1
  simp only [spec_ScaleOk, impl_ScaleOk, n1, n2, bind_some', in_some, from_some, impl_isMany, p1, p2]
  repeat' split
  all_goals exact ⟨_, rfl, rfl⟩
theorem w64_eq (n : Int) : IntKind.i64.wrap n = (n + 9223372036854775808) % 18446744073709551616 - 9223372036854775808 := by
  simp only [IntKind.wrap, IntKind.bits, IntKind.signed, Bool.true_and]
  split
  · rename_i h; simp at h; omega
  · rename_i h; simp at h; omega
theorem u64_eq (n : Int) : IntKind.u64.wrap n = n % 18446744073709551616 := by
  simp only [IntKind.wrap, IntKind.bits, IntKind.signed, Bool.false_and, Bool.false_eq_true, if_false]
  rfl
theorem beyond_some (n now k : Int) (hn : okI n) (h1 : okI now) (h2 : okI k) : impl_beyond n now k = some (decide (n - now > k)) := by
  unfold okI at *
  simp only [impl_beyond, u64_eq]
  by_cases a : n ≥ now
  · by_cases b : k < 0
    · simp [a, b]; omega
    · simp only [a, b, decide_true, decide_false, if_true, if_false, Bool.false_eq_true, Option.some.injEq, decide_eq_decide]; omega
  · by_cases b : k < 0
    · simp only [a, b, decide_true, decide_false, if_true, if_false, Bool.false_eq_true, Option.some.injEq, decide_eq_decide]; omega
    · simp [a, b]; omega
theorem lately_same (a : List Rec) (t s : Int) (ha : okL Rec.ok a) (hl : a.length ≤ 1048576) (ht : okI t) (hs : okI s) : ∃ m, spec_Lately a t s = some m ∧ impl_Lately a t s = some m ∧ m.length ≤ a.length ∧ ∀ x ∈ m, okI x := by
  have key : ∀ i, i ≤ a.length → ∀ out : List Int, out.length ≤ i → (∀ x ∈ out, okI x) → ∃ m, spec_Lately.l0 a t s i out = some m ∧ impl_Lately.l0 a t s i out = some m ∧ m.length ≤ a.length ∧ ∀ x ∈ m, okI x := by
    refine down _ fun i hi ih out ho hx => ?_
    rw [spec_Lately.l0, impl_Lately.l0]
    by_cases hlt : i < a.length
    · have c : decide ((i : Int) < (a.length : Int)) = true := by simpa using hlt
      have hr := ha.2 _ (List.getElem_mem hlt)
      obtain ⟨b1, p1, p2, p3⟩ := ih hlt (out ++ [a[i].N]) (by simp; omega) (by
        intro x hx'
        rcases List.mem_append.1 hx' with h | h
        · exact hx x h
        · simp only [List.mem_singleton] at h; subst h; exact hr.2)
      obtain ⟨b2, q1, q2, q3⟩ := ih hlt out (by omega) hx
      simp only [c, if_true, ix_nat, List.getElem?_eq_getElem hlt, bind_some', w64_succ (show i < 9223372036854775807 by omega), app_ok (b := 8) (l := out) (m := [a[i].N]) (by simp; omega), p1, p2, q1, q2, beyond_some _ _ _ ht hr.1 hs, w64_eq]
      obtain ⟨hr1, _⟩ := hr
      generalize a[i].Time = u at *
      clear p1 p2 q1 q2 ih
      unfold okI at *
      generalize hz : (t - u + 9223372036854775808) % 18446744073709551616 - 9223372036854775808 = z
      have z1 : u ≤ t → t - u ≤ 9223372036854775807 → z = t - u := by omega
      have z2 : u ≤ t → t - u > 9223372036854775807 → z < 0 := by omega
      clear hz
      by_cases hc : u ≤ t ∧ (t ≤ u ∨ t - u ≤ s)
      · refine ⟨b1, ?_, ?_, p3⟩
        · by_cases h2 : u ≥ t
          · simp [hc.1, h2]
          · have h3 : 0 ≤ z := by omega
            have h4 : z ≤ s := by omega
            simp [hc.1, h2, h3, h4]
        · by_cases h5 : s < 0
          · have h6 : u = t := by omega
            simp [h5, h6]
          · have h6 : s ≥ 0 := by omega
            have h7 : ¬ (t - u > s) := by omega
            simp [h5, h6, hc.1, h7]
      · refine ⟨b2, ?_, ?_, q3⟩
        · by_cases h1 : u ≤ t
          · have h2 : ¬ (u ≥ t) := by omega
            by_cases h3 : 0 ≤ z
            · have h4 : ¬ (z ≤ s) := by omega
              simp [h1, h2, h3, h4]
            · simp [h1, h2, h3]
          · simp [h1]
        · by_cases h5 : s < 0
          · have h6 : ¬ u = t := by omega
            have h7 : ¬ (s ≥ 0) := by omega
            simp [h5, h6, h7]
          · have h6 : s ≥ 0 := by omega
            by_cases h1 : u ≤ t
            · have h7 : t - u > s := by omega
              simp [h5, h6, h1, h7]
            · simp [h5, h6, h1]
    · rw [if_neg (by simpa using hlt), if_neg (by simpa using hlt)]
      exact ⟨_, rfl, rfl, by omega, hx⟩
  obtain ⟨m, h1, h2, h3⟩ := key 0 (by omega) [] (by simp) (by simp)
  simp only [Int.natCast_zero] at h1 h2
  exact ⟨m, by simp only [spec_Lately, h1, bind_some'], by simp only [impl_Lately, h2, bind_some'], h3⟩
theorem steady_sp (p : Pace) (a : List Rec) (t now n : Int) (hp : Pace.ok p) (ha : okL Rec.ok a) (hl : a.length ≤ 1048576) (ht : okI t) : ∃ r, spec_Steady p a t now n = some r ∧ impl_Steady p a t now n = some r ∧ (n < now → n ≤ r ∧ r ≤ now) ∧ (n > now → now ≤ r ∧ r ≤ n) ∧ (n = now → r = n) := by
  obtain ⟨m, m1, m2, m3, _⟩ := lately_same a t p.DownSpan ha hl ht hp.2.2.2
  obtain ⟨k, k1, k2, k3, _⟩ := lately_same a t p.UpSpan ha hl ht hp.2.2.1
  have up : ∀ (m : List Int), m.length ≤ 1048576 → ∀ i, i ≤ m.length → ∀ v : Int, ∃ r, spec_Steady.l0 m v i = some r ∧ impl_Steady.l0 m v i = some r ∧ v ≤ r := by
    intro m hm
    refine down _ fun i hi ih v => ?_
    rw [spec_Steady.l0, impl_Steady.l0]
    by_cases hlt : i < m.length
    · have c : decide ((i : Int) < (m.length : Int)) = true := by simpa using hlt
      have e : (if v > m[i] then v else m[i]) = (if m[i] > v then m[i] else v) := by repeat' split
                                                                                     all_goals omega
      obtain ⟨r, r1, r2, r3⟩ := ih hlt (if m[i] > v then m[i] else v)
      have e2 : spec_l1Max v m[i] = some (if m[i] > v then m[i] else v) := by
        rw [← e]; simp only [spec_l1Max, decide_eq_true_eq]; split <;> rfl
      simp only [c, if_true, ix_nat, List.getElem?_eq_getElem hlt, bind_some', w64_succ (show i < 9223372036854775807 by omega), e2, r1, r2]
      refine ⟨_, rfl, rfl, ?_⟩
      split at r3 <;> omega
    · rw [if_neg (by simpa using hlt), if_neg (by simpa using hlt)]
      exact ⟨_, rfl, rfl, Int.le_refl _⟩
  have dn : ∀ (m : List Int), m.length ≤ 1048576 → ∀ i, i ≤ m.length → ∀ v : Int, ∃ r, spec_Steady.l1 m v i = some r ∧ impl_Steady.l1 m v i = some r ∧ r ≤ v := by
    intro m hm
    refine down _ fun i hi ih v => ?_
    rw [spec_Steady.l1, impl_Steady.l1]
    by_cases hlt : i < m.length
    · have c : decide ((i : Int) < (m.length : Int)) = true := by simpa using hlt
      have e : (if v < m[i] then v else m[i]) = (if m[i] < v then m[i] else v) := by repeat' split
                                                                                     all_goals omega
      obtain ⟨r, r1, r2, r3⟩ := ih hlt (if m[i] < v then m[i] else v)
      have e2 : spec_l1Min v m[i] = some (if m[i] < v then m[i] else v) := by
        rw [← e]; simp only [spec_l1Min, decide_eq_true_eq]; split <;> rfl
      simp only [c, if_true, ix_nat, List.getElem?_eq_getElem hlt, bind_some', w64_succ (show i < 9223372036854775807 by omega), e2, r1, r2]
      refine ⟨_, rfl, rfl, ?_⟩
      split at r3 <;> omega
    · rw [if_neg (by simpa using hlt), if_neg (by simpa using hlt)]
      exact ⟨_, rfl, rfl, Int.le_refl _⟩
  obtain ⟨r, r1, r2, r3⟩ := up m (by omega) 0 (by omega) n
  obtain ⟨q, q1, q2, q3⟩ := dn k (by omega) 0 (by omega) n
  simp only [Int.natCast_zero] at r1 r2 q1 q2
  simp only [spec_Steady, impl_Steady, m1, m2, k1, k2, r1, r2, q1, q2, bind_some', spec_l1Min, spec_l1Max, decide_eq_true_eq]
  by_cases h1 : n < now
  · simp only [h1, if_true]
    refine ⟨if now < r then now else r, ?_, rfl, ?_⟩
    · split <;> split <;> simp <;> omega
    · split <;> exact ⟨fun h => by first | omega | exact h.elim, fun h => by first | omega | exact h.elim, fun h => by first | omega | exact h.elim⟩
  · by_cases h2 : n > now
    · simp only [h1, h2, if_true, if_false]
      refine ⟨if now > q then now else q, ?_, rfl, ?_⟩
      · split <;> split <;> simp <;> omega
      · split <;> exact ⟨fun h => by first | omega | exact h.elim, fun h => by first | omega | exact h.elim, fun h => by first | omega | exact h.elim⟩
    · simp only [h1, h2, if_false]; exact ⟨_, rfl, rfl, fun _ => by omega, fun _ => by omega, fun _ => by omega⟩
theorem mark_step {α : Type} {v : List α} {i : Nat} (h : i < v.length) (x : α) (r : List α) : (v.set i x).take (i + 1) ++ r = v.take i ++ x :: r := by
  rw [List.take_set, List.take_add_one, List.getElem?_eq_getElem h, List.set_append_right _ _ (by simp; omega)]
  have : i - min i v.length = 0 := by omega
  simp [this]
def markR (k : Int) : Nat → List Rec
  | 0 => []
  | n + 1 => ⟨k, k + 1⟩ :: markR (k + 2) n
theorem markR_len (k : Int) (n : Nat) : (markR k n).length = n := by
  induction n generalizing k with
  | zero => rfl
  | succ n ih => simp [markR, ih]
theorem markR_get (k : Int) (n i : Nat) (h : i < n) : (markR k n)[i]'(by rw [markR_len]; exact h) = ⟨k + 2 * i, k + 2 * i + 1⟩ := by
  induction n generalizing k i with
  | zero => omega
  | succ n ih =>
    cases i with
    | zero => simp [markR]
    | succ i =>
      simp only [markR, List.getElem_cons_succ]; rw [ih (k + 2) i (by omega)]
      simp only [Rec.mk.injEq]; omega
theorem markRecS_some (a : List Rec) (h : a.length ≤ 1048576) : laws_markRecS a 1 = some (1 + 2 * (a.length : Int), markR 1 a.length) := by
  have key : ∀ i, i ≤ a.length → ∀ v : List Rec, v.length = a.length → laws_markRecS.l0 (1 + 2 * (i : Int)) i v = some (1 + 2 * (a.length : Int), v.take i ++ markR (1 + 2 * (i : Int)) (a.length - i)) := by
    refine down _ fun i hi ih v hv => ?_
    rw [laws_markRecS.l0]
    by_cases hlt : i < a.length
    · have c : decide ((i : Int) < (v.length : Int)) = true := by simp; omega
      have hv' : i < v.length := by omega
      have e : IntKind.i64.wrap (1 + 2 * (i : Int) + 1) = 1 + 2 * (i : Int) + 1 := by rw [w64_id (by omega) (by omega)]
      have e1 : IntKind.i64.wrap (1 + 2 * (i : Int) + 1 + 1) = 1 + 2 * ((i + 1 : Nat) : Int) := by rw [w64_id (by omega) (by omega)]; omega
      simp only [c, if_true, ix_nat, List.getElem?_eq_getElem hv', bind_some', put_nat hv', List.length_set, List.getElem?_set_self hv', put_nat (show i < (v.set i (Rec.mk (1 + 2 * (i : Int)) v[i].N)).length by simpa using hv'), w64_succ (show i < 9223372036854775807 by omega), e, e1, List.set_set]
      rw [ih hlt _ (by simpa using hv), mark_step hv']
      obtain ⟨m, hm⟩ : ∃ m, a.length - i = m + 1 := ⟨a.length - i - 1, by omega⟩
      have hm2 : a.length - (i + 1) = m := by omega
      rw [hm, hm2, markR]
      have e3 : (1 + 2 * ((i + 1 : Nat) : Int)) = 1 + 2 * (i : Int) + 2 := by omega
      rw [e3]
    · rw [if_neg (by simp; omega)]
      obtain rfl : i = a.length := by omega
      simp [markR, List.take_of_length_le, hv]
  have := key 0 (by omega) a rfl
  simp only [Int.natCast_zero, Int.mul_zero, Int.add_zero, Nat.sub_zero, List.take_zero, List.nil_append] at this
  simp only [laws_markRecS, this, bind_some']
theorem heldRecS_some (n : Nat) (h : n ≤ 1048576) : laws_heldRecS (markR 1 n) 1 = some (1 + 2 * (n : Int)) := by
  have key : ∀ i, i ≤ n → laws_heldRecS.l0 (markR 1 n) (1 + 2 * (i : Int)) i = some (.inr (1 + 2 * (n : Int))) := by
    refine down _ fun i hi ih => ?_
    rw [laws_heldRecS.l0]
    by_cases hlt : i < n
    · have c : decide ((i : Int) < ((markR 1 n).length : Int)) = true := by simp [markR_len]; omega
      have hv' : i < (markR 1 n).length := by rw [markR_len]; exact hlt
      have e : IntKind.i64.wrap (1 + 2 * (i : Int) + 1) = 1 + 2 * (i : Int) + 1 := by rw [w64_id (by omega) (by omega)]
      have e1 : IntKind.i64.wrap (1 + 2 * (i : Int) + 1 + 1) = 1 + 2 * ((i + 1 : Nat) : Int) := by rw [w64_id (by omega) (by omega)]; omega
      simp only [c, if_true, ix_nat, List.getElem?_eq_getElem hv', bind_some', w64_succ (show i < 9223372036854775807 by omega), e, e1, markR_get 1 n i hlt, bne_self_eq_false, Bool.false_eq_true, if_false]
      exact ih hlt
    · rw [if_neg (by simp [markR_len]; omega)]
      obtain rfl : i = n := by omega
      rfl
  have := key 0 (by omega)
  simp only [Int.natCast_zero, Int.mul_zero, Int.add_zero] at this
  simp only [laws_heldRecS, this, bind_some']
/-- what Slow answers -/
def slowV (p : Pace) (now n : Int) : Int := if p.Up ≠ 0 ∧ n - now > p.Up then now + p.Up else if p.Down ≠ 0 ∧ now - n > p.Down then now - p.Down else n
theorem recAdd_room (a : List Rec) (t n : Int) (hl : a.length ≤ 1048576) : ∃ m, spec_RecAdd a t n = some m ∧ impl_RecAdd a t n = some m ∧ (m.length ≤ a.length + 1) ∧ (m = a ∨ (impl_RecsOk m = some true ∧ (m = a ++ [Rec.mk t n] ∨ m = (a ++ [Rec.mk t n]).drop 1 ∧ 12 < (a ++ [Rec.mk t n]).length) ∧ ((a ++ [Rec.mk t n]).length > 12 → m = (a ++ [Rec.mk t n]).drop 1))) := by
  have h1 : (0 + a.length) * 16 ≤ 70368744177664 := by omega
  have h2 : (a.length + 1) * 16 ≤ 70368744177664 := by omega
  have h3 : Nt.clone 16 a = some a := if_pos (by omega)
  have e1 : app 16 [] a = some a := app_ok (l := []) (by simpa using h1)
  have e2 : app 16 a [Rec.mk t n] = some (a ++ [Rec.mk t n]) := app_ok (by simpa using h2)
  simp only [spec_RecAdd, impl_RecAdd, slices_Clone_Simpl_Rec_impl_Rec, h3, e1, e2, bind_some']
  by_cases hc : ((a ++ [Rec.mk t n]).length : Int) > 12
  · have e3 : slc (a ++ [Rec.mk t n]) 1 ((a ++ [Rec.mk t n]).length : Int) = some ((a ++ [Rec.mk t n]).drop 1) := by
      simp only [slc]
      rw [if_pos ⟨by omega, by omega, by omega⟩]
      simp only [Nt.cut, Int.toNat_natCast, List.take_length]
      rfl
    have hd : ((a ++ [Rec.mk t n]).drop 1).length ≤ 1048576 := by simp; omega
    have e4 : app 16 [] ((a ++ [Rec.mk t n]).drop 1) = some ((a ++ [Rec.mk t n]).drop 1) := app_ok (l := []) (by simp only [List.length_nil]; omega)
    obtain ⟨b, b1, b2⟩ := recsOk_same _ hd
    simp only [hc, decide_true, if_true, e3, e4, bind_some', b1, b2, e1]
    cases b
    · exact ⟨_, rfl, rfl, by omega, .inl rfl⟩
    · exact ⟨_, rfl, rfl, by simp, .inr ⟨b2, .inr ⟨rfl, by omega⟩, fun _ => rfl⟩⟩
  · have hd : (a ++ [Rec.mk t n]).length ≤ 1048576 := by omega
    obtain ⟨b, b1, b2⟩ := recsOk_same _ hd
    simp only [hc, decide_false, Bool.false_eq_true, if_false, b1, b2, bind_some', e1]
    cases b
    · exact ⟨_, rfl, rfl, by omega, .inl rfl⟩
    · exact ⟨_, rfl, rfl, by simp, .inr ⟨b2, .inl rfl, fun h => by omega⟩⟩
theorem recsOk_len (a : List Rec) (h : a.length ≤ 1048576) (ht : impl_RecsOk a = some true) : a.length ≤ 12 := by
  have key : ∀ i, i ≤ a.length → ∀ r, impl_RecsOk.l0 a i = some (.inl r) → r = false := by
    refine down _ fun i hi ih r => ?_
    rw [impl_RecsOk.l0]
    by_cases hlt : i < a.length
    · have c : decide ((i : Int) < (a.length : Int)) = true := by simpa using hlt
      simp only [impl_isTime, impl_isMany, from_some, c, if_true, ix_nat, List.getElem?_eq_getElem hlt, bind_some', w64_succ (show i < 9223372036854775807 by omega)]
      split
      · intro h; cases h; rfl
      · split
        · intro h; cases h; rfl
        · split
          · rename_i h0
            have h0' : 0 < i := by simpa using h0
            have e : IntKind.i64.wrap ((i : Int) - 1) = ((i - 1 : Nat) : Int) := by rw [w64_id (by omega) (by omega)]; omega
            simp only [e, ix_nat, List.getElem?_eq_getElem (show i - 1 < a.length by omega), bind_some']
            split
            · intro h; cases h; rfl
            · exact ih hlt r
          · exact ih hlt r
    · rw [if_neg (by simpa using hlt)]; intro h; cases h
  simp only [impl_RecsOk] at ht
  cases hs : impl_RecsOk.l0 a 0 with
  | none => rw [hs] at ht; cases ht
  | some s =>
    rw [hs] at ht
    cases s with
    | inl r =>
      have := key 0 (by omega) r (by simpa using hs)
      subst this
      simp [bind_some'] at ht
    | inr u => simp [bind_some'] at ht; omega
theorem toMetricS_some (a : List Metric) (h : smL Metric.sm a) : laws_toMetricS a = some a := by
  have hl : a.length ≤ 1048576 := h.1
  have key : ∀ i, i ≤ a.length → ∀ v : List Metric, v.length = a.length → laws_toMetricS.l0 a i v = some (v.take i ++ a.drop i) := by
    refine down _ fun i hi ih v hv => ?_
    rw [laws_toMetricS.l0]
    by_cases hlt : i < a.length
    · have c : decide ((i : Int) < (a.length : Int)) = true := by simpa using hlt
      have hv' : i < v.length := by omega
      simp only [c, if_true, ix_nat, List.getElem?_eq_getElem hlt, List.getElem?_eq_getElem hv', bind_some', laws_toMetric, put_nat hv', w64_succ (show i < 9223372036854775807 by omega)]
      rw [ih hlt _ (by simpa using hv), set_step hlt hv']
    · rw [if_neg (by simpa using hlt)]
      obtain rfl : i = a.length := by omega
      simp [List.take_of_length_le, hv]
  simp only [laws_toMetricS]
  rw [mk_ok (by omega)]
  simp only [bind_some']
  have := fun z => key 0 (by omega) (List.replicate a.length z) (by simp)
  simp only [Int.natCast_zero] at this
  simp only [this, bind_some']; simp
theorem eqMetricS_self (a : List Metric) (h : smL Metric.sm a) : laws_eqMetricS a a = some true := by
  have hl : a.length ≤ 1048576 := h.1
  have key : ∀ i, i ≤ a.length → laws_eqMetricS.l0 a a i = some (.inr ()) := by
    refine down _ fun i hi ih => ?_
    rw [laws_eqMetricS.l0]
    by_cases hlt : i < a.length
    · have c : decide ((i : Int) < (a.length : Int)) = true := by simpa using hlt
      simp only [c, if_true, ix_nat, List.getElem?_eq_getElem hlt, bind_some', laws_eqMetric, bne_self_eq_false, beq_self_eq_true, Bool.false_eq_true, if_false, Bool.not_true, w64_succ (show i < 9223372036854775807 by omega)]
      exact ih hlt
    · rw [if_neg (by simpa using hlt)]
  simp only [laws_eqMetricS, bne_self_eq_false, Bool.false_eq_true, if_false]
  have := key 0 (by omega)
  simp only [Int.natCast_zero] at this
  rw [this]; rfl
theorem szMetricS_sp (a : List Metric) (left : Int) (ha : okL Metric.ok a) (h0 : 0 ≤ left) (h1 : left ≤ 1048576) : ∃ r, laws_szMetricS a left = some r ∧ r ≤ left ∧ (r < 0 ∨ smL Metric.sm a) := by
  have hl := ha.1
  simp only [laws_szMetricS]
  rw [w64_id (by omega) (by omega)]
  by_cases h : left < a.length
  · rw [if_pos (by simp; omega)]; exact ⟨_, rfl, by omega, .inl (by omega)⟩
  · rw [if_neg (by simp; omega)]
    have key : ∀ i, i ≤ a.length → ∀ left : Int, 0 ≤ left → left ≤ 1048576 → (∃ r, laws_szMetricS.l0 a left i = some (.inl r) ∧ r < 0) ∨ ∃ r, laws_szMetricS.l0 a left i = some (.inr r) ∧ 0 ≤ r ∧ r ≤ left ∧ ∀ x ∈ a.drop i, Metric.sm x := by
      refine down _ fun i hi ih left h0 h1 => ?_
      rw [laws_szMetricS.l0]
      by_cases hlt : i < a.length
      · have c : decide ((i : Int) < (a.length : Int)) = true := by simpa using hlt
        obtain ⟨r, e, hr, hs⟩ := szMetric_sp a[i] left (ha.2 _ (List.getElem_mem hlt)) h0 h1
        simp only [c, if_true, ix_nat, List.getElem?_eq_getElem hlt, bind_some', e, w64_succ (show i < 9223372036854775807 by omega)]
        by_cases hn : r < 0
        · rw [if_pos (by simpa using hn)]; exact .inl ⟨_, rfl, by omega⟩
        · rw [if_neg (by simpa using hn)]
          rcases ih hlt r (by omega) (by omega) with ⟨q, e2, h2⟩ | ⟨q, e2, h2, h3, h4⟩
          · exact .inl ⟨q, e2, h2⟩
          · refine .inr ⟨q, e2, h2, by omega, fun x hx => ?_⟩
            rw [List.drop_eq_getElem_cons hlt] at hx
            rcases List.mem_cons.1 hx with rfl | hx
            · rcases hs with hs | hs
              · exact absurd hs hn
              · exact hs
            · exact h4 x hx
      · rw [if_neg (by simpa using hlt)]
        exact .inr ⟨_, rfl, h0, Int.le_refl _, by rw [List.drop_eq_nil_of_le (by omega)]; simp⟩
    rcases key 0 (by omega) (left - a.length) (by omega) (by omega) with ⟨q, e2, h2⟩ | ⟨q, e2, h2, h3, h4⟩
    · simp only [Int.natCast_zero] at e2
      rw [e2]; exact ⟨q, rfl, by omega, .inl h2⟩
    · simp only [Int.natCast_zero] at e2
      rw [e2]; exact ⟨q, rfl, by omega, .inr ⟨by omega, by simpa using h4⟩⟩
def Note.sm (x : Note) : Prop := smS x.Key ∧ smS x.Text
theorem szNote_sp (x : Note) (left : Int) (h : Note.ok x) (h0 : 0 ≤ left) (h1 : left ≤ 1048576) : ∃ r, laws_szNote x left = some r ∧ r ≤ left ∧ (r < 0 ∨ Note.sm x) := by
  have e1 := h.1
  have e2 := h.2
  unfold okS at e1 e2
  simp only [laws_szNote, Note.sm, smS]
  rw [w64_id (n := left - _) (by omega) (by omega)]
  split
  · exact ⟨_, rfl, by omega, .inl (by omega)⟩
  · rename_i h; simp at h
    rw [w64_id (by omega) (by omega)]
    split
    · exact ⟨_, rfl, by omega, .inl (by omega)⟩
    · rename_i h3; simp at h3; exact ⟨_, rfl, by omega, .inr ⟨by omega, by omega⟩⟩
theorem toNoteS_some (a : List Note) (h : smL Note.sm a) : laws_toNoteS a = some a := by
  have hl : a.length ≤ 1048576 := h.1
  have key : ∀ i, i ≤ a.length → ∀ v : List Note, v.length = a.length → laws_toNoteS.l0 a i v = some (v.take i ++ a.drop i) := by
    refine down _ fun i hi ih v hv => ?_
    rw [laws_toNoteS.l0]
    by_cases hlt : i < a.length
    · have c : decide ((i : Int) < (a.length : Int)) = true := by simpa using hlt
      have hv' : i < v.length := by omega
      simp only [c, if_true, ix_nat, List.getElem?_eq_getElem hlt, List.getElem?_eq_getElem hv', bind_some', laws_toNote, put_nat hv', w64_succ (show i < 9223372036854775807 by omega)]
      rw [ih hlt _ (by simpa using hv), set_step hlt hv']
    · rw [if_neg (by simpa using hlt)]
      obtain rfl : i = a.length := by omega
      simp [List.take_of_length_le, hv]
  simp only [laws_toNoteS]
  rw [mk_ok (by omega)]
  simp only [bind_some']
  have := fun z => key 0 (by omega) (List.replicate a.length z) (by simp)
  simp only [Int.natCast_zero] at this
  simp only [this, bind_some']; simp
theorem eqNoteS_self (a : List Note) (h : smL Note.sm a) : laws_eqNoteS a a = some true := by
  have hl : a.length ≤ 1048576 := h.1
  have key : ∀ i, i ≤ a.length → laws_eqNoteS.l0 a a i = some (.inr ()) := by
    refine down _ fun i hi ih => ?_
    rw [laws_eqNoteS.l0]
    by_cases hlt : i < a.length
    · have c : decide ((i : Int) < (a.length : Int)) = true := by simpa using hlt
      simp only [c, if_true, ix_nat, List.getElem?_eq_getElem hlt, bind_some', laws_eqNote, bne_self_eq_false, beq_self_eq_true, Bool.false_eq_true, if_false, Bool.not_true, w64_succ (show i < 9223372036854775807 by omega)]
      exact ih hlt
    · rw [if_neg (by simpa using hlt)]
  simp only [laws_eqNoteS, bne_self_eq_false, Bool.false_eq_true, if_false]
  have := key 0 (by omega)
  simp only [Int.natCast_zero] at this
  rw [this]; rfl
theorem szNoteS_sp (a : List Note) (left : Int) (ha : okL Note.ok a) (h0 : 0 ≤ left) (h1 : left ≤ 1048576) : ∃ r, laws_szNoteS a left = some r ∧ r ≤ left ∧ (r < 0 ∨ smL Note.sm a) := by
  have hl := ha.1
  simp only [laws_szNoteS]
  rw [w64_id (by omega) (by omega)]
  by_cases h : left < a.length
  · rw [if_pos (by simp; omega)]; exact ⟨_, rfl, by omega, .inl (by omega)⟩
  · rw [if_neg (by simp; omega)]
    have key : ∀ i, i ≤ a.length → ∀ left : Int, 0 ≤ left → left ≤ 1048576 → (∃ r, laws_szNoteS.l0 a left i = some (.inl r) ∧ r < 0) ∨ ∃ r, laws_szNoteS.l0 a left i = some (.inr r) ∧ 0 ≤ r ∧ r ≤ left ∧ ∀ x ∈ a.drop i, Note.sm x := by
      refine down _ fun i hi ih left h0 h1 => ?_
      rw [laws_szNoteS.l0]
      by_cases hlt : i < a.length
      · have c : decide ((i : Int) < (a.length : Int)) = true := by simpa using hlt
        obtain ⟨r, e, hr, hs⟩ := szNote_sp a[i] left (ha.2 _ (List.getElem_mem hlt)) h0 h1
        simp only [c, if_true, ix_nat, List.getElem?_eq_getElem hlt, bind_some', e, w64_succ (show i < 9223372036854775807 by omega)]
        by_cases hn : r < 0
        · rw [if_pos (by simpa using hn)]; exact .inl ⟨_, rfl, by omega⟩
        · rw [if_neg (by simpa using hn)]
          rcases ih hlt r (by omega) (by omega) with ⟨q, e2, h2⟩ | ⟨q, e2, h2, h3, h4⟩
          · exact .inl ⟨q, e2, h2⟩
          · refine .inr ⟨q, e2, h2, by omega, fun x hx => ?_⟩
            rw [List.drop_eq_getElem_cons hlt] at hx
            rcases List.mem_cons.1 hx with rfl | hx
            · rcases hs with hs | hs
              · exact absurd hs hn
              · exact hs
            · exact h4 x hx
      · rw [if_neg (by simpa using hlt)]
        exact .inr ⟨_, rfl, h0, Int.le_refl _, by rw [List.drop_eq_nil_of_le (by omega)]; simp⟩
    rcases key 0 (by omega) (left - a.length) (by omega) (by omega) with ⟨q, e2, h2⟩ | ⟨q, e2, h2, h3, h4⟩
    · simp only [Int.natCast_zero] at e2
      rw [e2]; exact ⟨q, rfl, by omega, .inl h2⟩
    · simp only [Int.natCast_zero] at e2
      rw [e2]; exact ⟨q, rfl, by omega, .inr ⟨by omega, by simpa using h4⟩⟩
def Order.sm (x : Order) : Prop := smS x.Name ∧ smS x.Target ∧ smL Metric.sm x.Metrics ∧ smL Note.sm x.Notes
theorem szOrder_sp (x : Order) (left : Int) (h : Order.ok x) (h0 : 0 ≤ left) (h1 : left ≤ 1048576) : ∃ r, laws_szOrder x left = some r ∧ r ≤ left ∧ (r < 0 ∨ Order.sm x) := by
  have e1 := h.1
  have e2 := h.2.1
  unfold okS at e1 e2
  simp only [laws_szOrder, Order.sm, smS]
  rw [w64_id (n := left - _) (by omega) (by omega)]
  split
  · exact ⟨_, rfl, by omega, .inl (by omega)⟩
  · rename_i hn; simp at hn
    rw [w64_id (by omega) (by omega)]
    split
    · exact ⟨_, rfl, by omega, .inl (by omega)⟩
    · rename_i hn2; simp at hn2
      obtain ⟨r, e, hr, hs⟩ := szMetricS_sp x.Metrics (left - x.Name.length - x.Target.length) h.2.2.2.2.1 (by omega) (by omega)
      simp only [e, bind_some']
      split
      · exact ⟨_, rfl, by omega, .inl (by omega)⟩
      · rename_i h3; simp at h3
        obtain ⟨r2, e2, hr2, hs2⟩ := szNoteS_sp x.Notes r h.2.2.2.2.2.2 (by omega) (by omega)
        simp only [e2, bind_some']
        split
        · exact ⟨_, rfl, by omega, .inl (by omega)⟩
        · rename_i h4; simp at h4
          rcases hs with hs | hs
          · omega
          · rcases hs2 with hs2 | hs2
            · omega
            · exact ⟨_, rfl, by omega, .inr ⟨by omega, by omega, hs, hs2⟩⟩
theorem toOrder_some (x : Order) (h : Order.sm x) : laws_toOrder x = some x := by
  simp only [laws_toOrder, toMetricS_some _ h.2.2.1, toNoteS_some _ h.2.2.2, laws_toPace, bind_some']
theorem eqOrder_self (x : Order) (h : Order.sm x) : laws_eqOrder x x = some true := by
  simp only [laws_eqOrder, eqMetricS_self _ h.2.2.1, eqNoteS_self _ h.2.2.2, laws_eqPace, bind_some', beq_self_eq_true, bne_self_eq_false, Bool.not_true, Bool.false_eq_true, if_false]
theorem paceOk_same (p : Pace) : ∃ b, spec_PaceOk p = some b ∧ impl_PaceOk p = some b := by
  simp only [spec_PaceOk, impl_PaceOk, impl_isMany, in_some, from_some, bind_some']
  repeat' split
  all_goals exact ⟨_, rfl, rfl⟩
theorem byte_u8 (c : UInt8) : (byte c).toNat.toUInt8 = c := by
  simp [byte]
theorem byte_range (c : UInt8) : 0 ≤ byte c ∧ byte c ≤ 255 := by
  unfold byte; have := c.toNat_lt; omega
theorem byte_eq (c d : UInt8) : (byte c = byte d) ↔ c = d := by
  unfold byte
  constructor
  · intro h; exact UInt8.toNat_inj.1 (by omega)
  · intro h; rw [h]
theorem indexByte_four (c : UInt8) : Nt.indexByte [95, 46, 47, 45] c < 0 ↔ ¬ (byte c = 95) ∧ ¬ (byte c = 46) ∧ ¬ (byte c = 47) ∧ ¬ (byte c = 45) := by
  have h1 : (byte c = 95) ↔ c = 95 := byte_eq c 95
  have h2 : (byte c = 46) ↔ c = 46 := byte_eq c 46
  have h3 : (byte c = 47) ↔ c = 47 := byte_eq c 47
  have h4 : (byte c = 45) ↔ c = 45 := byte_eq c 45
  rw [h1, h2, h3, h4]
  simp only [Nt.indexByte]
  by_cases g1 : c = 95
  · subst g1; decide
  by_cases g2 : c = 46
  · subst g2; decide
  by_cases g3 : c = 47
  · subst g3; decide
  by_cases g4 : c = 45
  · subst g4; decide
  have f1 : ((95 : UInt8) == c) = false := by simp; exact fun h => g1 h.symm
  have f2 : ((46 : UInt8) == c) = false := by simp; exact fun h => g2 h.symm
  have f3 : ((47 : UInt8) == c) = false := by simp; exact fun h => g3 h.symm
  have f4 : ((45 : UInt8) == c) = false := by simp; exact fun h => g4 h.symm
  simp [f1, f2, f3, f4, g1, g2, g3, g4]
theorem plainOk_same (a : Str) (h : smS a) : ∃ b, spec_PlainOk a = some b ∧ impl_PlainOk a = some b := by
  unfold smS at h
  have key : ∀ i, i ≤ a.length → ∃ b, spec_PlainOk.l0 a i = some b ∧ impl_PlainOk.l0 a i = some b := by
    refine down _ fun i hi ih => ?_
    rw [spec_PlainOk.l0, impl_PlainOk.l0]
    by_cases hlt : i < a.length
    · have c : decide ((i : Int) < (a.length : Int)) = true := by simpa using hlt
      obtain ⟨b, e1, e2⟩ := ih hlt
      have hL : ∀ n, impl_isLetter n = spec_l5Letter n := fun n => by simp only [impl_isLetter, spec_l5Letter]
      have hT : ∀ n, ∃ t, spec_l5Letter n = some t := fun n => by
        simp only [spec_l5Letter]; repeat' split
        all_goals exact ⟨_, rfl⟩
      obtain ⟨t, ht⟩ := hT (byte a[i])
      simp only [c, if_true, ix_nat, List.getElem?_eq_getElem hlt, bind_some', impl_isDigit, hL, ht, w64_succ (show i < 9223372036854775807 by omega), e1, e2, strings_IndexByte, internal_stringslite_IndexByte, internal_bytealg_IndexByteString, byte_u8]
      have hx := indexByte_four a[i]
      have hq : decide (Nt.indexByte [95, 46, 47, 45] a[i] < 0) = decide (¬ (byte a[i] = 95) ∧ ¬ (byte a[i] = 46) ∧ ¬ (byte a[i] = 47) ∧ ¬ (byte a[i] = 45)) := by simp only [hx]
      rw [hq]
      generalize byte a[i] = x
      cases t
      · by_cases h3 : i = 0
        · subst h3; simp [bind_some']
        · have h3'' : ((i : Int) == 0) = false := by simp; omega
          by_cases h4 : x ≥ 48 <;> by_cases h5 : x ≤ 57 <;> by_cases h6 : x = 95 <;> by_cases h7 : x = 46 <;> by_cases h8 : x = 47 <;> by_cases h9 : x = 45 <;>
          first
          | omega
          | simp [h3'', h4, h5, h6, h7, h8, h9, bind_some']
      · simp
    · rw [if_neg (by simpa using hlt), if_neg (by simpa using hlt)]
      exact ⟨_, rfl, rfl⟩
  obtain ⟨b, e1, e2⟩ := key 0 (by omega)
  simp only [Int.natCast_zero] at e1 e2
  simp only [spec_PlainOk, impl_PlainOk, e1, e2, bind_some', in_some, from_some]
  cases b with
  | inl r => exact ⟨_, rfl, rfl⟩
  | inr u =>
    repeat' split
    all_goals exact ⟨_, rfl, rfl⟩
theorem ours_same (s : Str) : ∃ b, spec_l6Ours s = some b ∧ strings_HasPrefix s [113, 117, 97, 121, 47] = some b := by
  simp only [spec_l6Ours, strings_HasPrefix, internal_stringslite_HasPrefix, List.length_cons, List.length_nil]
  by_cases h : (s.length : Int) ≥ 5
  · have e : slc s 0 5 = some (cut s 0 5) := by simp only [slc]; rw [if_pos ⟨by omega, by omega, by omega⟩]; rfl
    rw [if_pos (by simpa using h), if_pos (by simpa using h)]
    have e' : slc s 0 ((0 + 1 + 1 + 1 + 1 + 1 : Nat) : Int) = some (cut s 0 5) := e
    rw [e, e']
    exact ⟨_, rfl, rfl⟩
  · rw [if_neg (by simpa using h), if_neg (by simpa using h)]
    exact ⟨_, rfl, rfl⟩
theorem textOk_same (a : Str) (h : smS a) : ∃ b, spec_TextOk a = some b ∧ impl_TextOk a = some b := by
  unfold smS at h
  have key : ∀ i, i ≤ a.length → ∃ b, spec_TextOk.l0 a i = some b ∧ impl_TextOk.l0 a i = some b := by
    refine down _ fun i hi ih => ?_
    rw [spec_TextOk.l0, impl_TextOk.l0]
    by_cases hlt : i < a.length
    · have c : decide ((i : Int) < (a.length : Int)) = true := by simpa using hlt
      obtain ⟨b, e1, e2⟩ := ih hlt
      have hb := byte_range a[i]
      simp only [c, if_true, ix_nat, List.getElem?_eq_getElem hlt, bind_some', from_some, w64_succ (show i < 9223372036854775807 by omega), e1, e2]
      rw [w64_id (by omega) (by omega)]
      generalize byte a[i] = x at hb
      by_cases h4 : x < 32 <;> by_cases h5 : x > 126 <;> first
        | omega
        | (have g4 : ¬ (32 ≤ x) ∨ 32 ≤ x := by omega
           rcases g4 with g4 | g4 <;> first
             | omega
             | (have g5 : ¬ (x ≤ 126) ∨ x ≤ 126 := by omega
                rcases g5 with g5 | g5 <;> first
                  | omega
                  | simp [h4, h5, g4, g5]))
    · rw [if_neg (by simpa using hlt), if_neg (by simpa using hlt)]
      exact ⟨_, rfl, rfl⟩
  obtain ⟨b, e1, e2⟩ := key 0 (by omega)
  simp only [Int.natCast_zero] at e1 e2
  simp only [spec_TextOk, impl_TextOk, e1, e2, bind_some']
  cases b with
  | inl r => exact ⟨_, rfl, rfl⟩
  | inr u => exact ⟨_, rfl, rfl⟩
theorem notes_same (a : List Note) (h : smL Note.sm a) : ∃ b, spec_l6Notes a = some b ∧ impl_notesOk a = some b := by
  have hl : a.length ≤ 1048576 := h.1
  have key : ∀ i, i ≤ a.length → ∃ b, spec_l6Notes.l0 a i = some b ∧ impl_notesOk.l0 a i = some b := by
    refine down _ fun i hi ih => ?_
    rw [spec_l6Notes.l0, impl_notesOk.l0]
    by_cases hlt : i < a.length
    · have c : decide ((i : Int) < (a.length : Int)) = true := by simpa using hlt
      obtain ⟨b, e1, e2⟩ := ih hlt
      have hm := h.2 _ (List.getElem_mem hlt)
      obtain ⟨p, p1, p2⟩ := plainOk_same a[i].Key hm.1
      obtain ⟨q, q1, q2⟩ := ours_same a[i].Key
      obtain ⟨t, t1, t2⟩ := textOk_same a[i].Text hm.2
      simp only [c, if_true, ix_nat, List.getElem?_eq_getElem hlt, bind_some', p1, p2, q1, q2, t1, t2, w64_succ (show i < 9223372036854775807 by omega), e1, e2]
      split
      · exact ⟨_, rfl, rfl⟩
      · split
        · exact ⟨_, rfl, rfl⟩
        · split
          · exact ⟨_, rfl, rfl⟩
          · split
            · exact ⟨_, rfl, rfl⟩
            · by_cases h0 : i = 0
              · subst h0; simp
              · have e : IntKind.i64.wrap ((i : Int) - 1) = ((i - 1 : Nat) : Int) := by rw [w64_id (by omega) (by omega)]; omega
                have c2 : decide ((i : Int) > 0) = true := by simp; omega
                simp only [c2, if_true, e, ix_nat, List.getElem?_eq_getElem (show i - 1 < a.length by omega), bind_some']
                split
                · exact ⟨_, rfl, rfl⟩
                · exact ⟨_, rfl, rfl⟩
    · rw [if_neg (by simpa using hlt), if_neg (by simpa using hlt)]
      exact ⟨_, rfl, rfl⟩
  obtain ⟨b, h1, h2⟩ := key 0 (by omega)
  simp only [Int.natCast_zero] at h1 h2
  simp only [spec_l6Notes, impl_notesOk, h1, h2, bind_some']
  cases b with
  | inl r => exact ⟨_, rfl, rfl⟩
  | inr u => exact ⟨_, rfl, rfl⟩
theorem metrics_same (o : Order) (h : smL Metric.sm o.Metrics) : ∃ b : Bool, spec_l6Metrics.l0 o.Metrics 0 = some (if b then .inr () else .inl false) ∧ impl_OrderOk.l0 o 0 = some (if b then .inr () else .inl false) := by
  have hl : o.Metrics.length ≤ 1048576 := h.1
  have key : ∀ i, i ≤ o.Metrics.length → ∃ b : Bool, spec_l6Metrics.l0 o.Metrics i = some (if b then .inr () else .inl false) ∧ impl_OrderOk.l0 o i = some (if b then .inr () else .inl false) := by
    refine down _ fun i hi ih => ?_
    rw [spec_l6Metrics.l0, impl_OrderOk.l0]
    by_cases hlt : i < o.Metrics.length
    · have c : decide ((i : Int) < (o.Metrics.length : Int)) = true := by simpa using hlt
      obtain ⟨b, e1, e2⟩ := ih hlt
      obtain ⟨p, p1, p2⟩ := metricOk_same o.Metrics[i] (h.2 _ (List.getElem_mem hlt))
      simp only [c, if_true, ix_nat, List.getElem?_eq_getElem hlt, bind_some', p1, p2, w64_succ (show i < 9223372036854775807 by omega), e1, e2]
      split
      · exact ⟨false, rfl, rfl⟩
      · by_cases h0 : i = 0
        · subst h0; exact ⟨b, by simp, by simp⟩
        · have e : IntKind.i64.wrap ((i : Int) - 1) = ((i - 1 : Nat) : Int) := by rw [w64_id (by omega) (by omega)]; omega
          have c2 : decide ((i : Int) > 0) = true := by simp; omega
          simp only [c2, if_true, e, ix_nat, List.getElem?_eq_getElem (show i - 1 < o.Metrics.length by omega), bind_some']
          split
          · exact ⟨false, rfl, rfl⟩
          · exact ⟨b, rfl, rfl⟩
    · rw [if_neg (by simpa using hlt), if_neg (by simpa using hlt)]
      exact ⟨true, rfl, rfl⟩
  simpa using key 0 (by omega)
theorem orderOk_same (o : Order) (h : Order.sm o) : ∃ b, spec_OrderOk o = some b ∧ impl_OrderOk o = some b := by
  obtain ⟨n, n1, n2⟩ := nameOk_same o.Name h.1
  obtain ⟨t, t1, t2⟩ := nameOk_same o.Target h.2.1
  obtain ⟨m, m1, m2⟩ := metrics_same o h.2.2.1
  obtain ⟨p, p1, p2⟩ := paceOk_same o.Pace
  obtain ⟨q, q1, q2⟩ := notes_same o.Notes h.2.2.2
  simp only [spec_OrderOk, impl_OrderOk, spec_l6Metrics, n1, n2, t1, t2, m1, m2, p1, p2, q1, q2, in_some, from_some, bind_some']
  generalize (decide (o.Low ≥ 1) && decide (o.Low ≤ o.High)) = x
  generalize decide (o.High ≤ 1000) = y
  generalize decide ((o.Metrics.length : Int) ≤ 4) = z
  cases n <;> cases t <;> cases m <;> cases p <;> cases q <;> cases x <;> cases y <;> cases z <;> exact ⟨_, rfl, rfl⟩
theorem max_some (a b : Int) : spec_l1Max a b = some (if b > a then b else a) := by
  simp only [spec_l1Max]
  by_cases h : a > b
  · rw [if_pos (by simpa using h), if_neg (by omega)]
  · rw [if_neg (by simpa using h)]
    by_cases h2 : b > a
    · rw [if_pos h2]
    · rw [if_neg h2]; congr 1; omega
theorem byAll_same (o : Order) (n : Int) (s : List Sample) (h : Order.sm o) (hs : smL Sample.sm s) : ∃ r, spec_ByAll o n s = some r ∧ impl_ByAll o n s = some r := by
  obtain ⟨p, p1, p2⟩ := orderOk_same o h
  obtain ⟨q, q1, q2⟩ := samplesOk_same s hs
  have hl : o.Metrics.length ≤ 1048576 := h.2.2.1.1
  by_cases hp : p = true ∧ q = true
  · obtain ⟨rfl, rfl⟩ := hp
    have key : ∀ i, i ≤ o.Metrics.length → ∀ m b, ∃ r, spec_ByAll.l0 o n s m b i = some r ∧ impl_ByAll.l0 o n s m b i = some r := by
      refine down _ fun i hi ih m b => ?_
      rw [spec_ByAll.l0, impl_ByAll.l0]
      by_cases hlt : i < o.Metrics.length
      · have c : decide ((i : Int) < (o.Metrics.length : Int)) = true := by simpa using hlt
        obtain ⟨v, v1, v2⟩ := sampleOf_same s o.Metrics[i].Name hs
        simp only [c, p1, q1, if_true, ix_nat, List.getElem?_eq_getElem hlt, bind_some', v1, v2, w64_succ (show i < 9223372036854775807 by omega)]
        by_cases hv : v.2 = true
        · obtain ⟨y, y1, y2⟩ := byOne_same o.Metrics[i] n v.1 (h.2.2.1.2 _ (List.getElem_mem hlt))
          obtain ⟨r, e1, e2⟩ := ih hlt (if y > m then y else m) true
          simp only [hv, if_true, y1, y2, bind_some', max_some, e1, e2]
          exact ⟨_, rfl, rfl⟩
        · obtain ⟨r, e1, e2⟩ := ih hlt m b
          simp only [hv, if_false, e1, e2]
          exact ⟨_, rfl, rfl⟩
      · rw [if_neg (by simpa using hlt), if_neg (by simpa using hlt)]
        exact ⟨_, rfl, rfl⟩
    obtain ⟨r, e1, e2⟩ := key 0 (by omega) 0 false
    simp only [Int.natCast_zero] at e1 e2
    simp only [spec_ByAll, impl_ByAll, e1, e2, p2, q2, bind_some', Bool.not_true, Bool.false_eq_true, if_false]
    split
    · exact ⟨_, rfl, rfl⟩
    · exact ⟨_, rfl, rfl⟩
  · have e : spec_ByAll.l0 o n s 0 false 0 = some (0, false) := by
      rw [spec_ByAll.l0]
      split
      · simp only [p1, q1, bind_some']
        cases p <;> cases q <;> simp at hp <;> rfl
      · rfl
    simp only [spec_ByAll, impl_ByAll, e, p2, q2, bind_some', Bool.not_false, if_true]
    cases p <;> cases q <;> simp at hp <;> exact ⟨_, rfl, rfl⟩
theorem okI_of {x : Int} (h0 : -9223372036854775808 ≤ x) (h1 : x ≤ 9223372036854775807) : okI x := by unfold okI; omega
theorem slow_same2 (p : Pace) (now n : Int) (u0 : 0 ≤ p.Up) (u1 : p.Up ≤ 1000) (d0 : 0 ≤ p.Down) (d1 : p.Down ≤ 1000) (h0 : 0 ≤ now) (h1 : now ≤ 1000) (hn : okI n) : spec_Slow p now n = some (slowV p now n) ∧ impl_Slow p now n = some (slowV p now n) := by
  have hnow : okI now := by unfold okI; omega
  have hu : okI p.Up := by unfold okI; omega
  have hd : okI p.Down := by unfold okI; omega
  have w1 : IntKind.i64.wrap (now + p.Up) = now + p.Up := w64_id (by omega) (by omega)
  have w2 : IntKind.i64.wrap (now - p.Down) = now - p.Down := w64_id (by omega) (by omega)
  simp only [spec_Slow, impl_Slow, beyond_some _ _ _ hn hnow hu, beyond_some _ _ _ hnow hn hd, bind_some', w1, w2, slowV]
  unfold okI at hn
  have z1 : n > now → n - now ≤ 9223372036854775807 → IntKind.i64.wrap (n - now) = n - now := fun _ _ => w64_id (by omega) (by omega)
  have z2 : n > now → n - now > 9223372036854775807 → IntKind.i64.wrap (n - now) < 0 := fun _ _ => by rw [w64_eq]; omega
  have z3 : n < now → now - n ≤ 9223372036854775807 → IntKind.i64.wrap (now - n) = now - n := fun _ _ => w64_id (by omega) (by omega)
  have z4 : n < now → now - n > 9223372036854775807 → IntKind.i64.wrap (now - n) < 0 := fun _ _ => by rw [w64_eq]; omega
  generalize IntKind.i64.wrap (n - now) = y1 at *
  generalize IntKind.i64.wrap (now - n) = y2 at *
  clear w1 w2
  constructor
  · by_cases a1 : p.Up = 0 <;> by_cases a2 : n > now <;> by_cases a3 : y1 > p.Up <;> by_cases a4 : y1 < 0 <;> by_cases b1 : p.Down = 0 <;> by_cases b2 : n < now <;> by_cases b3 : y2 > p.Down <;> by_cases b4 : y2 < 0 <;>
      first
      | omega
      | (have c1 : (n - now > p.Up) = (n > now ∧ (y1 > p.Up ∨ y1 < 0)) := by simp only [eq_iff_iff]; omega
         have c2 : (now - n > p.Down) = (n < now ∧ (y2 > p.Down ∨ y2 < 0)) := by simp only [eq_iff_iff]; omega
         simp [a1, a2, a3, a4, b1, b2, b3, b4, c1, c2])
  · by_cases a1 : p.Up = 0 <;> by_cases a2 : n - now > p.Up <;> by_cases b1 : p.Down = 0 <;> by_cases b2 : now - n > p.Down <;> simp [a1, a2, b1, b2]
def clampV (a lo hi : Int) : Int := if a < lo then lo else if a > hi then hi else a
theorem clamp_some (a lo hi : Int) : spec_Clamp a lo hi = some (clampV a lo hi) ∧ impl_Clamp a lo hi = some (clampV a lo hi) := by
  simp only [spec_Clamp, impl_Clamp, spec_l1Min, clampV]
  by_cases h1 : a < lo
  · simp [h1]
  · by_cases h2 : a > hi
    · have : ¬ a < hi := by omega
      simp [h1, h2, this, bind_some']
    · by_cases h3 : a < hi
      · simp [h1, h2, h3, bind_some']
      · have : hi = a := by omega
        simp [h1, h2, h3, bind_some', this]
theorem clampV_in {a lo hi : Int} (h : lo ≤ hi) : lo ≤ clampV a lo hi ∧ clampV a lo hi ≤ hi := by
  unfold clampV; split
  · omega
  · split <;> omega
/-- what an order is, where it is right -/
theorem orderOk_true (o : Order) (hs : Order.sm o) (h : impl_OrderOk o = some true) : 1 ≤ o.Low ∧ o.Low ≤ o.High ∧ o.High ≤ 1000 ∧ o.Metrics.length ≤ 4 ∧ impl_OrderOk.l0 o 0 = some (.inr ()) ∧ impl_NameOk o.Name = some true ∧ impl_NameOk o.Target = some true ∧ impl_PaceOk o.Pace = some true ∧ impl_notesOk o.Notes = some true := by
  obtain ⟨n, n1, n2⟩ := nameOk_same o.Name hs.1
  obtain ⟨t, t1, t2⟩ := nameOk_same o.Target hs.2.1
  obtain ⟨m, m1, m2⟩ := metrics_same o hs.2.2.1
  obtain ⟨p, p1, p2⟩ := paceOk_same o.Pace
  obtain ⟨q, q1, q2⟩ := notes_same o.Notes hs.2.2.2
  simp only [impl_OrderOk, n2, t2, m2, p2, q2, from_some, bind_some'] at h
  by_cases hx : o.Low ≥ 1 ∧ o.Low ≤ o.High <;> by_cases hy : o.High ≤ 1000 <;> by_cases hz : (o.Metrics.length : Int) ≤ 4 <;> cases n <;> cases t <;> cases m <;> cases p <;> cases q <;> simp [hx, hy, hz, bind_some'] at h
  all_goals first
    | (refine ⟨by omega, by omega, by omega, by omega, by rw [m2]; rfl, n2, t2, p2, q2⟩)
    | omega
theorem paceOk_true (p : Pace) (h : impl_PaceOk p = some true) : 0 ≤ p.Up ∧ p.Up ≤ 1000 ∧ 0 ≤ p.Down ∧ p.Down ≤ 1000 ∧ 0 ≤ p.UpSpan ∧ p.UpSpan ≤ 3600 ∧ 0 ≤ p.DownSpan ∧ p.DownSpan ≤ 3600 := by
  simp only [impl_PaceOk, impl_isMany, from_some, bind_some'] at h
  by_cases a : p.Up ≥ 0 ∧ p.Up ≤ 1000 <;> by_cases b : p.Down ≥ 0 ∧ p.Down ≤ 1000 <;> by_cases c : p.UpSpan ≥ 0 ∧ p.UpSpan ≤ 3600 <;> by_cases d : p.DownSpan ≥ 0 ∧ p.DownSpan ≤ 3600 <;> simp [a, b, c, d] at h <;> omega
theorem scaleOk_true (x : Scale) (hs : Scale.sm x) (h : impl_ScaleOk x = some true) : impl_NameOk x.Name = some true ∧ 0 ≤ x.Now ∧ x.Now ≤ 1000 ∧ impl_RecsOk x.Recs = some true := by
  obtain ⟨n, n1, n2⟩ := nameOk_same x.Name hs.1
  obtain ⟨p, p1, p2⟩ := recsOk_same x.Recs hs.2.1
  simp only [impl_ScaleOk, impl_isMany, n2, p2, from_some, bind_some'] at h
  by_cases a : x.Now ≥ 0 ∧ x.Now ≤ 1000 <;> cases n <;> cases p <;> simp [a] at h
  all_goals first
    | exact ⟨n2, a.1, a.2, p2⟩
    | omega
def Good (o : Order) (sc : Scale) (t : Int) (s : List Sample) : Prop := impl_OrderOk o = some true ∧ impl_ScaleOk sc = some true ∧ sc.Name = o.Name ∧ impl_SamplesOk s = some true ∧ 0 ≤ t ∧ t ≤ 1000000 ∧ ∀ r, sc.Recs[sc.Recs.length - 1]? = some r → r.Time ≤ t
theorem copy_some (sc : Scale) (hl : sc.Recs.length ≤ 1048576) : impl_copyScale sc = some sc ∧ spec_l17Copy sc = some sc := by
  have h3 : Nt.clone 16 sc.Recs = some sc.Recs := if_pos (by omega)
  have e1 : app 16 [] sc.Recs = some sc.Recs := app_ok (l := []) (by simp only [List.length_nil]; omega)
  simp only [impl_copyScale, spec_l17Copy, slices_Clone_Simpl_Rec_impl_Rec, h3, e1, bind_some', and_self]
theorem step_bad (o : Order) (sc : Scale) (t : Int) (s : List Sample) (ho : Order.sm o) (hs : Scale.sm sc) (hss : smL Sample.sm s) (hg : ¬ Good o sc t s) : spec_Step o sc t s = some (sc, sc.Now) ∧ impl_Step o sc t s = some (sc, sc.Now) := by
  obtain ⟨c1, c2⟩ := copy_some sc hs.2.1
  obtain ⟨p, p1, p2⟩ := orderOk_same o ho
  obtain ⟨q, q1, q2⟩ := scaleOk_same sc hs
  obtain ⟨u, u1, u2⟩ := samplesOk_same s hss
  have hl : sc.Recs.length ≤ 1048576 := hs.2.1
  unfold spec_Step impl_Step
  simp only [c1, c2, p1, p2, q1, q2, u1, u2, bind_some', in_some, impl_isTime, from_some]
  cases p
  · exact ⟨rfl, rfl⟩
  cases q
  · exact ⟨rfl, rfl⟩
  by_cases hn : sc.Name = o.Name
  · cases u
    · simp [hn]
    by_cases ht : 0 ≤ t ∧ t ≤ 1000000
    · have hlast : ∃ r, sc.Recs[sc.Recs.length - 1]? = some r ∧ t < r.Time := by
        refine Classical.byContradiction fun h => hg ⟨p2, q2, hn, u2, ht.1, ht.2, fun r hr => ?_⟩
        by_cases h2 : r.Time ≤ t
        · exact h2
        · exact absurd ⟨r, hr, by omega⟩ h
      obtain ⟨r, r1, r2⟩ := hlast
      have h0 : 0 < sc.Recs.length := by
        rcases Nat.lt_or_ge (sc.Recs.length - 1) sc.Recs.length with h | h
        · omega
        · rw [List.getElem?_eq_none h] at r1; simp at r1
      have e : IntKind.i64.wrap ((sc.Recs.length : Int) - 1) = ((sc.Recs.length - 1 : Nat) : Int) := by rw [w64_id (by omega) (by omega)]; omega
      have g1 : decide ((sc.Recs.length : Int) > 0) = true := decide_eq_true (by omega)
      have g2 : (decide (t ≥ 0) && decide (t ≤ 1000000)) = true := by simp; omega
      have g3 : decide (r.Time > t) = true := by simp; omega
      have g4 : decide (t < r.Time) = true := by simp; omega
      simp only [hn, g1, g2, g3, g4, e, ix_nat, r1, bind_some', beq_self_eq_true, Bool.not_true, Bool.false_eq_true, if_true, if_false, and_self]
    · have g2 : (decide (t ≥ 0) && decide (t ≤ 1000000)) = false := by
        cases h : (decide (t ≥ 0) && decide (t ≤ 1000000))
        · rfl
        · simp at h; omega
      simp [hn, g2]
  · have : (sc.Name == o.Name) = false := by simpa using hn
    simp [this]
theorem step_good (o : Order) (sc : Scale) (t : Int) (s : List Sample) (ho : Order.sm o) (hs : Scale.sm sc) (hr : okL Rec.ok sc.Recs) (hss : smL Sample.sm s) (hg : Good o sc t s) :
    ∃ v b, impl_ByAll o sc.Now s = some (v, b) ∧
      (b = false → spec_Step o sc t s = some (⟨sc.Name, clampV sc.Now o.Low o.High, sc.Recs⟩, clampV sc.Now o.Low o.High) ∧ impl_Step o sc t s = some (⟨sc.Name, clampV sc.Now o.Low o.High, sc.Recs⟩, clampV sc.Now o.Low o.High)) ∧
      (b = true → ∃ m st, impl_RecAdd sc.Recs t (clampV v o.Low o.High) = some m ∧ impl_Steady o.Pace sc.Recs t sc.Now (clampV v o.Low o.High) = some st ∧ spec_Step o sc t s = some (⟨sc.Name, clampV (slowV o.Pace sc.Now st) o.Low o.High, m⟩, clampV (slowV o.Pace sc.Now st) o.Low o.High) ∧ impl_Step o sc t s = some (⟨sc.Name, clampV (slowV o.Pace sc.Now st) o.Low o.High, m⟩, clampV (slowV o.Pace sc.Now st) o.Low o.High)) := by
  obtain ⟨p2, q2, hn, u2, t0, t1, hlast⟩ := hg
  obtain ⟨c1, c2⟩ := copy_some sc hs.2.1
  have hl : sc.Recs.length ≤ 1048576 := hs.2.1
  obtain ⟨_, p1, p2'⟩ := orderOk_same o ho
  obtain rfl := Option.some.inj (p2'.symm.trans p2)
  obtain ⟨_, q1, q2'⟩ := scaleOk_same sc hs
  obtain rfl := Option.some.inj (q2'.symm.trans q2)
  obtain ⟨_, u1, u2'⟩ := samplesOk_same s hss
  obtain rfl := Option.some.inj (u2'.symm.trans u2)
  obtain ⟨o1, o2, o3, _, _, _, _, op, _⟩ := orderOk_true o ho p2
  obtain ⟨a0, a1, b0, b1, d0, d1, e0, e1⟩ := paceOk_true o.Pace op
  obtain ⟨_, s0, s1, _⟩ := scaleOk_true sc hs q2
  obtain ⟨⟨v, b⟩, v1, v2⟩ := byAll_same o sc.Now s ho hss
  have hpo : Pace.ok o.Pace := ⟨okI_of (by omega) (by omega), okI_of (by omega) (by omega), okI_of (by omega) (by omega), okI_of (by omega) (by omega)⟩
  obtain ⟨m, m1, m2, m3, m4⟩ := recAdd_room sc.Recs t (clampV v o.Low o.High) hl
  obtain ⟨st, st1, st2, st3, st4, st5⟩ := steady_sp o.Pace sc.Recs t sc.Now (clampV v o.Low o.High) hpo hr hl (okI_of (by omega) (by omega))
  have hc := clampV_in (a := v) o2
  have hst : okI st := by
    rcases Int.lt_trichotomy (clampV v o.Low o.High) sc.Now with h | h | h
    · have := st3 h; exact okI_of (by omega) (by omega)
    · have := st5 h; exact okI_of (by omega) (by omega)
    · have := st4 h; exact okI_of (by omega) (by omega)
  obtain ⟨w1, w2⟩ := slow_same2 o.Pace sc.Now st a0 a1 b0 b1 s0 s1 hst
  have g2 : (decide (t ≥ 0) && decide (t ≤ 1000000)) = true := by simp; omega
  refine ⟨v, b, v2, fun hb => ?_, fun hb => ⟨m, st, m2, st2, ?_⟩⟩
  all_goals subst hb
  all_goals unfold spec_Step impl_Step
  all_goals simp only [c1, c2, p1, p2, q1, q2, u1, u2, v1, v2, m1, m2, st1, st2, w1, w2, hn, g2, bind_some', in_some, impl_isTime, from_some, (clamp_some _ _ _).1, (clamp_some _ _ _).2, beq_self_eq_true, Bool.not_true, Bool.not_false, Bool.false_eq_true, if_true, if_false]
  all_goals
    by_cases h0 : sc.Recs.length = 0
    · have g1 : decide ((sc.Recs.length : Int) > 0) = false := decide_eq_false (by omega)
      simp only [g1, Bool.false_eq_true, if_false, and_self]
    · have e : IntKind.i64.wrap ((sc.Recs.length : Int) - 1) = ((sc.Recs.length - 1 : Nat) : Int) := by rw [w64_id (by omega) (by omega)]; omega
      have g1 : decide ((sc.Recs.length : Int) > 0) = true := decide_eq_true (by omega)
      have r1 : sc.Recs[sc.Recs.length - 1]? = some (sc.Recs[sc.Recs.length - 1]'(by omega)) := List.getElem?_eq_getElem _
      have r2 := hlast _ r1
      simp only [g1, e, ix_nat, r1, bind_some', if_true]
      have r3 : decide ((sc.Recs[sc.Recs.length - 1]'(by omega)).Time > t) = false := by simpa using r2
      have r4 : decide (t < (sc.Recs[sc.Recs.length - 1]'(by omega)).Time) = false := by simpa using r2
      simp only [r3, r4, Bool.false_eq_true, if_false, and_self]
theorem by_some {α β : Type} {e : Option α} {x : α} (h : e = some x) (f : α → Option β) : (e >>= f) = f x := by rw [h]; rfl
theorem no_bne (x : Int) : ¬ ((x != x) = true) := by simp
theorem step_same (o : Order) (sc : Scale) (t : Int) (s : List Sample) (ho : Order.sm o) (hs : Scale.sm sc) (hr : okL Rec.ok sc.Recs) (hss : smL Sample.sm s) :
    ∃ r, spec_Step o sc t s = some r ∧ impl_Step o sc t s = some r ∧ Scale.sm r.1 ∧ okL Rec.ok r.1.Recs := by
  by_cases hg : Good o sc t s
  · obtain ⟨v, b, v1, v2, v3⟩ := step_good o sc t s ho hs hr hss hg
    obtain ⟨p2, q2, hn, u2, t0, t1, hlast⟩ := hg
    obtain ⟨_, _, _, qr⟩ := scaleOk_true sc hs q2
    obtain ⟨o1, o2, o3, _⟩ := orderOk_true o ho p2
    have h12 := recsOk_len sc.Recs hs.2.1 qr
    cases b with
    | false =>
      obtain ⟨e1, e2⟩ := v2 rfl
      exact ⟨_, e1, e2, ⟨hs.1, hs.2⟩, hr⟩
    | true =>
      obtain ⟨m, st, m1, _, e1, e2⟩ := v3 rfl
      obtain ⟨m', _, m2, m3, m4⟩ := recAdd_room sc.Recs t (clampV v o.Low o.High) hs.2.1
      obtain rfl := Option.some.inj (m2.symm.trans m1)
      have hc := clampV_in (a := v) o2
      refine ⟨_, e1, e2, ⟨hs.1, by show m'.length ≤ 1048576; omega, fun _ _ => trivial⟩, ⟨?_, fun x hx => ?_⟩⟩
      · show m'.length ≤ _
        omega
      · have hall : ∀ x ∈ sc.Recs ++ [Rec.mk t (clampV v o.Low o.High)], Rec.ok x := by
          intro x hx
          rcases List.mem_append.1 hx with hx | hx
          · exact hr.2 x hx
          · simp only [List.mem_singleton] at hx
            subst hx
            exact ⟨okI_of (by show _ ≤ t; omega) (by show t ≤ _; omega), okI_of (by show _ ≤ clampV v o.Low o.High; omega) (by show clampV v o.Low o.High ≤ _; omega)⟩
        rcases m4 with rfl | ⟨_, h | ⟨h, _⟩, _⟩
        · exact hr.2 x hx
        · rw [h] at hx; exact hall x hx
        · rw [h] at hx; exact hall x (List.mem_of_mem_drop hx)
  · obtain ⟨e1, e2⟩ := step_bad o sc t s ho hs hss hg
    exact ⟨_, e1, e2, hs, hr⟩
theorem cat_ok {s t : Str} (h : s.length + t.length ≤ 4398046511104) : cat s t = some (s ++ t) := by
  unfold cat
  rw [if_neg]
  have : IntKind.i64.max = 9223372036854775807 := rfl
  omega
theorem markText_l0 : ∀ (n : Nat) (v : Int) (s : Str), v.toNat = n → 0 ≤ v → v ≤ 2199023255552 → v + (s.length : Int) ≤ 2199023255552 → ∃ r, laws_markText.l0 v s = some r ∧ r.length ≤ 2199023255552 := by
  intro n
  induction n using Nat.strongRecOn with
  | _ n ih =>
    intro v s hn h0 h1 h2
    rw [laws_markText.l0]
    by_cases hv : v > 0
    · have hd : Int.tdiv v 10 = v / 10 := Int.tdiv_eq_ediv_of_nonneg h0
      have e : IntKind.i64.wrap (Int.tdiv v 10) = v / 10 := by rw [hd]; exact w64_id (by omega) (by omega)
      rw [if_pos (by simpa using hv), cat_ok (by simp [strOf]; omega)]
      simp only [bind_some', e]
      exact ih _ (by omega) (v / 10) _ rfl (by omega) (by omega) (by simp [strOf]; omega)
    · rw [if_neg (by simpa using hv)]
      exact ⟨s, rfl, by omega⟩
theorem markText_some (k : Int) (h0 : 0 ≤ k) (h1 : k ≤ 1099511627776) : ∃ s, laws_markText k = some s := by
  unfold laws_markText
  split
  · exact ⟨_, rfl⟩
  · obtain ⟨r, e, hr⟩ := markText_l0 _ k [] rfl h0 (by omega) (by simp; omega)
    simp only [e, bind_some']
    rw [cat_ok (by simp; omega)]
    exact ⟨_, rfl⟩
theorem markMetricS_ex (a : List Metric) (k : Int) (h : a.length ≤ 1048576) (h0 : 0 ≤ k) (h1 : k ≤ 1073741824) : ∃ m, laws_markMetricS a k = some (k + 3 * (a.length : Int), m) := by
  have key : ∀ i, i ≤ a.length → ∀ v : List Metric, v.length = a.length → ∃ m, laws_markMetricS.l0 (k + 3 * (i : Int)) i v = some (k + 3 * (a.length : Int), m) := by
    refine down _ fun i hi ih v hv => ?_
    rw [laws_markMetricS.l0]
    by_cases hlt : i < a.length
    · have c : decide ((i : Int) < (v.length : Int)) = true := by simp; omega
      have hv' : i < v.length := by omega
      have e : IntKind.i64.wrap (k + 3 * (i : Int) + 1) = k + 3 * (i : Int) + 1 := w64_id (by omega) (by omega)
      have e1 : IntKind.i64.wrap (k + 3 * (i : Int) + 1 + 1) = k + 3 * (i : Int) + 2 := by rw [w64_id (by omega) (by omega)]; omega
      have e2 : IntKind.i64.wrap (k + 3 * (i : Int) + 2 + 1) = k + 3 * ((i + 1 : Nat) : Int) := by rw [w64_id (by omega) (by omega)]; omega
      have hp : ∀ x y, Nt.put (v.set i x) (i : Int) y = some (v.set i y) := fun x y => by rw [put_nat (by simpa using hv'), List.set_set]
      obtain ⟨s, hs⟩ := markText_some (k + 3 * (i : Int)) (by omega) (by omega)
      simp only [c, if_true, hs, ix_nat, List.getElem?_eq_getElem hv', bind_some', put_nat hv', hp, List.getElem?_set_self hv', w64_succ (show i < 9223372036854775807 by omega), e, e1, e2]
      exact ih hlt _ (by simpa using hv)
    · rw [if_neg (by simp; omega)]
      obtain rfl : i = a.length := by omega
      exact ⟨_, rfl⟩
  obtain ⟨m, hm⟩ := key 0 (by omega) a rfl
  simp only [Int.natCast_zero, Int.mul_zero, Int.add_zero] at hm
  simp only [laws_markMetricS, hm, bind_some']
  exact ⟨_, rfl⟩
theorem markNoteS_ex (a : List Note) (k : Int) (h : a.length ≤ 1048576) (h0 : 0 ≤ k) (h1 : k ≤ 1073741824) : ∃ m, laws_markNoteS a k = some (k + 2 * (a.length : Int), m) := by
  have key : ∀ i, i ≤ a.length → ∀ v : List Note, v.length = a.length → ∃ m, laws_markNoteS.l0 (k + 2 * (i : Int)) i v = some (k + 2 * (a.length : Int), m) := by
    refine down _ fun i hi ih v hv => ?_
    rw [laws_markNoteS.l0]
    by_cases hlt : i < a.length
    · have c : decide ((i : Int) < (v.length : Int)) = true := by simp; omega
      have hv' : i < v.length := by omega
      have e : IntKind.i64.wrap (k + 2 * (i : Int) + 1) = k + 2 * (i : Int) + 1 := w64_id (by omega) (by omega)
      have e1 : IntKind.i64.wrap (k + 2 * (i : Int) + 1 + 1) = k + 2 * ((i + 1 : Nat) : Int) := by rw [w64_id (by omega) (by omega)]; omega
      have hp : ∀ x y, Nt.put (v.set i x) (i : Int) y = some (v.set i y) := fun x y => by rw [put_nat (by simpa using hv'), List.set_set]
      obtain ⟨s, hs⟩ := markText_some (k + 2 * (i : Int)) (by omega) (by omega)
      obtain ⟨s', hs'⟩ := markText_some (k + 2 * (i : Int) + 1) (by omega) (by omega)
      simp only [c, if_true, hs, hs', ix_nat, List.getElem?_eq_getElem hv', bind_some', put_nat hv', hp, List.getElem?_set_self hv', w64_succ (show i < 9223372036854775807 by omega), e, e1]
      exact ih hlt _ (by simpa using hv)
    · rw [if_neg (by simp; omega)]
      obtain rfl : i = a.length := by omega
      exact ⟨_, rfl⟩
  obtain ⟨m, hm⟩ := key 0 (by omega) a rfl
  simp only [Int.natCast_zero, Int.mul_zero, Int.add_zero] at hm
  simp only [laws_markNoteS, hm, bind_some']
  exact ⟨_, rfl⟩
theorem markSampleS_ex (a : List Sample) (k : Int) (h : a.length ≤ 1048576) (h0 : 0 ≤ k) (h1 : k ≤ 1073741824) : ∃ m, laws_markSampleS a k = some (k + 2 * (a.length : Int), m) := by
  have key : ∀ i, i ≤ a.length → ∀ v : List Sample, v.length = a.length → ∃ m, laws_markSampleS.l0 (k + 2 * (i : Int)) i v = some (k + 2 * (a.length : Int), m) := by
    refine down _ fun i hi ih v hv => ?_
    rw [laws_markSampleS.l0]
    by_cases hlt : i < a.length
    · have c : decide ((i : Int) < (v.length : Int)) = true := by simp; omega
      have hv' : i < v.length := by omega
      have e : IntKind.i64.wrap (k + 2 * (i : Int) + 1) = k + 2 * (i : Int) + 1 := w64_id (by omega) (by omega)
      have e1 : IntKind.i64.wrap (k + 2 * (i : Int) + 1 + 1) = k + 2 * ((i + 1 : Nat) : Int) := by rw [w64_id (by omega) (by omega)]; omega
      have hp : ∀ x y, Nt.put (v.set i x) (i : Int) y = some (v.set i y) := fun x y => by rw [put_nat (by simpa using hv'), List.set_set]
      obtain ⟨s, hs⟩ := markText_some (k + 2 * (i : Int)) (by omega) (by omega)
      simp only [c, if_true, hs, ix_nat, List.getElem?_eq_getElem hv', bind_some', put_nat hv', hp, List.getElem?_set_self hv', w64_succ (show i < 9223372036854775807 by omega), e, e1]
      exact ih hlt _ (by simpa using hv)
    · rw [if_neg (by simp; omega)]
      obtain rfl : i = a.length := by omega
      exact ⟨_, rfl⟩
  obtain ⟨m, hm⟩ := key 0 (by omega) a rfl
  simp only [Int.natCast_zero, Int.mul_zero, Int.add_zero] at hm
  simp only [laws_markSampleS, hm, bind_some']
  exact ⟨_, rfl⟩
theorem markRecS_ex (a : List Rec) (k : Int) (h : a.length ≤ 1048576) (h0 : 0 ≤ k) (h1 : k ≤ 1073741824) : ∃ m, laws_markRecS a k = some (k + 2 * (a.length : Int), m) := by
  have key : ∀ i, i ≤ a.length → ∀ v : List Rec, v.length = a.length → ∃ m, laws_markRecS.l0 (k + 2 * (i : Int)) i v = some (k + 2 * (a.length : Int), m) := by
    refine down _ fun i hi ih v hv => ?_
    rw [laws_markRecS.l0]
    by_cases hlt : i < a.length
    · have c : decide ((i : Int) < (v.length : Int)) = true := by simp; omega
      have hv' : i < v.length := by omega
      have e : IntKind.i64.wrap (k + 2 * (i : Int) + 1) = k + 2 * (i : Int) + 1 := w64_id (by omega) (by omega)
      have e1 : IntKind.i64.wrap (k + 2 * (i : Int) + 1 + 1) = k + 2 * ((i + 1 : Nat) : Int) := by rw [w64_id (by omega) (by omega)]; omega
      have hp : ∀ x y, Nt.put (v.set i x) (i : Int) y = some (v.set i y) := fun x y => by rw [put_nat (by simpa using hv'), List.set_set]
      simp only [c, if_true, ix_nat, List.getElem?_eq_getElem hv', bind_some', put_nat hv', hp, List.getElem?_set_self hv', w64_succ (show i < 9223372036854775807 by omega), e, e1]
      exact ih hlt _ (by simpa using hv)
    · rw [if_neg (by simp; omega)]
      obtain rfl : i = a.length := by omega
      exact ⟨_, rfl⟩
  obtain ⟨m, hm⟩ := key 0 (by omega) a rfl
  simp only [Int.natCast_zero, Int.mul_zero, Int.add_zero] at hm
  simp only [laws_markRecS, hm, bind_some']
  exact ⟨_, rfl⟩
theorem markOrder_ex (o : Order) (h : Order.sm o) : ∃ m, laws_markOrder_nnnnonnnno o 1 = some (1 + 3 * (o.Metrics.length : Int) + 2 * (o.Notes.length : Int), m) := by
  obtain ⟨m, hm⟩ := markMetricS_ex o.Metrics 1 h.2.2.1.1 (by omega) (by omega)
  have := h.2.2.1.1
  obtain ⟨n, hn⟩ := markNoteS_ex o.Notes (1 + 3 * (o.Metrics.length : Int)) h.2.2.2.1 (by omega) (by omega)
  simp only [laws_markOrder_nnnnonnnno, hm, hn, bind_some']
  exact ⟨_, rfl⟩
theorem markScale_ex (o : Scale) (k : Int) (h : Scale.sm o) (h0 : 0 ≤ k) (h1 : k ≤ 1073741824) : ∃ m, laws_markScale_nno o k = some (k + 2 * (o.Recs.length : Int), m) := by
  obtain ⟨m, hm⟩ := markRecS_ex o.Recs k h.2.1 h0 h1
  simp only [laws_markScale_nno, hm, bind_some']
  exact ⟨_, rfl⟩
theorem markScale_1 (o : Scale) (h : Scale.sm o) : laws_markScale_nno o 1 = some (1 + 2 * (o.Recs.length : Int), markR 1 o.Recs.length) := by
  simp only [laws_markScale_nno, markRecS_some o.Recs h.2.1, bind_some']
theorem heldScale_1 (a : Str) (b : Int) (n : Nat) (h : n ≤ 1048576) : laws_heldScale (Scale.mk a b (markR 1 n)) 1 = some (1 + 2 * (n : Int)) := by
  simp only [laws_heldScale, heldRecS_some n h, bind_some']
  rw [if_neg (by simp; omega)]
theorem Pure.FnExactStep (o : Order) (sc : Scale) (t : Int) (s : List Sample) (ho : Order.ok o) (hs : Scale.ok sc) (ht : okI t) (hss : okL Sample.ok s) : laws_FnExactStep o sc t s = some true := by
  unfold laws_FnExactStep
  obtain ⟨r, e, hle, hr⟩ := szOrder_sp o _ ho (by omega : (0 : Int) ≤ 1048576) (by omega)
  rw [by_some e]
  rcases hr with hr | hr
  · rw [if_pos (decide_eq_true hr)]
  by_cases h3 : decide (r < 0) = true
  · rw [if_pos h3]
  rw [if_neg h3]; simp at h3
  obtain ⟨r2, e2, hle2, hr2⟩ := szScale_sp sc r hs (by omega) (by omega)
  rw [by_some e2]
  rcases hr2 with hr2 | hr2
  · rw [if_pos (decide_eq_true hr2)]
  by_cases h4 : decide (r2 < 0) = true
  · rw [if_pos h4]
  rw [if_neg h4]; simp at h4
  obtain ⟨r3, e3, hle3, hr3⟩ := szSampleS_sp s r2 hss (by omega) (by omega)
  rw [by_some e3]
  rcases hr3 with hr3 | hr3
  · rw [if_pos (decide_eq_true hr3)]
  by_cases h5 : decide (r3 < 0) = true
  · rw [if_pos h5]
  rw [if_neg h5]
  obtain ⟨x, x1, x2, x3, x4⟩ := step_same o sc t s hr hr2 hs.2.2 hr3
  obtain ⟨w, n⟩ := x
  simp only at x3 x4
  obtain ⟨m1, k1⟩ := markOrder_ex o hr
  have q1 := hr.2.2.1.1
  have q2 := hr.2.2.2.1
  have q3 := hr2.2.1
  have q4 := hr3.1
  have q5 : w.Recs.length ≤ 1048576 := x3.2.1
  obtain ⟨m2, k2⟩ := markScale_ex sc (1 + 3 * (o.Metrics.length : Int) + 2 * (o.Notes.length : Int)) hr2 (by omega) (by omega)
  obtain ⟨m3, k3⟩ := markSampleS_ex s (1 + 3 * (o.Metrics.length : Int) + 2 * (o.Notes.length : Int) + 2 * (sc.Recs.length : Int)) hr3.1 (by omega) (by omega)
  have c1 : decide (1 + 3 * (o.Metrics.length : Int) + 2 * (o.Notes.length : Int) + 2 * (sc.Recs.length : Int) + 2 * (s.length : Int) < 0) = false := decide_eq_false (by omega)
  have c2 : decide (1 + 2 * (w.Recs.length : Int) < 0) = false := decide_eq_false (by omega)
  repeat first
    | rw [by_some (toOrder_some o hr)]
    | rw [by_some (toScale_some sc hr2)]
    | rw [by_some (toSampleS_some s hr3)]
    | rw [by_some x1]
    | rw [by_some x2]
    | rw [by_some (eqScale_self w x3)]
    | rw [by_some (eqOrder_self o hr)]
    | rw [by_some (eqScale_self sc hr2)]
    | rw [by_some (eqSampleS_self s hr3)]
    | rw [by_some k1]
    | rw [by_some k2]
    | rw [by_some k3]
    | rw [by_some (markScale_1 w x3)]
    | rw [by_some (heldScale_1 w.Name w.Now _ q5)]
    | rw [if_neg (show ¬ ((!true) = true) by decide)]
    | rw [if_neg (no_bne _)]
    | rw [if_neg (show ¬ (decide (1 + 3 * (o.Metrics.length : Int) + 2 * (o.Notes.length : Int) + 2 * (sc.Recs.length : Int) + 2 * (s.length : Int) < 0) = true) by rw [c1]; decide)]
    | rw [if_neg (show ¬ (decide (1 + 2 * (w.Recs.length : Int) < 0) = true) by rw [c2]; decide)]
end Go.Pu
