import Derived.Test.YtgeingpadegppaaByOnePu
set_option linter.unusedVariables false
set_option linter.unusedSimpArgs false
namespace Go.Pu
open Go.Nt
theorem w64_id {n : Int} (h0 : -9223372036854775808 ≤ n) (h1 : n ≤ 9223372036854775807) : IntKind.i64.wrap n = n := by
  simp only [IntKind.wrap, IntKind.bits, IntKind.signed, Bool.true_and]
  split
  · rename_i h; simp at h; omega
  · rename_i h; simp at h; omega
theorem w64_succ {i : Nat} (h : i < 9223372036854775807) : IntKind.i64.wrap ((i : Int) + 1) = ((i + 1 : Nat) : Int) := by
  rw [w64_id (by omega) (by omega)]; omega
theorem ix_nat {α : Type} (l : List α) (i : Nat) : ix l (i : Int) = l[i]? := by simp [ix]
/-- down from the end -/
theorem down {P : Nat → Prop} (n : Nat) (h : ∀ i, i ≤ n → (i < n → P (i + 1)) → P i) : ∀ i, i ≤ n → P i := by
  intro i hi
  obtain ⟨k, hk⟩ : ∃ k, k = n - i := ⟨_, rfl⟩
  induction k generalizing i with
  | zero => exact h i hi fun hlt => by omega
  | succ k ih => exact h i hi fun hlt => ih (i + 1) hlt (by omega)
theorem bind_some' {α β : Type} (x : α) (f : α → Option β) : (some x >>= f) = f x := rfl
def smS (s : Str) : Prop := s.length ≤ 1048576
theorem in_some (a b c : Int) : spec_l1In a b c = some (decide (a ≥ b) && decide (a ≤ c)) := by
  simp only [spec_l1In]; by_cases h : a ≥ b <;> simp [h]
theorem from_some (a b c : Int) : impl_from a b c = some (decide (a ≥ b) && decide (a ≤ c)) := by
  simp only [impl_from]; by_cases h : a ≥ b <;> simp [h]
theorem nameOk_same (a : Str) (h : smS a) : ∃ b, spec_NameOk a = some b ∧ impl_NameOk a = some b := by
  unfold smS at h
  have key : ∀ i, i ≤ a.length → ∃ b, spec_NameOk.l0 a i = some b ∧ impl_NameOk.l0 a i = some b := by
    refine down _ fun i hi ih => ?_
    rw [spec_NameOk.l0, impl_NameOk.l0]
    by_cases hlt : i < a.length
    · have c : decide ((i : Int) < (a.length : Int)) = true := by simpa using hlt
      obtain ⟨b, e1, e2⟩ := ih hlt
      simp only [c, if_true, ix_nat, List.getElem?_eq_getElem hlt, bind_some', impl_isDigit, w64_succ (show i < 9223372036854775807 by omega), e1, e2]
      generalize byte a[i] = x
      by_cases h1 : x ≥ 97 <;> by_cases h2 : x ≤ 122 <;> by_cases h3 : i = 0 <;> by_cases h4 : x ≥ 48 <;> by_cases h5 : x ≤ 57 <;> by_cases h6 : x = 45 <;>
        first
        | omega
        | (have h3' : (i : Int) > 0 := by omega
           have h3'' : ¬ ((i : Int) = 0) := by omega
           have h7 : 0 < i := by omega
           simp [h1, h2, h3, h3', h3'', h7, h4, h5, h6, bind_some'])
        | (subst h3; simp [h1, h2, h4, h5, h6, bind_some'])
    · rw [if_neg (by simpa using hlt), if_neg (by simpa using hlt)]
      exact ⟨_, rfl, rfl⟩
  obtain ⟨b, e1, e2⟩ := key 0 (by omega)
  simp only [Int.natCast_zero] at e1 e2
  simp only [spec_NameOk, impl_NameOk, e1, e2, bind_some', in_some, from_some]
  cases b with
  | inl r => exact ⟨_, rfl, rfl⟩
  | inr u => exact ⟨_, rfl, rfl⟩
def Metric.sm (x : Metric) : Prop := smS x.Name
theorem szMetric_sp (x : Metric) (left : Int) (h : Metric.ok x) (h0 : 0 ≤ left) (h1 : left ≤ 1048576) : ∃ r, laws_szMetric x left = some r ∧ r ≤ left ∧ (r < 0 ∨ Metric.sm x) := by
  have := h.1
  unfold okS at this
  simp only [laws_szMetric, Metric.sm, smS]
  rw [w64_id (by omega) (by omega)]
  split
  · exact ⟨_, rfl, by omega, .inl (by omega)⟩
  · rename_i h; simp at h; exact ⟨_, rfl, by omega, .inr (by omega)⟩
theorem ceilDiv_same (a b : Int) : ∃ r, spec_CeilDiv a b = some r ∧ impl_CeilDiv a b = some r := by
  simp only [spec_CeilDiv, impl_CeilDiv, in_some, from_some, bind_some']
  split
  · exact ⟨_, rfl, rfl⟩
  · split
    · exact ⟨_, rfl, rfl⟩
    · rename_i h1 h2
      simp at h2
      simp only [Nt.quo]
      rw [if_neg (by omega)]
      exact ⟨_, rfl, rfl⟩
theorem metricOk_same (m : Metric) (h : Metric.sm m) : ∃ b, spec_MetricOk m = some b ∧ impl_MetricOk m = some b := by
  obtain ⟨n, n1, n2⟩ := nameOk_same m.Name h
  simp only [spec_MetricOk, impl_MetricOk, n1, n2, bind_some', in_some, from_some]
  repeat' split
  all_goals exact ⟨_, rfl, rfl⟩
theorem byOne_same (m : Metric) (x y : Int) (h : Metric.sm m) : ∃ b, spec_ByOne m x y = some b ∧ impl_ByOne m x y = some b := by
  obtain ⟨n, n1, n2⟩ := metricOk_same m h
  obtain ⟨p, p1, p2⟩ := ceilDiv_same y m.Goal
  obtain ⟨q, q1, q2⟩ := ceilDiv_same (IntKind.i64.wrap (x * y)) m.Goal
  simp only [spec_ByOne, impl_ByOne, n1, n2, bind_some', in_some, from_some, impl_isMany, impl_isValue, p1, p2, q1, q2]
  repeat' split
  all_goals exact ⟨_, rfl, rfl⟩
theorem Pure.FnExactByOne (m : Metric) (x y : Int) (hm : Metric.ok m) (hx : okI x) (hy : okI y) : laws_FnExactByOne m x y = some true := by
  simp only [laws_FnExactByOne]
  obtain ⟨r, e, _, hr⟩ := szMetric_sp m _ hm (by omega : (0 : Int) ≤ 1048576) (by omega)
  simp only [e, bind_some']
  rcases hr with hr | hr
  · rw [if_pos (by simpa using hr)]
  · obtain ⟨b, h1, h2⟩ := byOne_same m x y hr
    split
    · rfl
    · simp only [laws_toMetric, bind_some', h1, h2, bne_self_eq_false, Bool.false_eq_true, if_false]
end Go.Pu
