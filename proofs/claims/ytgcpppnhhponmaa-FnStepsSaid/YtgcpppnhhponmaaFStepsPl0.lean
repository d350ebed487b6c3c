import Derived.Test.YtgcpppnhhponmaaFStepsPu
set_option linter.unusedVariables false
set_option linter.unusedSimpArgs false
set_option synthInstance.maxSize 1000000000
namespace Go.Pu
open Go.Nt
theorem w64_id {n : Int} (h0 : -9223372036854775808 ≤ n) (h1 : n ≤ 9223372036854775807) : IntKind.i64.wrap n = n := by
  simp only [IntKind.wrap, IntKind.bits, IntKind.signed, Bool.true_and]
  split
  · rename_i h; simp at h; omega
  · rename_i h; simp at h; omega
theorem w64_succ {i : Nat} (h : i < 9223372036854775807) : IntKind.i64.wrap ((i : Int) + 1) = ((i + 1 : Nat) : Int) := by
  rw [w64_id (by omega) (by omega)]; omega
theorem ix_nat {α : Type} (l : List α) (i : Nat) : ix l (i : Int) = l[i]? := by simp [ix]
theorem put_nat {α : Type} {l : List α} {i : Nat} {x : α} (h : i < l.length) : Nt.put l (i : Int) x = some (l.set i x) := by simp [Nt.put, h]
theorem app_ok {α : Type} {b : Nat} {l m : List α} (h : (l.length + m.length) * b ≤ 70368744177664) : app b l m = some (l ++ m) := by
  simp only [app]; rw [if_pos h]
/-- down from the end -/
theorem down {P : Nat → Prop} (n : Nat) (h : ∀ i, i ≤ n → (i < n → P (i + 1)) → P i) : ∀ i, i ≤ n → P i := by
  intro i hi
  obtain ⟨k, hk⟩ : ∃ k, k = n - i := ⟨_, rfl⟩
  induction k generalizing i with
  | zero => exact h i hi fun hlt => by omega
  | succ k ih => exact h i hi fun hlt => ih (i + 1) hlt (by omega)
theorem bind_some' {α β : Type} (x : α) (f : α → Option β) : (some x >>= f) = f x := rfl
def smL {α : Type} (p : α → Prop) (l : List α) : Prop := l.length ≤ 1048576 ∧ ∀ x ∈ l, p x
def smS (s : Str) : Prop := s.length ≤ 1048576
def Sample.sm (x : Sample) : Prop := smS x.Name
theorem in_some (a b c : Int) : spec_l1In a b c = some (decide (a ≥ b) && decide (a ≤ c)) := by
  simp only [spec_l1In]; by_cases h : a ≥ b <;> simp [h]
theorem from_some (a b c : Int) : impl_from a b c = some (decide (a ≥ b) && decide (a ≤ c)) := by
  simp only [impl_from]; by_cases h : a ≥ b <;> simp [h]
theorem recsOk_same (a : List Rec) (h : a.length ≤ 1048576) : ∃ b, spec_RecsOk a = some b ∧ impl_RecsOk a = some b := by
  have key : ∀ i, i ≤ a.length → ∃ b, spec_RecsOk.l0 a i = some b ∧ impl_RecsOk.l0 a i = some b := by
    refine down _ fun i hi ih => ?_
    rw [spec_RecsOk.l0, impl_RecsOk.l0]
    by_cases hlt : i < a.length
    · obtain ⟨b, h1, h2⟩ := ih hlt
      have c : decide ((i : Int) < (a.length : Int)) = true := by simpa using hlt
      simp only [impl_isTime, impl_isMany, in_some, from_some, bind_some', ix_nat, List.getElem?_eq_getElem hlt, w64_succ (show i < 9223372036854775807 by omega), h1, h2, c, if_true]
      split
      · exact ⟨_, rfl, rfl⟩
      · split
        · exact ⟨_, rfl, rfl⟩
        · by_cases h0 : i = 0
          · subst h0; simp
          · have e : IntKind.i64.wrap ((i : Int) - 1) = ((i - 1 : Nat) : Int) := by rw [w64_id (by omega) (by omega)]; omega
            have c2 : decide ((i : Int) > 0) = true := by simp; omega
            simp only [c2, if_true, e, ix_nat, List.getElem?_eq_getElem (show i - 1 < a.length by omega), bind_some']
            split
            · exact ⟨_, rfl, rfl⟩
            · exact ⟨_, rfl, rfl⟩
    · rw [if_neg (by simpa using hlt), if_neg (by simpa using hlt)]
      exact ⟨_, rfl, rfl⟩
  obtain ⟨b, h1, h2⟩ := key 0 (by omega)
  simp only [Int.natCast_zero] at h1 h2
  simp only [spec_RecsOk, impl_RecsOk, h1, h2, bind_some']
  cases b with
  | inl r => exact ⟨_, rfl, rfl⟩
  | inr u => exact ⟨_, rfl, rfl⟩
theorem nameOk_same (a : Str) (h : smS a) : ∃ b, spec_NameOk a = some b ∧ impl_NameOk a = some b := by
  unfold smS at h
  have key : ∀ i, i ≤ a.length → ∃ b, spec_NameOk.l0 a i = some b ∧ impl_NameOk.l0 a i = some b := by
    refine down _ fun i hi ih => ?_
    rw [spec_NameOk.l0, impl_NameOk.l0]
    by_cases hlt : i < a.length
    · have c : decide ((i : Int) < (a.length : Int)) = true := by simpa using hlt
      obtain ⟨b, e1, e2⟩ := ih hlt
      simp only [c, if_true, ix_nat, List.getElem?_eq_getElem hlt, bind_some', impl_isDigit, w64_succ (show i < 9223372036854775807 by omega), e1, e2]
      generalize byte a[i] = x
      by_cases h1 : x ≥ 97 <;> by_cases h2 : x ≤ 122 <;> by_cases h3 : i = 0 <;> by_cases h4 : x ≥ 48 <;> by_cases h5 : x ≤ 57 <;> by_cases h6 : x = 45 <;>
        first
        | omega
        | (have h3' : (i : Int) > 0 := by omega
           have h3'' : ¬ ((i : Int) = 0) := by omega
           have h7 : 0 < i := by omega
           simp [h1, h2, h3, h3', h3'', h7, h4, h5, h6, bind_some'])
        | (subst h3; simp [h1, h2, h4, h5, h6, bind_some'])
    · rw [if_neg (by simpa using hlt), if_neg (by simpa using hlt)]
      exact ⟨_, rfl, rfl⟩
  obtain ⟨b, e1, e2⟩ := key 0 (by omega)
  simp only [Int.natCast_zero] at e1 e2
  simp only [spec_NameOk, impl_NameOk, e1, e2, bind_some', in_some, from_some]
  cases b with
  | inl r => exact ⟨_, rfl, rfl⟩
  | inr u => exact ⟨_, rfl, rfl⟩
theorem samplesOk_same (a : List Sample) (h : smL Sample.sm a) : ∃ b, spec_SamplesOk a = some b ∧ impl_SamplesOk a = some b := by
  have hl : a.length ≤ 1048576 := h.1
  have key : ∀ i, i ≤ a.length → ∃ b, spec_SamplesOk.l0 a i = some b ∧ impl_SamplesOk.l0 a i = some b := by
    refine down _ fun i hi ih => ?_
    rw [spec_SamplesOk.l0, impl_SamplesOk.l0]
    by_cases hlt : i < a.length
    · have c : decide ((i : Int) < (a.length : Int)) = true := by simpa using hlt
      obtain ⟨b, e1, e2⟩ := ih hlt
      obtain ⟨n, n1, n2⟩ := nameOk_same a[i].Name (h.2 _ (List.getElem_mem hlt))
      simp only [c, if_true, impl_isValue, in_some, from_some, ix_nat, List.getElem?_eq_getElem hlt, bind_some', n1, n2, w64_succ (show i < 9223372036854775807 by omega), e1, e2]
      split
      · exact ⟨_, rfl, rfl⟩
      · split
        · exact ⟨_, rfl, rfl⟩
        · by_cases h0 : i = 0
          · subst h0; simp
          · have e : IntKind.i64.wrap ((i : Int) - 1) = ((i - 1 : Nat) : Int) := by rw [w64_id (by omega) (by omega)]; omega
            have c2 : decide ((i : Int) > 0) = true := by simp; omega
            simp only [c2, if_true, e, ix_nat, List.getElem?_eq_getElem (show i - 1 < a.length by omega), bind_some']
            split
            · exact ⟨_, rfl, rfl⟩
            · exact ⟨_, rfl, rfl⟩
    · rw [if_neg (by simpa using hlt), if_neg (by simpa using hlt)]
      exact ⟨_, rfl, rfl⟩
  obtain ⟨b, h1, h2⟩ := key 0 (by omega)
  simp only [Int.natCast_zero] at h1 h2
  simp only [spec_SamplesOk, impl_SamplesOk, h1, h2, bind_some']
  cases b with
  | inl r => exact ⟨_, rfl, rfl⟩
  | inr u => exact ⟨_, rfl, rfl⟩
theorem sampleOf_same (a : List Sample) (s : Str) (h : smL Sample.sm a) : ∃ b, spec_SampleOf a s = some b ∧ impl_SampleOf a s = some b := by
  have hl : a.length ≤ 1048576 := h.1
  have key : ∀ i, i ≤ a.length → ∃ b, spec_SampleOf.l0 a s i = some b ∧ impl_SampleOf.l0 a s i = some b := by
    refine down _ fun i hi ih => ?_
    rw [spec_SampleOf.l0, impl_SampleOf.l0]
    by_cases hlt : i < a.length
    · have c : decide ((i : Int) < (a.length : Int)) = true := by simpa using hlt
      obtain ⟨b, e1, e2⟩ := ih hlt
      simp only [c, if_true, ix_nat, List.getElem?_eq_getElem hlt, bind_some', w64_succ (show i < 9223372036854775807 by omega), e1, e2]
      split
      · exact ⟨_, rfl, rfl⟩
      · exact ⟨_, rfl, rfl⟩
    · rw [if_neg (by simpa using hlt), if_neg (by simpa using hlt)]
      exact ⟨_, rfl, rfl⟩
  obtain ⟨b, h1, h2⟩ := key 0 (by omega)
  simp only [Int.natCast_zero] at h1 h2
  simp only [spec_SampleOf, impl_SampleOf, h1, h2, bind_some']
  cases b with
  | inl r => exact ⟨_, rfl, rfl⟩
  | inr u => exact ⟨_, rfl, rfl⟩
def Metric.sm (x : Metric) : Prop := smS x.Name
theorem ceilDiv_same (a b : Int) : ∃ r, spec_CeilDiv a b = some r ∧ impl_CeilDiv a b = some r := by
  simp only [spec_CeilDiv, impl_CeilDiv, in_some, from_some, bind_some']
  split
  · exact ⟨_, rfl, rfl⟩
  · split
    · exact ⟨_, rfl, rfl⟩
    · rename_i h1 h2
      simp at h2
      simp only [Nt.quo]
      rw [if_neg (by omega)]
      exact ⟨_, rfl, rfl⟩
theorem metricOk_same (m : Metric) (h : Metric.sm m) : ∃ b, spec_MetricOk m = some b ∧ impl_MetricOk m = some b := by
  obtain ⟨n, n1, n2⟩ := nameOk_same m.Name h
  simp only [spec_MetricOk, impl_MetricOk, n1, n2, bind_some', in_some, from_some]
  repeat' split
  all_goals exact ⟨_, rfl, rfl⟩
theorem byOne_same (m : Metric) (x y : Int) (h : Metric.sm m) : ∃ b, spec_ByOne m x y = some b ∧ impl_ByOne m x y = some b := by
  obtain ⟨n, n1, n2⟩ := metricOk_same m h
  obtain ⟨p, p1, p2⟩ := ceilDiv_same y m.Goal
  obtain ⟨q, q1, q2⟩ := ceilDiv_same (IntKind.i64.wrap (x * y)) m.Goal
  simp only [spec_ByOne, impl_ByOne, n1, n2, bind_some', in_some, from_some, impl_isMany, impl_isValue, p1, p2, q1, q2]
  repeat' split
  all_goals exact ⟨_, rfl, rfl⟩
def Scale.sm (x : Scale) : Prop := smS x.Name ∧ smL (fun _ => True) x.Recs
theorem scaleOk_same (x : Scale) (h : Scale.sm x) : ∃ b, spec_ScaleOk x = some b ∧ impl_ScaleOk x = some b := by
  obtain ⟨n, n1, n2⟩ := nameOk_same x.Name h.1
  obtain ⟨p, p1, p2⟩ := recsOk_same x.Recs h.2.1
  simp only [spec_ScaleOk, impl_ScaleOk, n1, n2, bind_some', in_some, from_some, impl_isMany, p1, p2]
  repeat' split
  all_goals exact ⟨_, rfl, rfl⟩
theorem w64_eq (n : Int) : IntKind.i64.wrap n = (n + 9223372036854775808) % 18446744073709551616 - 9223372036854775808 := by
  simp only [IntKind.wrap, IntKind.bits, IntKind.signed, Bool.true_and]
  split
  · rename_i h; simp at h; omega
  · rename_i h; simp at h; omega
theorem u64_eq (n : Int) : IntKind.u64.wrap n = n % 18446744073709551616 := by
  simp only [IntKind.wrap, IntKind.bits, IntKind.signed, Bool.false_and, Bool.false_eq_true, if_false]
  rfl
theorem beyond_some (n now k : Int) (hn : okI n) (h1 : okI now) (h2 : okI k) : impl_beyond n now k = some (decide (n - now > k)) := by
  unfold okI at *
  simp only [impl_beyond, u64_eq]
  by_cases a : n ≥ now
  · by_cases b : k < 0
    · simp [a, b]; omega
    · simp only [a, b, decide_true, decide_false, if_true, if_false, Bool.false_eq_true, Option.some.injEq, decide_eq_decide]; omega
  · by_cases b : k < 0
    · simp only [a, b, decide_true, decide_false, if_true, if_false, Bool.false_eq_true, Option.some.injEq, decide_eq_decide]; omega
    · simp [a, b]; omega
theorem lately_same (a : List Rec) (t s : Int) (ha : okL Rec.ok a) (hl : a.length ≤ 1048576) (ht : okI t) (hs : okI s) : ∃ m, spec_Lately a t s = some m ∧ impl_Lately a t s = some m ∧ m.length ≤ a.length ∧ ∀ x ∈ m, okI x := by
  have key : ∀ i, i ≤ a.length → ∀ out : List Int, out.length ≤ i → (∀ x ∈ out, okI x) → ∃ m, spec_Lately.l0 a t s i out = some m ∧ impl_Lately.l0 a t s i out = some m ∧ m.length ≤ a.length ∧ ∀ x ∈ m, okI x := by
    refine down _ fun i hi ih out ho hx => ?_
    rw [spec_Lately.l0, impl_Lately.l0]
    by_cases hlt : i < a.length
    · have c : decide ((i : Int) < (a.length : Int)) = true := by simpa using hlt
      have hr := ha.2 _ (List.getElem_mem hlt)
      obtain ⟨b1, p1, p2, p3⟩ := ih hlt (out ++ [a[i].N]) (by simp; omega) (by
        intro x hx'
        rcases List.mem_append.1 hx' with h | h
        · exact hx x h
        · simp only [List.mem_singleton] at h; subst h; exact hr.2)
      obtain ⟨b2, q1, q2, q3⟩ := ih hlt out (by omega) hx
      simp only [c, if_true, ix_nat, List.getElem?_eq_getElem hlt, bind_some', w64_succ (show i < 9223372036854775807 by omega), app_ok (b := 8) (l := out) (m := [a[i].N]) (by simp; omega), p1, p2, q1, q2, beyond_some _ _ _ ht hr.1 hs, w64_eq]
      obtain ⟨hr1, _⟩ := hr
      generalize a[i].Time = u at *
      clear p1 p2 q1 q2 ih
      unfold okI at *
      generalize hz : (t - u + 9223372036854775808) % 18446744073709551616 - 9223372036854775808 = z
      have z1 : u ≤ t → t - u ≤ 9223372036854775807 → z = t - u := by omega
      have z2 : u ≤ t → t - u > 9223372036854775807 → z < 0 := by omega
      clear hz
      by_cases hc : u ≤ t ∧ (t ≤ u ∨ t - u ≤ s)
      · refine ⟨b1, ?_, ?_, p3⟩
        · by_cases h2 : u ≥ t
          · simp [hc.1, h2]
          · have h3 : 0 ≤ z := by omega
            have h4 : z ≤ s := by omega
            simp [hc.1, h2, h3, h4]
        · by_cases h5 : s < 0
          · have h6 : u = t := by omega
            simp [h5, h6]
          · have h6 : s ≥ 0 := by omega
            have h7 : ¬ (t - u > s) := by omega
            simp [h5, h6, hc.1, h7]
      · refine ⟨b2, ?_, ?_, q3⟩
        · by_cases h1 : u ≤ t
          · have h2 : ¬ (u ≥ t) := by omega
            by_cases h3 : 0 ≤ z
            · have h4 : ¬ (z ≤ s) := by omega
              simp [h1, h2, h3, h4]
            · simp [h1, h2, h3]
          · simp [h1]
        · by_cases h5 : s < 0
          · have h6 : ¬ u = t := by omega
            have h7 : ¬ (s ≥ 0) := by omega
            simp [h5, h6, h7]
          · have h6 : s ≥ 0 := by omega
            by_cases h1 : u ≤ t
            · have h7 : t - u > s := by omega
              simp [h5, h6, h1, h7]
            · simp [h5, h6, h1]
    · rw [if_neg (by simpa using hlt), if_neg (by simpa using hlt)]
      exact ⟨_, rfl, rfl, by omega, hx⟩
  obtain ⟨m, h1, h2, h3⟩ := key 0 (by omega) [] (by simp) (by simp)
  simp only [Int.natCast_zero] at h1 h2
  exact ⟨m, by simp only [spec_Lately, h1, bind_some'], by simp only [impl_Lately, h2, bind_some'], h3⟩
theorem steady_sp (p : Pace) (a : List Rec) (t now n : Int) (hp : Pace.ok p) (ha : okL Rec.ok a) (hl : a.length ≤ 1048576) (ht : okI t) : ∃ r, spec_Steady p a t now n = some r ∧ impl_Steady p a t now n = some r ∧ (n < now → n ≤ r ∧ r ≤ now) ∧ (n > now → now ≤ r ∧ r ≤ n) ∧ (n = now → r = n) := by
  obtain ⟨m, m1, m2, m3, _⟩ := lately_same a t p.DownSpan ha hl ht hp.2.2.2
  obtain ⟨k, k1, k2, k3, _⟩ := lately_same a t p.UpSpan ha hl ht hp.2.2.1
  have up : ∀ (m : List Int), m.length ≤ 1048576 → ∀ i, i ≤ m.length → ∀ v : Int, ∃ r, spec_Steady.l0 m v i = some r ∧ impl_Steady.l0 m v i = some r ∧ v ≤ r := by
    intro m hm
    refine down _ fun i hi ih v => ?_
    rw [spec_Steady.l0, impl_Steady.l0]
    by_cases hlt : i < m.length
    · have c : decide ((i : Int) < (m.length : Int)) = true := by simpa using hlt
      have e : (if v > m[i] then v else m[i]) = (if m[i] > v then m[i] else v) := by repeat' split
                                                                                     all_goals omega
      obtain ⟨r, r1, r2, r3⟩ := ih hlt (if m[i] > v then m[i] else v)
      have e2 : spec_l1Max v m[i] = some (if m[i] > v then m[i] else v) := by
        rw [← e]; simp only [spec_l1Max, decide_eq_true_eq]; split <;> rfl
      simp only [c, if_true, ix_nat, List.getElem?_eq_getElem hlt, bind_some', w64_succ (show i < 9223372036854775807 by omega), e2, r1, r2]
      refine ⟨_, rfl, rfl, ?_⟩
      split at r3 <;> omega
    · rw [if_neg (by simpa using hlt), if_neg (by simpa using hlt)]
      exact ⟨_, rfl, rfl, Int.le_refl _⟩
  have dn : ∀ (m : List Int), m.length ≤ 1048576 → ∀ i, i ≤ m.length → ∀ v : Int, ∃ r, spec_Steady.l1 m v i = some r ∧ impl_Steady.l1 m v i = some r ∧ r ≤ v := by
    intro m hm
    refine down _ fun i hi ih v => ?_
    rw [spec_Steady.l1, impl_Steady.l1]
    by_cases hlt : i < m.length
    · have c : decide ((i : Int) < (m.length : Int)) = true := by simpa using hlt
      have e : (if v < m[i] then v else m[i]) = (if m[i] < v then m[i] else v) := by repeat' split
                                                                                     all_goals omega
      obtain ⟨r, r1, r2, r3⟩ := ih hlt (if m[i] < v then m[i] else v)
      have e2 : spec_l1Min v m[i] = some (if m[i] < v then m[i] else v) := by
        rw [← e]; simp only [spec_l1Min, decide_eq_true_eq]; split <;> rfl
      simp only [c, if_true, ix_nat, List.getElem?_eq_getElem hlt, bind_some', w64_succ (show i < 9223372036854775807 by omega), e2, r1, r2]
      refine ⟨_, rfl, rfl, ?_⟩
      split at r3 <;> omega
    · rw [if_neg (by simpa using hlt), if_neg (by simpa using hlt)]
      exact ⟨_, rfl, rfl, Int.le_refl _⟩
  obtain ⟨r, r1, r2, r3⟩ := up m (by omega) 0 (by omega) n
  obtain ⟨q, q1, q2, q3⟩ := dn k (by omega) 0 (by omega) n
  simp only [Int.natCast_zero] at r1 r2 q1 q2
  simp only [spec_Steady, impl_Steady, m1, m2, k1, k2, r1, r2, q1, q2, bind_some', spec_l1Min, spec_l1Max, decide_eq_true_eq]
  by_cases h1 : n < now
  · simp only [h1, if_true]
    refine ⟨if now < r then now else r, ?_, rfl, ?_⟩
    · split <;> split <;> simp <;> omega
    · split <;> exact ⟨fun h => by first | omega | exact h.elim, fun h => by first | omega | exact h.elim, fun h => by first | omega | exact h.elim⟩
  · by_cases h2 : n > now
    · simp only [h1, h2, if_true, if_false]
      refine ⟨if now > q then now else q, ?_, rfl, ?_⟩
      · split <;> split <;> simp <;> omega
      · split <;> exact ⟨fun h => by first | omega | exact h.elim, fun h => by first | omega | exact h.elim, fun h => by first | omega | exact h.elim⟩
    · simp only [h1, h2, if_false]; exact ⟨_, rfl, rfl, fun _ => by omega, fun _ => by omega, fun _ => by omega⟩
def Cur (c : L1Cur) : Prop := 0 ≤ c.i ∧ c.i ≤ 1048577 ∧ c.b.length ≤ 1048576
theorem band_255 (x : Int) : 0 ≤ band x 255 ∧ band x 255 ≤ 255 := by
  have h : (BitVec.ofInt IntKind.i64.bits x &&& BitVec.ofInt IntKind.i64.bits 255).toNat ≤ 255 := by
    rw [BitVec.toNat_and]; exact Nat.le_trans Nat.and_le_right (by decide)
  simp only [band]
  rw [w64_id (by omega) (by omega)]; omega
theorem byte_sp (c : L1Cur) (h : Cur c) : ∃ x d, spec_l1Byte c = some (x, d) ∧ 0 ≤ x ∧ x ≤ 255 ∧ Cur d := by
  obtain ⟨h0, h1, h2⟩ := h
  simp only [spec_l1Byte]
  by_cases hi : c.i < (c.b.length : Int)
  · obtain ⟨i, hi'⟩ : ∃ i : Nat, c.i = i := ⟨c.i.toNat, by omega⟩
    rw [if_pos (by simpa using hi)]
    simp only [hi', ix_nat]
    rw [List.getElem?_eq_getElem (by omega)]
    simp only [bind_some']
    refine ⟨_, _, rfl, (band_255 _).1, (band_255 _).2, ?_, ?_, h2⟩
    · show 0 ≤ IntKind.i64.wrap ((i : Int) + 1); rw [w64_id (by omega) (by omega)]; omega
    · show IntKind.i64.wrap ((i : Int) + 1) ≤ 1048577; rw [w64_id (by omega) (by omega)]; omega
  · rw [if_neg (by simpa using hi)]
    exact ⟨_, _, rfl, (band_255 _).1, (band_255 _).2, h0, h1, h2⟩
theorem rem_ok {a n : Int} (ha : 0 ≤ a) (hn : 0 < n) : ∃ q, Nt.rem a n = some q ∧ 0 ≤ q ∧ q < n := by
  refine ⟨a.tmod n, if_neg (by omega), Int.tmod_nonneg _ ha, Int.tmod_lt_of_pos _ hn⟩
theorem below_sp (c : L1Cur) (n : Int) (h : Cur c) (hn : 0 < n) : ∃ x d, spec_l1Below c n = some (x, d) ∧ 0 ≤ x ∧ x < n ∧ Cur d := by
  simp only [spec_l1Below]
  rw [if_neg (by simpa using hn)]
  by_cases h256 : n ≤ 256
  · rw [if_pos (by simpa using h256)]
    obtain ⟨x, d, e, h0, h1, hd⟩ := byte_sp c h
    obtain ⟨q, eq, q0, q1⟩ := rem_ok h0 hn
    simp only [e, bind_some', eq]
    exact ⟨_, _, rfl, q0, q1, hd⟩
  · rw [if_neg (by simpa using h256)]
    obtain ⟨x, d, e, h0, h1, hd⟩ := byte_sp c h
    obtain ⟨y, d2, e2, y0, y1, hd2⟩ := byte_sp d hd
    obtain ⟨z, d3, e3, z0, z1, hd3⟩ := byte_sp d2 hd2
    obtain ⟨w, d4, e4, w0, w1, hd4⟩ := byte_sp d3 hd3
    have hs : 0 ≤ IntKind.i64.wrap (IntKind.i64.wrap (IntKind.i64.wrap (IntKind.i64.wrap (x * 16777216) + IntKind.i64.wrap (y * 65536)) + IntKind.i64.wrap (z * 256)) + w) := by
      simp only [w64_eq]; omega
    obtain ⟨q, eq, q0, q1⟩ := rem_ok hs hn
    simp only [e, e2, e3, e4, bind_some', eq]
    exact ⟨_, _, rfl, q0, q1, hd4⟩
theorem once_sp (c : L1Cur) (n : Int) (h : Cur c) (hn : 0 < n) : ∃ x d, spec_l1Once c n = some (x, d) ∧ Cur d := by
  obtain ⟨x, d, e, _, _, hd⟩ := below_sp c n h hn
  simp only [spec_l1Once, e, bind_some']
  exact ⟨_, _, rfl, hd⟩
theorem pickInt_sp (c : L1Cur) (l : List Int) (h : Cur c) (hl : 0 < l.length) : ∃ x d, spec_l1PickInt c l = some (x, d) ∧ x ∈ l ∧ Cur d := by
  obtain ⟨x, d, e, x0, x1, hd⟩ := below_sp c l.length h (by omega)
  obtain ⟨i, rfl⟩ : ∃ i : Nat, x = i := ⟨x.toNat, by omega⟩
  simp only [spec_l1PickInt, e, bind_some', ix_nat]
  rw [List.getElem?_eq_getElem (by omega)]
  exact ⟨_, _, rfl, List.getElem_mem _, hd⟩
theorem new_sp (a : List Int) (h : a.length ≤ 1048576) : ∃ c, spec_l1New a = some c ∧ Cur c := by
  have key : ∀ i, i ≤ a.length → ∀ v : Int, ∃ t, spec_l1New.l0 a v i = some t := by
    refine down _ fun i hi ih v => ?_
    rw [spec_l1New.l0]
    by_cases hlt : i < a.length
    · have c : decide ((i : Int) < (a.length : Int)) = true := by simpa using hlt
      simp only [c, if_true, ix_nat, List.getElem?_eq_getElem hlt, bind_some', w64_succ (show i < 9223372036854775807 by omega)]
      split
      · exact ih hlt _
      · exact ⟨_, rfl⟩
    · rw [if_neg (by simpa using hlt)]; exact ⟨_, rfl⟩
  obtain ⟨t, e⟩ := key 0 (by omega) (IntKind.i64.wrap (27212 + (a.length : Int)))
  simp only [Int.natCast_zero] at e
  simp only [spec_l1New, e, bind_some']
  exact ⟨_, rfl, by simp, by simp, h⟩
def PaceD (p : Pace) : Prop := 0 ≤ p.Up ∧ p.Up ≤ 4 ∧ 0 ≤ p.Down ∧ p.Down ≤ 2 ∧ 0 ≤ p.UpSpan ∧ p.UpSpan ≤ 60 ∧ 0 ≤ p.DownSpan ∧ p.DownSpan ≤ 3600
theorem drawPace_sp (c : L1Cur) (h : Cur c) : ∃ p d, spec_l6DrawPace c = some (p, d) ∧ PaceD p ∧ Cur d := by
  obtain ⟨b, c1, e1, h1⟩ := once_sp c 3 h (by omega)
  simp only [spec_l6DrawPace, e1, bind_some', spec_PaceNew]
  split
  · exact ⟨_, _, rfl, by simp [PaceD], h1⟩
  · obtain ⟨x2, c2, e2, m2, h2⟩ := pickInt_sp c1 [0, 1, 4] h1 (by simp)
    obtain ⟨x3, c3, e3, m3, h3⟩ := pickInt_sp c2 [0, 1, 2] h2 (by simp)
    obtain ⟨x4, c4, e4, m4, h4⟩ := pickInt_sp c3 [0, 30, 60] h3 (by simp)
    obtain ⟨x5, c5, e5, m5, h5⟩ := pickInt_sp c4 [0, 60, 300, 3600] h4 (by simp)
    simp only [e2, e3, e4, e5, bind_some']
    refine ⟨_, _, rfl, ?_, h5⟩
    simp only [List.mem_cons, List.not_mem_nil, or_false] at m2 m3 m4 m5
    simp only [PaceD]; omega
/-- what Slow answers -/
def slowV (p : Pace) (now n : Int) : Int := if p.Up ≠ 0 ∧ n - now > p.Up then now + p.Up else if p.Down ≠ 0 ∧ now - n > p.Down then now - p.Down else n
theorem recAdd_room (a : List Rec) (t n : Int) (hl : a.length ≤ 1048576) : ∃ m, spec_RecAdd a t n = some m ∧ impl_RecAdd a t n = some m ∧ (m.length ≤ a.length + 1) ∧ (m = a ∨ (impl_RecsOk m = some true ∧ (m = a ++ [Rec.mk t n] ∨ m = (a ++ [Rec.mk t n]).drop 1 ∧ 12 < (a ++ [Rec.mk t n]).length) ∧ ((a ++ [Rec.mk t n]).length > 12 → m = (a ++ [Rec.mk t n]).drop 1))) := by
  have h1 : (0 + a.length) * 16 ≤ 70368744177664 := by omega
  have h2 : (a.length + 1) * 16 ≤ 70368744177664 := by omega
  have h3 : Nt.clone 16 a = some a := if_pos (by omega)
  have e1 : app 16 [] a = some a := app_ok (l := []) (by simpa using h1)
  have e2 : app 16 a [Rec.mk t n] = some (a ++ [Rec.mk t n]) := app_ok (by simpa using h2)
  simp only [spec_RecAdd, impl_RecAdd, slices_Clone_Simpl_Rec_impl_Rec, h3, e1, e2, bind_some']
  by_cases hc : ((a ++ [Rec.mk t n]).length : Int) > 12
  · have e3 : slc (a ++ [Rec.mk t n]) 1 ((a ++ [Rec.mk t n]).length : Int) = some ((a ++ [Rec.mk t n]).drop 1) := by
      simp only [slc]
      rw [if_pos ⟨by omega, by omega, by omega⟩]
      simp only [Nt.cut, Int.toNat_natCast, List.take_length]
      rfl
    have hd : ((a ++ [Rec.mk t n]).drop 1).length ≤ 1048576 := by simp; omega
    have e4 : app 16 [] ((a ++ [Rec.mk t n]).drop 1) = some ((a ++ [Rec.mk t n]).drop 1) := app_ok (l := []) (by simp only [List.length_nil]; omega)
    obtain ⟨b, b1, b2⟩ := recsOk_same _ hd
    simp only [hc, decide_true, if_true, e3, e4, bind_some', b1, b2, e1]
    cases b
    · exact ⟨_, rfl, rfl, by omega, .inl rfl⟩
    · exact ⟨_, rfl, rfl, by simp, .inr ⟨b2, .inr ⟨rfl, by omega⟩, fun _ => rfl⟩⟩
  · have hd : (a ++ [Rec.mk t n]).length ≤ 1048576 := by omega
    obtain ⟨b, b1, b2⟩ := recsOk_same _ hd
    simp only [hc, decide_false, Bool.false_eq_true, if_false, b1, b2, bind_some', e1]
    cases b
    · exact ⟨_, rfl, rfl, by omega, .inl rfl⟩
    · exact ⟨_, rfl, rfl, by simp, .inr ⟨b2, .inl rfl, fun h => by omega⟩⟩
theorem sameRecs_some (a b : List Rec) (h : a.length ≤ 1048576) : ∃ r, laws_sameRecs a b = some r ∧ (r = true ↔ a = b) := by
  by_cases hl : a.length = b.length
  · have key : ∀ i, i ≤ a.length → ∃ s, laws_sameRecs.l0 a b i = some s ∧ ((s = .inl false ∧ a.drop i ≠ b.drop i) ∨ (s = .inr () ∧ a.drop i = b.drop i)) := by
      refine down _ fun i hi ih => ?_
      rw [laws_sameRecs.l0]
      by_cases hlt : i < a.length
      · have c : decide ((i : Int) < (a.length : Int)) = true := by simpa using hlt
        have hlb : i < b.length := by omega
        simp only [c, if_true, ix_nat, List.getElem?_eq_getElem hlt, List.getElem?_eq_getElem hlb, bind_some', w64_succ (show i < 9223372036854775807 by omega)]
        rw [List.drop_eq_getElem_cons hlt, List.drop_eq_getElem_cons hlb]
        generalize hx : a[i] = x
        generalize hy : b[i] = y
        obtain ⟨x1, x2⟩ := x
        obtain ⟨y1, y2⟩ := y
        by_cases hxy : x1 = y1 ∧ x2 = y2
        · obtain ⟨rfl, rfl⟩ := hxy
          obtain ⟨s, e, hs⟩ := ih hlt
          simp only [beq_self_eq_true, Bool.and_self, Bool.not_true, Bool.false_eq_true, if_false]
          refine ⟨s, e, ?_⟩
          rcases hs with ⟨h1, h2⟩ | ⟨h1, h2⟩
          · exact .inl ⟨h1, fun h => h2 (List.cons.inj h).2⟩
          · exact .inr ⟨h1, by rw [h2]⟩
        · have : (x1 == y1 && (x2 == y2 && true)) = false := by
            simp only [Bool.and_true, Bool.and_eq_false_iff, beq_eq_false_iff_ne]
            by_cases h1 : x1 = y1
            · exact .inr fun h2 => hxy ⟨h1, h2⟩
            · exact .inl h1
          simp only [this, Bool.not_false, if_true]
          refine ⟨_, rfl, .inl ⟨rfl, fun h => ?_⟩⟩
          have := (List.cons.inj h).1
          simp only [Rec.mk.injEq] at this
          exact hxy this
      · rw [if_neg (by simpa using hlt)]
        exact ⟨_, rfl, .inr ⟨rfl, by rw [List.drop_eq_nil_of_le (by omega), List.drop_eq_nil_of_le (by omega)]⟩⟩
    obtain ⟨s, e, hs⟩ := key 0 (by omega)
    simp only [Int.natCast_zero, List.drop_zero] at e hs
    simp only [laws_sameRecs, hl, bne_self_eq_false, Bool.false_eq_true, if_false, e, bind_some']
    rcases hs with ⟨rfl, h2⟩ | ⟨rfl, h2⟩
    · exact ⟨_, rfl, by simp [h2]⟩
    · exact ⟨_, rfl, by simp [h2]⟩
  · have : ((a.length : Int) != (b.length : Int)) = true := by simp; omega
    simp only [laws_sameRecs, this, if_true]
    exact ⟨_, rfl, by simp; intro h; exact hl (by rw [h])⟩
theorem recsOk_len (a : List Rec) (h : a.length ≤ 1048576) (ht : impl_RecsOk a = some true) : a.length ≤ 12 := by
  have key : ∀ i, i ≤ a.length → ∀ r, impl_RecsOk.l0 a i = some (.inl r) → r = false := by
    refine down _ fun i hi ih r => ?_
    rw [impl_RecsOk.l0]
    by_cases hlt : i < a.length
    · have c : decide ((i : Int) < (a.length : Int)) = true := by simpa using hlt
      simp only [impl_isTime, impl_isMany, from_some, c, if_true, ix_nat, List.getElem?_eq_getElem hlt, bind_some', w64_succ (show i < 9223372036854775807 by omega)]
      split
      · intro h; cases h; rfl
      · split
        · intro h; cases h; rfl
        · split
          · rename_i h0
            have h0' : 0 < i := by simpa using h0
            have e : IntKind.i64.wrap ((i : Int) - 1) = ((i - 1 : Nat) : Int) := by rw [w64_id (by omega) (by omega)]; omega
            simp only [e, ix_nat, List.getElem?_eq_getElem (show i - 1 < a.length by omega), bind_some']
            split
            · intro h; cases h; rfl
            · exact ih hlt r
          · exact ih hlt r
    · rw [if_neg (by simpa using hlt)]; intro h; cases h
  simp only [impl_RecsOk] at ht
  cases hs : impl_RecsOk.l0 a 0 with
  | none => rw [hs] at ht; cases ht
  | some s =>
    rw [hs] at ht
    cases s with
    | inl r =>
      have := key 0 (by omega) r (by simpa using hs)
      subst this
      simp [bind_some'] at ht
    | inr u => simp [bind_some'] at ht; omega
theorem drawRecs_ok (c : L1Cur) (h : Cur c) : ∃ l d, spec_l16DrawRecs c = some (l, d) ∧ l.length ≤ 8 ∧ Cur d ∧ ∀ x ∈ l, Rec.ok x := by
  have key : ∀ (k : Nat) (i : Nat), k = 8 - i → i ≤ 8 → ∀ (v : Int) (c : L1Cur) (l : List Rec), Cur c → l.length ≤ i → (0 ≤ v ∧ v ≤ 200 * (i : Int)) → (∀ x ∈ l, Rec.ok x) → ∃ b i' h' m, spec_l16DrawRecs.l0 v i c.b c.i c.h l = some (b, i', h', m) ∧ m.length ≤ 8 ∧ Cur ⟨b, i', h'⟩ ∧ ∀ x ∈ m, Rec.ok x := by
    intro k
    induction k with
    | zero =>
      intro i hk hi v c l hc hl hv hx
      obtain ⟨x, d, e, x0, x1, hd⟩ := below_sp c 8 hc (by omega)
      rw [spec_l16DrawRecs.l0]
      have e' : spec_l1Below (L1Cur.mk c.b c.i c.h) 8 = some (x, d) := e
      simp only [e', bind_some']
      rw [if_neg (by simp; omega)]
      exact ⟨_, _, _, _, rfl, by omega, hd, hx⟩
    | succ k ih =>
      intro i hk hi v c l hc hl hv hok
      obtain ⟨x, d, e, x0, x1, hd⟩ := below_sp c 8 hc (by omega)
      rw [spec_l16DrawRecs.l0]
      have e' : spec_l1Below (L1Cur.mk c.b c.i c.h) 8 = some (x, d) := e
      simp only [e', bind_some']
      by_cases hx : (i : Int) < x
      · rw [if_pos (by simpa using hx)]
        obtain ⟨x2, d2, e2, m2, hd2⟩ := pickInt_sp d [0, 15, 60, 200] hd (by simp)
        obtain ⟨x3, d3, e3, m3, hd3⟩ := pickInt_sp d2 [0, 1, 3, 5, 9, 20] hd2 (by simp)
        simp only [List.mem_cons, List.not_mem_nil, or_false] at m2 m3
        have ew : IntKind.i64.wrap (v + x2) = v + x2 := w64_id (by omega) (by omega)
        obtain ⟨m, a1, _, a3, a4⟩ := recAdd_room l (v + x2) x3 (by omega)
        simp only [e2, e3, ew, a1, bind_some', w64_succ (show i < 9223372036854775807 by omega)]
        refine ih (i + 1) (by omega) (by omega) _ d3 m hd3 (by omega) (by omega) fun y hy => ?_
        have hnew : Rec.ok (Rec.mk (v + x2) x3) := by unfold Rec.ok okI; simp only; omega
        have hall : ∀ y ∈ l ++ [Rec.mk (v + x2) x3], Rec.ok y := by
          intro y hy
          rcases List.mem_append.1 hy with h | h
          · exact hok y h
          · simp only [List.mem_singleton] at h; subst h; exact hnew
        rcases a4 with rfl | ⟨_, rfl | ⟨rfl, _⟩, _⟩
        · exact hok y hy
        · exact hall y hy
        · exact hall y (List.mem_of_mem_drop hy)
      · rw [if_neg (by simpa using hx)]
        exact ⟨_, _, _, _, rfl, by omega, hd, hok⟩
  obtain ⟨b, i', h', m, e, hm, hd, hx⟩ := key 8 0 rfl (by omega) 0 c [] h (by simp) (by simp) (by simp)
  simp only [Int.natCast_zero] at e
  simp only [spec_l16DrawRecs, e, bind_some']
  exact ⟨_, _, rfl, hm, hd, hx⟩
theorem draw16_ok (c : L1Cur) (h : Cur c) : ∃ l d, spec_l16Draw c = some (l, d) ∧ l.length ≤ 9 ∧ Cur d ∧ okL Rec.ok l := by
  obtain ⟨l, c1, e1, hl, h1, ho⟩ := drawRecs_ok c h
  obtain ⟨b, c2, e2, h2⟩ := once_sp c1 6 h1 (by omega)
  simp only [spec_l16Draw, e1, e2, bind_some']
  split
  · obtain ⟨x3, c3, e3, m3, h3⟩ := pickInt_sp c2 [(-1), 0, 999, 1000001, (-9223372036854775808)] h2 (by simp)
    obtain ⟨x4, c4, e4, m4, h4⟩ := pickInt_sp c3 [(-1), 5, 1001] h3 (by simp)
    simp only [e3, e4, bind_some', app_ok (b := 16) (l := l) (m := [Rec.mk x3 x4]) (by simp; omega)]
    simp only [List.mem_cons, List.not_mem_nil, or_false] at m3 m4
    refine ⟨_, _, rfl, by simp; omega, h4, by simp; omega, fun y hy => ?_⟩
    rcases List.mem_append.1 hy with h | h
    · exact ho y h
    · simp only [List.mem_singleton] at h; subst h; unfold Rec.ok okI; simp only; omega
  · exact ⟨_, _, rfl, by omega, h2, by omega, ho⟩
def Note.sm (x : Note) : Prop := smS x.Key ∧ smS x.Text
def Order.sm (x : Order) : Prop := smS x.Name ∧ smS x.Target ∧ smL Metric.sm x.Metrics ∧ smL Note.sm x.Notes
theorem paceOk_same (p : Pace) : ∃ b, spec_PaceOk p = some b ∧ impl_PaceOk p = some b := by
  simp only [spec_PaceOk, impl_PaceOk, impl_isMany, in_some, from_some, bind_some']
  repeat' split
  all_goals exact ⟨_, rfl, rfl⟩
theorem byte_u8 (c : UInt8) : (byte c).toNat.toUInt8 = c := by
  simp [byte]
theorem byte_range (c : UInt8) : 0 ≤ byte c ∧ byte c ≤ 255 := by
  unfold byte; have := c.toNat_lt; omega
theorem byte_eq (c d : UInt8) : (byte c = byte d) ↔ c = d := by
  unfold byte
  constructor
  · intro h; exact UInt8.toNat_inj.1 (by omega)
  · intro h; rw [h]
theorem indexByte_four (c : UInt8) : Nt.indexByte [95, 46, 47, 45] c < 0 ↔ ¬ (byte c = 95) ∧ ¬ (byte c = 46) ∧ ¬ (byte c = 47) ∧ ¬ (byte c = 45) := by
  have h1 : (byte c = 95) ↔ c = 95 := byte_eq c 95
  have h2 : (byte c = 46) ↔ c = 46 := byte_eq c 46
  have h3 : (byte c = 47) ↔ c = 47 := byte_eq c 47
  have h4 : (byte c = 45) ↔ c = 45 := byte_eq c 45
  rw [h1, h2, h3, h4]
  simp only [Nt.indexByte]
  by_cases g1 : c = 95
  · subst g1; decide
  by_cases g2 : c = 46
  · subst g2; decide
  by_cases g3 : c = 47
  · subst g3; decide
  by_cases g4 : c = 45
  · subst g4; decide
  have f1 : ((95 : UInt8) == c) = false := by simp; exact fun h => g1 h.symm
  have f2 : ((46 : UInt8) == c) = false := by simp; exact fun h => g2 h.symm
  have f3 : ((47 : UInt8) == c) = false := by simp; exact fun h => g3 h.symm
  have f4 : ((45 : UInt8) == c) = false := by simp; exact fun h => g4 h.symm
  simp [f1, f2, f3, f4, g1, g2, g3, g4]
theorem plainOk_same (a : Str) (h : smS a) : ∃ b, spec_PlainOk a = some b ∧ impl_PlainOk a = some b := by
  unfold smS at h
  have key : ∀ i, i ≤ a.length → ∃ b, spec_PlainOk.l0 a i = some b ∧ impl_PlainOk.l0 a i = some b := by
    refine down _ fun i hi ih => ?_
    rw [spec_PlainOk.l0, impl_PlainOk.l0]
    by_cases hlt : i < a.length
    · have c : decide ((i : Int) < (a.length : Int)) = true := by simpa using hlt
      obtain ⟨b, e1, e2⟩ := ih hlt
      have hL : ∀ n, impl_isLetter n = spec_l5Letter n := fun n => by simp only [impl_isLetter, spec_l5Letter]
      have hT : ∀ n, ∃ t, spec_l5Letter n = some t := fun n => by
        simp only [spec_l5Letter]; repeat' split
        all_goals exact ⟨_, rfl⟩
      obtain ⟨t, ht⟩ := hT (byte a[i])
      simp only [c, if_true, ix_nat, List.getElem?_eq_getElem hlt, bind_some', impl_isDigit, hL, ht, w64_succ (show i < 9223372036854775807 by omega), e1, e2, strings_IndexByte, internal_stringslite_IndexByte, internal_bytealg_IndexByteString, byte_u8]
      have hx := indexByte_four a[i]
      have hq : decide (Nt.indexByte [95, 46, 47, 45] a[i] < 0) = decide (¬ (byte a[i] = 95) ∧ ¬ (byte a[i] = 46) ∧ ¬ (byte a[i] = 47) ∧ ¬ (byte a[i] = 45)) := by simp only [hx]
      rw [hq]
      generalize byte a[i] = x
      cases t
      · by_cases h3 : i = 0
        · subst h3; simp [bind_some']
        · have h3'' : ((i : Int) == 0) = false := by simp; omega
          by_cases h4 : x ≥ 48 <;> by_cases h5 : x ≤ 57 <;> by_cases h6 : x = 95 <;> by_cases h7 : x = 46 <;> by_cases h8 : x = 47 <;> by_cases h9 : x = 45 <;>
          first
          | omega
          | simp [h3'', h4, h5, h6, h7, h8, h9, bind_some']
      · simp
    · rw [if_neg (by simpa using hlt), if_neg (by simpa using hlt)]
      exact ⟨_, rfl, rfl⟩
  obtain ⟨b, e1, e2⟩ := key 0 (by omega)
  simp only [Int.natCast_zero] at e1 e2
  simp only [spec_PlainOk, impl_PlainOk, e1, e2, bind_some', in_some, from_some]
  cases b with
  | inl r => exact ⟨_, rfl, rfl⟩
  | inr u =>
    repeat' split
    all_goals exact ⟨_, rfl, rfl⟩
theorem ours_same (s : Str) : ∃ b, spec_l6Ours s = some b ∧ strings_HasPrefix s [113, 117, 97, 121, 47] = some b := by
  simp only [spec_l6Ours, strings_HasPrefix, internal_stringslite_HasPrefix, List.length_cons, List.length_nil]
  by_cases h : (s.length : Int) ≥ 5
  · have e : slc s 0 5 = some (cut s 0 5) := by simp only [slc]; rw [if_pos ⟨by omega, by omega, by omega⟩]; rfl
    rw [if_pos (by simpa using h), if_pos (by simpa using h)]
    have e' : slc s 0 ((0 + 1 + 1 + 1 + 1 + 1 : Nat) : Int) = some (cut s 0 5) := e
    rw [e, e']
    exact ⟨_, rfl, rfl⟩
  · rw [if_neg (by simpa using h), if_neg (by simpa using h)]
    exact ⟨_, rfl, rfl⟩
theorem textOk_same (a : Str) (h : smS a) : ∃ b, spec_TextOk a = some b ∧ impl_TextOk a = some b := by
  unfold smS at h
  have key : ∀ i, i ≤ a.length → ∃ b, spec_TextOk.l0 a i = some b ∧ impl_TextOk.l0 a i = some b := by
    refine down _ fun i hi ih => ?_
    rw [spec_TextOk.l0, impl_TextOk.l0]
    by_cases hlt : i < a.length
    · have c : decide ((i : Int) < (a.length : Int)) = true := by simpa using hlt
      obtain ⟨b, e1, e2⟩ := ih hlt
      have hb := byte_range a[i]
      simp only [c, if_true, ix_nat, List.getElem?_eq_getElem hlt, bind_some', from_some, w64_succ (show i < 9223372036854775807 by omega), e1, e2]
      rw [w64_id (by omega) (by omega)]
      generalize byte a[i] = x at hb
      by_cases h4 : x < 32 <;> by_cases h5 : x > 126 <;> first
        | omega
        | (have g4 : ¬ (32 ≤ x) ∨ 32 ≤ x := by omega
           rcases g4 with g4 | g4 <;> first
             | omega
             | (have g5 : ¬ (x ≤ 126) ∨ x ≤ 126 := by omega
                rcases g5 with g5 | g5 <;> first
                  | omega
                  | simp [h4, h5, g4, g5]))
    · rw [if_neg (by simpa using hlt), if_neg (by simpa using hlt)]
      exact ⟨_, rfl, rfl⟩
  obtain ⟨b, e1, e2⟩ := key 0 (by omega)
  simp only [Int.natCast_zero] at e1 e2
  simp only [spec_TextOk, impl_TextOk, e1, e2, bind_some']
  cases b with
  | inl r => exact ⟨_, rfl, rfl⟩
  | inr u => exact ⟨_, rfl, rfl⟩
theorem notes_same (a : List Note) (h : smL Note.sm a) : ∃ b, spec_l6Notes a = some b ∧ impl_notesOk a = some b := by
  have hl : a.length ≤ 1048576 := h.1
  have key : ∀ i, i ≤ a.length → ∃ b, spec_l6Notes.l0 a i = some b ∧ impl_notesOk.l0 a i = some b := by
    refine down _ fun i hi ih => ?_
    rw [spec_l6Notes.l0, impl_notesOk.l0]
    by_cases hlt : i < a.length
    · have c : decide ((i : Int) < (a.length : Int)) = true := by simpa using hlt
      obtain ⟨b, e1, e2⟩ := ih hlt
      have hm := h.2 _ (List.getElem_mem hlt)
      obtain ⟨p, p1, p2⟩ := plainOk_same a[i].Key hm.1
      obtain ⟨q, q1, q2⟩ := ours_same a[i].Key
      obtain ⟨t, t1, t2⟩ := textOk_same a[i].Text hm.2
      simp only [c, if_true, ix_nat, List.getElem?_eq_getElem hlt, bind_some', p1, p2, q1, q2, t1, t2, w64_succ (show i < 9223372036854775807 by omega), e1, e2]
      split
      · exact ⟨_, rfl, rfl⟩
      · split
        · exact ⟨_, rfl, rfl⟩
        · split
          · exact ⟨_, rfl, rfl⟩
          · split
            · exact ⟨_, rfl, rfl⟩
            · by_cases h0 : i = 0
              · subst h0; simp
              · have e : IntKind.i64.wrap ((i : Int) - 1) = ((i - 1 : Nat) : Int) := by rw [w64_id (by omega) (by omega)]; omega
                have c2 : decide ((i : Int) > 0) = true := by simp; omega
                simp only [c2, if_true, e, ix_nat, List.getElem?_eq_getElem (show i - 1 < a.length by omega), bind_some']
                split
                · exact ⟨_, rfl, rfl⟩
                · exact ⟨_, rfl, rfl⟩
    · rw [if_neg (by simpa using hlt), if_neg (by simpa using hlt)]
      exact ⟨_, rfl, rfl⟩
  obtain ⟨b, h1, h2⟩ := key 0 (by omega)
  simp only [Int.natCast_zero] at h1 h2
  simp only [spec_l6Notes, impl_notesOk, h1, h2, bind_some']
  cases b with
  | inl r => exact ⟨_, rfl, rfl⟩
  | inr u => exact ⟨_, rfl, rfl⟩
theorem metrics_same (o : Order) (h : smL Metric.sm o.Metrics) : ∃ b : Bool, spec_l6Metrics.l0 o.Metrics 0 = some (if b then .inr () else .inl false) ∧ impl_OrderOk.l0 o 0 = some (if b then .inr () else .inl false) := by
  have hl : o.Metrics.length ≤ 1048576 := h.1
  have key : ∀ i, i ≤ o.Metrics.length → ∃ b : Bool, spec_l6Metrics.l0 o.Metrics i = some (if b then .inr () else .inl false) ∧ impl_OrderOk.l0 o i = some (if b then .inr () else .inl false) := by
    refine down _ fun i hi ih => ?_
    rw [spec_l6Metrics.l0, impl_OrderOk.l0]
    by_cases hlt : i < o.Metrics.length
    · have c : decide ((i : Int) < (o.Metrics.length : Int)) = true := by simpa using hlt
      obtain ⟨b, e1, e2⟩ := ih hlt
      obtain ⟨p, p1, p2⟩ := metricOk_same o.Metrics[i] (h.2 _ (List.getElem_mem hlt))
      simp only [c, if_true, ix_nat, List.getElem?_eq_getElem hlt, bind_some', p1, p2, w64_succ (show i < 9223372036854775807 by omega), e1, e2]
      split
      · exact ⟨false, rfl, rfl⟩
      · by_cases h0 : i = 0
        · subst h0; exact ⟨b, by simp, by simp⟩
        · have e : IntKind.i64.wrap ((i : Int) - 1) = ((i - 1 : Nat) : Int) := by rw [w64_id (by omega) (by omega)]; omega
          have c2 : decide ((i : Int) > 0) = true := by simp; omega
          simp only [c2, if_true, e, ix_nat, List.getElem?_eq_getElem (show i - 1 < o.Metrics.length by omega), bind_some']
          split
          · exact ⟨false, rfl, rfl⟩
          · exact ⟨b, rfl, rfl⟩
    · rw [if_neg (by simpa using hlt), if_neg (by simpa using hlt)]
      exact ⟨true, rfl, rfl⟩
  simpa using key 0 (by omega)
theorem orderOk_same (o : Order) (h : Order.sm o) : ∃ b, spec_OrderOk o = some b ∧ impl_OrderOk o = some b := by
  obtain ⟨n, n1, n2⟩ := nameOk_same o.Name h.1
  obtain ⟨t, t1, t2⟩ := nameOk_same o.Target h.2.1
  obtain ⟨m, m1, m2⟩ := metrics_same o h.2.2.1
  obtain ⟨p, p1, p2⟩ := paceOk_same o.Pace
  obtain ⟨q, q1, q2⟩ := notes_same o.Notes h.2.2.2
  simp only [spec_OrderOk, impl_OrderOk, spec_l6Metrics, n1, n2, t1, t2, m1, m2, p1, p2, q1, q2, in_some, from_some, bind_some']
  generalize (decide (o.Low ≥ 1) && decide (o.Low ≤ o.High)) = x
  generalize decide (o.High ≤ 1000) = y
  generalize decide ((o.Metrics.length : Int) ≤ 4) = z
  cases n <;> cases t <;> cases m <;> cases p <;> cases q <;> cases x <;> cases y <;> cases z <;> exact ⟨_, rfl, rfl⟩
theorem max_some (a b : Int) : spec_l1Max a b = some (if b > a then b else a) := by
  simp only [spec_l1Max]
  by_cases h : a > b
  · rw [if_pos (by simpa using h), if_neg (by omega)]
  · rw [if_neg (by simpa using h)]
    by_cases h2 : b > a
    · rw [if_pos h2]
    · rw [if_neg h2]; congr 1; omega
theorem byAll_same (o : Order) (n : Int) (s : List Sample) (h : Order.sm o) (hs : smL Sample.sm s) : ∃ r, spec_ByAll o n s = some r ∧ impl_ByAll o n s = some r := by
  obtain ⟨p, p1, p2⟩ := orderOk_same o h
  obtain ⟨q, q1, q2⟩ := samplesOk_same s hs
  have hl : o.Metrics.length ≤ 1048576 := h.2.2.1.1
  by_cases hp : p = true ∧ q = true
  · obtain ⟨rfl, rfl⟩ := hp
    have key : ∀ i, i ≤ o.Metrics.length → ∀ m b, ∃ r, spec_ByAll.l0 o n s m b i = some r ∧ impl_ByAll.l0 o n s m b i = some r := by
      refine down _ fun i hi ih m b => ?_
      rw [spec_ByAll.l0, impl_ByAll.l0]
      by_cases hlt : i < o.Metrics.length
      · have c : decide ((i : Int) < (o.Metrics.length : Int)) = true := by simpa using hlt
        obtain ⟨v, v1, v2⟩ := sampleOf_same s o.Metrics[i].Name hs
        simp only [c, p1, q1, if_true, ix_nat, List.getElem?_eq_getElem hlt, bind_some', v1, v2, w64_succ (show i < 9223372036854775807 by omega)]
        by_cases hv : v.2 = true
        · obtain ⟨y, y1, y2⟩ := byOne_same o.Metrics[i] n v.1 (h.2.2.1.2 _ (List.getElem_mem hlt))
          obtain ⟨r, e1, e2⟩ := ih hlt (if y > m then y else m) true
          simp only [hv, if_true, y1, y2, bind_some', max_some, e1, e2]
          exact ⟨_, rfl, rfl⟩
        · obtain ⟨r, e1, e2⟩ := ih hlt m b
          simp only [hv, if_false, e1, e2]
          exact ⟨_, rfl, rfl⟩
      · rw [if_neg (by simpa using hlt), if_neg (by simpa using hlt)]
        exact ⟨_, rfl, rfl⟩
    obtain ⟨r, e1, e2⟩ := key 0 (by omega) 0 false
    simp only [Int.natCast_zero] at e1 e2
    simp only [spec_ByAll, impl_ByAll, e1, e2, p2, q2, bind_some', Bool.not_true, Bool.false_eq_true, if_false]
    split
    · exact ⟨_, rfl, rfl⟩
    · exact ⟨_, rfl, rfl⟩
  · have e : spec_ByAll.l0 o n s 0 false 0 = some (0, false) := by
      rw [spec_ByAll.l0]
      split
      · simp only [p1, q1, bind_some']
        cases p <;> cases q <;> simp at hp <;> rfl
      · rfl
    simp only [spec_ByAll, impl_ByAll, e, p2, q2, bind_some', Bool.not_false, if_true]
    cases p <;> cases q <;> simp at hp <;> exact ⟨_, rfl, rfl⟩
theorem okI_of {x : Int} (h0 : -9223372036854775808 ≤ x) (h1 : x ≤ 9223372036854775807) : okI x := by unfold okI; omega
theorem pick_sp (c : L1Cur) (l : List Str) (h : Cur c) (hl : 0 < l.length) : ∃ x d, spec_l1Pick c l = some (x, d) ∧ x ∈ l ∧ Cur d := by
  obtain ⟨x, d, e, x0, x1, hd⟩ := below_sp c l.length h (by omega)
  obtain ⟨i, rfl⟩ : ∃ i : Nat, x = i := ⟨x.toNat, by omega⟩
  simp only [spec_l1Pick, e, bind_some', ix_nat]
  rw [List.getElem?_eq_getElem (by omega)]
  exact ⟨_, _, rfl, List.getElem_mem _, hd⟩
def shS (s : Str) : Prop := s.length ≤ 64
theorem shS.sm {s : Str} (h : shS s) : smS s := by unfold shS at h; unfold smS; omega
theorem shS.ok {s : Str} (h : shS s) : okS s := by unfold shS at h; unfold okS; omega
theorem shS_mem {x : Str} {l : List Str} (h : x ∈ l) (hl : l.all (fun s => decide (s.length ≤ 64)) = true) : shS x := by
  have := List.all_eq_true.1 hl x h
  simpa [shS] using this
def shI (x : Int) : Prop := -1 ≤ x ∧ x ≤ 2000000
theorem shI.ok {x : Int} (h : shI x) : okI x := by unfold shI at h; exact okI_of (by omega) (by omega)
theorem shI_mem {x : Int} {l : List Int} (h : x ∈ l) (hl : l.all (fun s => decide (-1 ≤ s) && decide (s ≤ 2000000)) = true) : shI x := by
  have := List.all_eq_true.1 hl x h
  simpa [shI] using this
theorem listD {α : Type} {p : α → Prop} {l : List α} {x : α} (h : ∀ y ∈ l, p y) (hx : p x) : ∀ y ∈ l ++ [x], p y := by
  intro y hy
  rcases List.mem_append.1 hy with hy | hy
  · exact h y hy
  · rw [List.mem_singleton.1 hy]; exact hx
def MetricD (m : Metric) : Prop := shS m.Name ∧ shI m.Kind ∧ shI m.Goal
def SampleD (m : Sample) : Prop := shS m.Name ∧ shI m.Value
def NoteD (m : Note) : Prop := shS m.Key ∧ shS m.Text
theorem MetricD.sm {m : Metric} (h : MetricD m) : Metric.sm m := h.1.sm
def PaceE (p : Pace) : Prop := shI p.Up ∧ shI p.Down ∧ shI p.UpSpan ∧ shI p.DownSpan
theorem PaceD.e {p : Pace} (h : PaceD p) : PaceE p := by
  unfold PaceD at h; unfold PaceE shI; omega
def OrderD (o : Order) : Prop := shS o.Name ∧ shS o.Target ∧ shI o.Low ∧ shI o.High ∧ (o.Metrics.length ≤ 5 ∧ ∀ m ∈ o.Metrics, MetricD m) ∧ PaceE o.Pace ∧ (o.Notes.length ≤ 4 ∧ ∀ n ∈ o.Notes, NoteD n)
theorem OrderD.sm {o : Order} (h : OrderD o) : Order.sm o := by
  obtain ⟨h1, h2, h3, h4, ⟨h5, h6⟩, h7, h8, h9⟩ := h
  exact ⟨h1.sm, h2.sm, ⟨by omega, fun x hx => (h6 x hx).1.sm⟩, by omega, fun x hx => ⟨(h9 x hx).1.sm, (h9 x hx).2.sm⟩⟩
theorem PaceE.ok {p : Pace} (h : PaceE p) : Pace.ok p := ⟨h.1.ok, h.2.1.ok, h.2.2.1.ok, h.2.2.2.ok⟩
theorem drawMetric_sp (c : L1Cur) (h : Cur c) : ∃ m d, spec_l6DrawMetric c = some (m, d) ∧ MetricD m ∧ Cur d := by
  obtain ⟨x1, c1, e1, m1, h1⟩ := pick_sp c [[99, 112, 117], [109, 101, 109], [113, 117, 101, 117, 101], [104, 105, 116, 115]] h (by simp)
  obtain ⟨x2, c2, e2, m2, n2, h2⟩ := below_sp c1 3 h1 (by omega)
  obtain ⟨x3, c3, e3, m3, h3⟩ := pickInt_sp c2 [1, 500, 700, 800, 805, 1000, 50000, 1000000] h2 (by simp)
  simp only [spec_l6DrawMetric, e1, e2, e3, bind_some']
  refine ⟨_, _, rfl, ⟨shS_mem m1 (by decide), ?_, shI_mem m3 (by decide)⟩, h3⟩
  show shI (IntKind.i64.wrap (1 + x2))
  rw [w64_id (by omega) (by omega)]; unfold shI; omega
theorem drawRight_sp (c : L1Cur) (h : Cur c) : ∃ o d, spec_l6DrawRight c = some (o, d) ∧ (OrderD o ∧ o.Metrics.length ≤ 4 ∧ o.Notes.length ≤ 3) ∧ Cur d := by
  have k0 : ∀ i, i ≤ 4 → ∀ (c : L1Cur) (l : List Metric), Cur c → l.length ≤ i → (∀ x ∈ l, MetricD x) → ∃ b i' h' m, spec_l6DrawRight.l0 i c.b c.i c.h l = some (b, i', h', m) ∧ m.length ≤ 4 ∧ (∀ x ∈ m, MetricD x) ∧ Cur ⟨b, i', h'⟩ := by
    refine down _ fun i hi ih c l hc hl hm => ?_
    rw [spec_l6DrawRight.l0]
    by_cases hlt : i < 4
    · have g : decide ((i : Int) < (([[99, 112, 117], [104, 105, 116, 115], [109, 101, 109], [113, 117, 101, 117, 101]] : List Str).length : Int)) = true := by simp; omega
      obtain ⟨b, d, e, hd⟩ := once_sp c 2 hc (by omega)
      have e' : spec_l1Once (L1Cur.mk c.b c.i c.h) 2 = some (b, d) := e
      simp only [g, if_true, e', bind_some', w64_succ (show i < 9223372036854775807 by omega)]
      cases b
      · simp only [Bool.false_eq_true, if_false]
        exact ih hlt d l hd (by omega) hm
      · obtain ⟨m, d2, e2, hm2, hd2⟩ := drawMetric_sp d hd
        have e2' : spec_l6DrawMetric (L1Cur.mk d.b d.i d.h) = some (m, d2) := e2
        obtain ⟨s, hs⟩ : ∃ s, ([[99, 112, 117], [104, 105, 116, 115], [109, 101, 109], [113, 117, 101, 117, 101]] : List Str)[i]? = some s := ⟨_, List.getElem?_eq_getElem (by simpa using hlt)⟩
        simp only [if_true, e2', bind_some', ix_nat, hs]
        rw [app_ok (by simp; omega)]
        simp only [bind_some']
        exact ih hlt d2 _ hd2 (by simp; omega) (listD hm ⟨shS_mem (List.mem_of_getElem? hs) (by decide), hm2.2.1, hm2.2.2⟩)
    · rw [if_neg (by simp; omega)]
      exact ⟨_, _, _, _, rfl, by omega, hm, hc⟩
  have k1 : ∀ i, i ≤ 3 → ∀ (c : L1Cur) (l : List Note), Cur c → l.length ≤ i → (∀ x ∈ l, NoteD x) → ∃ b i' h' m, spec_l6DrawRight.l1 i c.b c.i c.h l = some (b, i', h', m) ∧ m.length ≤ 3 ∧ (∀ x ∈ m, NoteD x) ∧ Cur ⟨b, i', h'⟩ := by
    refine down _ fun i hi ih c l hc hl hm => ?_
    rw [spec_l6DrawRight.l1]
    by_cases hlt : i < 3
    · have g : decide ((i : Int) < (([[97], [111, 119, 110, 101, 114], [120, 47, 121]] : List Str).length : Int)) = true := by simp; omega
      obtain ⟨b, d, e, hd⟩ := once_sp c 3 hc (by omega)
      have e' : spec_l1Once (L1Cur.mk c.b c.i c.h) 3 = some (b, d) := e
      simp only [g, if_true, e', bind_some', w64_succ (show i < 9223372036854775807 by omega)]
      cases b
      · simp only [Bool.false_eq_true, if_false]
        exact ih hlt d l hd (by omega) hm
      · obtain ⟨s, hs⟩ : ∃ s, ([[97], [111, 119, 110, 101, 114], [120, 47, 121]] : List Str)[i]? = some s := ⟨_, List.getElem?_eq_getElem (by simpa using hlt)⟩
        obtain ⟨t, d2, e2, ht, hd2⟩ := pick_sp d [[], [97], [119, 101, 98], [116, 114, 117, 101], [49, 50], [115, 97, 121, 32, 34, 110, 111, 34], [98, 97, 99, 107, 92], [97, 58, 32, 98], [45, 32, 120], [35], [53, 109], [110, 117, 108, 108], [32, 120]] hd (by simp)
        have e2' : spec_l1Pick (L1Cur.mk d.b d.i d.h) _ = some (t, d2) := e2
        simp only [if_true, spec_l3DrawText, e2', bind_some', ix_nat, hs]
        rw [app_ok (by simp; omega)]
        simp only [bind_some']
        exact ih hlt d2 _ hd2 (by simp; omega) (listD hm ⟨shS_mem (List.mem_of_getElem? hs) (by decide), shS_mem ht (by decide)⟩)
    · rw [if_neg (by simp; omega)]
      exact ⟨_, _, _, _, rfl, by omega, hm, hc⟩
  obtain ⟨x1, c1, e1, m1, n1, h1⟩ := below_sp c 4 h (by omega)
  obtain ⟨x2, c2, e2, m2, h2⟩ := pick_sp c1 [[119, 101, 98], [97, 112, 105], [106, 111, 98, 45, 49]] h1 (by simp)
  obtain ⟨x3, c3, e3, m3, h3⟩ := pick_sp c2 [[119, 101, 98], [112, 111, 111, 108]] h2 (by simp)
  obtain ⟨x4, c4, e4, m4, h4⟩ := pickInt_sp c3 [0, 3, 10, 900] h3 (by simp)
  obtain ⟨p, c5, e5, hp, h5⟩ := drawPace_sp c4 h4
  obtain ⟨b, i, g, l, e6, hl6, hm6, h6⟩ := k0 0 (by omega) c5 [] h5 (by simp) (by simp)
  obtain ⟨b7, i7, g7, l7, e7, hl7, hm7, h7⟩ := k1 0 (by omega) ⟨b, i, g⟩ [] h6 (by simp) (by simp)
  simp only [Int.natCast_zero] at e6 e7
  simp only [spec_l6DrawRight, e1, e2, e3, e4, e5, e6, e7, bind_some']
  have m4' := shI_mem m4 (by decide)
  have w1 : IntKind.i64.wrap (1 + x1) = 1 + x1 := w64_id (by omega) (by omega)
  have hx4 : 0 ≤ x4 ∧ x4 ≤ 900 := by
    simp only [List.mem_cons, List.not_mem_nil, or_false] at m4; omega
  have w2 : IntKind.i64.wrap (1 + x1 + x4) = 1 + x1 + x4 := w64_id (by omega) (by omega)
  simp only [w1, w2]
  refine ⟨_, _, rfl, ⟨⟨shS_mem m2 (by decide), shS_mem m3 (by decide), ?_, ?_, ⟨by show l.length ≤ 5; omega, hm6⟩, hp.e, ⟨by show l7.length ≤ 4; omega, hm7⟩⟩, hl6, hl7⟩, h7⟩
  · show shI (1 + x1); unfold shI; omega
  · show shI (1 + x1 + x4); unfold shI; omega
theorem draw6_sp (c : L1Cur) (h : Cur c) : ∃ o d, spec_l6Draw c = some (o, d) ∧ OrderD o ∧ Cur d := by
  obtain ⟨o, c1, e1, ⟨ho, ho5, ho3⟩, h1⟩ := drawRight_sp c h
  obtain ⟨k, c2, e2, k0, k1, h2⟩ := below_sp c1 16 h1 (by omega)
  obtain ⟨o1, o2, o3, o4, ⟨o5, o6⟩, ⟨q1, q2, q3, q4⟩, o8, o9⟩ := ho
  unfold spec_l6Draw
  rw [e1, bind_some']
  have e2' : spec_l1Below (L1Cur.mk c1.b c1.i c1.h) 16 = some (k, c2) := e2
  dsimp only
  rw [e2', bind_some']
  dsimp only
  by_cases hk0 : (k == 0) = true
  · rw [if_pos hk0]
    obtain ⟨x, c3, e3, m3, h3⟩ := pick_sp c2 [[], [49, 97], [65], [97, 98, 99, 100, 101, 102, 103, 104, 105, 106, 107, 108, 109, 110, 111, 112, 113, 114, 115, 116, 117]] h2 (by simp)
    simp only [e3, bind_some']
    exact ⟨_, _, rfl, ⟨shS_mem m3 (by decide), o2, o3, o4, ⟨o5, o6⟩, ⟨q1, q2, q3, q4⟩, o8, o9⟩, h3⟩
  rw [if_neg hk0]
  by_cases hk1 : (k == 1) = true
  · rw [if_pos hk1]
    obtain ⟨x, c3, e3, m3, h3⟩ := pickInt_sp c2 [0, -1, 1001] h2 (by simp)
    simp only [e3, bind_some']
    exact ⟨_, _, rfl, ⟨o1, o2, shI_mem m3 (by decide), o4, ⟨o5, o6⟩, ⟨q1, q2, q3, q4⟩, o8, o9⟩, h3⟩
  rw [if_neg hk1]
  by_cases hk2 : (k == 2) = true
  · rw [if_pos hk2]
    obtain ⟨x, c3, e3, m3, h3⟩ := pickInt_sp c2 [0, 1000, 1001] h2 (by simp)
    simp only [e3, bind_some']
    exact ⟨_, _, rfl, ⟨o1, o2, o3, shI_mem m3 (by decide), ⟨o5, o6⟩, ⟨q1, q2, q3, q4⟩, o8, o9⟩, h3⟩
  rw [if_neg hk2]
  by_cases hk3 : (k == 3) = true
  · rw [if_pos hk3]
    obtain ⟨x, c3, e3, m3, h3⟩ := drawMetric_sp c2 h2
    simp only [e3, bind_some']
    rw [app_ok (by simp; omega)]
    exact ⟨_, _, rfl, ⟨o1, o2, o3, o4, ⟨by simp; omega, listD o6 m3⟩, ⟨q1, q2, q3, q4⟩, o8, o9⟩, h3⟩
  rw [if_neg hk3]
  by_cases hk4 : (k == 4) = true
  · rw [if_pos hk4]
    obtain ⟨x, c3, e3, m3, h3⟩ := pickInt_sp c2 [-1, 1000, 1001] h2 (by simp)
    simp only [e3, bind_some']
    exact ⟨_, _, rfl, ⟨o1, o2, o3, o4, ⟨o5, o6⟩, ⟨shI_mem m3 (by decide), q2, q3, q4⟩, o8, o9⟩, h3⟩
  rw [if_neg hk4]
  by_cases hk5 : (k == 5) = true
  · rw [if_pos hk5]
    obtain ⟨x, c3, e3, m3, h3⟩ := pick_sp c2 [[122], [113, 117, 97, 121, 47, 112, 97, 99, 101], [49], []] h2 (by simp)
    simp only [e3, bind_some']
    rw [app_ok (by simp; omega)]
    exact ⟨_, _, rfl, ⟨o1, o2, o3, o4, ⟨o5, o6⟩, ⟨q1, q2, q3, q4⟩, by simp; omega, listD o9 ⟨shS_mem m3 (by decide), (by show List.length ([120] : Str) ≤ 64; decide)⟩⟩, h3⟩
  rw [if_neg hk5]
  by_cases hk6 : (k == 6) = true
  · rw [if_pos hk6]
    obtain ⟨x, c3, e3, m3, h3⟩ := pickInt_sp c2 [-1, 3600, 3601] h2 (by simp)
    simp only [e3, bind_some']
    exact ⟨_, _, rfl, ⟨o1, o2, o3, o4, ⟨o5, o6⟩, ⟨q1, q2, q3, shI_mem m3 (by decide)⟩, o8, o9⟩, h3⟩
  rw [if_neg hk6]
  by_cases hk7 : (k == 7) = true
  · rw [if_pos hk7]
    by_cases hm : (decide ((o.Metrics.length : Int) > 0)) = true
    · rw [if_pos hm]
      have hm' : 0 < o.Metrics.length := by simpa using hm
      obtain ⟨x, c3, e3, m3, h3⟩ := pickInt_sp c2 [0, -1, 1000000, 1000001] h2 (by simp)
      have g := ix_nat o.Metrics 0
      simp only [Int.natCast_zero] at g
      have g2 := fun x => put_nat (x := x) hm'
      simp only [Int.natCast_zero] at g2
      simp only [e3, bind_some', g, List.getElem?_eq_getElem hm', g2]
      refine ⟨_, _, rfl, ⟨o1, o2, o3, o4, ⟨by simpa using o5, fun y hy => ?_⟩, ⟨q1, q2, q3, q4⟩, o8, o9⟩, h3⟩
      have hz := o6 _ (List.getElem_mem hm')
      rcases List.mem_or_eq_of_mem_set hy with hy | hy
      · exact o6 y hy
      · rw [hy]; exact ⟨hz.1, hz.2.1, shI_mem m3 (by decide)⟩
    · rw [if_neg hm]; exact ⟨_, _, rfl, ⟨o1, o2, o3, o4, ⟨o5, o6⟩, ⟨q1, q2, q3, q4⟩, o8, o9⟩, h2⟩
  · rw [if_neg hk7]; exact ⟨_, _, rfl, ⟨o1, o2, o3, o4, ⟨o5, o6⟩, ⟨q1, q2, q3, q4⟩, o8, o9⟩, h2⟩
def SamplesD (l : List Sample) : Prop := l.length ≤ 5 ∧ ∀ x ∈ l, SampleD x
theorem SamplesD.sm {l : List Sample} (h : SamplesD l) : smL Sample.sm l := ⟨by have := h.1; omega, fun x hx => (h.2 x hx).1.sm⟩
theorem drawSamples_sp (c : L1Cur) (h : Cur c) : ∃ l d, spec_l15DrawSamples c = some (l, d) ∧ SamplesD l ∧ Cur d := by
  have k0 : ∀ i, i ≤ 4 → ∀ (c : L1Cur) (l : List Sample), Cur c → l.length ≤ i → (∀ x ∈ l, SampleD x) → ∃ b i' h' m, spec_l15DrawSamples.l0 i c.b c.i c.h l = some (b, i', h', m) ∧ m.length ≤ 4 ∧ (∀ x ∈ m, SampleD x) ∧ Cur ⟨b, i', h'⟩ := by
    refine down _ fun i hi ih c l hc hl hm => ?_
    rw [spec_l15DrawSamples.l0]
    by_cases hlt : i < 4
    · have g : decide ((i : Int) < (([[99, 112, 117], [104, 105, 116, 115], [109, 101, 109], [113, 117, 101, 117, 101]] : List Str).length : Int)) = true := by simp; omega
      obtain ⟨b, d, e, hd⟩ := once_sp c 3 hc (by omega)
      have e' : spec_l1Once (L1Cur.mk c.b c.i c.h) 3 = some (b, d) := e
      simp only [g, if_true, e', bind_some', w64_succ (show i < 9223372036854775807 by omega)]
      cases b
      · obtain ⟨m, d2, e2, hm2, hd2⟩ := pickInt_sp d [0, 100, 500, 700, 750, 900, 2000, 60000, 1000000] hd (by simp)
        have e2' : spec_l1PickInt (L1Cur.mk d.b d.i d.h) _ = some (m, d2) := e2
        obtain ⟨s, hs⟩ : ∃ s, ([[99, 112, 117], [104, 105, 116, 115], [109, 101, 109], [113, 117, 101, 117, 101]] : List Str)[i]? = some s := ⟨_, List.getElem?_eq_getElem (by simpa using hlt)⟩
        simp only [Bool.not_false, if_true, e2', bind_some', ix_nat, hs]
        rw [app_ok (by simp; omega)]
        simp only [bind_some']
        exact ih hlt d2 _ hd2 (by simp; omega) (listD hm ⟨shS_mem (List.mem_of_getElem? hs) (by decide), shI_mem hm2 (by decide)⟩)
      · simp only [Bool.not_true, Bool.false_eq_true, if_false]
        exact ih hlt d l hd (by omega) hm
    · rw [if_neg (by simp; omega)]
      exact ⟨_, _, _, _, rfl, by omega, hm, hc⟩
  obtain ⟨b, i, g, l, e1, hl1, hm1, h1⟩ := k0 0 (by omega) c [] h (by simp) (by simp)
  simp only [Int.natCast_zero] at e1
  obtain ⟨x, c2, e2, h2⟩ := once_sp ⟨b, i, g⟩ 12 h1 (by omega)
  simp only [spec_l15DrawSamples, e1, e2, bind_some']
  split
  · obtain ⟨x3, c3, e3, m3, h3⟩ := pick_sp c2 [[97], [122], []] h2 (by simp)
    obtain ⟨x4, c4, e4, m4, h4⟩ := pickInt_sp c3 [-1, 5, 1000001] h3 (by simp)
    simp only [e3, e4, bind_some']
    rw [app_ok (by simp; omega)]
    exact ⟨_, _, rfl, ⟨by simp; omega, listD hm1 ⟨shS_mem m3 (by decide), shI_mem m4 (by decide)⟩⟩, h4⟩
  · exact ⟨_, _, rfl, ⟨by omega, hm1⟩, h2⟩
theorem slow_same2 (p : Pace) (now n : Int) (u0 : 0 ≤ p.Up) (u1 : p.Up ≤ 1000) (d0 : 0 ≤ p.Down) (d1 : p.Down ≤ 1000) (h0 : 0 ≤ now) (h1 : now ≤ 1000) (hn : okI n) : spec_Slow p now n = some (slowV p now n) ∧ impl_Slow p now n = some (slowV p now n) := by
  have hnow : okI now := by unfold okI; omega
  have hu : okI p.Up := by unfold okI; omega
  have hd : okI p.Down := by unfold okI; omega
  have w1 : IntKind.i64.wrap (now + p.Up) = now + p.Up := w64_id (by omega) (by omega)
  have w2 : IntKind.i64.wrap (now - p.Down) = now - p.Down := w64_id (by omega) (by omega)
  simp only [spec_Slow, impl_Slow, beyond_some _ _ _ hn hnow hu, beyond_some _ _ _ hnow hn hd, bind_some', w1, w2, slowV]
  unfold okI at hn
  have z1 : n > now → n - now ≤ 9223372036854775807 → IntKind.i64.wrap (n - now) = n - now := fun _ _ => w64_id (by omega) (by omega)
  have z2 : n > now → n - now > 9223372036854775807 → IntKind.i64.wrap (n - now) < 0 := fun _ _ => by rw [w64_eq]; omega
  have z3 : n < now → now - n ≤ 9223372036854775807 → IntKind.i64.wrap (now - n) = now - n := fun _ _ => w64_id (by omega) (by omega)
  have z4 : n < now → now - n > 9223372036854775807 → IntKind.i64.wrap (now - n) < 0 := fun _ _ => by rw [w64_eq]; omega
  generalize IntKind.i64.wrap (n - now) = y1 at *
  generalize IntKind.i64.wrap (now - n) = y2 at *
  clear w1 w2
  constructor
  · by_cases a1 : p.Up = 0 <;> by_cases a2 : n > now <;> by_cases a3 : y1 > p.Up <;> by_cases a4 : y1 < 0 <;> by_cases b1 : p.Down = 0 <;> by_cases b2 : n < now <;> by_cases b3 : y2 > p.Down <;> by_cases b4 : y2 < 0 <;>
      first
      | omega
      | (have c1 : (n - now > p.Up) = (n > now ∧ (y1 > p.Up ∨ y1 < 0)) := by simp only [eq_iff_iff]; omega
         have c2 : (now - n > p.Down) = (n < now ∧ (y2 > p.Down ∨ y2 < 0)) := by simp only [eq_iff_iff]; omega
         simp [a1, a2, a3, a4, b1, b2, b3, b4, c1, c2])
  · by_cases a1 : p.Up = 0 <;> by_cases a2 : n - now > p.Up <;> by_cases b1 : p.Down = 0 <;> by_cases b2 : now - n > p.Down <;> simp [a1, a2, b1, b2]
def clampV (a lo hi : Int) : Int := if a < lo then lo else if a > hi then hi else a
theorem clamp_some (a lo hi : Int) : spec_Clamp a lo hi = some (clampV a lo hi) ∧ impl_Clamp a lo hi = some (clampV a lo hi) := by
  simp only [spec_Clamp, impl_Clamp, spec_l1Min, clampV]
  by_cases h1 : a < lo
  · simp [h1]
  · by_cases h2 : a > hi
    · have : ¬ a < hi := by omega
      simp [h1, h2, this, bind_some']
    · by_cases h3 : a < hi
      · simp [h1, h2, h3, bind_some']
      · have : hi = a := by omega
        simp [h1, h2, h3, bind_some', this]
theorem clampV_in {a lo hi : Int} (h : lo ≤ hi) : lo ≤ clampV a lo hi ∧ clampV a lo hi ≤ hi := by
  unfold clampV; split
  · omega
  · split <;> omega
theorem clampV_id {a lo hi : Int} (h : lo ≤ a) (h2 : a ≤ hi) : clampV a lo hi = a := by
  unfold clampV; rw [if_neg (by omega), if_neg (by omega)]
/-- what an order is, where it is right -/
theorem orderOk_true (o : Order) (hs : Order.sm o) (h : impl_OrderOk o = some true) : 1 ≤ o.Low ∧ o.Low ≤ o.High ∧ o.High ≤ 1000 ∧ o.Metrics.length ≤ 4 ∧ impl_OrderOk.l0 o 0 = some (.inr ()) ∧ impl_NameOk o.Name = some true ∧ impl_NameOk o.Target = some true ∧ impl_PaceOk o.Pace = some true ∧ impl_notesOk o.Notes = some true := by
  obtain ⟨n, n1, n2⟩ := nameOk_same o.Name hs.1
  obtain ⟨t, t1, t2⟩ := nameOk_same o.Target hs.2.1
  obtain ⟨m, m1, m2⟩ := metrics_same o hs.2.2.1
  obtain ⟨p, p1, p2⟩ := paceOk_same o.Pace
  obtain ⟨q, q1, q2⟩ := notes_same o.Notes hs.2.2.2
  simp only [impl_OrderOk, n2, t2, m2, p2, q2, from_some, bind_some'] at h
  by_cases hx : o.Low ≥ 1 ∧ o.Low ≤ o.High <;> by_cases hy : o.High ≤ 1000 <;> by_cases hz : (o.Metrics.length : Int) ≤ 4 <;> cases n <;> cases t <;> cases m <;> cases p <;> cases q <;> simp [hx, hy, hz, bind_some'] at h
  all_goals first
    | (refine ⟨by omega, by omega, by omega, by omega, by rw [m2]; rfl, n2, t2, p2, q2⟩)
    | omega
theorem paceOk_true (p : Pace) (h : impl_PaceOk p = some true) : 0 ≤ p.Up ∧ p.Up ≤ 1000 ∧ 0 ≤ p.Down ∧ p.Down ≤ 1000 ∧ 0 ≤ p.UpSpan ∧ p.UpSpan ≤ 3600 ∧ 0 ≤ p.DownSpan ∧ p.DownSpan ≤ 3600 := by
  simp only [impl_PaceOk, impl_isMany, from_some, bind_some'] at h
  by_cases a : p.Up ≥ 0 ∧ p.Up ≤ 1000 <;> by_cases b : p.Down ≥ 0 ∧ p.Down ≤ 1000 <;> by_cases c : p.UpSpan ≥ 0 ∧ p.UpSpan ≤ 3600 <;> by_cases d : p.DownSpan ≥ 0 ∧ p.DownSpan ≤ 3600 <;> simp [a, b, c, d] at h <;> omega
theorem scaleOk_true (x : Scale) (hs : Scale.sm x) (h : impl_ScaleOk x = some true) : impl_NameOk x.Name = some true ∧ 0 ≤ x.Now ∧ x.Now ≤ 1000 ∧ impl_RecsOk x.Recs = some true := by
  obtain ⟨n, n1, n2⟩ := nameOk_same x.Name hs.1
  obtain ⟨p, p1, p2⟩ := recsOk_same x.Recs hs.2.1
  simp only [impl_ScaleOk, impl_isMany, n2, p2, from_some, bind_some'] at h
  by_cases a : x.Now ≥ 0 ∧ x.Now ≤ 1000 <;> cases n <;> cases p <;> simp [a] at h
  all_goals first
    | exact ⟨n2, a.1, a.2, p2⟩
    | omega
theorem scaleOk_mk (n : Str) (w : Int) (l : List Rec) (hn : impl_NameOk n = some true) (h0 : 0 ≤ w) (h1 : w ≤ 1000) (hl : impl_RecsOk l = some true) : impl_ScaleOk (Scale.mk n w l) = some true := by
  simp only [impl_ScaleOk, impl_isMany, hn, hl, from_some, bind_some', if_true]
  rw [if_pos (by simp; omega)]
def Good (o : Order) (sc : Scale) (t : Int) (s : List Sample) : Prop := impl_OrderOk o = some true ∧ impl_ScaleOk sc = some true ∧ sc.Name = o.Name ∧ impl_SamplesOk s = some true ∧ 0 ≤ t ∧ t ≤ 1000000 ∧ ∀ r, sc.Recs[sc.Recs.length - 1]? = some r → r.Time ≤ t
theorem copy_some (sc : Scale) (hl : sc.Recs.length ≤ 1048576) : impl_copyScale sc = some sc ∧ spec_l17Copy sc = some sc := by
  have h3 : Nt.clone 16 sc.Recs = some sc.Recs := if_pos (by omega)
  have e1 : app 16 [] sc.Recs = some sc.Recs := app_ok (l := []) (by simp only [List.length_nil]; omega)
  simp only [impl_copyScale, spec_l17Copy, slices_Clone_Simpl_Rec_impl_Rec, h3, e1, bind_some', and_self]
theorem step_bad (o : Order) (sc : Scale) (t : Int) (s : List Sample) (ho : Order.sm o) (hs : Scale.sm sc) (hss : smL Sample.sm s) (hg : ¬ Good o sc t s) : spec_Step o sc t s = some (sc, sc.Now) ∧ impl_Step o sc t s = some (sc, sc.Now) := by
  obtain ⟨c1, c2⟩ := copy_some sc hs.2.1
  obtain ⟨p, p1, p2⟩ := orderOk_same o ho
  obtain ⟨q, q1, q2⟩ := scaleOk_same sc hs
  obtain ⟨u, u1, u2⟩ := samplesOk_same s hss
  have hl : sc.Recs.length ≤ 1048576 := hs.2.1
  unfold spec_Step impl_Step
  simp only [c1, c2, p1, p2, q1, q2, u1, u2, bind_some', in_some, impl_isTime, from_some]
  cases p
  · exact ⟨rfl, rfl⟩
  cases q
  · exact ⟨rfl, rfl⟩
  by_cases hn : sc.Name = o.Name
  · cases u
    · simp [hn]
    by_cases ht : 0 ≤ t ∧ t ≤ 1000000
    · have hlast : ∃ r, sc.Recs[sc.Recs.length - 1]? = some r ∧ t < r.Time := by
        refine Classical.byContradiction fun h => hg ⟨p2, q2, hn, u2, ht.1, ht.2, fun r hr => ?_⟩
        by_cases h2 : r.Time ≤ t
        · exact h2
        · exact absurd ⟨r, hr, by omega⟩ h
      obtain ⟨r, r1, r2⟩ := hlast
      have h0 : 0 < sc.Recs.length := by
        rcases Nat.lt_or_ge (sc.Recs.length - 1) sc.Recs.length with h | h
        · omega
        · rw [List.getElem?_eq_none h] at r1; simp at r1
      have e : IntKind.i64.wrap ((sc.Recs.length : Int) - 1) = ((sc.Recs.length - 1 : Nat) : Int) := by rw [w64_id (by omega) (by omega)]; omega
      have g1 : decide ((sc.Recs.length : Int) > 0) = true := decide_eq_true (by omega)
      have g2 : (decide (t ≥ 0) && decide (t ≤ 1000000)) = true := by simp; omega
      have g3 : decide (r.Time > t) = true := by simp; omega
      have g4 : decide (t < r.Time) = true := by simp; omega
      simp only [hn, g1, g2, g3, g4, e, ix_nat, r1, bind_some', beq_self_eq_true, Bool.not_true, Bool.false_eq_true, if_true, if_false, and_self]
    · have g2 : (decide (t ≥ 0) && decide (t ≤ 1000000)) = false := by
        cases h : (decide (t ≥ 0) && decide (t ≤ 1000000))
        · rfl
        · simp at h; omega
      simp [hn, g2]
  · have : (sc.Name == o.Name) = false := by simpa using hn
    simp [this]
theorem step_good (o : Order) (sc : Scale) (t : Int) (s : List Sample) (ho : Order.sm o) (hs : Scale.sm sc) (hr : okL Rec.ok sc.Recs) (hss : smL Sample.sm s) (hg : Good o sc t s) :
    ∃ v b, impl_ByAll o sc.Now s = some (v, b) ∧
      (b = false → spec_Step o sc t s = some (⟨sc.Name, clampV sc.Now o.Low o.High, sc.Recs⟩, clampV sc.Now o.Low o.High) ∧ impl_Step o sc t s = some (⟨sc.Name, clampV sc.Now o.Low o.High, sc.Recs⟩, clampV sc.Now o.Low o.High)) ∧
      (b = true → ∃ m st, impl_RecAdd sc.Recs t (clampV v o.Low o.High) = some m ∧ impl_Steady o.Pace sc.Recs t sc.Now (clampV v o.Low o.High) = some st ∧ spec_Step o sc t s = some (⟨sc.Name, clampV (slowV o.Pace sc.Now st) o.Low o.High, m⟩, clampV (slowV o.Pace sc.Now st) o.Low o.High) ∧ impl_Step o sc t s = some (⟨sc.Name, clampV (slowV o.Pace sc.Now st) o.Low o.High, m⟩, clampV (slowV o.Pace sc.Now st) o.Low o.High)) := by
  obtain ⟨p2, q2, hn, u2, t0, t1, hlast⟩ := hg
  obtain ⟨c1, c2⟩ := copy_some sc hs.2.1
  have hl : sc.Recs.length ≤ 1048576 := hs.2.1
  obtain ⟨_, p1, p2'⟩ := orderOk_same o ho
  obtain rfl := Option.some.inj (p2'.symm.trans p2)
  obtain ⟨_, q1, q2'⟩ := scaleOk_same sc hs
  obtain rfl := Option.some.inj (q2'.symm.trans q2)
  obtain ⟨_, u1, u2'⟩ := samplesOk_same s hss
  obtain rfl := Option.some.inj (u2'.symm.trans u2)
  obtain ⟨o1, o2, o3, _, _, _, _, op, _⟩ := orderOk_true o ho p2
  obtain ⟨a0, a1, b0, b1, d0, d1, e0, e1⟩ := paceOk_true o.Pace op
  obtain ⟨_, s0, s1, _⟩ := scaleOk_true sc hs q2
  obtain ⟨⟨v, b⟩, v1, v2⟩ := byAll_same o sc.Now s ho hss
  have hpo : Pace.ok o.Pace := ⟨okI_of (by omega) (by omega), okI_of (by omega) (by omega), okI_of (by omega) (by omega), okI_of (by omega) (by omega)⟩
  obtain ⟨m, m1, m2, m3, m4⟩ := recAdd_room sc.Recs t (clampV v o.Low o.High) hl
  obtain ⟨st, st1, st2, st3, st4, st5⟩ := steady_sp o.Pace sc.Recs t sc.Now (clampV v o.Low o.High) hpo hr hl (okI_of (by omega) (by omega))
  have hc := clampV_in (a := v) o2
  have hst : okI st := by
    rcases Int.lt_trichotomy (clampV v o.Low o.High) sc.Now with h | h | h
    · have := st3 h; exact okI_of (by omega) (by omega)
    · have := st5 h; exact okI_of (by omega) (by omega)
    · have := st4 h; exact okI_of (by omega) (by omega)
  obtain ⟨w1, w2⟩ := slow_same2 o.Pace sc.Now st a0 a1 b0 b1 s0 s1 hst
  have g2 : (decide (t ≥ 0) && decide (t ≤ 1000000)) = true := by simp; omega
  refine ⟨v, b, v2, fun hb => ?_, fun hb => ⟨m, st, m2, st2, ?_⟩⟩
  all_goals subst hb
  all_goals unfold spec_Step impl_Step
  all_goals simp only [c1, c2, p1, p2, q1, q2, u1, u2, v1, v2, m1, m2, st1, st2, w1, w2, hn, g2, bind_some', in_some, impl_isTime, from_some, (clamp_some _ _ _).1, (clamp_some _ _ _).2, beq_self_eq_true, Bool.not_true, Bool.not_false, Bool.false_eq_true, if_true, if_false]
  all_goals
    by_cases h0 : sc.Recs.length = 0
    · have g1 : decide ((sc.Recs.length : Int) > 0) = false := decide_eq_false (by omega)
      simp only [g1, Bool.false_eq_true, if_false, and_self]
    · have e : IntKind.i64.wrap ((sc.Recs.length : Int) - 1) = ((sc.Recs.length - 1 : Nat) : Int) := by rw [w64_id (by omega) (by omega)]; omega
      have g1 : decide ((sc.Recs.length : Int) > 0) = true := decide_eq_true (by omega)
      have r1 : sc.Recs[sc.Recs.length - 1]? = some (sc.Recs[sc.Recs.length - 1]'(by omega)) := List.getElem?_eq_getElem _
      have r2 := hlast _ r1
      simp only [g1, e, ix_nat, r1, bind_some', if_true]
      have r3 : decide ((sc.Recs[sc.Recs.length - 1]'(by omega)).Time > t) = false := by simpa using r2
      have r4 : decide (t < (sc.Recs[sc.Recs.length - 1]'(by omega)).Time) = false := by simpa using r2
      simp only [r3, r4, Bool.false_eq_true, if_false, and_self]
def ScaleD (x : Scale) : Prop := shS x.Name ∧ okI x.Now ∧ x.Recs.length ≤ 9 ∧ okL Rec.ok x.Recs
theorem ScaleD.sm {x : Scale} (h : ScaleD x) : Scale.sm x := ⟨h.1.sm, by have := h.2.2.1; omega, fun _ _ => trivial⟩
theorem draw17Right_sp (c : L1Cur) (o : Order) (h : Cur c) (ho : OrderD o) : ∃ x d, spec_l17DrawRight c o = some (x, d) ∧ ScaleD x ∧ Cur d := by
  have h3 := ho.2.2.1
  have h4 := ho.2.2.2.1
  obtain ⟨x1, c1, e1, m1, h1⟩ := pickInt_sp c [o.Low, o.High, IntKind.i64.wrap (o.Low + 1), 0] h (by simp)
  obtain ⟨l, c2, e2, hl, h2, hk⟩ := drawRecs_ok c1 h1
  simp only [spec_l17DrawRight, e1, e2, bind_some']
  refine ⟨_, _, rfl, ⟨ho.1, ?_, by show l.length ≤ 9; omega, by show l.length ≤ 9223372036854775807; omega, hk⟩, h2⟩
  show okI x1
  unfold shI at h3 h4
  rw [w64_id (by omega) (by omega)] at m1
  simp only [List.mem_cons, List.not_mem_nil, or_false] at m1
  unfold okI; omega
theorem draw17_sp (c : L1Cur) (h : Cur c) : ∃ o x d, spec_l17Draw c = some (o, x, d) ∧ OrderD o ∧ ScaleD x ∧ Cur d := by
  obtain ⟨o, c1, e1, ho, h1⟩ := draw6_sp c h
  obtain ⟨x, c2, e2, hx, h2⟩ := draw17Right_sp c1 o h1 ho
  obtain ⟨k, c3, e3, k0, k1, h3⟩ := below_sp c2 12 h2 (by omega)
  have eo : Order.mk o.Name o.Target o.Low o.High o.Metrics (Pace.mk o.Pace.Up o.Pace.Down o.Pace.UpSpan o.Pace.DownSpan) o.Notes = o := rfl
  have e2' : spec_l17DrawRight (L1Cur.mk c1.b c1.i c1.h) o = some (x, c2) := e2
  have e3' : spec_l1Below (L1Cur.mk c2.b c2.i c2.h) 12 = some (k, c3) := e3
  unfold spec_l17Draw
  rw [e1, bind_some']
  dsimp only
  rw [eo, e2', bind_some']
  dsimp only
  rw [e3', bind_some']
  dsimp only
  by_cases g : (k == 0) = true
  · rw [if_pos g]
    obtain ⟨y, d, e4, m4, h4⟩ := pick_sp c3 [[], [111, 116, 104, 101, 114]] h3 (by simp)
    simp only [e4, bind_some']
    exact ⟨_, _, _, rfl, ho, ⟨shS_mem m4 (by decide), hx.2⟩, h4⟩
  rw [if_neg g]
  by_cases g : (k == 1) = true
  · rw [if_pos g]
    obtain ⟨y, d, e4, m4, h4⟩ := pickInt_sp c3 [(-1), 1000, 1001] h3 (by simp)
    simp only [e4, bind_some']
    exact ⟨_, _, _, rfl, ho, ⟨hx.1, (shI_mem m4 (by decide)).ok, hx.2.2⟩, h4⟩
  rw [if_neg g]
  by_cases g : (k == 2) = true
  · rw [if_pos g]
    obtain ⟨y, d, e4, m4, h4, m5⟩ := draw16_ok c3 h3
    simp only [e4, bind_some']
    exact ⟨_, _, _, rfl, ho, ⟨hx.1, hx.2.1, m4, m5⟩, h4⟩
  rw [if_neg g]
  exact ⟨_, _, _, rfl, ho, hx, h3⟩
theorem drawStep_sp (a : List Int) (h : a.length ≤ 1048576) : ∃ o x t s, spec_DrawStep a = some (o, x, t, s) ∧ OrderD o ∧ ScaleD x ∧ shI t ∧ SamplesD s := by
  obtain ⟨c, e0, h0⟩ := new_sp a h
  obtain ⟨o, x, c1, e1, ho, hx, h1⟩ := draw17_sp c h0
  obtain ⟨t, c2, e2, m2, h2⟩ := pickInt_sp c1 [2000, 2100, 0, 1000000, 1000001, -1] h1 (by simp)
  obtain ⟨s, c3, e3, hs, h3⟩ := drawSamples_sp c2 h2
  simp only [spec_DrawStep, e0, e1, e2, e3, bind_some']
  exact ⟨_, _, _, _, rfl, ho, hx, shI_mem m2 (by decide), hs⟩
/-- what a step makes of a scale -/
theorem step_facts (o : Order) (sc : Scale) (t : Int) (s : List Sample) (ho : Order.sm o) (hs : Scale.sm sc) (hr : okL Rec.ok sc.Recs) (hss : smL Sample.sm s) :
    ∃ x, spec_Step o sc t s = some x ∧ impl_Step o sc t s = some x ∧ x.1.Name = sc.Name ∧ x.1.Now = x.2 ∧ x.1.Recs.length ≤ 1048576 ∧
      (¬ Good o sc t s → x = (sc, sc.Now)) ∧
      (Good o sc t s → o.Low ≤ x.2 ∧ x.2 ≤ o.High ∧ impl_ScaleOk x.1 = some true ∧ (o.Low ≤ sc.Now → sc.Now ≤ o.High → (o.Pace.Up ≠ 0 → x.2 ≤ sc.Now + o.Pace.Up) ∧ (o.Pace.Down ≠ 0 → sc.Now - o.Pace.Down ≤ x.2))) := by
  by_cases hg : Good o sc t s
  · obtain ⟨v, b, b1, b2, b3⟩ := step_good o sc t s ho hs hr hss hg
    obtain ⟨p2, q2, hn, u2, t0, t1, hlast⟩ := hg
    obtain ⟨o1, o2, o3, _, _, _, _, op, _⟩ := orderOk_true o ho p2
    obtain ⟨a0, a1, d0, d1, _, _, _, _⟩ := paceOk_true o.Pace op
    obtain ⟨s3, s0, s1, s2⟩ := scaleOk_true sc hs q2
    have hg : Good o sc t s := ⟨p2, q2, hn, u2, t0, t1, hlast⟩
    have hl : sc.Recs.length ≤ 1048576 := hs.2.1
    cases b
    · obtain ⟨e1, e2⟩ := b2 rfl
      have hc := clampV_in (a := sc.Now) o2
      refine ⟨_, e1, e2, rfl, rfl, hl, fun h => absurd hg h, fun _ => ⟨hc.1, hc.2, scaleOk_mk _ _ _ s3 (by omega) (by omega) s2, fun g1 g2 => ?_⟩⟩
      rw [show (clampV sc.Now o.Low o.High) = sc.Now from clampV_id g1 g2]
      exact ⟨fun _ => by show sc.Now ≤ _; omega, fun _ => by show _ ≤ sc.Now; omega⟩
    · obtain ⟨m, st, m1, st1, e1, e2⟩ := b3 rfl
      have hc := clampV_in (a := slowV o.Pace sc.Now st) o2
      obtain ⟨m', _, m2, m3, m4⟩ := recAdd_room sc.Recs t (clampV v o.Low o.High) hl
      obtain rfl := Option.some.inj (m1.symm.trans m2)
      have hm : impl_RecsOk m = some true := by
        rcases m4 with rfl | ⟨h, _⟩
        · exact s2
        · exact h
      have hml := recsOk_len sc.Recs hl s2
      refine ⟨_, e1, e2, rfl, rfl, by show m.length ≤ 1048576; omega, fun h => absurd hg h, fun _ => ⟨hc.1, hc.2, scaleOk_mk _ _ _ s3 (by omega) (by omega) hm, fun g1 g2 => ?_⟩⟩
      show (o.Pace.Up ≠ 0 → clampV (slowV o.Pace sc.Now st) o.Low o.High ≤ _) ∧ (o.Pace.Down ≠ 0 → _ ≤ clampV (slowV o.Pace sc.Now st) o.Low o.High)
      have h1 : o.Pace.Up ≠ 0 → slowV o.Pace sc.Now st ≤ sc.Now + o.Pace.Up := by
        intro g; unfold slowV
        by_cases c1 : st - sc.Now > o.Pace.Up
        · rw [if_pos ⟨g, c1⟩]; omega
        · rw [if_neg (by omega)]
          split <;> omega
      have h2 : o.Pace.Down ≠ 0 → sc.Now - o.Pace.Down ≤ slowV o.Pace sc.Now st := by
        intro g; unfold slowV
        split
        · omega
        · by_cases c1 : sc.Now - st > o.Pace.Down
          · rw [if_pos ⟨g, c1⟩]; omega
          · rw [if_neg (by omega)]; omega
      generalize slowV o.Pace sc.Now st = z at *
      unfold clampV
      constructor
      · intro g; have := h1 g; split
        · omega
        · split <;> omega
      · intro g; have := h2 g; split
        · omega
        · split <;> omega
  · obtain ⟨e1, e2⟩ := step_bad o sc t s ho hs hss hg
    exact ⟨_, e1, e2, rfl, rfl, hs.2.1, fun _ => rfl, fun h => absurd h hg⟩
theorem sameRecs_self (a : List Rec) (h : a.length ≤ 1048576) : laws_sameRecs a a = some true := by
  obtain ⟨r, r1, r2⟩ := sameRecs_some a a h
  rw [r1, r2.2 rfl]
theorem Pure.FnSteps (a : List Int) (ha : okL okU a) : laws_FnSteps a = some true := by
  unfold laws_FnSteps
  simp only [laws_big, bind_some']
  by_cases hb : decide ((a.length : Int) > 1048576) = true
  · rw [if_pos hb]
  rw [if_neg hb]
  have hl : a.length ≤ 1048576 := by simp at hb; omega
  obtain ⟨o, sc, t, s, e1, ho, hsc, ht, hs⟩ := drawStep_sp a hl
  have eo : Order.mk o.Name o.Target o.Low o.High o.Metrics (Pace.mk o.Pace.Up o.Pace.Down o.Pace.UpSpan o.Pace.DownSpan) o.Notes = o := rfl
  have es : Scale.mk sc.Name sc.Now sc.Recs = sc := rfl
  rw [e1, bind_some']
  dsimp only
  rw [eo, es]
  obtain ⟨x, x1, x2, x3, x4, x5, x6, x7⟩ := step_facts o sc t s ho.sm hsc.sm hsc.2.2.2 hs.sm
  obtain ⟨q, q1, q2⟩ := scaleOk_same sc hsc.sm
  obtain ⟨p, p1, p2⟩ := orderOk_same o ho.sm
  obtain ⟨u, u1, u2⟩ := samplesOk_same s hs.sm
  have hrl : sc.Recs.length ≤ 1048576 := hsc.sm.2.1
  rw [x2, bind_some', x1, bind_some']
  have ex : Scale.mk x.1.Name x.1.Now x.1.Recs = x.1 := rfl
  rw [ex]
  simp only [bne_self_eq_false, beq_self_eq_true, Bool.not_true, Bool.false_eq_true, if_false, sameRecs_self _ x5, q1, q2, p2, u2, bind_some', x4]
  have bad : ¬ Good o sc t s → (if (x.2 == sc.Now) = true then (laws_sameRecs x.1.Recs sc.Recs >>= fun y => some y) else some false) = some true := by
    intro h
    rw [x6 h]
    simp only [beq_self_eq_true, if_true, sameRecs_self _ hrl, bind_some']
  cases p
  · exact bad fun h => by have := h.1; rw [p2] at this; simp at this
  simp only [Bool.not_true, Bool.false_eq_true, if_false]
  cases q
  · exact bad fun h => by have := h.2.1; rw [q2] at this; simp at this
  simp only [Bool.not_true, Bool.false_eq_true, if_false]
  by_cases hn : sc.Name = o.Name
  · have hn' : (sc.Name == o.Name) = true := by simpa using hn
    simp only [hn', Bool.not_true, Bool.false_eq_true, if_false]
    cases u
    · exact bad fun h => by have := h.2.2.2.1; rw [u2] at this; simp at this
    simp only [Bool.not_true, Bool.false_eq_true, if_false]
    by_cases c1 : t < 0
    · rw [if_pos (by simpa using c1)]
      exact bad fun h => by have := h.2.2.2.2.1; omega
    rw [if_neg (by simpa using c1)]
    by_cases c2 : t > 1000000
    · rw [if_pos (by simpa using c2)]
      exact bad fun h => by have := h.2.2.2.2.2.1; omega
    rw [if_neg (by simpa using c2)]
    obtain ⟨o1, o2, o3, _, _, _, _, op, _⟩ := orderOk_true o ho.sm p2
    obtain ⟨a0, a1, d0, d1, _, _, _, _⟩ := paceOk_true o.Pace op
    obtain ⟨_, s0, s1, _⟩ := scaleOk_true sc hsc.sm q2
    have w1 : IntKind.i64.wrap (sc.Now - o.Pace.Down) = sc.Now - o.Pace.Down := w64_id (by omega) (by omega)
    have w2 : IntKind.i64.wrap (sc.Now + o.Pace.Up) = sc.Now + o.Pace.Up := w64_id (by omega) (by omega)
    have good : Good o sc t s → (if (decide (x.2 < o.Low)) = true then some false else (if (decide (x.2 > o.High)) = true then some false else (impl_ScaleOk x.1 >>= fun x20 => (if (!x20) = true then some false else (if (decide (sc.Now ≥ o.Low)) = true then (if (!(decide (sc.Now ≤ o.High))) = true then some true else (if (o.Pace.Up == 0) = true then (if (o.Pace.Down == 0) = true then some true else some (decide (x.2 ≥ (IntKind.i64.wrap (sc.Now - o.Pace.Down))))) else (if (decide (x.2 ≤ (IntKind.i64.wrap (sc.Now + o.Pace.Up)))) = true then (if (o.Pace.Down == 0) = true then some true else some (decide (x.2 ≥ (IntKind.i64.wrap (sc.Now - o.Pace.Down))))) else some false))) else (if (!false) = true then some true else (if (o.Pace.Up == 0) = true then (if (o.Pace.Down == 0) = true then some true else some (decide (x.2 ≥ (IntKind.i64.wrap (sc.Now - o.Pace.Down))))) else (if (decide (x.2 ≤ (IntKind.i64.wrap (sc.Now + o.Pace.Up)))) = true then (if (o.Pace.Down == 0) = true then some true else some (decide (x.2 ≥ (IntKind.i64.wrap (sc.Now - o.Pace.Down))))) else some false)))))))) = some true := by
      intro h
      obtain ⟨y1, y2, y3, y4⟩ := x7 h
      rw [if_neg (by simp; omega), if_neg (by simp; omega), y3, bind_some']
      simp only [Bool.not_true, Bool.false_eq_true, if_false, w1, w2]
      by_cases g1 : sc.Now ≥ o.Low
      · rw [if_pos (by simpa using g1)]
        by_cases g2 : sc.Now ≤ o.High
        · obtain ⟨z1, z2⟩ := y4 g1 g2
          rw [if_neg (by simpa using g2)]
          by_cases g3 : o.Pace.Up = 0
          · rw [if_pos (by simpa using g3)]
            by_cases g4 : o.Pace.Down = 0
            · rw [if_pos (by simpa using g4)]
            · rw [if_neg (by simpa using g4)]; have := z2 g4; simp; omega
          · rw [if_neg (by simpa using g3), if_pos (by have := z1 g3; simpa using this)]
            by_cases g4 : o.Pace.Down = 0
            · rw [if_pos (by simpa using g4)]
            · rw [if_neg (by simpa using g4)]; have := z2 g4; simp; omega
        · rw [if_pos (by simpa using g2)]
      · rw [if_neg (by simpa using g1)]; rfl
    by_cases h0 : sc.Recs.length = 0
    · have g1 : decide ((sc.Recs.length : Int) > 0) = false := decide_eq_false (by omega)
      rw [g1]
      exact good ⟨p2, q2, hn, u2, by omega, by omega, fun r hr => by rw [List.getElem?_eq_none (by omega)] at hr; simp at hr⟩
    · have e : IntKind.i64.wrap ((sc.Recs.length : Int) - 1) = ((sc.Recs.length - 1 : Nat) : Int) := by rw [w64_id (by omega) (by omega)]; omega
      have g1 : decide ((sc.Recs.length : Int) > 0) = true := decide_eq_true (by omega)
      have r1 : sc.Recs[sc.Recs.length - 1]? = some (sc.Recs[sc.Recs.length - 1]'(by omega)) := List.getElem?_eq_getElem _
      rw [if_pos g1, e, ix_nat, r1, bind_some']
      by_cases g2 : (sc.Recs[sc.Recs.length - 1]'(by omega)).Time > t
      · rw [if_pos (by simpa using g2)]
        exact bad fun h => by have := h.2.2.2.2.2.2 _ r1; omega
      · rw [if_neg (by simpa using g2)]
        exact good ⟨p2, q2, hn, u2, by omega, by omega, fun r hr => by rw [r1] at hr; obtain rfl := Option.some.inj hr; omega⟩
  · have hn' : (sc.Name == o.Name) = false := by simpa using hn
    simp only [hn', Bool.not_false, if_true]
    exact bad fun h => hn h.2.2.1
end Go.Pu
