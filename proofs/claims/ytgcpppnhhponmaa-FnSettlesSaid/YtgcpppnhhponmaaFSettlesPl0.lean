import Derived.Test.YtgcpppnhhponmaaFSettlesPu
set_option linter.unusedVariables false
set_option linter.unusedSimpArgs false
set_option synthInstance.maxSize 1000000000
namespace Go.Pu
open Go.Nt
theorem w64_id {n : Int} (h0 : -9223372036854775808 ≤ n) (h1 : n ≤ 9223372036854775807) : IntKind.i64.wrap n = n := by
  simp only [IntKind.wrap, IntKind.bits, IntKind.signed, Bool.true_and]
  split
  · rename_i h; simp at h; omega
  · rename_i h; simp at h; omega
theorem w64_succ {i : Nat} (h : i < 9223372036854775807) : IntKind.i64.wrap ((i : Int) + 1) = ((i + 1 : Nat) : Int) := by
  rw [w64_id (by omega) (by omega)]; omega
theorem ix_nat {α : Type} (l : List α) (i : Nat) : ix l (i : Int) = l[i]? := by simp [ix]
theorem put_nat {α : Type} {l : List α} {i : Nat} {x : α} (h : i < l.length) : Nt.put l (i : Int) x = some (l.set i x) := by simp [Nt.put, h]
theorem app_ok {α : Type} {b : Nat} {l m : List α} (h : (l.length + m.length) * b ≤ 70368744177664) : app b l m = some (l ++ m) := by
  simp only [app]; rw [if_pos h]
/-- down from the end -/
theorem down {P : Nat → Prop} (n : Nat) (h : ∀ i, i ≤ n → (i < n → P (i + 1)) → P i) : ∀ i, i ≤ n → P i := by
  intro i hi
  obtain ⟨k, hk⟩ : ∃ k, k = n - i := ⟨_, rfl⟩
  induction k generalizing i with
  | zero => exact h i hi fun hlt => by omega
  | succ k ih => exact h i hi fun hlt => ih (i + 1) hlt (by omega)
theorem bind_some' {α β : Type} (x : α) (f : α → Option β) : (some x >>= f) = f x := rfl
def smL {α : Type} (p : α → Prop) (l : List α) : Prop := l.length ≤ 1048576 ∧ ∀ x ∈ l, p x
def smS (s : Str) : Prop := s.length ≤ 1048576
def Sample.sm (x : Sample) : Prop := smS x.Name
theorem in_some (a b c : Int) : spec_l1In a b c = some (decide (a ≥ b) && decide (a ≤ c)) := by
  simp only [spec_l1In]; by_cases h : a ≥ b <;> simp [h]
theorem from_some (a b c : Int) : impl_from a b c = some (decide (a ≥ b) && decide (a ≤ c)) := by
  simp only [impl_from]; by_cases h : a ≥ b <;> simp [h]
theorem recsOk_same (a : List Rec) (h : a.length ≤ 1048576) : ∃ b, spec_RecsOk a = some b ∧ impl_RecsOk a = some b := by
  have key : ∀ i, i ≤ a.length → ∃ b, spec_RecsOk.l0 a i = some b ∧ impl_RecsOk.l0 a i = some b := by
    refine down _ fun i hi ih => ?_
    rw [spec_RecsOk.l0, impl_RecsOk.l0]
    by_cases hlt : i < a.length
    · obtain ⟨b, h1, h2⟩ := ih hlt
      have c : decide ((i : Int) < (a.length : Int)) = true := by simpa using hlt
      simp only [impl_isTime, impl_isMany, in_some, from_some, bind_some', ix_nat, List.getElem?_eq_getElem hlt, w64_succ (show i < 9223372036854775807 by omega), h1, h2, c, if_true]
      split
      · exact ⟨_, rfl, rfl⟩
      · split
        · exact ⟨_, rfl, rfl⟩
        · by_cases h0 : i = 0
          · subst h0; simp
          · have e : IntKind.i64.wrap ((i : Int) - 1) = ((i - 1 : Nat) : Int) := by rw [w64_id (by omega) (by omega)]; omega
            have c2 : decide ((i : Int) > 0) = true := by simp; omega
            simp only [c2, if_true, e, ix_nat, List.getElem?_eq_getElem (show i - 1 < a.length by omega), bind_some']
            split
            · exact ⟨_, rfl, rfl⟩
            · exact ⟨_, rfl, rfl⟩
    · rw [if_neg (by simpa using hlt), if_neg (by simpa using hlt)]
      exact ⟨_, rfl, rfl⟩
  obtain ⟨b, h1, h2⟩ := key 0 (by omega)
  simp only [Int.natCast_zero] at h1 h2
  simp only [spec_RecsOk, impl_RecsOk, h1, h2, bind_some']
  cases b with
  | inl r => exact ⟨_, rfl, rfl⟩
  | inr u => exact ⟨_, rfl, rfl⟩
theorem nameOk_same (a : Str) (h : smS a) : ∃ b, spec_NameOk a = some b ∧ impl_NameOk a = some b := by
  unfold smS at h
  have key : ∀ i, i ≤ a.length → ∃ b, spec_NameOk.l0 a i = some b ∧ impl_NameOk.l0 a i = some b := by
    refine down _ fun i hi ih => ?_
    rw [spec_NameOk.l0, impl_NameOk.l0]
    by_cases hlt : i < a.length
    · have c : decide ((i : Int) < (a.length : Int)) = true := by simpa using hlt
      obtain ⟨b, e1, e2⟩ := ih hlt
      simp only [c, if_true, ix_nat, List.getElem?_eq_getElem hlt, bind_some', impl_isDigit, w64_succ (show i < 9223372036854775807 by omega), e1, e2]
      generalize byte a[i] = x
      by_cases h1 : x ≥ 97 <;> by_cases h2 : x ≤ 122 <;> by_cases h3 : i = 0 <;> by_cases h4 : x ≥ 48 <;> by_cases h5 : x ≤ 57 <;> by_cases h6 : x = 45 <;>
        first
        | omega
        | (have h3' : (i : Int) > 0 := by omega
           have h3'' : ¬ ((i : Int) = 0) := by omega
           have h7 : 0 < i := by omega
           simp [h1, h2, h3, h3', h3'', h7, h4, h5, h6, bind_some'])
        | (subst h3; simp [h1, h2, h4, h5, h6, bind_some'])
    · rw [if_neg (by simpa using hlt), if_neg (by simpa using hlt)]
      exact ⟨_, rfl, rfl⟩
  obtain ⟨b, e1, e2⟩ := key 0 (by omega)
  simp only [Int.natCast_zero] at e1 e2
  simp only [spec_NameOk, impl_NameOk, e1, e2, bind_some', in_some, from_some]
  cases b with
  | inl r => exact ⟨_, rfl, rfl⟩
  | inr u => exact ⟨_, rfl, rfl⟩
theorem samplesOk_same (a : List Sample) (h : smL Sample.sm a) : ∃ b, spec_SamplesOk a = some b ∧ impl_SamplesOk a = some b := by
  have hl : a.length ≤ 1048576 := h.1
  have key : ∀ i, i ≤ a.length → ∃ b, spec_SamplesOk.l0 a i = some b ∧ impl_SamplesOk.l0 a i = some b := by
    refine down _ fun i hi ih => ?_
    rw [spec_SamplesOk.l0, impl_SamplesOk.l0]
    by_cases hlt : i < a.length
    · have c : decide ((i : Int) < (a.length : Int)) = true := by simpa using hlt
      obtain ⟨b, e1, e2⟩ := ih hlt
      obtain ⟨n, n1, n2⟩ := nameOk_same a[i].Name (h.2 _ (List.getElem_mem hlt))
      simp only [c, if_true, impl_isValue, in_some, from_some, ix_nat, List.getElem?_eq_getElem hlt, bind_some', n1, n2, w64_succ (show i < 9223372036854775807 by omega), e1, e2]
      split
      · exact ⟨_, rfl, rfl⟩
      · split
        · exact ⟨_, rfl, rfl⟩
        · by_cases h0 : i = 0
          · subst h0; simp
          · have e : IntKind.i64.wrap ((i : Int) - 1) = ((i - 1 : Nat) : Int) := by rw [w64_id (by omega) (by omega)]; omega
            have c2 : decide ((i : Int) > 0) = true := by simp; omega
            simp only [c2, if_true, e, ix_nat, List.getElem?_eq_getElem (show i - 1 < a.length by omega), bind_some']
            split
            · exact ⟨_, rfl, rfl⟩
            · exact ⟨_, rfl, rfl⟩
    · rw [if_neg (by simpa using hlt), if_neg (by simpa using hlt)]
      exact ⟨_, rfl, rfl⟩
  obtain ⟨b, h1, h2⟩ := key 0 (by omega)
  simp only [Int.natCast_zero] at h1 h2
  simp only [spec_SamplesOk, impl_SamplesOk, h1, h2, bind_some']
  cases b with
  | inl r => exact ⟨_, rfl, rfl⟩
  | inr u => exact ⟨_, rfl, rfl⟩
theorem sampleOf_same (a : List Sample) (s : Str) (h : smL Sample.sm a) : ∃ b, spec_SampleOf a s = some b ∧ impl_SampleOf a s = some b := by
  have hl : a.length ≤ 1048576 := h.1
  have key : ∀ i, i ≤ a.length → ∃ b, spec_SampleOf.l0 a s i = some b ∧ impl_SampleOf.l0 a s i = some b := by
    refine down _ fun i hi ih => ?_
    rw [spec_SampleOf.l0, impl_SampleOf.l0]
    by_cases hlt : i < a.length
    · have c : decide ((i : Int) < (a.length : Int)) = true := by simpa using hlt
      obtain ⟨b, e1, e2⟩ := ih hlt
      simp only [c, if_true, ix_nat, List.getElem?_eq_getElem hlt, bind_some', w64_succ (show i < 9223372036854775807 by omega), e1, e2]
      split
      · exact ⟨_, rfl, rfl⟩
      · exact ⟨_, rfl, rfl⟩
    · rw [if_neg (by simpa using hlt), if_neg (by simpa using hlt)]
      exact ⟨_, rfl, rfl⟩
  obtain ⟨b, h1, h2⟩ := key 0 (by omega)
  simp only [Int.natCast_zero] at h1 h2
  simp only [spec_SampleOf, impl_SampleOf, h1, h2, bind_some']
  cases b with
  | inl r => exact ⟨_, rfl, rfl⟩
  | inr u => exact ⟨_, rfl, rfl⟩
def Metric.sm (x : Metric) : Prop := smS x.Name
theorem ceilDiv_same (a b : Int) : ∃ r, spec_CeilDiv a b = some r ∧ impl_CeilDiv a b = some r := by
  simp only [spec_CeilDiv, impl_CeilDiv, in_some, from_some, bind_some']
  split
  · exact ⟨_, rfl, rfl⟩
  · split
    · exact ⟨_, rfl, rfl⟩
    · rename_i h1 h2
      simp at h2
      simp only [Nt.quo]
      rw [if_neg (by omega)]
      exact ⟨_, rfl, rfl⟩
theorem metricOk_same (m : Metric) (h : Metric.sm m) : ∃ b, spec_MetricOk m = some b ∧ impl_MetricOk m = some b := by
  obtain ⟨n, n1, n2⟩ := nameOk_same m.Name h
  simp only [spec_MetricOk, impl_MetricOk, n1, n2, bind_some', in_some, from_some]
  repeat' split
  all_goals exact ⟨_, rfl, rfl⟩
theorem byOne_same (m : Metric) (x y : Int) (h : Metric.sm m) : ∃ b, spec_ByOne m x y = some b ∧ impl_ByOne m x y = some b := by
  obtain ⟨n, n1, n2⟩ := metricOk_same m h
  obtain ⟨p, p1, p2⟩ := ceilDiv_same y m.Goal
  obtain ⟨q, q1, q2⟩ := ceilDiv_same (IntKind.i64.wrap (x * y)) m.Goal
  simp only [spec_ByOne, impl_ByOne, n1, n2, bind_some', in_some, from_some, impl_isMany, impl_isValue, p1, p2, q1, q2]
  repeat' split
  all_goals exact ⟨_, rfl, rfl⟩
def Scale.sm (x : Scale) : Prop := smS x.Name ∧ smL (fun _ => True) x.Recs
theorem scaleOk_same (x : Scale) (h : Scale.sm x) : ∃ b, spec_ScaleOk x = some b ∧ impl_ScaleOk x = some b := by
  obtain ⟨n, n1, n2⟩ := nameOk_same x.Name h.1
  obtain ⟨p, p1, p2⟩ := recsOk_same x.Recs h.2.1
  simp only [spec_ScaleOk, impl_ScaleOk, n1, n2, bind_some', in_some, from_some, impl_isMany, p1, p2]
  repeat' split
  all_goals exact ⟨_, rfl, rfl⟩
theorem w64_eq (n : Int) : IntKind.i64.wrap n = (n + 9223372036854775808) % 18446744073709551616 - 9223372036854775808 := by
  simp only [IntKind.wrap, IntKind.bits, IntKind.signed, Bool.true_and]
  split
  · rename_i h; simp at h; omega
  · rename_i h; simp at h; omega
theorem u64_eq (n : Int) : IntKind.u64.wrap n = n % 18446744073709551616 := by
  simp only [IntKind.wrap, IntKind.bits, IntKind.signed, Bool.false_and, Bool.false_eq_true, if_false]
  rfl
theorem beyond_some (n now k : Int) (hn : okI n) (h1 : okI now) (h2 : okI k) : impl_beyond n now k = some (decide (n - now > k)) := by
  unfold okI at *
  simp only [impl_beyond, u64_eq]
  by_cases a : n ≥ now
  · by_cases b : k < 0
    · simp [a, b]; omega
    · simp only [a, b, decide_true, decide_false, if_true, if_false, Bool.false_eq_true, Option.some.injEq, decide_eq_decide]; omega
  · by_cases b : k < 0
    · simp only [a, b, decide_true, decide_false, if_true, if_false, Bool.false_eq_true, Option.some.injEq, decide_eq_decide]; omega
    · simp [a, b]; omega
theorem lately_same (a : List Rec) (t s : Int) (ha : okL Rec.ok a) (hl : a.length ≤ 1048576) (ht : okI t) (hs : okI s) : ∃ m, spec_Lately a t s = some m ∧ impl_Lately a t s = some m ∧ m.length ≤ a.length ∧ ∀ x ∈ m, okI x := by
  have key : ∀ i, i ≤ a.length → ∀ out : List Int, out.length ≤ i → (∀ x ∈ out, okI x) → ∃ m, spec_Lately.l0 a t s i out = some m ∧ impl_Lately.l0 a t s i out = some m ∧ m.length ≤ a.length ∧ ∀ x ∈ m, okI x := by
    refine down _ fun i hi ih out ho hx => ?_
    rw [spec_Lately.l0, impl_Lately.l0]
    by_cases hlt : i < a.length
    · have c : decide ((i : Int) < (a.length : Int)) = true := by simpa using hlt
      have hr := ha.2 _ (List.getElem_mem hlt)
      obtain ⟨b1, p1, p2, p3⟩ := ih hlt (out ++ [a[i].N]) (by simp; omega) (by
        intro x hx'
        rcases List.mem_append.1 hx' with h | h
        · exact hx x h
        · simp only [List.mem_singleton] at h; subst h; exact hr.2)
      obtain ⟨b2, q1, q2, q3⟩ := ih hlt out (by omega) hx
      simp only [c, if_true, ix_nat, List.getElem?_eq_getElem hlt, bind_some', w64_succ (show i < 9223372036854775807 by omega), app_ok (b := 8) (l := out) (m := [a[i].N]) (by simp; omega), p1, p2, q1, q2, beyond_some _ _ _ ht hr.1 hs, w64_eq]
      obtain ⟨hr1, _⟩ := hr
      generalize a[i].Time = u at *
      clear p1 p2 q1 q2 ih
      unfold okI at *
      generalize hz : (t - u + 9223372036854775808) % 18446744073709551616 - 9223372036854775808 = z
      have z1 : u ≤ t → t - u ≤ 9223372036854775807 → z = t - u := by omega
      have z2 : u ≤ t → t - u > 9223372036854775807 → z < 0 := by omega
      clear hz
      by_cases hc : u ≤ t ∧ (t ≤ u ∨ t - u ≤ s)
      · refine ⟨b1, ?_, ?_, p3⟩
        · by_cases h2 : u ≥ t
          · simp [hc.1, h2]
          · have h3 : 0 ≤ z := by omega
            have h4 : z ≤ s := by omega
            simp [hc.1, h2, h3, h4]
        · by_cases h5 : s < 0
          · have h6 : u = t := by omega
            simp [h5, h6]
          · have h6 : s ≥ 0 := by omega
            have h7 : ¬ (t - u > s) := by omega
            simp [h5, h6, hc.1, h7]
      · refine ⟨b2, ?_, ?_, q3⟩
        · by_cases h1 : u ≤ t
          · have h2 : ¬ (u ≥ t) := by omega
            by_cases h3 : 0 ≤ z
            · have h4 : ¬ (z ≤ s) := by omega
              simp [h1, h2, h3, h4]
            · simp [h1, h2, h3]
          · simp [h1]
        · by_cases h5 : s < 0
          · have h6 : ¬ u = t := by omega
            have h7 : ¬ (s ≥ 0) := by omega
            simp [h5, h6, h7]
          · have h6 : s ≥ 0 := by omega
            by_cases h1 : u ≤ t
            · have h7 : t - u > s := by omega
              simp [h5, h6, h1, h7]
            · simp [h5, h6, h1]
    · rw [if_neg (by simpa using hlt), if_neg (by simpa using hlt)]
      exact ⟨_, rfl, rfl, by omega, hx⟩
  obtain ⟨m, h1, h2, h3⟩ := key 0 (by omega) [] (by simp) (by simp)
  simp only [Int.natCast_zero] at h1 h2
  exact ⟨m, by simp only [spec_Lately, h1, bind_some'], by simp only [impl_Lately, h2, bind_some'], h3⟩
theorem steady_sp (p : Pace) (a : List Rec) (t now n : Int) (hp : Pace.ok p) (ha : okL Rec.ok a) (hl : a.length ≤ 1048576) (ht : okI t) : ∃ r, spec_Steady p a t now n = some r ∧ impl_Steady p a t now n = some r ∧ (n < now → n ≤ r ∧ r ≤ now) ∧ (n > now → now ≤ r ∧ r ≤ n) ∧ (n = now → r = n) := by
  obtain ⟨m, m1, m2, m3, _⟩ := lately_same a t p.DownSpan ha hl ht hp.2.2.2
  obtain ⟨k, k1, k2, k3, _⟩ := lately_same a t p.UpSpan ha hl ht hp.2.2.1
  have up : ∀ (m : List Int), m.length ≤ 1048576 → ∀ i, i ≤ m.length → ∀ v : Int, ∃ r, spec_Steady.l0 m v i = some r ∧ impl_Steady.l0 m v i = some r ∧ v ≤ r := by
    intro m hm
    refine down _ fun i hi ih v => ?_
    rw [spec_Steady.l0, impl_Steady.l0]
    by_cases hlt : i < m.length
    · have c : decide ((i : Int) < (m.length : Int)) = true := by simpa using hlt
      have e : (if v > m[i] then v else m[i]) = (if m[i] > v then m[i] else v) := by repeat' split
                                                                                     all_goals omega
      obtain ⟨r, r1, r2, r3⟩ := ih hlt (if m[i] > v then m[i] else v)
      have e2 : spec_l1Max v m[i] = some (if m[i] > v then m[i] else v) := by
        rw [← e]; simp only [spec_l1Max, decide_eq_true_eq]; split <;> rfl
      simp only [c, if_true, ix_nat, List.getElem?_eq_getElem hlt, bind_some', w64_succ (show i < 9223372036854775807 by omega), e2, r1, r2]
      refine ⟨_, rfl, rfl, ?_⟩
      split at r3 <;> omega
    · rw [if_neg (by simpa using hlt), if_neg (by simpa using hlt)]
      exact ⟨_, rfl, rfl, Int.le_refl _⟩
  have dn : ∀ (m : List Int), m.length ≤ 1048576 → ∀ i, i ≤ m.length → ∀ v : Int, ∃ r, spec_Steady.l1 m v i = some r ∧ impl_Steady.l1 m v i = some r ∧ r ≤ v := by
    intro m hm
    refine down _ fun i hi ih v => ?_
    rw [spec_Steady.l1, impl_Steady.l1]
    by_cases hlt : i < m.length
    · have c : decide ((i : Int) < (m.length : Int)) = true := by simpa using hlt
      have e : (if v < m[i] then v else m[i]) = (if m[i] < v then m[i] else v) := by repeat' split
                                                                                     all_goals omega
      obtain ⟨r, r1, r2, r3⟩ := ih hlt (if m[i] < v then m[i] else v)
      have e2 : spec_l1Min v m[i] = some (if m[i] < v then m[i] else v) := by
        rw [← e]; simp only [spec_l1Min, decide_eq_true_eq]; split <;> rfl
      simp only [c, if_true, ix_nat, List.getElem?_eq_getElem hlt, bind_some', w64_succ (show i < 9223372036854775807 by omega), e2, r1, r2]
      refine ⟨_, rfl, rfl, ?_⟩
      split at r3 <;> omega
    · rw [if_neg (by simpa using hlt), if_neg (by simpa using hlt)]
      exact ⟨_, rfl, rfl, Int.le_refl _⟩
  obtain ⟨r, r1, r2, r3⟩ := up m (by omega) 0 (by omega) n
  obtain ⟨q, q1, q2, q3⟩ := dn k (by omega) 0 (by omega) n
  simp only [Int.natCast_zero] at r1 r2 q1 q2
  simp only [spec_Steady, impl_Steady, m1, m2, k1, k2, r1, r2, q1, q2, bind_some', spec_l1Min, spec_l1Max, decide_eq_true_eq]
  by_cases h1 : n < now
  · simp only [h1, if_true]
    refine ⟨if now < r then now else r, ?_, rfl, ?_⟩
    · split <;> split <;> simp <;> omega
    · split <;> exact ⟨fun h => by first | omega | exact h.elim, fun h => by first | omega | exact h.elim, fun h => by first | omega | exact h.elim⟩
  · by_cases h2 : n > now
    · simp only [h1, h2, if_true, if_false]
      refine ⟨if now > q then now else q, ?_, rfl, ?_⟩
      · split <;> split <;> simp <;> omega
      · split <;> exact ⟨fun h => by first | omega | exact h.elim, fun h => by first | omega | exact h.elim, fun h => by first | omega | exact h.elim⟩
    · simp only [h1, h2, if_false]; exact ⟨_, rfl, rfl, fun _ => by omega, fun _ => by omega, fun _ => by omega⟩
def Cur (c : L1Cur) : Prop := 0 ≤ c.i ∧ c.i ≤ 1048577 ∧ c.b.length ≤ 1048576
theorem band_255 (x : Int) : 0 ≤ band x 255 ∧ band x 255 ≤ 255 := by
  have h : (BitVec.ofInt IntKind.i64.bits x &&& BitVec.ofInt IntKind.i64.bits 255).toNat ≤ 255 := by
    rw [BitVec.toNat_and]; exact Nat.le_trans Nat.and_le_right (by decide)
  simp only [band]
  rw [w64_id (by omega) (by omega)]; omega
theorem byte_sp (c : L1Cur) (h : Cur c) : ∃ x d, spec_l1Byte c = some (x, d) ∧ 0 ≤ x ∧ x ≤ 255 ∧ Cur d := by
  obtain ⟨h0, h1, h2⟩ := h
  simp only [spec_l1Byte]
  by_cases hi : c.i < (c.b.length : Int)
  · obtain ⟨i, hi'⟩ : ∃ i : Nat, c.i = i := ⟨c.i.toNat, by omega⟩
    rw [if_pos (by simpa using hi)]
    simp only [hi', ix_nat]
    rw [List.getElem?_eq_getElem (by omega)]
    simp only [bind_some']
    refine ⟨_, _, rfl, (band_255 _).1, (band_255 _).2, ?_, ?_, h2⟩
    · show 0 ≤ IntKind.i64.wrap ((i : Int) + 1); rw [w64_id (by omega) (by omega)]; omega
    · show IntKind.i64.wrap ((i : Int) + 1) ≤ 1048577; rw [w64_id (by omega) (by omega)]; omega
  · rw [if_neg (by simpa using hi)]
    exact ⟨_, _, rfl, (band_255 _).1, (band_255 _).2, h0, h1, h2⟩
theorem rem_ok {a n : Int} (ha : 0 ≤ a) (hn : 0 < n) : ∃ q, Nt.rem a n = some q ∧ 0 ≤ q ∧ q < n := by
  refine ⟨a.tmod n, if_neg (by omega), Int.tmod_nonneg _ ha, Int.tmod_lt_of_pos _ hn⟩
theorem below_sp (c : L1Cur) (n : Int) (h : Cur c) (hn : 0 < n) : ∃ x d, spec_l1Below c n = some (x, d) ∧ 0 ≤ x ∧ x < n ∧ Cur d := by
  simp only [spec_l1Below]
  rw [if_neg (by simpa using hn)]
  by_cases h256 : n ≤ 256
  · rw [if_pos (by simpa using h256)]
    obtain ⟨x, d, e, h0, h1, hd⟩ := byte_sp c h
    obtain ⟨q, eq, q0, q1⟩ := rem_ok h0 hn
    simp only [e, bind_some', eq]
    exact ⟨_, _, rfl, q0, q1, hd⟩
  · rw [if_neg (by simpa using h256)]
    obtain ⟨x, d, e, h0, h1, hd⟩ := byte_sp c h
    obtain ⟨y, d2, e2, y0, y1, hd2⟩ := byte_sp d hd
    obtain ⟨z, d3, e3, z0, z1, hd3⟩ := byte_sp d2 hd2
    obtain ⟨w, d4, e4, w0, w1, hd4⟩ := byte_sp d3 hd3
    have hs : 0 ≤ IntKind.i64.wrap (IntKind.i64.wrap (IntKind.i64.wrap (IntKind.i64.wrap (x * 16777216) + IntKind.i64.wrap (y * 65536)) + IntKind.i64.wrap (z * 256)) + w) := by
      simp only [w64_eq]; omega
    obtain ⟨q, eq, q0, q1⟩ := rem_ok hs hn
    simp only [e, e2, e3, e4, bind_some', eq]
    exact ⟨_, _, rfl, q0, q1, hd4⟩
theorem once_sp (c : L1Cur) (n : Int) (h : Cur c) (hn : 0 < n) : ∃ x d, spec_l1Once c n = some (x, d) ∧ Cur d := by
  obtain ⟨x, d, e, _, _, hd⟩ := below_sp c n h hn
  simp only [spec_l1Once, e, bind_some']
  exact ⟨_, _, rfl, hd⟩
theorem pickInt_sp (c : L1Cur) (l : List Int) (h : Cur c) (hl : 0 < l.length) : ∃ x d, spec_l1PickInt c l = some (x, d) ∧ x ∈ l ∧ Cur d := by
  obtain ⟨x, d, e, x0, x1, hd⟩ := below_sp c l.length h (by omega)
  obtain ⟨i, rfl⟩ : ∃ i : Nat, x = i := ⟨x.toNat, by omega⟩
  simp only [spec_l1PickInt, e, bind_some', ix_nat]
  rw [List.getElem?_eq_getElem (by omega)]
  exact ⟨_, _, rfl, List.getElem_mem _, hd⟩
theorem new_sp (a : List Int) (h : a.length ≤ 1048576) : ∃ c, spec_l1New a = some c ∧ Cur c := by
  have key : ∀ i, i ≤ a.length → ∀ v : Int, ∃ t, spec_l1New.l0 a v i = some t := by
    refine down _ fun i hi ih v => ?_
    rw [spec_l1New.l0]
    by_cases hlt : i < a.length
    · have c : decide ((i : Int) < (a.length : Int)) = true := by simpa using hlt
      simp only [c, if_true, ix_nat, List.getElem?_eq_getElem hlt, bind_some', w64_succ (show i < 9223372036854775807 by omega)]
      split
      · exact ih hlt _
      · exact ⟨_, rfl⟩
    · rw [if_neg (by simpa using hlt)]; exact ⟨_, rfl⟩
  obtain ⟨t, e⟩ := key 0 (by omega) (IntKind.i64.wrap (27212 + (a.length : Int)))
  simp only [Int.natCast_zero] at e
  simp only [spec_l1New, e, bind_some']
  exact ⟨_, rfl, by simp, by simp, h⟩
def PaceD (p : Pace) : Prop := 0 ≤ p.Up ∧ p.Up ≤ 4 ∧ 0 ≤ p.Down ∧ p.Down ≤ 2 ∧ 0 ≤ p.UpSpan ∧ p.UpSpan ≤ 60 ∧ 0 ≤ p.DownSpan ∧ p.DownSpan ≤ 3600
theorem drawPace_sp (c : L1Cur) (h : Cur c) : ∃ p d, spec_l6DrawPace c = some (p, d) ∧ PaceD p ∧ Cur d := by
  obtain ⟨b, c1, e1, h1⟩ := once_sp c 3 h (by omega)
  simp only [spec_l6DrawPace, e1, bind_some', spec_PaceNew]
  split
  · exact ⟨_, _, rfl, by simp [PaceD], h1⟩
  · obtain ⟨x2, c2, e2, m2, h2⟩ := pickInt_sp c1 [0, 1, 4] h1 (by simp)
    obtain ⟨x3, c3, e3, m3, h3⟩ := pickInt_sp c2 [0, 1, 2] h2 (by simp)
    obtain ⟨x4, c4, e4, m4, h4⟩ := pickInt_sp c3 [0, 30, 60] h3 (by simp)
    obtain ⟨x5, c5, e5, m5, h5⟩ := pickInt_sp c4 [0, 60, 300, 3600] h4 (by simp)
    simp only [e2, e3, e4, e5, bind_some']
    refine ⟨_, _, rfl, ?_, h5⟩
    simp only [List.mem_cons, List.not_mem_nil, or_false] at m2 m3 m4 m5
    simp only [PaceD]; omega
/-- what Slow answers -/
def slowV (p : Pace) (now n : Int) : Int := if p.Up ≠ 0 ∧ n - now > p.Up then now + p.Up else if p.Down ≠ 0 ∧ now - n > p.Down then now - p.Down else n
theorem recAdd_room (a : List Rec) (t n : Int) (hl : a.length ≤ 1048576) : ∃ m, spec_RecAdd a t n = some m ∧ impl_RecAdd a t n = some m ∧ (m.length ≤ a.length + 1) ∧ (m = a ∨ (impl_RecsOk m = some true ∧ (m = a ++ [Rec.mk t n] ∨ m = (a ++ [Rec.mk t n]).drop 1 ∧ 12 < (a ++ [Rec.mk t n]).length) ∧ ((a ++ [Rec.mk t n]).length > 12 → m = (a ++ [Rec.mk t n]).drop 1))) := by
  have h1 : (0 + a.length) * 16 ≤ 70368744177664 := by omega
  have h2 : (a.length + 1) * 16 ≤ 70368744177664 := by omega
  have h3 : Nt.clone 16 a = some a := if_pos (by omega)
  have e1 : app 16 [] a = some a := app_ok (l := []) (by simpa using h1)
  have e2 : app 16 a [Rec.mk t n] = some (a ++ [Rec.mk t n]) := app_ok (by simpa using h2)
  simp only [spec_RecAdd, impl_RecAdd, slices_Clone_Simpl_Rec_impl_Rec, h3, e1, e2, bind_some']
  by_cases hc : ((a ++ [Rec.mk t n]).length : Int) > 12
  · have e3 : slc (a ++ [Rec.mk t n]) 1 ((a ++ [Rec.mk t n]).length : Int) = some ((a ++ [Rec.mk t n]).drop 1) := by
      simp only [slc]
      rw [if_pos ⟨by omega, by omega, by omega⟩]
      simp only [Nt.cut, Int.toNat_natCast, List.take_length]
      rfl
    have hd : ((a ++ [Rec.mk t n]).drop 1).length ≤ 1048576 := by simp; omega
    have e4 : app 16 [] ((a ++ [Rec.mk t n]).drop 1) = some ((a ++ [Rec.mk t n]).drop 1) := app_ok (l := []) (by simp only [List.length_nil]; omega)
    obtain ⟨b, b1, b2⟩ := recsOk_same _ hd
    simp only [hc, decide_true, if_true, e3, e4, bind_some', b1, b2, e1]
    cases b
    · exact ⟨_, rfl, rfl, by omega, .inl rfl⟩
    · exact ⟨_, rfl, rfl, by simp, .inr ⟨b2, .inr ⟨rfl, by omega⟩, fun _ => rfl⟩⟩
  · have hd : (a ++ [Rec.mk t n]).length ≤ 1048576 := by omega
    obtain ⟨b, b1, b2⟩ := recsOk_same _ hd
    simp only [hc, decide_false, Bool.false_eq_true, if_false, b1, b2, bind_some', e1]
    cases b
    · exact ⟨_, rfl, rfl, by omega, .inl rfl⟩
    · exact ⟨_, rfl, rfl, by simp, .inr ⟨b2, .inl rfl, fun h => by omega⟩⟩
theorem sameRecs_some (a b : List Rec) (h : a.length ≤ 1048576) : ∃ r, laws_sameRecs a b = some r ∧ (r = true ↔ a = b) := by
  by_cases hl : a.length = b.length
  · have key : ∀ i, i ≤ a.length → ∃ s, laws_sameRecs.l0 a b i = some s ∧ ((s = .inl false ∧ a.drop i ≠ b.drop i) ∨ (s = .inr () ∧ a.drop i = b.drop i)) := by
      refine down _ fun i hi ih => ?_
      rw [laws_sameRecs.l0]
      by_cases hlt : i < a.length
      · have c : decide ((i : Int) < (a.length : Int)) = true := by simpa using hlt
        have hlb : i < b.length := by omega
        simp only [c, if_true, ix_nat, List.getElem?_eq_getElem hlt, List.getElem?_eq_getElem hlb, bind_some', w64_succ (show i < 9223372036854775807 by omega)]
        rw [List.drop_eq_getElem_cons hlt, List.drop_eq_getElem_cons hlb]
        generalize hx : a[i] = x
        generalize hy : b[i] = y
        obtain ⟨x1, x2⟩ := x
        obtain ⟨y1, y2⟩ := y
        by_cases hxy : x1 = y1 ∧ x2 = y2
        · obtain ⟨rfl, rfl⟩ := hxy
          obtain ⟨s, e, hs⟩ := ih hlt
          simp only [beq_self_eq_true, Bool.and_self, Bool.not_true, Bool.false_eq_true, if_false]
          refine ⟨s, e, ?_⟩
          rcases hs with ⟨h1, h2⟩ | ⟨h1, h2⟩
          · exact .inl ⟨h1, fun h => h2 (List.cons.inj h).2⟩
          · exact .inr ⟨h1, by rw [h2]⟩
        · have : (x1 == y1 && (x2 == y2 && true)) = false := by
            simp only [Bool.and_true, Bool.and_eq_false_iff, beq_eq_false_iff_ne]
            by_cases h1 : x1 = y1
            · exact .inr fun h2 => hxy ⟨h1, h2⟩
            · exact .inl h1
          simp only [this, Bool.not_false, if_true]
          refine ⟨_, rfl, .inl ⟨rfl, fun h => ?_⟩⟩
          have := (List.cons.inj h).1
          simp only [Rec.mk.injEq] at this
          exact hxy this
      · rw [if_neg (by simpa using hlt)]
        exact ⟨_, rfl, .inr ⟨rfl, by rw [List.drop_eq_nil_of_le (by omega), List.drop_eq_nil_of_le (by omega)]⟩⟩
    obtain ⟨s, e, hs⟩ := key 0 (by omega)
    simp only [Int.natCast_zero, List.drop_zero] at e hs
    simp only [laws_sameRecs, hl, bne_self_eq_false, Bool.false_eq_true, if_false, e, bind_some']
    rcases hs with ⟨rfl, h2⟩ | ⟨rfl, h2⟩
    · exact ⟨_, rfl, by simp [h2]⟩
    · exact ⟨_, rfl, by simp [h2]⟩
  · have : ((a.length : Int) != (b.length : Int)) = true := by simp; omega
    simp only [laws_sameRecs, this, if_true]
    exact ⟨_, rfl, by simp; intro h; exact hl (by rw [h])⟩
theorem recsOk_len (a : List Rec) (h : a.length ≤ 1048576) (ht : impl_RecsOk a = some true) : a.length ≤ 12 := by
  have key : ∀ i, i ≤ a.length → ∀ r, impl_RecsOk.l0 a i = some (.inl r) → r = false := by
    refine down _ fun i hi ih r => ?_
    rw [impl_RecsOk.l0]
    by_cases hlt : i < a.length
    · have c : decide ((i : Int) < (a.length : Int)) = true := by simpa using hlt
      simp only [impl_isTime, impl_isMany, from_some, c, if_true, ix_nat, List.getElem?_eq_getElem hlt, bind_some', w64_succ (show i < 9223372036854775807 by omega)]
      split
      · intro h; cases h; rfl
      · split
        · intro h; cases h; rfl
        · split
          · rename_i h0
            have h0' : 0 < i := by simpa using h0
            have e : IntKind.i64.wrap ((i : Int) - 1) = ((i - 1 : Nat) : Int) := by rw [w64_id (by omega) (by omega)]; omega
            simp only [e, ix_nat, List.getElem?_eq_getElem (show i - 1 < a.length by omega), bind_some']
            split
            · intro h; cases h; rfl
            · exact ih hlt r
          · exact ih hlt r
    · rw [if_neg (by simpa using hlt)]; intro h; cases h
  simp only [impl_RecsOk] at ht
  cases hs : impl_RecsOk.l0 a 0 with
  | none => rw [hs] at ht; cases ht
  | some s =>
    rw [hs] at ht
    cases s with
    | inl r =>
      have := key 0 (by omega) r (by simpa using hs)
      subst this
      simp [bind_some'] at ht
    | inr u => simp [bind_some'] at ht; omega
theorem drawRecs_ok (c : L1Cur) (h : Cur c) : ∃ l d, spec_l16DrawRecs c = some (l, d) ∧ l.length ≤ 8 ∧ Cur d ∧ ∀ x ∈ l, Rec.ok x := by
  have key : ∀ (k : Nat) (i : Nat), k = 8 - i → i ≤ 8 → ∀ (v : Int) (c : L1Cur) (l : List Rec), Cur c → l.length ≤ i → (0 ≤ v ∧ v ≤ 200 * (i : Int)) → (∀ x ∈ l, Rec.ok x) → ∃ b i' h' m, spec_l16DrawRecs.l0 v i c.b c.i c.h l = some (b, i', h', m) ∧ m.length ≤ 8 ∧ Cur ⟨b, i', h'⟩ ∧ ∀ x ∈ m, Rec.ok x := by
    intro k
    induction k with
    | zero =>
      intro i hk hi v c l hc hl hv hx
      obtain ⟨x, d, e, x0, x1, hd⟩ := below_sp c 8 hc (by omega)
      rw [spec_l16DrawRecs.l0]
      have e' : spec_l1Below (L1Cur.mk c.b c.i c.h) 8 = some (x, d) := e
      simp only [e', bind_some']
      rw [if_neg (by simp; omega)]
      exact ⟨_, _, _, _, rfl, by omega, hd, hx⟩
    | succ k ih =>
      intro i hk hi v c l hc hl hv hok
      obtain ⟨x, d, e, x0, x1, hd⟩ := below_sp c 8 hc (by omega)
      rw [spec_l16DrawRecs.l0]
      have e' : spec_l1Below (L1Cur.mk c.b c.i c.h) 8 = some (x, d) := e
      simp only [e', bind_some']
      by_cases hx : (i : Int) < x
      · rw [if_pos (by simpa using hx)]
        obtain ⟨x2, d2, e2, m2, hd2⟩ := pickInt_sp d [0, 15, 60, 200] hd (by simp)
        obtain ⟨x3, d3, e3, m3, hd3⟩ := pickInt_sp d2 [0, 1, 3, 5, 9, 20] hd2 (by simp)
        simp only [List.mem_cons, List.not_mem_nil, or_false] at m2 m3
        have ew : IntKind.i64.wrap (v + x2) = v + x2 := w64_id (by omega) (by omega)
        obtain ⟨m, a1, _, a3, a4⟩ := recAdd_room l (v + x2) x3 (by omega)
        simp only [e2, e3, ew, a1, bind_some', w64_succ (show i < 9223372036854775807 by omega)]
        refine ih (i + 1) (by omega) (by omega) _ d3 m hd3 (by omega) (by omega) fun y hy => ?_
        have hnew : Rec.ok (Rec.mk (v + x2) x3) := by unfold Rec.ok okI; simp only; omega
        have hall : ∀ y ∈ l ++ [Rec.mk (v + x2) x3], Rec.ok y := by
          intro y hy
          rcases List.mem_append.1 hy with h | h
          · exact hok y h
          · simp only [List.mem_singleton] at h; subst h; exact hnew
        rcases a4 with rfl | ⟨_, rfl | ⟨rfl, _⟩, _⟩
        · exact hok y hy
        · exact hall y hy
        · exact hall y (List.mem_of_mem_drop hy)
      · rw [if_neg (by simpa using hx)]
        exact ⟨_, _, _, _, rfl, by omega, hd, hok⟩
  obtain ⟨b, i', h', m, e, hm, hd, hx⟩ := key 8 0 rfl (by omega) 0 c [] h (by simp) (by simp) (by simp)
  simp only [Int.natCast_zero] at e
  simp only [spec_l16DrawRecs, e, bind_some']
  exact ⟨_, _, rfl, hm, hd, hx⟩
theorem draw16_ok (c : L1Cur) (h : Cur c) : ∃ l d, spec_l16Draw c = some (l, d) ∧ l.length ≤ 9 ∧ Cur d ∧ okL Rec.ok l := by
  obtain ⟨l, c1, e1, hl, h1, ho⟩ := drawRecs_ok c h
  obtain ⟨b, c2, e2, h2⟩ := once_sp c1 6 h1 (by omega)
  simp only [spec_l16Draw, e1, e2, bind_some']
  split
  · obtain ⟨x3, c3, e3, m3, h3⟩ := pickInt_sp c2 [(-1), 0, 999, 1000001, (-9223372036854775808)] h2 (by simp)
    obtain ⟨x4, c4, e4, m4, h4⟩ := pickInt_sp c3 [(-1), 5, 1001] h3 (by simp)
    simp only [e3, e4, bind_some', app_ok (b := 16) (l := l) (m := [Rec.mk x3 x4]) (by simp; omega)]
    simp only [List.mem_cons, List.not_mem_nil, or_false] at m3 m4
    refine ⟨_, _, rfl, by simp; omega, h4, by simp; omega, fun y hy => ?_⟩
    rcases List.mem_append.1 hy with h | h
    · exact ho y h
    · simp only [List.mem_singleton] at h; subst h; unfold Rec.ok okI; simp only; omega
  · exact ⟨_, _, rfl, by omega, h2, by omega, ho⟩
def Note.sm (x : Note) : Prop := smS x.Key ∧ smS x.Text
def Order.sm (x : Order) : Prop := smS x.Name ∧ smS x.Target ∧ smL Metric.sm x.Metrics ∧ smL Note.sm x.Notes
theorem paceOk_same (p : Pace) : ∃ b, spec_PaceOk p = some b ∧ impl_PaceOk p = some b := by
  simp only [spec_PaceOk, impl_PaceOk, impl_isMany, in_some, from_some, bind_some']
  repeat' split
  all_goals exact ⟨_, rfl, rfl⟩
theorem byte_u8 (c : UInt8) : (byte c).toNat.toUInt8 = c := by
  simp [byte]
theorem byte_range (c : UInt8) : 0 ≤ byte c ∧ byte c ≤ 255 := by
  unfold byte; have := c.toNat_lt; omega
theorem byte_eq (c d : UInt8) : (byte c = byte d) ↔ c = d := by
  unfold byte
  constructor
  · intro h; exact UInt8.toNat_inj.1 (by omega)
  · intro h; rw [h]
theorem indexByte_four (c : UInt8) : Nt.indexByte [95, 46, 47, 45] c < 0 ↔ ¬ (byte c = 95) ∧ ¬ (byte c = 46) ∧ ¬ (byte c = 47) ∧ ¬ (byte c = 45) := by
  have h1 : (byte c = 95) ↔ c = 95 := byte_eq c 95
  have h2 : (byte c = 46) ↔ c = 46 := byte_eq c 46
  have h3 : (byte c = 47) ↔ c = 47 := byte_eq c 47
  have h4 : (byte c = 45) ↔ c = 45 := byte_eq c 45
  rw [h1, h2, h3, h4]
  simp only [Nt.indexByte]
  by_cases g1 : c = 95
  · subst g1; decide
  by_cases g2 : c = 46
  · subst g2; decide
  by_cases g3 : c = 47
  · subst g3; decide
  by_cases g4 : c = 45
  · subst g4; decide
  have f1 : ((95 : UInt8) == c) = false := by simp; exact fun h => g1 h.symm
  have f2 : ((46 : UInt8) == c) = false := by simp; exact fun h => g2 h.symm
  have f3 : ((47 : UInt8) == c) = false := by simp; exact fun h => g3 h.symm
  have f4 : ((45 : UInt8) == c) = false := by simp; exact fun h => g4 h.symm
  simp [f1, f2, f3, f4, g1, g2, g3, g4]
theorem plainOk_same (a : Str) (h : smS a) : ∃ b, spec_PlainOk a = some b ∧ impl_PlainOk a = some b := by
  unfold smS at h
  have key : ∀ i, i ≤ a.length → ∃ b, spec_PlainOk.l0 a i = some b ∧ impl_PlainOk.l0 a i = some b := by
    refine down _ fun i hi ih => ?_
    rw [spec_PlainOk.l0, impl_PlainOk.l0]
    by_cases hlt : i < a.length
    · have c : decide ((i : Int) < (a.length : Int)) = true := by simpa using hlt
      obtain ⟨b, e1, e2⟩ := ih hlt
      have hL : ∀ n, impl_isLetter n = spec_l5Letter n := fun n => by simp only [impl_isLetter, spec_l5Letter]
      have hT : ∀ n, ∃ t, spec_l5Letter n = some t := fun n => by
        simp only [spec_l5Letter]; repeat' split
        all_goals exact ⟨_, rfl⟩
      obtain ⟨t, ht⟩ := hT (byte a[i])
      simp only [c, if_true, ix_nat, List.getElem?_eq_getElem hlt, bind_some', impl_isDigit, hL, ht, w64_succ (show i < 9223372036854775807 by omega), e1, e2, strings_IndexByte, internal_stringslite_IndexByte, internal_bytealg_IndexByteString, byte_u8]
      have hx := indexByte_four a[i]
      have hq : decide (Nt.indexByte [95, 46, 47, 45] a[i] < 0) = decide (¬ (byte a[i] = 95) ∧ ¬ (byte a[i] = 46) ∧ ¬ (byte a[i] = 47) ∧ ¬ (byte a[i] = 45)) := by simp only [hx]
      rw [hq]
      generalize byte a[i] = x
      cases t
      · by_cases h3 : i = 0
        · subst h3; simp [bind_some']
        · have h3'' : ((i : Int) == 0) = false := by simp; omega
          by_cases h4 : x ≥ 48 <;> by_cases h5 : x ≤ 57 <;> by_cases h6 : x = 95 <;> by_cases h7 : x = 46 <;> by_cases h8 : x = 47 <;> by_cases h9 : x = 45 <;>
          first
          | omega
          | simp [h3'', h4, h5, h6, h7, h8, h9, bind_some']
      · simp
    · rw [if_neg (by simpa using hlt), if_neg (by simpa using hlt)]
      exact ⟨_, rfl, rfl⟩
  obtain ⟨b, e1, e2⟩ := key 0 (by omega)
  simp only [Int.natCast_zero] at e1 e2
  simp only [spec_PlainOk, impl_PlainOk, e1, e2, bind_some', in_some, from_some]
  cases b with
  | inl r => exact ⟨_, rfl, rfl⟩
  | inr u =>
    repeat' split
    all_goals exact ⟨_, rfl, rfl⟩
theorem ours_same (s : Str) : ∃ b, spec_l6Ours s = some b ∧ strings_HasPrefix s [113, 117, 97, 121, 47] = some b := by
  simp only [spec_l6Ours, strings_HasPrefix, internal_stringslite_HasPrefix, List.length_cons, List.length_nil]
  by_cases h : (s.length : Int) ≥ 5
  · have e : slc s 0 5 = some (cut s 0 5) := by simp only [slc]; rw [if_pos ⟨by omega, by omega, by omega⟩]; rfl
    rw [if_pos (by simpa using h), if_pos (by simpa using h)]
    have e' : slc s 0 ((0 + 1 + 1 + 1 + 1 + 1 : Nat) : Int) = some (cut s 0 5) := e
    rw [e, e']
    exact ⟨_, rfl, rfl⟩
  · rw [if_neg (by simpa using h), if_neg (by simpa using h)]
    exact ⟨_, rfl, rfl⟩
theorem textOk_same (a : Str) (h : smS a) : ∃ b, spec_TextOk a = some b ∧ impl_TextOk a = some b := by
  unfold smS at h
  have key : ∀ i, i ≤ a.length → ∃ b, spec_TextOk.l0 a i = some b ∧ impl_TextOk.l0 a i = some b := by
    refine down _ fun i hi ih => ?_
    rw [spec_TextOk.l0, impl_TextOk.l0]
    by_cases hlt : i < a.length
    · have c : decide ((i : Int) < (a.length : Int)) = true := by simpa using hlt
      obtain ⟨b, e1, e2⟩ := ih hlt
      have hb := byte_range a[i]
      simp only [c, if_true, ix_nat, List.getElem?_eq_getElem hlt, bind_some', from_some, w64_succ (show i < 9223372036854775807 by omega), e1, e2]
      rw [w64_id (by omega) (by omega)]
      generalize byte a[i] = x at hb
      by_cases h4 : x < 32 <;> by_cases h5 : x > 126 <;> first
        | omega
        | (have g4 : ¬ (32 ≤ x) ∨ 32 ≤ x := by omega
           rcases g4 with g4 | g4 <;> first
             | omega
             | (have g5 : ¬ (x ≤ 126) ∨ x ≤ 126 := by omega
                rcases g5 with g5 | g5 <;> first
                  | omega
                  | simp [h4, h5, g4, g5]))
    · rw [if_neg (by simpa using hlt), if_neg (by simpa using hlt)]
      exact ⟨_, rfl, rfl⟩
  obtain ⟨b, e1, e2⟩ := key 0 (by omega)
  simp only [Int.natCast_zero] at e1 e2
  simp only [spec_TextOk, impl_TextOk, e1, e2, bind_some']
  cases b with
  | inl r => exact ⟨_, rfl, rfl⟩
  | inr u => exact ⟨_, rfl, rfl⟩
theorem notes_same (a : List Note) (h : smL Note.sm a) : ∃ b, spec_l6Notes a = some b ∧ impl_notesOk a = some b := by
  have hl : a.length ≤ 1048576 := h.1
  have key : ∀ i, i ≤ a.length → ∃ b, spec_l6Notes.l0 a i = some b ∧ impl_notesOk.l0 a i = some b := by
    refine down _ fun i hi ih => ?_
    rw [spec_l6Notes.l0, impl_notesOk.l0]
    by_cases hlt : i < a.length
    · have c : decide ((i : Int) < (a.length : Int)) = true := by simpa using hlt
      obtain ⟨b, e1, e2⟩ := ih hlt
      have hm := h.2 _ (List.getElem_mem hlt)
      obtain ⟨p, p1, p2⟩ := plainOk_same a[i].Key hm.1
      obtain ⟨q, q1, q2⟩ := ours_same a[i].Key
      obtain ⟨t, t1, t2⟩ := textOk_same a[i].Text hm.2
      simp only [c, if_true, ix_nat, List.getElem?_eq_getElem hlt, bind_some', p1, p2, q1, q2, t1, t2, w64_succ (show i < 9223372036854775807 by omega), e1, e2]
      split
      · exact ⟨_, rfl, rfl⟩
      · split
        · exact ⟨_, rfl, rfl⟩
        · split
          · exact ⟨_, rfl, rfl⟩
          · split
            · exact ⟨_, rfl, rfl⟩
            · by_cases h0 : i = 0
              · subst h0; simp
              · have e : IntKind.i64.wrap ((i : Int) - 1) = ((i - 1 : Nat) : Int) := by rw [w64_id (by omega) (by omega)]; omega
                have c2 : decide ((i : Int) > 0) = true := by simp; omega
                simp only [c2, if_true, e, ix_nat, List.getElem?_eq_getElem (show i - 1 < a.length by omega), bind_some']
                split
                · exact ⟨_, rfl, rfl⟩
                · exact ⟨_, rfl, rfl⟩
    · rw [if_neg (by simpa using hlt), if_neg (by simpa using hlt)]
      exact ⟨_, rfl, rfl⟩
  obtain ⟨b, h1, h2⟩ := key 0 (by omega)
  simp only [Int.natCast_zero] at h1 h2
  simp only [spec_l6Notes, impl_notesOk, h1, h2, bind_some']
  cases b with
  | inl r => exact ⟨_, rfl, rfl⟩
  | inr u => exact ⟨_, rfl, rfl⟩
theorem metrics_same (o : Order) (h : smL Metric.sm o.Metrics) : ∃ b : Bool, spec_l6Metrics.l0 o.Metrics 0 = some (if b then .inr () else .inl false) ∧ impl_OrderOk.l0 o 0 = some (if b then .inr () else .inl false) := by
  have hl : o.Metrics.length ≤ 1048576 := h.1
  have key : ∀ i, i ≤ o.Metrics.length → ∃ b : Bool, spec_l6Metrics.l0 o.Metrics i = some (if b then .inr () else .inl false) ∧ impl_OrderOk.l0 o i = some (if b then .inr () else .inl false) := by
    refine down _ fun i hi ih => ?_
    rw [spec_l6Metrics.l0, impl_OrderOk.l0]
    by_cases hlt : i < o.Metrics.length
    · have c : decide ((i : Int) < (o.Metrics.length : Int)) = true := by simpa using hlt
      obtain ⟨b, e1, e2⟩ := ih hlt
      obtain ⟨p, p1, p2⟩ := metricOk_same o.Metrics[i] (h.2 _ (List.getElem_mem hlt))
      simp only [c, if_true, ix_nat, List.getElem?_eq_getElem hlt, bind_some', p1, p2, w64_succ (show i < 9223372036854775807 by omega), e1, e2]
      split
      · exact ⟨false, rfl, rfl⟩
      · by_cases h0 : i = 0
        · subst h0; exact ⟨b, by simp, by simp⟩
        · have e : IntKind.i64.wrap ((i : Int) - 1) = ((i - 1 : Nat) : Int) := by rw [w64_id (by omega) (by omega)]; omega
          have c2 : decide ((i : Int) > 0) = true := by simp; omega
          simp only [c2, if_true, e, ix_nat, List.getElem?_eq_getElem (show i - 1 < o.Metrics.length by omega), bind_some']
          split
          · exact ⟨false, rfl, rfl⟩
          · exact ⟨b, rfl, rfl⟩
    · rw [if_neg (by simpa using hlt), if_neg (by simpa using hlt)]
      exact ⟨true, rfl, rfl⟩
  simpa using key 0 (by omega)
theorem orderOk_same (o : Order) (h : Order.sm o) : ∃ b, spec_OrderOk o = some b ∧ impl_OrderOk o = some b := by
  obtain ⟨n, n1, n2⟩ := nameOk_same o.Name h.1
  obtain ⟨t, t1, t2⟩ := nameOk_same o.Target h.2.1
  obtain ⟨m, m1, m2⟩ := metrics_same o h.2.2.1
  obtain ⟨p, p1, p2⟩ := paceOk_same o.Pace
  obtain ⟨q, q1, q2⟩ := notes_same o.Notes h.2.2.2
  simp only [spec_OrderOk, impl_OrderOk, spec_l6Metrics, n1, n2, t1, t2, m1, m2, p1, p2, q1, q2, in_some, from_some, bind_some']
  generalize (decide (o.Low ≥ 1) && decide (o.Low ≤ o.High)) = x
  generalize decide (o.High ≤ 1000) = y
  generalize decide ((o.Metrics.length : Int) ≤ 4) = z
  cases n <;> cases t <;> cases m <;> cases p <;> cases q <;> cases x <;> cases y <;> cases z <;> exact ⟨_, rfl, rfl⟩
theorem max_some (a b : Int) : spec_l1Max a b = some (if b > a then b else a) := by
  simp only [spec_l1Max]
  by_cases h : a > b
  · rw [if_pos (by simpa using h), if_neg (by omega)]
  · rw [if_neg (by simpa using h)]
    by_cases h2 : b > a
    · rw [if_pos h2]
    · rw [if_neg h2]; congr 1; omega
theorem byAll_same (o : Order) (n : Int) (s : List Sample) (h : Order.sm o) (hs : smL Sample.sm s) : ∃ r, spec_ByAll o n s = some r ∧ impl_ByAll o n s = some r := by
  obtain ⟨p, p1, p2⟩ := orderOk_same o h
  obtain ⟨q, q1, q2⟩ := samplesOk_same s hs
  have hl : o.Metrics.length ≤ 1048576 := h.2.2.1.1
  by_cases hp : p = true ∧ q = true
  · obtain ⟨rfl, rfl⟩ := hp
    have key : ∀ i, i ≤ o.Metrics.length → ∀ m b, ∃ r, spec_ByAll.l0 o n s m b i = some r ∧ impl_ByAll.l0 o n s m b i = some r := by
      refine down _ fun i hi ih m b => ?_
      rw [spec_ByAll.l0, impl_ByAll.l0]
      by_cases hlt : i < o.Metrics.length
      · have c : decide ((i : Int) < (o.Metrics.length : Int)) = true := by simpa using hlt
        obtain ⟨v, v1, v2⟩ := sampleOf_same s o.Metrics[i].Name hs
        simp only [c, p1, q1, if_true, ix_nat, List.getElem?_eq_getElem hlt, bind_some', v1, v2, w64_succ (show i < 9223372036854775807 by omega)]
        by_cases hv : v.2 = true
        · obtain ⟨y, y1, y2⟩ := byOne_same o.Metrics[i] n v.1 (h.2.2.1.2 _ (List.getElem_mem hlt))
          obtain ⟨r, e1, e2⟩ := ih hlt (if y > m then y else m) true
          simp only [hv, if_true, y1, y2, bind_some', max_some, e1, e2]
          exact ⟨_, rfl, rfl⟩
        · obtain ⟨r, e1, e2⟩ := ih hlt m b
          simp only [hv, if_false, e1, e2]
          exact ⟨_, rfl, rfl⟩
      · rw [if_neg (by simpa using hlt), if_neg (by simpa using hlt)]
        exact ⟨_, rfl, rfl⟩
    obtain ⟨r, e1, e2⟩ := key 0 (by omega) 0 false
    simp only [Int.natCast_zero] at e1 e2
    simp only [spec_ByAll, impl_ByAll, e1, e2, p2, q2, bind_some', Bool.not_true, Bool.false_eq_true, if_false]
    split
    · exact ⟨_, rfl, rfl⟩
    · exact ⟨_, rfl, rfl⟩
  · have e : spec_ByAll.l0 o n s 0 false 0 = some (0, false) := by
      rw [spec_ByAll.l0]
      split
      · simp only [p1, q1, bind_some']
        cases p <;> cases q <;> simp at hp <;> rfl
      · rfl
    simp only [spec_ByAll, impl_ByAll, e, p2, q2, bind_some', Bool.not_false, if_true]
    cases p <;> cases q <;> simp at hp <;> exact ⟨_, rfl, rfl⟩
theorem okI_of {x : Int} (h0 : -9223372036854775808 ≤ x) (h1 : x ≤ 9223372036854775807) : okI x := by unfold okI; omega
theorem pick_sp (c : L1Cur) (l : List Str) (h : Cur c) (hl : 0 < l.length) : ∃ x d, spec_l1Pick c l = some (x, d) ∧ x ∈ l ∧ Cur d := by
  obtain ⟨x, d, e, x0, x1, hd⟩ := below_sp c l.length h (by omega)
  obtain ⟨i, rfl⟩ : ∃ i : Nat, x = i := ⟨x.toNat, by omega⟩
  simp only [spec_l1Pick, e, bind_some', ix_nat]
  rw [List.getElem?_eq_getElem (by omega)]
  exact ⟨_, _, rfl, List.getElem_mem _, hd⟩
def shS (s : Str) : Prop := s.length ≤ 64
theorem shS.sm {s : Str} (h : shS s) : smS s := by unfold shS at h; unfold smS; omega
theorem shS.ok {s : Str} (h : shS s) : okS s := by unfold shS at h; unfold okS; omega
theorem shS_mem {x : Str} {l : List Str} (h : x ∈ l) (hl : l.all (fun s => decide (s.length ≤ 64)) = true) : shS x := by
  have := List.all_eq_true.1 hl x h
  simpa [shS] using this
def shI (x : Int) : Prop := -1 ≤ x ∧ x ≤ 2000000
theorem shI.ok {x : Int} (h : shI x) : okI x := by unfold shI at h; exact okI_of (by omega) (by omega)
theorem shI_mem {x : Int} {l : List Int} (h : x ∈ l) (hl : l.all (fun s => decide (-1 ≤ s) && decide (s ≤ 2000000)) = true) : shI x := by
  have := List.all_eq_true.1 hl x h
  simpa [shI] using this
theorem listD {α : Type} {p : α → Prop} {l : List α} {x : α} (h : ∀ y ∈ l, p y) (hx : p x) : ∀ y ∈ l ++ [x], p y := by
  intro y hy
  rcases List.mem_append.1 hy with hy | hy
  · exact h y hy
  · rw [List.mem_singleton.1 hy]; exact hx
def MetricD (m : Metric) : Prop := shS m.Name ∧ shI m.Kind ∧ shI m.Goal
def SampleD (m : Sample) : Prop := shS m.Name ∧ shI m.Value
def NoteD (m : Note) : Prop := shS m.Key ∧ shS m.Text
theorem MetricD.sm {m : Metric} (h : MetricD m) : Metric.sm m := h.1.sm
def PaceE (p : Pace) : Prop := shI p.Up ∧ shI p.Down ∧ shI p.UpSpan ∧ shI p.DownSpan
theorem PaceD.e {p : Pace} (h : PaceD p) : PaceE p := by
  unfold PaceD at h; unfold PaceE shI; omega
def OrderD (o : Order) : Prop := shS o.Name ∧ shS o.Target ∧ shI o.Low ∧ shI o.High ∧ (o.Metrics.length ≤ 5 ∧ ∀ m ∈ o.Metrics, MetricD m) ∧ PaceE o.Pace ∧ (o.Notes.length ≤ 4 ∧ ∀ n ∈ o.Notes, NoteD n)
theorem OrderD.sm {o : Order} (h : OrderD o) : Order.sm o := by
  obtain ⟨h1, h2, h3, h4, ⟨h5, h6⟩, h7, h8, h9⟩ := h
  exact ⟨h1.sm, h2.sm, ⟨by omega, fun x hx => (h6 x hx).1.sm⟩, by omega, fun x hx => ⟨(h9 x hx).1.sm, (h9 x hx).2.sm⟩⟩
theorem PaceE.ok {p : Pace} (h : PaceE p) : Pace.ok p := ⟨h.1.ok, h.2.1.ok, h.2.2.1.ok, h.2.2.2.ok⟩
theorem drawMetric_sp (c : L1Cur) (h : Cur c) : ∃ m d, spec_l6DrawMetric c = some (m, d) ∧ MetricD m ∧ Cur d := by
  obtain ⟨x1, c1, e1, m1, h1⟩ := pick_sp c [[99, 112, 117], [109, 101, 109], [113, 117, 101, 117, 101], [104, 105, 116, 115]] h (by simp)
  obtain ⟨x2, c2, e2, m2, n2, h2⟩ := below_sp c1 3 h1 (by omega)
  obtain ⟨x3, c3, e3, m3, h3⟩ := pickInt_sp c2 [1, 500, 700, 800, 805, 1000, 50000, 1000000] h2 (by simp)
  simp only [spec_l6DrawMetric, e1, e2, e3, bind_some']
  refine ⟨_, _, rfl, ⟨shS_mem m1 (by decide), ?_, shI_mem m3 (by decide)⟩, h3⟩
  show shI (IntKind.i64.wrap (1 + x2))
  rw [w64_id (by omega) (by omega)]; unfold shI; omega
theorem drawRight_sp (c : L1Cur) (h : Cur c) : ∃ o d, spec_l6DrawRight c = some (o, d) ∧ (OrderD o ∧ o.Metrics.length ≤ 4 ∧ o.Notes.length ≤ 3) ∧ Cur d := by
  have k0 : ∀ i, i ≤ 4 → ∀ (c : L1Cur) (l : List Metric), Cur c → l.length ≤ i → (∀ x ∈ l, MetricD x) → ∃ b i' h' m, spec_l6DrawRight.l0 i c.b c.i c.h l = some (b, i', h', m) ∧ m.length ≤ 4 ∧ (∀ x ∈ m, MetricD x) ∧ Cur ⟨b, i', h'⟩ := by
    refine down _ fun i hi ih c l hc hl hm => ?_
    rw [spec_l6DrawRight.l0]
    by_cases hlt : i < 4
    · have g : decide ((i : Int) < (([[99, 112, 117], [104, 105, 116, 115], [109, 101, 109], [113, 117, 101, 117, 101]] : List Str).length : Int)) = true := by simp; omega
      obtain ⟨b, d, e, hd⟩ := once_sp c 2 hc (by omega)
      have e' : spec_l1Once (L1Cur.mk c.b c.i c.h) 2 = some (b, d) := e
      simp only [g, if_true, e', bind_some', w64_succ (show i < 9223372036854775807 by omega)]
      cases b
      · simp only [Bool.false_eq_true, if_false]
        exact ih hlt d l hd (by omega) hm
      · obtain ⟨m, d2, e2, hm2, hd2⟩ := drawMetric_sp d hd
        have e2' : spec_l6DrawMetric (L1Cur.mk d.b d.i d.h) = some (m, d2) := e2
        obtain ⟨s, hs⟩ : ∃ s, ([[99, 112, 117], [104, 105, 116, 115], [109, 101, 109], [113, 117, 101, 117, 101]] : List Str)[i]? = some s := ⟨_, List.getElem?_eq_getElem (by simpa using hlt)⟩
        simp only [if_true, e2', bind_some', ix_nat, hs]
        rw [app_ok (by simp; omega)]
        simp only [bind_some']
        exact ih hlt d2 _ hd2 (by simp; omega) (listD hm ⟨shS_mem (List.mem_of_getElem? hs) (by decide), hm2.2.1, hm2.2.2⟩)
    · rw [if_neg (by simp; omega)]
      exact ⟨_, _, _, _, rfl, by omega, hm, hc⟩
  have k1 : ∀ i, i ≤ 3 → ∀ (c : L1Cur) (l : List Note), Cur c → l.length ≤ i → (∀ x ∈ l, NoteD x) → ∃ b i' h' m, spec_l6DrawRight.l1 i c.b c.i c.h l = some (b, i', h', m) ∧ m.length ≤ 3 ∧ (∀ x ∈ m, NoteD x) ∧ Cur ⟨b, i', h'⟩ := by
    refine down _ fun i hi ih c l hc hl hm => ?_
    rw [spec_l6DrawRight.l1]
    by_cases hlt : i < 3
    · have g : decide ((i : Int) < (([[97], [111, 119, 110, 101, 114], [120, 47, 121]] : List Str).length : Int)) = true := by simp; omega
      obtain ⟨b, d, e, hd⟩ := once_sp c 3 hc (by omega)
      have e' : spec_l1Once (L1Cur.mk c.b c.i c.h) 3 = some (b, d) := e
      simp only [g, if_true, e', bind_some', w64_succ (show i < 9223372036854775807 by omega)]
      cases b
      · simp only [Bool.false_eq_true, if_false]
        exact ih hlt d l hd (by omega) hm
      · obtain ⟨s, hs⟩ : ∃ s, ([[97], [111, 119, 110, 101, 114], [120, 47, 121]] : List Str)[i]? = some s := ⟨_, List.getElem?_eq_getElem (by simpa using hlt)⟩
        obtain ⟨t, d2, e2, ht, hd2⟩ := pick_sp d [[], [97], [119, 101, 98], [116, 114, 117, 101], [49, 50], [115, 97, 121, 32, 34, 110, 111, 34], [98, 97, 99, 107, 92], [97, 58, 32, 98], [45, 32, 120], [35], [53, 109], [110, 117, 108, 108], [32, 120]] hd (by simp)
        have e2' : spec_l1Pick (L1Cur.mk d.b d.i d.h) _ = some (t, d2) := e2
        simp only [if_true, spec_l3DrawText, e2', bind_some', ix_nat, hs]
        rw [app_ok (by simp; omega)]
        simp only [bind_some']
        exact ih hlt d2 _ hd2 (by simp; omega) (listD hm ⟨shS_mem (List.mem_of_getElem? hs) (by decide), shS_mem ht (by decide)⟩)
    · rw [if_neg (by simp; omega)]
      exact ⟨_, _, _, _, rfl, by omega, hm, hc⟩
  obtain ⟨x1, c1, e1, m1, n1, h1⟩ := below_sp c 4 h (by omega)
  obtain ⟨x2, c2, e2, m2, h2⟩ := pick_sp c1 [[119, 101, 98], [97, 112, 105], [106, 111, 98, 45, 49]] h1 (by simp)
  obtain ⟨x3, c3, e3, m3, h3⟩ := pick_sp c2 [[119, 101, 98], [112, 111, 111, 108]] h2 (by simp)
  obtain ⟨x4, c4, e4, m4, h4⟩ := pickInt_sp c3 [0, 3, 10, 900] h3 (by simp)
  obtain ⟨p, c5, e5, hp, h5⟩ := drawPace_sp c4 h4
  obtain ⟨b, i, g, l, e6, hl6, hm6, h6⟩ := k0 0 (by omega) c5 [] h5 (by simp) (by simp)
  obtain ⟨b7, i7, g7, l7, e7, hl7, hm7, h7⟩ := k1 0 (by omega) ⟨b, i, g⟩ [] h6 (by simp) (by simp)
  simp only [Int.natCast_zero] at e6 e7
  simp only [spec_l6DrawRight, e1, e2, e3, e4, e5, e6, e7, bind_some']
  have m4' := shI_mem m4 (by decide)
  have w1 : IntKind.i64.wrap (1 + x1) = 1 + x1 := w64_id (by omega) (by omega)
  have hx4 : 0 ≤ x4 ∧ x4 ≤ 900 := by
    simp only [List.mem_cons, List.not_mem_nil, or_false] at m4; omega
  have w2 : IntKind.i64.wrap (1 + x1 + x4) = 1 + x1 + x4 := w64_id (by omega) (by omega)
  simp only [w1, w2]
  refine ⟨_, _, rfl, ⟨⟨shS_mem m2 (by decide), shS_mem m3 (by decide), ?_, ?_, ⟨by show l.length ≤ 5; omega, hm6⟩, hp.e, ⟨by show l7.length ≤ 4; omega, hm7⟩⟩, hl6, hl7⟩, h7⟩
  · show shI (1 + x1); unfold shI; omega
  · show shI (1 + x1 + x4); unfold shI; omega
theorem draw6_sp (c : L1Cur) (h : Cur c) : ∃ o d, spec_l6Draw c = some (o, d) ∧ OrderD o ∧ Cur d := by
  obtain ⟨o, c1, e1, ⟨ho, ho5, ho3⟩, h1⟩ := drawRight_sp c h
  obtain ⟨k, c2, e2, k0, k1, h2⟩ := below_sp c1 16 h1 (by omega)
  obtain ⟨o1, o2, o3, o4, ⟨o5, o6⟩, ⟨q1, q2, q3, q4⟩, o8, o9⟩ := ho
  unfold spec_l6Draw
  rw [e1, bind_some']
  have e2' : spec_l1Below (L1Cur.mk c1.b c1.i c1.h) 16 = some (k, c2) := e2
  dsimp only
  rw [e2', bind_some']
  dsimp only
  by_cases hk0 : (k == 0) = true
  · rw [if_pos hk0]
    obtain ⟨x, c3, e3, m3, h3⟩ := pick_sp c2 [[], [49, 97], [65], [97, 98, 99, 100, 101, 102, 103, 104, 105, 106, 107, 108, 109, 110, 111, 112, 113, 114, 115, 116, 117]] h2 (by simp)
    simp only [e3, bind_some']
    exact ⟨_, _, rfl, ⟨shS_mem m3 (by decide), o2, o3, o4, ⟨o5, o6⟩, ⟨q1, q2, q3, q4⟩, o8, o9⟩, h3⟩
  rw [if_neg hk0]
  by_cases hk1 : (k == 1) = true
  · rw [if_pos hk1]
    obtain ⟨x, c3, e3, m3, h3⟩ := pickInt_sp c2 [0, -1, 1001] h2 (by simp)
    simp only [e3, bind_some']
    exact ⟨_, _, rfl, ⟨o1, o2, shI_mem m3 (by decide), o4, ⟨o5, o6⟩, ⟨q1, q2, q3, q4⟩, o8, o9⟩, h3⟩
  rw [if_neg hk1]
  by_cases hk2 : (k == 2) = true
  · rw [if_pos hk2]
    obtain ⟨x, c3, e3, m3, h3⟩ := pickInt_sp c2 [0, 1000, 1001] h2 (by simp)
    simp only [e3, bind_some']
    exact ⟨_, _, rfl, ⟨o1, o2, o3, shI_mem m3 (by decide), ⟨o5, o6⟩, ⟨q1, q2, q3, q4⟩, o8, o9⟩, h3⟩
  rw [if_neg hk2]
  by_cases hk3 : (k == 3) = true
  · rw [if_pos hk3]
    obtain ⟨x, c3, e3, m3, h3⟩ := drawMetric_sp c2 h2
    simp only [e3, bind_some']
    rw [app_ok (by simp; omega)]
    exact ⟨_, _, rfl, ⟨o1, o2, o3, o4, ⟨by simp; omega, listD o6 m3⟩, ⟨q1, q2, q3, q4⟩, o8, o9⟩, h3⟩
  rw [if_neg hk3]
  by_cases hk4 : (k == 4) = true
  · rw [if_pos hk4]
    obtain ⟨x, c3, e3, m3, h3⟩ := pickInt_sp c2 [-1, 1000, 1001] h2 (by simp)
    simp only [e3, bind_some']
    exact ⟨_, _, rfl, ⟨o1, o2, o3, o4, ⟨o5, o6⟩, ⟨shI_mem m3 (by decide), q2, q3, q4⟩, o8, o9⟩, h3⟩
  rw [if_neg hk4]
  by_cases hk5 : (k == 5) = true
  · rw [if_pos hk5]
    obtain ⟨x, c3, e3, m3, h3⟩ := pick_sp c2 [[122], [113, 117, 97, 121, 47, 112, 97, 99, 101], [49], []] h2 (by simp)
    simp only [e3, bind_some']
    rw [app_ok (by simp; omega)]
    exact ⟨_, _, rfl, ⟨o1, o2, o3, o4, ⟨o5, o6⟩, ⟨q1, q2, q3, q4⟩, by simp; omega, listD o9 ⟨shS_mem m3 (by decide), (by show List.length ([120] : Str) ≤ 64; decide)⟩⟩, h3⟩
  rw [if_neg hk5]
  by_cases hk6 : (k == 6) = true
  · rw [if_pos hk6]
    obtain ⟨x, c3, e3, m3, h3⟩ := pickInt_sp c2 [-1, 3600, 3601] h2 (by simp)
    simp only [e3, bind_some']
    exact ⟨_, _, rfl, ⟨o1, o2, o3, o4, ⟨o5, o6⟩, ⟨q1, q2, q3, shI_mem m3 (by decide)⟩, o8, o9⟩, h3⟩
  rw [if_neg hk6]
  by_cases hk7 : (k == 7) = true
  · rw [if_pos hk7]
    by_cases hm : (decide ((o.Metrics.length : Int) > 0)) = true
    · rw [if_pos hm]
      have hm' : 0 < o.Metrics.length := by simpa using hm
      obtain ⟨x, c3, e3, m3, h3⟩ := pickInt_sp c2 [0, -1, 1000000, 1000001] h2 (by simp)
      have g := ix_nat o.Metrics 0
      simp only [Int.natCast_zero] at g
      have g2 := fun x => put_nat (x := x) hm'
      simp only [Int.natCast_zero] at g2
      simp only [e3, bind_some', g, List.getElem?_eq_getElem hm', g2]
      refine ⟨_, _, rfl, ⟨o1, o2, o3, o4, ⟨by simpa using o5, fun y hy => ?_⟩, ⟨q1, q2, q3, q4⟩, o8, o9⟩, h3⟩
      have hz := o6 _ (List.getElem_mem hm')
      rcases List.mem_or_eq_of_mem_set hy with hy | hy
      · exact o6 y hy
      · rw [hy]; exact ⟨hz.1, hz.2.1, shI_mem m3 (by decide)⟩
    · rw [if_neg hm]; exact ⟨_, _, rfl, ⟨o1, o2, o3, o4, ⟨o5, o6⟩, ⟨q1, q2, q3, q4⟩, o8, o9⟩, h2⟩
  · rw [if_neg hk7]; exact ⟨_, _, rfl, ⟨o1, o2, o3, o4, ⟨o5, o6⟩, ⟨q1, q2, q3, q4⟩, o8, o9⟩, h2⟩
def SamplesD (l : List Sample) : Prop := l.length ≤ 5 ∧ ∀ x ∈ l, SampleD x
theorem SamplesD.sm {l : List Sample} (h : SamplesD l) : smL Sample.sm l := ⟨by have := h.1; omega, fun x hx => (h.2 x hx).1.sm⟩
theorem drawSamples_sp (c : L1Cur) (h : Cur c) : ∃ l d, spec_l15DrawSamples c = some (l, d) ∧ SamplesD l ∧ Cur d := by
  have k0 : ∀ i, i ≤ 4 → ∀ (c : L1Cur) (l : List Sample), Cur c → l.length ≤ i → (∀ x ∈ l, SampleD x) → ∃ b i' h' m, spec_l15DrawSamples.l0 i c.b c.i c.h l = some (b, i', h', m) ∧ m.length ≤ 4 ∧ (∀ x ∈ m, SampleD x) ∧ Cur ⟨b, i', h'⟩ := by
    refine down _ fun i hi ih c l hc hl hm => ?_
    rw [spec_l15DrawSamples.l0]
    by_cases hlt : i < 4
    · have g : decide ((i : Int) < (([[99, 112, 117], [104, 105, 116, 115], [109, 101, 109], [113, 117, 101, 117, 101]] : List Str).length : Int)) = true := by simp; omega
      obtain ⟨b, d, e, hd⟩ := once_sp c 3 hc (by omega)
      have e' : spec_l1Once (L1Cur.mk c.b c.i c.h) 3 = some (b, d) := e
      simp only [g, if_true, e', bind_some', w64_succ (show i < 9223372036854775807 by omega)]
      cases b
      · obtain ⟨m, d2, e2, hm2, hd2⟩ := pickInt_sp d [0, 100, 500, 700, 750, 900, 2000, 60000, 1000000] hd (by simp)
        have e2' : spec_l1PickInt (L1Cur.mk d.b d.i d.h) _ = some (m, d2) := e2
        obtain ⟨s, hs⟩ : ∃ s, ([[99, 112, 117], [104, 105, 116, 115], [109, 101, 109], [113, 117, 101, 117, 101]] : List Str)[i]? = some s := ⟨_, List.getElem?_eq_getElem (by simpa using hlt)⟩
        simp only [Bool.not_false, if_true, e2', bind_some', ix_nat, hs]
        rw [app_ok (by simp; omega)]
        simp only [bind_some']
        exact ih hlt d2 _ hd2 (by simp; omega) (listD hm ⟨shS_mem (List.mem_of_getElem? hs) (by decide), shI_mem hm2 (by decide)⟩)
      · simp only [Bool.not_true, Bool.false_eq_true, if_false]
        exact ih hlt d l hd (by omega) hm
    · rw [if_neg (by simp; omega)]
      exact ⟨_, _, _, _, rfl, by omega, hm, hc⟩
  obtain ⟨b, i, g, l, e1, hl1, hm1, h1⟩ := k0 0 (by omega) c [] h (by simp) (by simp)
  simp only [Int.natCast_zero] at e1
  obtain ⟨x, c2, e2, h2⟩ := once_sp ⟨b, i, g⟩ 12 h1 (by omega)
  simp only [spec_l15DrawSamples, e1, e2, bind_some']
  split
  · obtain ⟨x3, c3, e3, m3, h3⟩ := pick_sp c2 [[97], [122], []] h2 (by simp)
    obtain ⟨x4, c4, e4, m4, h4⟩ := pickInt_sp c3 [-1, 5, 1000001] h3 (by simp)
    simp only [e3, e4, bind_some']
    rw [app_ok (by simp; omega)]
    exact ⟨_, _, rfl, ⟨by simp; omega, listD hm1 ⟨shS_mem m3 (by decide), shI_mem m4 (by decide)⟩⟩, h4⟩
  · exact ⟨_, _, rfl, ⟨by omega, hm1⟩, h2⟩
/-- the least whole number not below a/b -/
def ceilV (a b : Int) : Int := (a + b - 1) / b
theorem ceilDiv_some (a b : Int) (a0 : 0 ≤ a) (a1 : a ≤ 1000000000000) (b0 : 1 ≤ b) (b1 : b ≤ 1000000) : impl_CeilDiv a b = some (ceilV a b) := by
  simp only [impl_CeilDiv, from_some, bind_some']
  rw [if_neg (by simp; omega), if_neg (by simp; omega)]
  have w : IntKind.i64.wrap (IntKind.i64.wrap (a + b) - 1) = a + b - 1 := by
    rw [w64_id (n := a + b) (by omega) (by omega), w64_id (by omega) (by omega)]
  simp only [Nt.quo, w]
  rw [if_neg (by omega)]
  have hq : 0 ≤ (a + b - 1).tdiv b := Int.tdiv_nonneg (by omega) (by omega)
  have e : (a + b - 1).tdiv b = (a + b - 1) / b := by rw [Int.tdiv_eq_ediv_of_nonneg (by omega)]
  have hq2 : (a + b - 1).tdiv b ≤ a + b - 1 := by
    rw [e]; exact Int.ediv_le_self _ (by omega)
  rw [w64_id (by omega) (by omega), bind_some', e]; rfl
def byV (m : Metric) (n v : Int) : Int := if m.Kind = 3 then ceilV v m.Goal else if 9 * m.Goal ≤ 10 * v ∧ 10 * v ≤ 11 * m.Goal then n else ceilV (n * v) m.Goal
theorem metricOk_goal (m : Metric) (h : impl_MetricOk m = some true) : 1 ≤ m.Kind ∧ m.Kind ≤ 3 ∧ 1 ≤ m.Goal ∧ m.Goal ≤ 1000000 := by
  simp only [impl_MetricOk, from_some, bind_some'] at h
  cases hn : impl_NameOk m.Name with
  | none => rw [hn] at h; simp at h
  | some b =>
    rw [hn] at h
    simp only [bind_some'] at h
    split at h
    · split at h
      · rename_i h2
        simp at h h2; omega
      · simp at h
    · simp at h
theorem byOne_some (m : Metric) (n v : Int) (hm : impl_MetricOk m = some true) (n0 : 0 ≤ n) (n1 : n ≤ 1000) (v0 : 0 ≤ v) (v1 : v ≤ 1000000) : impl_ByOne m n v = some (byV m n v) := by
  obtain ⟨k0, k1, g0, g1⟩ := metricOk_goal m hm
  have hnv : 0 ≤ n * v := Int.mul_nonneg n0 v0
  have hnv1 : n * v ≤ 1000 * 1000000 := Int.mul_le_mul n1 v1 v0 (by omega)
  simp only [impl_ByOne, hm, impl_isMany, impl_isValue, from_some, bind_some', Bool.not_true, Bool.false_eq_true, if_false]
  rw [if_neg (by simp; omega), if_neg (by simp; omega)]
  rw [w64_id (n := 10 * v) (by omega) (by omega), w64_id (n := 9 * m.Goal) (by omega) (by omega), w64_id (n := 11 * m.Goal) (by omega) (by omega), w64_id (n := n * v) (by omega) (by omega)]
  rw [ceilDiv_some v m.Goal (by omega) (by omega) g0 g1, ceilDiv_some (n * v) m.Goal hnv (by omega) g0 g1]
  simp only [bind_some', byV]
  by_cases h3 : m.Kind = 3
  · rw [if_pos (by simpa using h3), if_pos h3]
  · rw [if_neg (by simpa using h3), if_neg h3]
    by_cases h4 : 9 * m.Goal ≤ 10 * v ∧ 10 * v ≤ 11 * m.Goal
    · rw [if_pos (by simp; omega), if_pos h4]
    · rw [if_neg (by simp; omega), if_neg h4]
theorem slow_same2 (p : Pace) (now n : Int) (u0 : 0 ≤ p.Up) (u1 : p.Up ≤ 1000) (d0 : 0 ≤ p.Down) (d1 : p.Down ≤ 1000) (h0 : 0 ≤ now) (h1 : now ≤ 1000) (hn : okI n) : spec_Slow p now n = some (slowV p now n) ∧ impl_Slow p now n = some (slowV p now n) := by
  have hnow : okI now := by unfold okI; omega
  have hu : okI p.Up := by unfold okI; omega
  have hd : okI p.Down := by unfold okI; omega
  have w1 : IntKind.i64.wrap (now + p.Up) = now + p.Up := w64_id (by omega) (by omega)
  have w2 : IntKind.i64.wrap (now - p.Down) = now - p.Down := w64_id (by omega) (by omega)
  simp only [spec_Slow, impl_Slow, beyond_some _ _ _ hn hnow hu, beyond_some _ _ _ hnow hn hd, bind_some', w1, w2, slowV]
  unfold okI at hn
  have z1 : n > now → n - now ≤ 9223372036854775807 → IntKind.i64.wrap (n - now) = n - now := fun _ _ => w64_id (by omega) (by omega)
  have z2 : n > now → n - now > 9223372036854775807 → IntKind.i64.wrap (n - now) < 0 := fun _ _ => by rw [w64_eq]; omega
  have z3 : n < now → now - n ≤ 9223372036854775807 → IntKind.i64.wrap (now - n) = now - n := fun _ _ => w64_id (by omega) (by omega)
  have z4 : n < now → now - n > 9223372036854775807 → IntKind.i64.wrap (now - n) < 0 := fun _ _ => by rw [w64_eq]; omega
  generalize IntKind.i64.wrap (n - now) = y1 at *
  generalize IntKind.i64.wrap (now - n) = y2 at *
  clear w1 w2
  constructor
  · by_cases a1 : p.Up = 0 <;> by_cases a2 : n > now <;> by_cases a3 : y1 > p.Up <;> by_cases a4 : y1 < 0 <;> by_cases b1 : p.Down = 0 <;> by_cases b2 : n < now <;> by_cases b3 : y2 > p.Down <;> by_cases b4 : y2 < 0 <;>
      first
      | omega
      | (have c1 : (n - now > p.Up) = (n > now ∧ (y1 > p.Up ∨ y1 < 0)) := by simp only [eq_iff_iff]; omega
         have c2 : (now - n > p.Down) = (n < now ∧ (y2 > p.Down ∨ y2 < 0)) := by simp only [eq_iff_iff]; omega
         simp [a1, a2, a3, a4, b1, b2, b3, b4, c1, c2])
  · by_cases a1 : p.Up = 0 <;> by_cases a2 : n - now > p.Up <;> by_cases b1 : p.Down = 0 <;> by_cases b2 : now - n > p.Down <;> simp [a1, a2, b1, b2]
def clampV (a lo hi : Int) : Int := if a < lo then lo else if a > hi then hi else a
theorem clamp_some (a lo hi : Int) : spec_Clamp a lo hi = some (clampV a lo hi) ∧ impl_Clamp a lo hi = some (clampV a lo hi) := by
  simp only [spec_Clamp, impl_Clamp, spec_l1Min, clampV]
  by_cases h1 : a < lo
  · simp [h1]
  · by_cases h2 : a > hi
    · have : ¬ a < hi := by omega
      simp [h1, h2, this, bind_some']
    · by_cases h3 : a < hi
      · simp [h1, h2, h3, bind_some']
      · have : hi = a := by omega
        simp [h1, h2, h3, bind_some', this]
theorem clampV_in {a lo hi : Int} (h : lo ≤ hi) : lo ≤ clampV a lo hi ∧ clampV a lo hi ≤ hi := by
  unfold clampV; split
  · omega
  · split <;> omega
theorem clampV_id {a lo hi : Int} (h : lo ≤ a) (h2 : a ≤ hi) : clampV a lo hi = a := by
  unfold clampV; rw [if_neg (by omega), if_neg (by omega)]
/-- what an order is, where it is right -/
theorem orderOk_true (o : Order) (hs : Order.sm o) (h : impl_OrderOk o = some true) : 1 ≤ o.Low ∧ o.Low ≤ o.High ∧ o.High ≤ 1000 ∧ o.Metrics.length ≤ 4 ∧ impl_OrderOk.l0 o 0 = some (.inr ()) ∧ impl_NameOk o.Name = some true ∧ impl_NameOk o.Target = some true ∧ impl_PaceOk o.Pace = some true ∧ impl_notesOk o.Notes = some true := by
  obtain ⟨n, n1, n2⟩ := nameOk_same o.Name hs.1
  obtain ⟨t, t1, t2⟩ := nameOk_same o.Target hs.2.1
  obtain ⟨m, m1, m2⟩ := metrics_same o hs.2.2.1
  obtain ⟨p, p1, p2⟩ := paceOk_same o.Pace
  obtain ⟨q, q1, q2⟩ := notes_same o.Notes hs.2.2.2
  simp only [impl_OrderOk, n2, t2, m2, p2, q2, from_some, bind_some'] at h
  by_cases hx : o.Low ≥ 1 ∧ o.Low ≤ o.High <;> by_cases hy : o.High ≤ 1000 <;> by_cases hz : (o.Metrics.length : Int) ≤ 4 <;> cases n <;> cases t <;> cases m <;> cases p <;> cases q <;> simp [hx, hy, hz, bind_some'] at h
  all_goals first
    | (refine ⟨by omega, by omega, by omega, by omega, by rw [m2]; rfl, n2, t2, p2, q2⟩)
    | omega
theorem paceOk_true (p : Pace) (h : impl_PaceOk p = some true) : 0 ≤ p.Up ∧ p.Up ≤ 1000 ∧ 0 ≤ p.Down ∧ p.Down ≤ 1000 ∧ 0 ≤ p.UpSpan ∧ p.UpSpan ≤ 3600 ∧ 0 ≤ p.DownSpan ∧ p.DownSpan ≤ 3600 := by
  simp only [impl_PaceOk, impl_isMany, from_some, bind_some'] at h
  by_cases a : p.Up ≥ 0 ∧ p.Up ≤ 1000 <;> by_cases b : p.Down ≥ 0 ∧ p.Down ≤ 1000 <;> by_cases c : p.UpSpan ≥ 0 ∧ p.UpSpan ≤ 3600 <;> by_cases d : p.DownSpan ≥ 0 ∧ p.DownSpan ≤ 3600 <;> simp [a, b, c, d] at h <;> omega
theorem scaleOk_true (x : Scale) (hs : Scale.sm x) (h : impl_ScaleOk x = some true) : impl_NameOk x.Name = some true ∧ 0 ≤ x.Now ∧ x.Now ≤ 1000 ∧ impl_RecsOk x.Recs = some true := by
  obtain ⟨n, n1, n2⟩ := nameOk_same x.Name hs.1
  obtain ⟨p, p1, p2⟩ := recsOk_same x.Recs hs.2.1
  simp only [impl_ScaleOk, impl_isMany, n2, p2, from_some, bind_some'] at h
  by_cases a : x.Now ≥ 0 ∧ x.Now ≤ 1000 <;> cases n <;> cases p <;> simp [a] at h
  all_goals first
    | exact ⟨n2, a.1, a.2, p2⟩
    | omega
theorem scaleOk_mk (n : Str) (w : Int) (l : List Rec) (hn : impl_NameOk n = some true) (h0 : 0 ≤ w) (h1 : w ≤ 1000) (hl : impl_RecsOk l = some true) : impl_ScaleOk (Scale.mk n w l) = some true := by
  simp only [impl_ScaleOk, impl_isMany, hn, hl, from_some, bind_some', if_true]
  rw [if_pos (by simp; omega)]
def Good (o : Order) (sc : Scale) (t : Int) (s : List Sample) : Prop := impl_OrderOk o = some true ∧ impl_ScaleOk sc = some true ∧ sc.Name = o.Name ∧ impl_SamplesOk s = some true ∧ 0 ≤ t ∧ t ≤ 1000000 ∧ ∀ r, sc.Recs[sc.Recs.length - 1]? = some r → r.Time ≤ t
theorem copy_some (sc : Scale) (hl : sc.Recs.length ≤ 1048576) : impl_copyScale sc = some sc ∧ spec_l17Copy sc = some sc := by
  have h3 : Nt.clone 16 sc.Recs = some sc.Recs := if_pos (by omega)
  have e1 : app 16 [] sc.Recs = some sc.Recs := app_ok (l := []) (by simp only [List.length_nil]; omega)
  simp only [impl_copyScale, spec_l17Copy, slices_Clone_Simpl_Rec_impl_Rec, h3, e1, bind_some', and_self]
theorem step_bad (o : Order) (sc : Scale) (t : Int) (s : List Sample) (ho : Order.sm o) (hs : Scale.sm sc) (hss : smL Sample.sm s) (hg : ¬ Good o sc t s) : spec_Step o sc t s = some (sc, sc.Now) ∧ impl_Step o sc t s = some (sc, sc.Now) := by
  obtain ⟨c1, c2⟩ := copy_some sc hs.2.1
  obtain ⟨p, p1, p2⟩ := orderOk_same o ho
  obtain ⟨q, q1, q2⟩ := scaleOk_same sc hs
  obtain ⟨u, u1, u2⟩ := samplesOk_same s hss
  have hl : sc.Recs.length ≤ 1048576 := hs.2.1
  unfold spec_Step impl_Step
  simp only [c1, c2, p1, p2, q1, q2, u1, u2, bind_some', in_some, impl_isTime, from_some]
  cases p
  · exact ⟨rfl, rfl⟩
  cases q
  · exact ⟨rfl, rfl⟩
  by_cases hn : sc.Name = o.Name
  · cases u
    · simp [hn]
    by_cases ht : 0 ≤ t ∧ t ≤ 1000000
    · have hlast : ∃ r, sc.Recs[sc.Recs.length - 1]? = some r ∧ t < r.Time := by
        refine Classical.byContradiction fun h => hg ⟨p2, q2, hn, u2, ht.1, ht.2, fun r hr => ?_⟩
        by_cases h2 : r.Time ≤ t
        · exact h2
        · exact absurd ⟨r, hr, by omega⟩ h
      obtain ⟨r, r1, r2⟩ := hlast
      have h0 : 0 < sc.Recs.length := by
        rcases Nat.lt_or_ge (sc.Recs.length - 1) sc.Recs.length with h | h
        · omega
        · rw [List.getElem?_eq_none h] at r1; simp at r1
      have e : IntKind.i64.wrap ((sc.Recs.length : Int) - 1) = ((sc.Recs.length - 1 : Nat) : Int) := by rw [w64_id (by omega) (by omega)]; omega
      have g1 : decide ((sc.Recs.length : Int) > 0) = true := decide_eq_true (by omega)
      have g2 : (decide (t ≥ 0) && decide (t ≤ 1000000)) = true := by simp; omega
      have g3 : decide (r.Time > t) = true := by simp; omega
      have g4 : decide (t < r.Time) = true := by simp; omega
      simp only [hn, g1, g2, g3, g4, e, ix_nat, r1, bind_some', beq_self_eq_true, Bool.not_true, Bool.false_eq_true, if_true, if_false, and_self]
    · have g2 : (decide (t ≥ 0) && decide (t ≤ 1000000)) = false := by
        cases h : (decide (t ≥ 0) && decide (t ≤ 1000000))
        · rfl
        · simp at h; omega
      simp [hn, g2]
  · have : (sc.Name == o.Name) = false := by simpa using hn
    simp [this]
theorem step_good (o : Order) (sc : Scale) (t : Int) (s : List Sample) (ho : Order.sm o) (hs : Scale.sm sc) (hr : okL Rec.ok sc.Recs) (hss : smL Sample.sm s) (hg : Good o sc t s) :
    ∃ v b, impl_ByAll o sc.Now s = some (v, b) ∧
      (b = false → spec_Step o sc t s = some (⟨sc.Name, clampV sc.Now o.Low o.High, sc.Recs⟩, clampV sc.Now o.Low o.High) ∧ impl_Step o sc t s = some (⟨sc.Name, clampV sc.Now o.Low o.High, sc.Recs⟩, clampV sc.Now o.Low o.High)) ∧
      (b = true → ∃ m st, impl_RecAdd sc.Recs t (clampV v o.Low o.High) = some m ∧ impl_Steady o.Pace sc.Recs t sc.Now (clampV v o.Low o.High) = some st ∧ spec_Step o sc t s = some (⟨sc.Name, clampV (slowV o.Pace sc.Now st) o.Low o.High, m⟩, clampV (slowV o.Pace sc.Now st) o.Low o.High) ∧ impl_Step o sc t s = some (⟨sc.Name, clampV (slowV o.Pace sc.Now st) o.Low o.High, m⟩, clampV (slowV o.Pace sc.Now st) o.Low o.High)) := by
  obtain ⟨p2, q2, hn, u2, t0, t1, hlast⟩ := hg
  obtain ⟨c1, c2⟩ := copy_some sc hs.2.1
  have hl : sc.Recs.length ≤ 1048576 := hs.2.1
  obtain ⟨_, p1, p2'⟩ := orderOk_same o ho
  obtain rfl := Option.some.inj (p2'.symm.trans p2)
  obtain ⟨_, q1, q2'⟩ := scaleOk_same sc hs
  obtain rfl := Option.some.inj (q2'.symm.trans q2)
  obtain ⟨_, u1, u2'⟩ := samplesOk_same s hss
  obtain rfl := Option.some.inj (u2'.symm.trans u2)
  obtain ⟨o1, o2, o3, _, _, _, _, op, _⟩ := orderOk_true o ho p2
  obtain ⟨a0, a1, b0, b1, d0, d1, e0, e1⟩ := paceOk_true o.Pace op
  obtain ⟨_, s0, s1, _⟩ := scaleOk_true sc hs q2
  obtain ⟨⟨v, b⟩, v1, v2⟩ := byAll_same o sc.Now s ho hss
  have hpo : Pace.ok o.Pace := ⟨okI_of (by omega) (by omega), okI_of (by omega) (by omega), okI_of (by omega) (by omega), okI_of (by omega) (by omega)⟩
  obtain ⟨m, m1, m2, m3, m4⟩ := recAdd_room sc.Recs t (clampV v o.Low o.High) hl
  obtain ⟨st, st1, st2, st3, st4, st5⟩ := steady_sp o.Pace sc.Recs t sc.Now (clampV v o.Low o.High) hpo hr hl (okI_of (by omega) (by omega))
  have hc := clampV_in (a := v) o2
  have hst : okI st := by
    rcases Int.lt_trichotomy (clampV v o.Low o.High) sc.Now with h | h | h
    · have := st3 h; exact okI_of (by omega) (by omega)
    · have := st5 h; exact okI_of (by omega) (by omega)
    · have := st4 h; exact okI_of (by omega) (by omega)
  obtain ⟨w1, w2⟩ := slow_same2 o.Pace sc.Now st a0 a1 b0 b1 s0 s1 hst
  have g2 : (decide (t ≥ 0) && decide (t ≤ 1000000)) = true := by simp; omega
  refine ⟨v, b, v2, fun hb => ?_, fun hb => ⟨m, st, m2, st2, ?_⟩⟩
  all_goals subst hb
  all_goals unfold spec_Step impl_Step
  all_goals simp only [c1, c2, p1, p2, q1, q2, u1, u2, v1, v2, m1, m2, st1, st2, w1, w2, hn, g2, bind_some', in_some, impl_isTime, from_some, (clamp_some _ _ _).1, (clamp_some _ _ _).2, beq_self_eq_true, Bool.not_true, Bool.not_false, Bool.false_eq_true, if_true, if_false]
  all_goals
    by_cases h0 : sc.Recs.length = 0
    · have g1 : decide ((sc.Recs.length : Int) > 0) = false := decide_eq_false (by omega)
      simp only [g1, Bool.false_eq_true, if_false, and_self]
    · have e : IntKind.i64.wrap ((sc.Recs.length : Int) - 1) = ((sc.Recs.length - 1 : Nat) : Int) := by rw [w64_id (by omega) (by omega)]; omega
      have g1 : decide ((sc.Recs.length : Int) > 0) = true := decide_eq_true (by omega)
      have r1 : sc.Recs[sc.Recs.length - 1]? = some (sc.Recs[sc.Recs.length - 1]'(by omega)) := List.getElem?_eq_getElem _
      have r2 := hlast _ r1
      simp only [g1, e, ix_nat, r1, bind_some', if_true]
      have r3 : decide ((sc.Recs[sc.Recs.length - 1]'(by omega)).Time > t) = false := by simpa using r2
      have r4 : decide (t < (sc.Recs[sc.Recs.length - 1]'(by omega)).Time) = false := by simpa using r2
      simp only [r3, r4, Bool.false_eq_true, if_false, and_self]
def ScaleD (x : Scale) : Prop := shS x.Name ∧ okI x.Now ∧ x.Recs.length ≤ 9 ∧ okL Rec.ok x.Recs
theorem ScaleD.sm {x : Scale} (h : ScaleD x) : Scale.sm x := ⟨h.1.sm, by have := h.2.2.1; omega, fun _ _ => trivial⟩
theorem draw17Right_sp (c : L1Cur) (o : Order) (h : Cur c) (ho : OrderD o) : ∃ x d, spec_l17DrawRight c o = some (x, d) ∧ ScaleD x ∧ Cur d := by
  have h3 := ho.2.2.1
  have h4 := ho.2.2.2.1
  obtain ⟨x1, c1, e1, m1, h1⟩ := pickInt_sp c [o.Low, o.High, IntKind.i64.wrap (o.Low + 1), 0] h (by simp)
  obtain ⟨l, c2, e2, hl, h2, hk⟩ := drawRecs_ok c1 h1
  simp only [spec_l17DrawRight, e1, e2, bind_some']
  refine ⟨_, _, rfl, ⟨ho.1, ?_, by show l.length ≤ 9; omega, by show l.length ≤ 9223372036854775807; omega, hk⟩, h2⟩
  show okI x1
  unfold shI at h3 h4
  rw [w64_id (by omega) (by omega)] at m1
  simp only [List.mem_cons, List.not_mem_nil, or_false] at m1
  unfold okI; omega
theorem draw17_sp (c : L1Cur) (h : Cur c) : ∃ o x d, spec_l17Draw c = some (o, x, d) ∧ OrderD o ∧ ScaleD x ∧ Cur d := by
  obtain ⟨o, c1, e1, ho, h1⟩ := draw6_sp c h
  obtain ⟨x, c2, e2, hx, h2⟩ := draw17Right_sp c1 o h1 ho
  obtain ⟨k, c3, e3, k0, k1, h3⟩ := below_sp c2 12 h2 (by omega)
  have eo : Order.mk o.Name o.Target o.Low o.High o.Metrics (Pace.mk o.Pace.Up o.Pace.Down o.Pace.UpSpan o.Pace.DownSpan) o.Notes = o := rfl
  have e2' : spec_l17DrawRight (L1Cur.mk c1.b c1.i c1.h) o = some (x, c2) := e2
  have e3' : spec_l1Below (L1Cur.mk c2.b c2.i c2.h) 12 = some (k, c3) := e3
  unfold spec_l17Draw
  rw [e1, bind_some']
  dsimp only
  rw [eo, e2', bind_some']
  dsimp only
  rw [e3', bind_some']
  dsimp only
  by_cases g : (k == 0) = true
  · rw [if_pos g]
    obtain ⟨y, d, e4, m4, h4⟩ := pick_sp c3 [[], [111, 116, 104, 101, 114]] h3 (by simp)
    simp only [e4, bind_some']
    exact ⟨_, _, _, rfl, ho, ⟨shS_mem m4 (by decide), hx.2⟩, h4⟩
  rw [if_neg g]
  by_cases g : (k == 1) = true
  · rw [if_pos g]
    obtain ⟨y, d, e4, m4, h4⟩ := pickInt_sp c3 [(-1), 1000, 1001] h3 (by simp)
    simp only [e4, bind_some']
    exact ⟨_, _, _, rfl, ho, ⟨hx.1, (shI_mem m4 (by decide)).ok, hx.2.2⟩, h4⟩
  rw [if_neg g]
  by_cases g : (k == 2) = true
  · rw [if_pos g]
    obtain ⟨y, d, e4, m4, h4, m5⟩ := draw16_ok c3 h3
    simp only [e4, bind_some']
    exact ⟨_, _, _, rfl, ho, ⟨hx.1, hx.2.1, m4, m5⟩, h4⟩
  rw [if_neg g]
  exact ⟨_, _, _, rfl, ho, hx, h3⟩
theorem drawSettle_sp (a : List Int) (h : a.length ≤ 1048576) : ∃ o x t s n, spec_DrawSettle a = some (o, x, t, s, n) ∧ OrderD o ∧ ScaleD x ∧ okI t ∧ SamplesD s ∧ shI n := by
  obtain ⟨c, e0, h0⟩ := new_sp a h
  obtain ⟨o, x, c1, e1, ho, hx, h1⟩ := draw17_sp c h0
  obtain ⟨t, c2, e2, m2, h2⟩ := pickInt_sp c1 [2000, 2100, 999000, -1, 9223372036854775807] h1 (by simp)
  obtain ⟨s, c3, e3, hs, h3⟩ := drawSamples_sp c2 h2
  obtain ⟨n, c4, e4, m4, h4⟩ := pickInt_sp c3 [0, 1, 3, 60, 99, -1] h3 (by simp)
  simp only [spec_DrawSettle, e0, e1, e2, e3, e4, bind_some']
  refine ⟨_, _, _, _, _, rfl, ho, hx, ?_, hs, shI_mem m4 (by decide)⟩
  simp only [List.mem_cons, List.not_mem_nil, or_false] at m2
  unfold okI; omega
/-- what a step makes of a scale -/
theorem step_facts (o : Order) (sc : Scale) (t : Int) (s : List Sample) (ho : Order.sm o) (hs : Scale.sm sc) (hr : okL Rec.ok sc.Recs) (hss : smL Sample.sm s) :
    ∃ x, spec_Step o sc t s = some x ∧ impl_Step o sc t s = some x ∧ x.1.Name = sc.Name ∧ x.1.Now = x.2 ∧ x.1.Recs.length ≤ 1048576 ∧
      (¬ Good o sc t s → x = (sc, sc.Now)) ∧
      (Good o sc t s → o.Low ≤ x.2 ∧ x.2 ≤ o.High ∧ impl_ScaleOk x.1 = some true ∧ (o.Low ≤ sc.Now → sc.Now ≤ o.High → (o.Pace.Up ≠ 0 → x.2 ≤ sc.Now + o.Pace.Up) ∧ (o.Pace.Down ≠ 0 → sc.Now - o.Pace.Down ≤ x.2))) := by
  by_cases hg : Good o sc t s
  · obtain ⟨v, b, b1, b2, b3⟩ := step_good o sc t s ho hs hr hss hg
    obtain ⟨p2, q2, hn, u2, t0, t1, hlast⟩ := hg
    obtain ⟨o1, o2, o3, _, _, _, _, op, _⟩ := orderOk_true o ho p2
    obtain ⟨a0, a1, d0, d1, _, _, _, _⟩ := paceOk_true o.Pace op
    obtain ⟨s3, s0, s1, s2⟩ := scaleOk_true sc hs q2
    have hg : Good o sc t s := ⟨p2, q2, hn, u2, t0, t1, hlast⟩
    have hl : sc.Recs.length ≤ 1048576 := hs.2.1
    cases b
    · obtain ⟨e1, e2⟩ := b2 rfl
      have hc := clampV_in (a := sc.Now) o2
      refine ⟨_, e1, e2, rfl, rfl, hl, fun h => absurd hg h, fun _ => ⟨hc.1, hc.2, scaleOk_mk _ _ _ s3 (by omega) (by omega) s2, fun g1 g2 => ?_⟩⟩
      rw [show (clampV sc.Now o.Low o.High) = sc.Now from clampV_id g1 g2]
      exact ⟨fun _ => by show sc.Now ≤ _; omega, fun _ => by show _ ≤ sc.Now; omega⟩
    · obtain ⟨m, st, m1, st1, e1, e2⟩ := b3 rfl
      have hc := clampV_in (a := slowV o.Pace sc.Now st) o2
      obtain ⟨m', _, m2, m3, m4⟩ := recAdd_room sc.Recs t (clampV v o.Low o.High) hl
      obtain rfl := Option.some.inj (m1.symm.trans m2)
      have hm : impl_RecsOk m = some true := by
        rcases m4 with rfl | ⟨h, _⟩
        · exact s2
        · exact h
      have hml := recsOk_len sc.Recs hl s2
      refine ⟨_, e1, e2, rfl, rfl, by show m.length ≤ 1048576; omega, fun h => absurd hg h, fun _ => ⟨hc.1, hc.2, scaleOk_mk _ _ _ s3 (by omega) (by omega) hm, fun g1 g2 => ?_⟩⟩
      show (o.Pace.Up ≠ 0 → clampV (slowV o.Pace sc.Now st) o.Low o.High ≤ _) ∧ (o.Pace.Down ≠ 0 → _ ≤ clampV (slowV o.Pace sc.Now st) o.Low o.High)
      have h1 : o.Pace.Up ≠ 0 → slowV o.Pace sc.Now st ≤ sc.Now + o.Pace.Up := by
        intro g; unfold slowV
        by_cases c1 : st - sc.Now > o.Pace.Up
        · rw [if_pos ⟨g, c1⟩]; omega
        · rw [if_neg (by omega)]
          split <;> omega
      have h2 : o.Pace.Down ≠ 0 → sc.Now - o.Pace.Down ≤ slowV o.Pace sc.Now st := by
        intro g; unfold slowV
        split
        · omega
        · by_cases c1 : sc.Now - st > o.Pace.Down
          · rw [if_pos ⟨g, c1⟩]; omega
          · rw [if_neg (by omega)]; omega
      generalize slowV o.Pace sc.Now st = z at *
      unfold clampV
      constructor
      · intro g; have := h1 g; split
        · omega
        · split <;> omega
      · intro g; have := h2 g; split
        · omega
        · split <;> omega
  · obtain ⟨e1, e2⟩ := step_bad o sc t s ho hs hss hg
    exact ⟨_, e1, e2, rfl, rfl, hs.2.1, fun _ => rfl, fun h => absurd h hg⟩
theorem sameRecs_self (a : List Rec) (h : a.length ≤ 1048576) : laws_sameRecs a a = some true := by
  obtain ⟨r, r1, r2⟩ := sameRecs_some a a h
  rw [r1, r2.2 rfl]
theorem slt_irrefl (a : Str) : slt a a = false := by
  unfold slt
  induction a with
  | nil => rfl
  | cons x l ih => simp [Op.bytesLess, ih]
theorem slt_trans (a b c : Str) (h1 : slt a b = true) (h2 : slt b c = true) : slt a c = true := by
  unfold slt at *
  induction a generalizing b c with
  | nil =>
    cases b with
    | nil => simp [Op.bytesLess] at h1
    | cons y m =>
      cases c with
      | nil => simp [Op.bytesLess] at h2
      | cons z n => rfl
  | cons x l ih =>
    cases b with
    | nil => simp [Op.bytesLess] at h1
    | cons y m =>
      cases c with
      | nil => simp [Op.bytesLess] at h2
      | cons z n =>
        simp only [Op.bytesLess, Bool.or_eq_true, decide_eq_true_eq, Bool.and_eq_true, beq_iff_eq] at *
        rcases h1 with h1 | ⟨rfl, h1⟩
        · rcases h2 with h2 | ⟨rfl, h2⟩
          · left; rw [UInt8.lt_iff_toNat_lt] at *; omega
          · left; exact h1
        · rcases h2 with h2 | ⟨rfl, h2⟩
          · left; exact h2
          · right; exact ⟨rfl, ih _ _ h1 h2⟩
/-- the names of a right order's metrics grow -/
theorem metrics_up (o : Order) (h : smL Metric.sm o.Metrics) (hok : impl_OrderOk.l0 o 0 = some (.inr ())) : (∀ i (hi : i < o.Metrics.length), impl_MetricOk o.Metrics[i] = some true) ∧ ∀ i j (hi : i < j) (hj : j < o.Metrics.length), o.Metrics[i].Name ≠ o.Metrics[j].Name := by
  have hl : o.Metrics.length ≤ 1048576 := h.1
  have key : ∀ i, i ≤ o.Metrics.length → impl_OrderOk.l0 o i = some (.inr ()) → ∀ k, i ≤ k → ∀ hk : k < o.Metrics.length, impl_MetricOk o.Metrics[k] = some true ∧ ∀ h0 : 0 < k, slt (o.Metrics[k-1]'(by omega)).Name o.Metrics[k].Name = true := by
    refine down _ fun i hi ih hok k hik hk => ?_
    have hlt : i < o.Metrics.length := by omega
    rw [impl_OrderOk.l0] at hok
    have c : decide ((i : Int) < (o.Metrics.length : Int)) = true := by simpa using hlt
    obtain ⟨p, p1, p2⟩ := metricOk_same o.Metrics[i] (h.2 _ (List.getElem_mem hlt))
    simp only [c, if_true, ix_nat, List.getElem?_eq_getElem hlt, bind_some', p2, w64_succ (show i < 9223372036854775807 by omega)] at hok
    cases p
    · simp at hok
    simp only [Bool.not_true, Bool.false_eq_true, if_false] at hok
    by_cases h0 : i = 0
    · subst h0
      simp only [Int.natCast_zero, Int.lt_irrefl, gt_iff_lt, decide_false, Bool.false_eq_true, if_false] at hok
      by_cases hk0 : k = 0
      · subst hk0; exact ⟨p2, fun h => by omega⟩
      · exact ih hlt hok k (by omega) hk
    · have e : IntKind.i64.wrap ((i : Int) - 1) = ((i - 1 : Nat) : Int) := by rw [w64_id (by omega) (by omega)]; omega
      have c2 : decide ((i : Int) > 0) = true := decide_eq_true (by omega)
      simp only [c2, if_true, e, ix_nat, List.getElem?_eq_getElem (show i - 1 < o.Metrics.length by omega), bind_some'] at hok
      by_cases hs : slt (o.Metrics[i-1]'(by omega)).Name o.Metrics[i].Name = true
      · rw [if_neg (by simp [hs])] at hok
        by_cases hki : k = i
        · subst hki; exact ⟨p2, fun _ => hs⟩
        · exact ih hlt hok k (by omega) hk
      · rw [if_pos (by simpa using hs)] at hok; simp at hok
  have k0 := key 0 (by omega) (by simpa using hok)
  refine ⟨fun i hi => (k0 i (by omega) hi).1, fun i j hi hj he => ?_⟩
  have up : ∀ d i, (h : i + 1 + d < o.Metrics.length) → slt (o.Metrics[i]'(by omega)).Name o.Metrics[i + 1 + d].Name = true := by
    intro d
    induction d with
    | zero => intro i h; exact (k0 (i + 1) (by omega) h).2 (by omega)
    | succ d ih => intro i h; exact slt_trans _ _ _ (ih i (by omega)) ((k0 (i + 1 + (d + 1)) (by omega) h).2 (by omega))
  obtain ⟨d, rfl⟩ : ∃ d, j = i + 1 + d := ⟨j - i - 1, by omega⟩
  have := up d i hj
  rw [he, slt_irrefl] at this
  simp at this
theorem lately_mem (a : List Rec) (t s : Int) (hl : a.length ≤ 1048576) (ha : ∀ r ∈ a, 0 ≤ r.Time ∧ r.Time ≤ 1000000) (t0 : 0 ≤ t) (t1 : t ≤ 1000000) (s0 : 0 ≤ s) : ∃ m, spec_Lately a t s = some m ∧ m.length ≤ a.length ∧ ∀ x ∈ m, ∃ r ∈ a, r.N = x ∧ t - r.Time ≤ s := by
  have key : ∀ i, i ≤ a.length → ∀ out : List Int, out.length ≤ i → (∀ x ∈ out, ∃ r ∈ a, r.N = x ∧ t - r.Time ≤ s) → ∃ m, spec_Lately.l0 a t s i out = some m ∧ m.length ≤ a.length ∧ ∀ x ∈ m, ∃ r ∈ a, r.N = x ∧ t - r.Time ≤ s := by
    refine down _ fun i hi ih out ho hx => ?_
    rw [spec_Lately.l0]
    by_cases hlt : i < a.length
    · have c : decide ((i : Int) < (a.length : Int)) = true := by simpa using hlt
      have hr := ha _ (List.getElem_mem hlt)
      have w : IntKind.i64.wrap (t - a[i].Time) = t - a[i].Time := w64_id (by omega) (by omega)
      have more : t - a[i].Time ≤ s → ∀ x ∈ out ++ [a[i].N], ∃ r ∈ a, r.N = x ∧ t - r.Time ≤ s := by
        intro h x hx'
        rcases List.mem_append.1 hx' with h' | h'
        · exact hx x h'
        · rw [List.mem_singleton.1 h']; exact ⟨_, List.getElem_mem hlt, rfl, h⟩
      simp only [c, if_true, ix_nat, List.getElem?_eq_getElem hlt, bind_some', w64_succ (show i < 9223372036854775807 by omega), app_ok (b := 8) (l := out) (m := [a[i].N]) (by simp; omega), w]
      by_cases h1 : a[i].Time ≤ t
      · rw [if_pos (by simpa using h1)]
        by_cases h2 : a[i].Time ≥ t
        · rw [if_pos (by simpa using h2)]
          exact ih hlt _ (by simp; omega) (more (by omega))
        · rw [if_neg (by simpa using h2)]
          by_cases h3 : t - a[i].Time ≥ 0
          · rw [if_pos (by simpa using h3)]
            by_cases h4 : t - a[i].Time ≤ s
            · rw [if_pos (by simpa using h4)]
              exact ih hlt _ (by simp; omega) (more h4)
            · rw [if_neg (by simpa using h4)]; exact ih hlt _ (by omega) hx
          · omega
      · rw [if_neg (by simpa using h1)]; exact ih hlt _ (by omega) hx
    · rw [if_neg (by simpa using hlt)]
      exact ⟨_, rfl, by omega, hx⟩
  obtain ⟨m, e, h1, h2⟩ := key 0 (by omega) [] (by simp) (by simp)
  simp only [Int.natCast_zero] at e
  simp only [spec_Lately, e, bind_some']
  exact ⟨_, rfl, h1, h2⟩
theorem steady_const (p : Pace) (a : List Rec) (t now n : Int) (hl : a.length ≤ 1048576) (ha : ∀ r ∈ a, 0 ≤ r.Time ∧ r.Time ≤ 1000000) (t0 : 0 ≤ t) (t1 : t ≤ 1000000) (s0 : 0 ≤ p.UpSpan) (s1 : p.UpSpan ≤ 3600) (d0 : 0 ≤ p.DownSpan) (d1 : p.DownSpan ≤ 3600)
    (h : ∀ r ∈ a, t - r.Time ≤ 3600 → r.N = n) : spec_Steady p a t now n = some n := by
  obtain ⟨m, m1, m2, m3⟩ := lately_mem a t p.DownSpan hl ha t0 t1 d0
  obtain ⟨k, k1, k2, k3⟩ := lately_mem a t p.UpSpan hl ha t0 t1 s0
  have up : ∀ (m : List Int), m.length ≤ 1048576 → (∀ x ∈ m, x = n) → ∀ i, i ≤ m.length → spec_Steady.l0 m n i = some n := by
    intro m hm hx
    refine down _ fun i hi ih => ?_
    rw [spec_Steady.l0]
    by_cases hlt : i < m.length
    · have c : decide ((i : Int) < (m.length : Int)) = true := by simpa using hlt
      have e := hx _ (List.getElem_mem hlt)
      simp only [c, if_true, ix_nat, List.getElem?_eq_getElem hlt, bind_some', w64_succ (show i < 9223372036854775807 by omega), e, max_some, Int.lt_irrefl, gt_iff_lt, if_false, ih hlt]
    · rw [if_neg (by simpa using hlt)]
  have dn : ∀ (m : List Int), m.length ≤ 1048576 → (∀ x ∈ m, x = n) → ∀ i, i ≤ m.length → spec_Steady.l1 m n i = some n := by
    intro m hm hx
    refine down _ fun i hi ih => ?_
    rw [spec_Steady.l1]
    by_cases hlt : i < m.length
    · have c : decide ((i : Int) < (m.length : Int)) = true := by simpa using hlt
      have e := hx _ (List.getElem_mem hlt)
      simp only [c, if_true, ix_nat, List.getElem?_eq_getElem hlt, bind_some', w64_succ (show i < 9223372036854775807 by omega), e, spec_l1Min, Int.lt_irrefl, decide_false, Bool.false_eq_true, if_false, ih hlt]
    · rw [if_neg (by simpa using hlt)]
  have e1 := up m (by omega) (fun x hx => by obtain ⟨r, r1, r2, r3⟩ := m3 x hx; rw [← r2]; exact h r r1 (by omega)) 0 (by omega)
  have e2 := dn k (by omega) (fun x hx => by obtain ⟨r, r1, r2, r3⟩ := k3 x hx; rw [← r2]; exact h r r1 (by omega)) 0 (by omega)
  simp only [Int.natCast_zero] at e1 e2
  simp only [spec_Steady, m1, k1, e1, e2, bind_some', spec_l1Min, max_some]
  by_cases h1 : n < now
  · simp [h1]
  · by_cases h2 : n > now
    · have : ¬ (now > n) := by omega
      simp [h1, h2, this]
    · simp [h1, h2]
/-- a right list's times -/
theorem recs_up (a : List Rec) (hl : a.length ≤ 1048576) (h : impl_RecsOk a = some true) : (∀ r ∈ a, 0 ≤ r.Time ∧ r.Time ≤ 1000000 ∧ 0 ≤ r.N ∧ r.N ≤ 1000) ∧ ∀ r ∈ a, ∀ z, a[a.length - 1]? = some z → r.Time ≤ z.Time := by
  have key : ∀ i, i ≤ a.length → impl_RecsOk.l0 a i = some (.inr ()) → ∀ k, i ≤ k → ∀ hk : k < a.length, (0 ≤ a[k].Time ∧ a[k].Time ≤ 1000000 ∧ 0 ≤ a[k].N ∧ a[k].N ≤ 1000) ∧ ∀ h0 : 0 < k, (a[k-1]'(by omega)).Time ≤ a[k].Time := by
    refine down _ fun i hi ih hok k hik hk => ?_
    have hlt : i < a.length := by omega
    rw [impl_RecsOk.l0] at hok
    have c : decide ((i : Int) < (a.length : Int)) = true := by simpa using hlt
    simp only [c, if_true, ix_nat, List.getElem?_eq_getElem hlt, bind_some', impl_isTime, impl_isMany, from_some, w64_succ (show i < 9223372036854775807 by omega)] at hok
    by_cases g1 : 0 ≤ a[i].Time ∧ a[i].Time ≤ 1000000
    · rw [if_neg (by simp; omega)] at hok
      by_cases g2 : 0 ≤ a[i].N ∧ a[i].N ≤ 1000
      · rw [if_neg (by simp; omega)] at hok
        by_cases h0 : i = 0
        · subst h0
          simp only [Int.natCast_zero, Int.lt_irrefl, gt_iff_lt, decide_false, Bool.false_eq_true, if_false] at hok
          by_cases hk0 : k = 0
          · subst hk0; exact ⟨⟨g1.1, g1.2, g2.1, g2.2⟩, fun h => by omega⟩
          · exact ih hlt hok k (by omega) hk
        · have e : IntKind.i64.wrap ((i : Int) - 1) = ((i - 1 : Nat) : Int) := by rw [w64_id (by omega) (by omega)]; omega
          have c2 : decide ((i : Int) > 0) = true := decide_eq_true (by omega)
          simp only [c2, if_true, e, ix_nat, List.getElem?_eq_getElem (show i - 1 < a.length by omega), bind_some'] at hok
          by_cases hs : (a[i-1]'(by omega)).Time > a[i].Time
          · rw [if_pos (by simpa using hs)] at hok; simp at hok
          · rw [if_neg (by simpa using hs)] at hok
            by_cases hki : k = i
            · subst hki; exact ⟨⟨g1.1, g1.2, g2.1, g2.2⟩, fun _ => by omega⟩
            · exact ih hlt hok k (by omega) hk
      · rw [if_pos (by simp; omega)] at hok; simp at hok
    · rw [if_pos (by simp; omega)] at hok; simp at hok
  have hok : impl_RecsOk.l0 a 0 = some (.inr ()) := by
    obtain ⟨b, b1, b2⟩ := recsOk_same a hl
    have fl : ∀ r, impl_RecsOk.l0 a 0 = some (.inl r) → r = false := by
      have key : ∀ i, i ≤ a.length → ∀ r, impl_RecsOk.l0 a i = some (.inl r) → r = false := by
        refine down _ fun i hi ih r => ?_
        rw [impl_RecsOk.l0]
        by_cases hlt : i < a.length
        · have c : decide ((i : Int) < (a.length : Int)) = true := by simpa using hlt
          simp only [impl_isTime, impl_isMany, from_some, c, if_true, ix_nat, List.getElem?_eq_getElem hlt, bind_some', w64_succ (show i < 9223372036854775807 by omega)]
          intro h
          split at h
          · simp at h; exact h
          split at h
          · simp at h; exact h
          split at h
          · rename_i hc
            have h0 : 0 < i := by simp at hc; omega
            have e : IntKind.i64.wrap ((i : Int) - 1) = ((i - 1 : Nat) : Int) := by rw [w64_id (by omega) (by omega)]; omega
            rw [e, ix_nat, List.getElem?_eq_getElem (show i - 1 < a.length by omega), bind_some'] at h
            split at h
            · simp at h; exact h
            · exact ih hlt r h
          · exact ih hlt r h
        · rw [if_neg (by simpa using hlt)]; intro h; simp at h
      intro r hr
      exact key 0 (by omega) r (by simpa using hr)
    simp only [impl_RecsOk] at h
    cases h0 : impl_RecsOk.l0 a 0 with
    | none => rw [h0] at h; simp at h
    | some r =>
      rw [h0] at h
      simp only [bind_some'] at h
      cases r with
      | inl b => have := fl b h0; subst this; simp at h
      | inr u => rfl
  have k0 := key 0 (by omega) (by simpa using hok)
  refine ⟨fun r hr => ?_, fun r hr z hz => ?_⟩
  · obtain ⟨i, hi, rfl⟩ := List.getElem_of_mem hr
    exact (k0 i (by omega) hi).1
  · obtain ⟨i, hi, rfl⟩ := List.getElem_of_mem hr
    have up : ∀ d, (h : i + d < a.length) → a[i].Time ≤ a[i + d].Time := by
      intro d
      induction d with
      | zero => intro h; exact Int.le_refl _
      | succ d ih => intro h; exact Int.le_trans (ih (by omega)) ((k0 (i + (d + 1)) (by omega) h).2 (by omega))
    rw [List.getElem?_eq_getElem (by omega)] at hz
    obtain rfl := Option.some.inj hz
    have := up (a.length - 1 - i) (by omega)
    have e : i + (a.length - 1 - i) = a.length - 1 := by omega
    simp only [e] at this
    exact this
theorem recAdd_ok (a m : List Rec) (t n : Int) (hl : a.length ≤ 1048576) (h : impl_RecAdd a t n = some m) : (m.length ≤ a.length + 1) ∧ (∀ r ∈ m, r ∈ a ∨ r = ⟨t, n⟩) ∧ (m = a ∨ (impl_RecsOk m = some true ∧ m[m.length - 1]? = some ⟨t, n⟩)) := by
  obtain ⟨m', m1, m2, m3, m4⟩ := recAdd_room a t n hl
  obtain rfl := Option.some.inj (m2.symm.trans h)
  refine ⟨m3, fun r hr => ?_, ?_⟩
  · rcases m4 with rfl | ⟨_, rfl | ⟨rfl, _⟩, _⟩
    · exact .inl hr
    · rcases List.mem_append.1 hr with h | h
      · exact .inl h
      · exact .inr (List.mem_singleton.1 h)
    · rcases List.mem_append.1 (List.mem_of_mem_drop hr) with h | h
      · exact .inl h
      · exact .inr (List.mem_singleton.1 h)
  · rcases m4 with rfl | ⟨hm, rfl | ⟨rfl, h12⟩, _⟩
    · exact .inl rfl
    · exact .inr ⟨hm, by simp⟩
    · refine .inr ⟨hm, ?_⟩
      have hll : 12 ≤ a.length := by simp at h12; omega
      rw [List.getElem?_drop, List.length_drop, List.length_append, List.length_singleton]
      have : 1 + (a.length + 1 - 1 - 1) = a.length := by omega
      rw [this]; simp
/-- a step keeps a scale's form -/
theorem step_keeps (o : Order) (sc : Scale) (t : Int) (s : List Sample) (ho : Order.sm o) (hs : Scale.sm sc) (hr : okL Rec.ok sc.Recs) (hss : smL Sample.sm s) (hl : sc.Recs.length ≤ 1000) : ∃ x, spec_Step o sc t s = some x ∧ impl_Step o sc t s = some x ∧ Scale.sm x.1 ∧ okL Rec.ok x.1.Recs ∧ x.1.Recs.length ≤ sc.Recs.length + 1 := by
  by_cases hg : Good o sc t s
  · obtain ⟨v, b, b1, b2, b3⟩ := step_good o sc t s ho hs hr hss hg
    obtain ⟨o1, o2, o3, _⟩ := orderOk_true o ho hg.1
    have hc := clampV_in (a := v) o2
    cases b
    · obtain ⟨e1, e2⟩ := b2 rfl
      exact ⟨_, e1, e2, ⟨hs.1, hs.2⟩, hr, by show sc.Recs.length ≤ _; omega⟩
    · obtain ⟨m, st, m1, st1, e1, e2⟩ := b3 rfl
      obtain ⟨k1, k2, _⟩ := recAdd_ok _ _ _ _ hs.2.1 m1
      refine ⟨_, e1, e2, ⟨hs.1, by show m.length ≤ _; omega, fun _ _ => trivial⟩, ⟨by show m.length ≤ _; omega, fun r h => ?_⟩, k1⟩
      rcases k2 r h with h | rfl
      · exact hr.2 r h
      · exact ⟨okI_of (by have := hg.2.2.2.2.1; show _ ≤ t; omega) (by have := hg.2.2.2.2.2.1; show t ≤ _; omega), okI_of (by show _ ≤ clampV v o.Low o.High; omega) (by show clampV v o.Low o.High ≤ _; omega)⟩
  · obtain ⟨e1, e2⟩ := step_bad o sc t s ho hs hss hg
    exact ⟨_, e1, e2, hs, hr, by show sc.Recs.length ≤ _; omega⟩
theorem min60 (n : Int) : spec_l1Min n 60 = some (if n < 60 then n else 60) := by
  simp only [spec_l1Min]; by_cases h : n < 60 <;> simp [h]
theorem settle_same (o : Order) (sc : Scale) (t : Int) (s : List Sample) (n : Int) (ho : Order.sm o) (hs : Scale.sm sc) (hr : okL Rec.ok sc.Recs) (hss : smL Sample.sm s) (hl : sc.Recs.length ≤ 900) : ∃ x, spec_Settle o sc t s n = some x ∧ impl_Settle o sc t s n = some x ∧ Scale.sm x := by
  have key : ∀ k i : Nat, i + k = 60 → ∀ (t : Int) (sc : Scale), Scale.sm sc → okL Rec.ok sc.Recs → sc.Recs.length ≤ 900 + i → ∃ a b c, spec_Settle.l0 o s n t i sc.Name sc.Now sc.Recs = some (a, b, c) ∧ impl_Settle.l0 o s n t i sc.Name sc.Now sc.Recs = some (a, b, c) ∧ smS a ∧ c.length ≤ 1048576 := by
    intro k
    induction k with
    | zero =>
      intro i hi t sc hs hr hl
      rw [spec_Settle.l0, impl_Settle.l0]
      have g : ¬ ((i : Int) < 60) := by omega
      have g2 : ¬ ((i : Int) < (if n < 60 then n else 60)) := by split <;> omega
      simp only [min60, bind_some', g, g2, decide_false, Bool.false_eq_true, if_false]
      refine ⟨_, _, _, rfl, ?_, hs.1, hs.2.1⟩
      split <;> rfl
    | succ k ih =>
      intro i hi t sc hs hr hl
      rw [spec_Settle.l0, impl_Settle.l0]
      have es : Scale.mk sc.Name sc.Now sc.Recs = sc := rfl
      have g : ((i : Int) < 60) := by omega
      by_cases g1 : (i : Int) < n
      · have g2 : (i : Int) < (if n < 60 then n else 60) := by split <;> omega
        simp only [min60, bind_some', g, g1, g2, decide_true, if_true, in_some, from_some, es]
        by_cases ht : 0 ≤ t ∧ t ≤ 1000000
        · obtain ⟨x, x1, x2, x3, x4, x5⟩ := step_keeps o sc t s ho hs hr hss (by omega)
          rw [if_pos (by simp; omega), if_pos (by simp; omega), x1, x2]
          simp only [bind_some', w64_succ (show i < 9223372036854775807 by omega)]
          exact ih (i + 1) (by omega) _ x.1 x3 x4 (by omega)
        · rw [if_neg (by simp; omega), if_neg (by simp; omega)]
          exact ⟨_, _, _, rfl, rfl, hs.1, hs.2.1⟩
      · have g2 : ¬ ((i : Int) < (if n < 60 then n else 60)) := by split <;> omega
        simp only [min60, bind_some', g1, g2, decide_false, Bool.false_eq_true, if_false]
        exact ⟨_, _, _, rfl, rfl, hs.1, hs.2.1⟩
  obtain ⟨c1, c2⟩ := copy_some sc hs.2.1
  obtain ⟨a, b, c, e1, e2, e3, e4⟩ := key 60 0 rfl t sc hs hr (by omega)
  simp only [Int.natCast_zero] at e1 e2
  simp only [spec_Settle, impl_Settle, c1, c2, e1, e2, bind_some']
  exact ⟨_, rfl, rfl, e3, e4, fun _ _ => trivial⟩
theorem metricOk_name (m : Metric) (hs : Metric.sm m) (h : impl_MetricOk m = some true) : impl_NameOk m.Name = some true := by
  obtain ⟨n, n1, n2⟩ := nameOk_same m.Name hs
  simp only [impl_MetricOk, n2, bind_some'] at h
  cases n
  · simp at h
  · exact n2
theorem samplesOk_one (x : Sample) (h : impl_NameOk x.Name = some true) (h0 : 0 ≤ x.Value) (h1 : x.Value ≤ 1000000) : impl_SamplesOk [x] = some true := by
  have e1 : impl_SamplesOk.l0 [x] 1 = some (.inr ()) := by rw [impl_SamplesOk.l0]; rfl
  have e0 : impl_SamplesOk.l0 [x] 0 = some (.inr ()) := by
    rw [impl_SamplesOk.l0]
    have g : ix [x] 0 = some x := rfl
    have w : IntKind.i64.wrap (0 + 1) = 1 := by decide
    simp only [g, bind_some', h, impl_isValue, from_some, List.length_singleton, w, e1]
    rw [if_pos (by simp), if_neg (by decide), if_neg (by simp; omega), if_neg (by decide)]
  simp only [impl_SamplesOk, e0, bind_some']; rfl
theorem sampleOf_one (x : Sample) : impl_SampleOf [x] x.Name = some (x.Value, true) := by
  have e0 : impl_SampleOf.l0 [x] x.Name 0 = some (.inl (x.Value, true)) := by
    rw [impl_SampleOf.l0]
    have g : ix [x] 0 = some x := rfl
    simp only [g, bind_some', beq_self_eq_true, if_true, List.length_singleton]; rfl
  simp only [impl_SampleOf, e0, bind_some']
/-- one metric of so many to a sample, its sample always the same, and no bound on the pace -/
structure One (o : Order) (s : List Sample) (g v : Int) : Prop where
  ho : Order.sm o
  hok : impl_OrderOk o = some true
  hm : o.Metrics = [⟨[99, 112, 117], 3, g⟩]
  hs : s = [⟨[99, 112, 117], v⟩]
  up : o.Pace.Up = 0
  dn : o.Pace.Down = 0
  v0 : 0 ≤ v
  v1 : v ≤ 1000000
theorem One.metric {o s g v} (h : One o s g v) : impl_MetricOk ⟨[99, 112, 117], 3, g⟩ = some true := by
  obtain ⟨_, _, _, _, om, _⟩ := orderOk_true o h.ho h.hok
  have hl : 0 < o.Metrics.length := by rw [h.hm]; simp
  have := (metrics_up o h.ho.2.2.1 om).1 0 hl
  simpa [h.hm] using this
theorem One.sok {o s g v} (h : One o s g v) : impl_SamplesOk s = some true ∧ smL Sample.sm s := by
  have hms : Metric.sm ⟨[99, 112, 117], 3, g⟩ := by show List.length ([99, 112, 117] : Str) ≤ 1048576; decide
  have hn := metricOk_name _ hms h.metric
  rw [h.hs]
  refine ⟨samplesOk_one _ hn h.v0 h.v1, by simp, fun x hx => ?_⟩
  rw [List.mem_singleton.1 hx]; show List.length ([99, 112, 117] : Str) ≤ 1048576; decide
theorem ceilV_nonneg {a b : Int} (ha : 0 ≤ a) (hb : 1 ≤ b) : 0 ≤ ceilV a b := by
  unfold ceilV; exact Int.ediv_nonneg (by omega) (by omega)
theorem One.byAll {o s g v} (h : One o s g v) (now : Int) (n0 : 0 ≤ now) (n1 : now ≤ 1000) : impl_ByAll o now s = some (ceilV v g, true) := by
  have hmo := h.metric
  obtain ⟨_, _, g0, g1⟩ := metricOk_goal _ hmo
  simp only at g0 g1
  have e1 : ∀ m b, impl_ByAll.l0 o now s m b 1 = some (m, b) := by
    intro m b; rw [impl_ByAll.l0, h.hm]; rfl
  have hb := byOne_some _ now v hmo n0 n1 h.v0 h.v1
  have hb' : byV ⟨[99, 112, 117], 3, g⟩ now v = ceilV v g := by unfold byV; rw [if_pos rfl]
  have e0 : impl_ByAll.l0 o now s 0 false 0 = some (ceilV v g, true) := by
    rw [impl_ByAll.l0, h.hm]
    have q : ix [Metric.mk [99, 112, 117] 3 g] 0 = some (Metric.mk [99, 112, 117] 3 g) := rfl
    have w : IntKind.i64.wrap (0 + 1) = 1 := by decide
    have so : impl_SampleOf s [99, 112, 117] = some (v, true) := by rw [h.hs]; exact sampleOf_one ⟨[99, 112, 117], v⟩
    simp only [q, bind_some', so, hb, hb', w, e1, if_true, List.length_singleton]
    rw [if_pos (by simp)]
    have := ceilV_nonneg h.v0 g0
    by_cases hz : ceilV v g > 0
    · rw [if_pos hz]
    · rw [if_neg hz]; have : ceilV v g = 0 := by omega
      rw [this]
  simp only [impl_ByAll, h.hok, h.sok.1, e0, bind_some', Bool.not_true, Bool.false_eq_true, if_false]
theorem One.step {o s g v} (h : One o s g v) (sc : Scale) (T : Int) (hs : Scale.sm sc) (hr : okL Rec.ok sc.Recs) (hq : impl_ScaleOk sc = some true) (hn : sc.Name = o.Name) (t0 : 0 ≤ T) (t1 : T ≤ 1000000) (hz : ∀ z, sc.Recs[sc.Recs.length - 1]? = some z → z.Time ≤ T) :
    ∃ x, impl_Step o sc T s = some x ∧ x.1.Name = sc.Name ∧ x.1.Now = x.2 ∧ Scale.sm x.1 ∧ okL Rec.ok x.1.Recs ∧ impl_ScaleOk x.1 = some true ∧ (∀ r ∈ x.1.Recs, r ∈ sc.Recs ∨ r = ⟨T, clampV (ceilV v g) o.Low o.High⟩) ∧ (∀ z, x.1.Recs[x.1.Recs.length - 1]? = some z → z.Time ≤ T) ∧ ((sc.Now = clampV (ceilV v g) o.Low o.High ∨ ∀ r ∈ sc.Recs, T - r.Time ≤ 3600 → r.N = clampV (ceilV v g) o.Low o.High) → x.2 = clampV (ceilV v g) o.Low o.High) := by
  have hg : Good o sc T s := ⟨h.hok, hq, hn, h.sok.1, t0, t1, hz⟩
  obtain ⟨s3, s0, s1, s2⟩ := scaleOk_true sc hs hq
  have hml := recsOk_len sc.Recs hs.2.1 s2
  obtain ⟨x, x1, x2, x3, x4, x5, _, x7⟩ := step_facts o sc T s h.ho hs hr h.sok.2
  obtain ⟨y, y1, y2, y3, y4, y5⟩ := step_keeps o sc T s h.ho hs hr h.sok.2 (by omega)
  obtain rfl := Option.some.inj (x2.symm.trans y2)
  obtain ⟨_, _, z3, _⟩ := x7 hg
  obtain ⟨w, b, b1, _, b3⟩ := step_good o sc T s h.ho hs hr h.sok.2 hg
  have := b1.symm.trans (h.byAll sc.Now s0 s1)
  simp at this
  obtain ⟨rfl, rfl⟩ := this
  obtain ⟨m, st, m1, st1, _, e2⟩ := b3 rfl
  obtain rfl := Option.some.inj (x2.symm.trans e2)
  obtain ⟨k1, k2, k3⟩ := recAdd_ok _ _ _ _ hs.2.1 m1
  refine ⟨_, x2, x3, x4, y3, y4, z3, k2, fun z hz' => ?_, fun hw => ?_⟩
  · rcases k3 with rfl | ⟨_, k3⟩
    · exact hz z hz'
    · rw [k3] at hz'; obtain rfl := Option.some.inj hz'; exact Int.le_refl _
  · obtain ⟨o1, o2, o3, _, _, _, _, op, _⟩ := orderOk_true o h.ho h.hok
    obtain ⟨_, _, _, _, p1, p2, p3, p4⟩ := paceOk_true o.Pace op
    have hc := clampV_in (a := ceilV v g) o2
    have hpo : Pace.ok o.Pace := ⟨okI_of (by rw [h.up]; omega) (by rw [h.up]; omega), okI_of (by rw [h.dn]; omega) (by rw [h.dn]; omega), okI_of (by omega) (by omega), okI_of (by omega) (by omega)⟩
    have hst : st = clampV (ceilV v g) o.Low o.High := by
      obtain ⟨st', q1, q2, _, _, q5⟩ := steady_sp o.Pace sc.Recs T sc.Now (clampV (ceilV v g) o.Low o.High) hpo hr hs.2.1 (okI_of (by omega) (by omega))
      obtain rfl := Option.some.inj (q2.symm.trans st1)
      rcases hw with hw | hw
      · exact q5 hw.symm
      · have ru := (recs_up sc.Recs hs.2.1 s2).1
        have := steady_const o.Pace sc.Recs T sc.Now _ hs.2.1 (fun r hr => ⟨(ru r hr).1, (ru r hr).2.1⟩) t0 t1 p1 p2 p3 p4 hw
        exact Option.some.inj (q1.symm.trans this)
    subst hst
    have hsl : slowV o.Pace sc.Now (clampV (ceilV v g) o.Low o.High) = clampV (ceilV v g) o.Low o.High := by
      unfold slowV
      rw [if_neg (by rw [h.up]; omega), if_neg (by rw [h.dn]; omega)]
    show clampV (slowV o.Pace sc.Now (clampV (ceilV v g) o.Low o.High)) o.Low o.High = _
    rw [hsl, clampV_id hc.1 hc.2]
theorem settle_next (o : Order) (s : List Sample) (n T : Int) (i : Nat) (sc : Scale) (x : Scale × Int) (h : (i : Int) < n) (h2 : (i : Int) < 60) (t0 : 0 ≤ T) (t1 : T ≤ 1000000) (hx : impl_Step o sc T s = some x) : impl_Settle.l0 o s n T i sc.Name sc.Now sc.Recs = impl_Settle.l0 o s n (T + 3600) ((i + 1 : Nat) : Int) x.1.Name x.1.Now x.1.Recs := by
  have es : Scale.mk sc.Name sc.Now sc.Recs = sc := rfl
  rw [impl_Settle.l0, if_pos (by simpa using h), if_pos (by simpa using h2), from_some, bind_some', if_pos (by simp; omega), es, hx, bind_some', w64_id (n := T + 3600) (by omega) (by omega), w64_succ (by omega)]
theorem settle_end (o : Order) (s : List Sample) (n T : Int) (i : Nat) (a : Str) (b : Int) (c : List Rec) (h : ¬ (i : Int) < n) : impl_Settle.l0 o s n T i a b c = some (a, b, c) := by
  rw [impl_Settle.l0, if_neg (by simpa using h)]
/-- three hours, and two more -/
theorem One.five {o s g v} (h : One o s g v) (sc : Scale) (t : Int) (hs : Scale.sm sc) (hr : okL Rec.ok sc.Recs) (hq : impl_ScaleOk sc = some true) (hn : sc.Name = o.Name) (t0 : 0 ≤ t) (t1 : t ≤ 900000) (hz : ∀ z, sc.Recs[sc.Recs.length - 1]? = some z → z.Time ≤ t) :
    ∃ x y, impl_Settle o sc t s 3 = some x ∧ x.Now = clampV (ceilV v g) o.Low o.High ∧ impl_Settle o x (t + 10800) s 2 = some y ∧ y.Now = clampV (ceilV v g) o.Low o.High := by
  have old : ∀ r ∈ sc.Recs, r.Time ≤ t := by
    intro r hr'
    have hl : 0 < sc.Recs.length := List.length_pos_of_mem hr'
    have e : sc.Recs[sc.Recs.length - 1]? = some (sc.Recs[sc.Recs.length - 1]'(by omega)) := List.getElem?_eq_getElem _
    have := (recs_up sc.Recs hs.2.1 (scaleOk_true sc hs hq).2.2.2).2 r hr' _ e
    have := hz _ e
    omega
  obtain ⟨a, a1, a2, a3, a4, a5, a6, a7, a8, _⟩ := h.step sc t hs hr hq hn t0 (by omega) hz
  obtain ⟨b, b1, b2, b3, b4, b5, b6, b7, b8, _⟩ := h.step a.1 (t + 3600) a4 a5 a6 (a2.trans hn) (by omega) (by omega) (fun z hz => by have := a8 z hz; omega)
  obtain ⟨c, c1, c2, c3, c4, c5, c6, c7, c8, c9⟩ := h.step b.1 (t + 3600 + 3600) b4 b5 b6 (b2.trans (a2.trans hn)) (by omega) (by omega) (fun z hz => by have := b8 z hz; omega)
  have hc : c.2 = clampV (ceilV v g) o.Low o.High := c9 (.inr fun r hr ht => by
    rcases b7 r hr with h | rfl
    · rcases a7 r h with h | rfl
      · have := old r h; omega
      · simp only at ht; omega
    · rfl)
  obtain ⟨d, d1, d2, d3, d4, d5, d6, d7, d8, d9⟩ := h.step c.1 (t + 10800) c4 c5 c6 (c2.trans (b2.trans (a2.trans hn))) (by omega) (by omega) (fun z hz => by have := c8 z hz; omega)
  have hd : d.2 = clampV (ceilV v g) o.Low o.High := d9 (.inl (c3.trans hc))
  obtain ⟨e, e1, e2, e3, e4, e5, e6, e7, e8, e9⟩ := h.step d.1 (t + 10800 + 3600) d4 d5 d6 (d2.trans (c2.trans (b2.trans (a2.trans hn)))) (by omega) (by omega) (fun z hz => by have := d8 z hz; omega)
  have he : e.2 = clampV (ceilV v g) o.Low o.High := e9 (.inl (d3.trans hd))
  have k1 : impl_Settle.l0 o s 3 t 0 sc.Name sc.Now sc.Recs = some (c.1.Name, c.1.Now, c.1.Recs) := by
    have := settle_next o s 3 t 0 sc a (by omega) (by omega) t0 (by omega) a1
    simp only [Int.natCast_zero] at this
    rw [this, settle_next o s 3 (t + 3600) 1 a.1 b (by omega) (by omega) (by omega) (by omega) b1, settle_next o s 3 (t + 3600 + 3600) 2 b.1 c (by omega) (by omega) (by omega) (by omega) c1, settle_end _ _ _ _ _ _ _ _ (by omega)]
  have k2 : impl_Settle.l0 o s 2 (t + 10800) 0 c.1.Name c.1.Now c.1.Recs = some (e.1.Name, e.1.Now, e.1.Recs) := by
    have := settle_next o s 2 (t + 10800) 0 c.1 d (by omega) (by omega) (by omega) (by omega) d1
    simp only [Int.natCast_zero] at this
    rw [this, settle_next o s 2 (t + 10800 + 3600) 1 d.1 e (by omega) (by omega) (by omega) (by omega) e1, settle_end _ _ _ _ _ _ _ _ (by omega)]
  refine ⟨c.1, e.1, ?_, c3.trans hc, ?_, e3.trans he⟩
  · simp only [impl_Settle, (copy_some sc hs.2.1).1, bind_some', k1]
  · simp only [impl_Settle, (copy_some c.1 c4.2.1).1, bind_some', k2]
theorem at_sp (a : List Int) (ha : okL okU a) (hl : a.length ≤ 1048576) (i : Nat) (hi : i ≤ 3) : ∃ x, laws_at a i = some x ∧ 0 ≤ x ∧ x ≤ 255 := by
  simp only [laws_at]
  by_cases h : i < a.length
  · rw [if_pos (by simpa using h), ix_nat, List.getElem?_eq_getElem h, bind_some']
    have := ha.2 _ (List.getElem_mem h)
    unfold okU at this
    exact ⟨_, rfl, by rw [w64_id (by omega) (by omega)]; omega, by rw [w64_id (by omega) (by omega)]; omega⟩
  · rw [if_neg (by simpa using h)]
    rw [w64_id (n := (i : Int) * 7) (by omega) (by omega), w64_id (by omega) (by omega)]
    exact ⟨_, rfl, Int.tmod_nonneg _ (by omega), by have := Int.tmod_lt_of_pos ((i : Int) * 7 + a.length) (by omega : (0 : Int) < 256); omega⟩
theorem Pure.FnSettles (a : List Int) (ha : okL okU a) : laws_FnSettles a = some true := by
  unfold laws_FnSettles
  simp only [laws_big, bind_some']
  by_cases hb : decide ((a.length : Int) > 1048576) = true
  · rw [if_pos hb]
  rw [if_neg hb]
  have hl : a.length ≤ 1048576 := by simp at hb; omega
  obtain ⟨o, sc, t, s, n, e1, ho, hsc, ht, hs, hn⟩ := drawSettle_sp a hl
  have eo : Order.mk o.Name o.Target o.Low o.High o.Metrics (Pace.mk o.Pace.Up o.Pace.Down o.Pace.UpSpan o.Pace.DownSpan) o.Notes = o := rfl
  have es : Scale.mk sc.Name sc.Now sc.Recs = sc := rfl
  rw [e1, bind_some']
  dsimp only
  rw [eo, es]
  obtain ⟨x, x1, x2, x3⟩ := settle_same o sc t s n ho.sm hsc.sm hsc.2.2.2 hs.sm (by have := hsc.2.2.1; omega)
  obtain ⟨g, g1, g2, g3⟩ := at_sp a ha hl 1 (by omega)
  obtain ⟨v, v1, v2, v3⟩ := at_sp a ha hl 2 (by omega)
  obtain ⟨w, w1, w2, w3⟩ := at_sp a ha hl 3 (by omega)
  have g1' : laws_at a 1 = some g := g1
  have v1' : laws_at a 2 = some v := v1
  have w1' : laws_at a 3 = some w := w1
  have hvw : 0 ≤ v * w := Int.mul_nonneg v2 w2
  have hvw2 : v * w ≤ 255 * 255 := Int.mul_le_mul v3 w3 w2 (by omega)
  rw [x2, bind_some', x1, bind_some', g1', v1', w1']
  simp only [bne_self_eq_false, beq_self_eq_true, Bool.not_true, Bool.false_eq_true, if_false, sameRecs_self _ x3.2.1, bind_some']
  rw [w64_id (n := 1 + g) (by omega) (by omega), w64_id (n := v * w) (by omega) (by omega)]
  generalize ho' : Order.mk o.Name o.Target o.Low o.High [Metric.mk [99, 112, 117] 3 (1 + g)] (Pace.mk 0 0 o.Pace.UpSpan o.Pace.DownSpan) o.Notes = o'
  generalize hs' : [Sample.mk [99, 112, 117] (v * w)] = s'
  have hsm : Order.sm o' := by
    subst ho'
    obtain ⟨q1, q2, q3, q4⟩ := ho.sm
    refine ⟨q1, q2, ⟨by simp, fun m hm => ?_⟩, q4⟩
    rw [List.mem_singleton.1 hm]; show List.length ([99, 112, 117] : Str) ≤ 1048576; decide
  obtain ⟨p, p1, p2⟩ := orderOk_same o' hsm
  obtain ⟨q, q1, q2⟩ := scaleOk_same sc hsc.sm
  rw [p2, bind_some', q2, bind_some']
  cases p
  · rfl
  simp only [Bool.not_true, Bool.false_eq_true, if_false]
  cases q
  · rfl
  simp only [Bool.not_true, Bool.false_eq_true, if_false]
  by_cases hnn : ¬ sc.Name = o.Name
  · have hn' : (sc.Name == o.Name) = false := by simpa using hnn
    rw [hn']; rfl
  have hn : sc.Name = o.Name := Classical.not_not.1 hnn
  have hn' : (sc.Name == o.Name) = true := by simpa using hn
  rw [hn']
  simp only [Bool.not_true, Bool.false_eq_true, if_false]
  by_cases c1 : t < 0
  · rw [if_pos (by simpa using c1)]
  rw [if_neg (by simpa using c1)]
  by_cases c2 : t > 900000
  · rw [if_pos (by simpa using c2)]
  rw [if_neg (by simpa using c2)]
  have one : One o' s' (1 + g) (v * w) := ⟨hsm, p2, by rw [← ho'], hs'.symm, by rw [← ho'], by rw [← ho'], hvw, by omega⟩
  have hlo : o'.Low = o.Low := by rw [← ho']
  have hhi : o'.High = o.High := by rw [← ho']
  have good : (∀ z, sc.Recs[sc.Recs.length - 1]? = some z → z.Time ≤ t) → (impl_Settle o' sc t s' 3 >>= fun x18 => (impl_Settle o' x18 (IntKind.i64.wrap (t + 10800)) s' 2 >>= fun x19 => (ix ([(Metric.mk [99, 112, 117] 3 (1 + g))] : List Metric) 0 >>= fun x20 => (impl_ByOne x20 0 (v * w) >>= fun x21 => (impl_Clamp x21 o.Low o.High >>= fun x22 => (if (x18.Now == x22) = true then some (x19.Now == x22) else some false)))))) = some true := by
    intro hz
    obtain ⟨y, z, y1, y2, z1, z2⟩ := one.five sc t hsc.sm hsc.2.2.2 q2 (by rw [hn, ← ho']) (by omega) (by omega) hz
    have hmo := one.metric
    have q : ix [Metric.mk [99, 112, 117] 3 (1 + g)] 0 = some (Metric.mk [99, 112, 117] 3 (1 + g)) := rfl
    have hb' : byV ⟨[99, 112, 117], 3, 1 + g⟩ 0 (v * w) = ceilV (v * w) (1 + g) := by unfold byV; rw [if_pos rfl]
    rw [w64_id (n := t + 10800) (by omega) (by omega), y1, bind_some', z1, bind_some', q, bind_some', byOne_some _ 0 (v * w) hmo (by omega) (by omega) hvw (by omega), bind_some', hb', (clamp_some _ _ _).2, bind_some', y2, z2, hlo, hhi]
    simp
  by_cases h0 : sc.Recs.length = 0
  · have g1 : decide ((sc.Recs.length : Int) > 0) = false := decide_eq_false (by omega)
    rw [g1]
    exact good fun z hz => by rw [List.getElem?_eq_none (by omega)] at hz; simp at hz
  · have e : IntKind.i64.wrap ((sc.Recs.length : Int) - 1) = ((sc.Recs.length - 1 : Nat) : Int) := by
      have := hsc.2.2.1
      rw [w64_id (by omega) (by omega)]; omega
    have g1 : decide ((sc.Recs.length : Int) > 0) = true := decide_eq_true (by omega)
    have r1 : sc.Recs[sc.Recs.length - 1]? = some (sc.Recs[sc.Recs.length - 1]'(by omega)) := List.getElem?_eq_getElem _
    rw [if_pos g1, e, ix_nat, r1, bind_some']
    by_cases g2 : (sc.Recs[sc.Recs.length - 1]'(by omega)).Time > t
    · rw [if_pos (by simpa using g2)]
    · rw [if_neg (by simpa using g2)]
      exact good fun z hz => by rw [r1] at hz; obtain rfl := Option.some.inj hz; omega
end Go.Pu
