import Derived.Test.YtgcpppnhhponmaaWorldOkPu
set_option linter.unusedVariables false
set_option linter.unusedSimpArgs false
set_option synthInstance.maxSize 1000000000
namespace Go.Pu
open Go.Nt
theorem w64_id {n : Int} (h0 : -9223372036854775808 ≤ n) (h1 : n ≤ 9223372036854775807) : IntKind.i64.wrap n = n := by
  simp only [IntKind.wrap, IntKind.bits, IntKind.signed, Bool.true_and]
  split
  · rename_i h; simp at h; omega
  · rename_i h; simp at h; omega
theorem w64_succ {i : Nat} (h : i < 9223372036854775807) : IntKind.i64.wrap ((i : Int) + 1) = ((i + 1 : Nat) : Int) := by
  rw [w64_id (by omega) (by omega)]; omega
theorem ix_nat {α : Type} (l : List α) (i : Nat) : ix l (i : Int) = l[i]? := by simp [ix]
theorem put_nat {α : Type} {l : List α} {i : Nat} {x : α} (h : i < l.length) : Nt.put l (i : Int) x = some (l.set i x) := by simp [Nt.put, h]
theorem mk_ok {α : Type} {b n : Nat} {x : α} (h : b * n ≤ 140737488355328) : Nt.mk b (n : Int) x = some (List.replicate n x) := by
  simp only [Nt.mk]; rw [if_pos ⟨by omega, by exact_mod_cast h⟩]; simp
/-- down from the end -/
theorem down {P : Nat → Prop} (n : Nat) (h : ∀ i, i ≤ n → (i < n → P (i + 1)) → P i) : ∀ i, i ≤ n → P i := by
  intro i hi
  obtain ⟨k, hk⟩ : ∃ k, k = n - i := ⟨_, rfl⟩
  induction k generalizing i with
  | zero => exact h i hi fun hlt => by omega
  | succ k ih => exact h i hi fun hlt => ih (i + 1) hlt (by omega)
theorem bind_some' {α β : Type} (x : α) (f : α → Option β) : (some x >>= f) = f x := rfl
theorem set_step {α : Type} {a v : List α} {i : Nat} (h : i < a.length) (hv : i < v.length) : some ((v.set i a[i]).take (i + 1) ++ a.drop (i + 1)) = some (v.take i ++ a.drop i) := by
  rw [List.take_set, List.take_add_one, List.getElem?_eq_getElem hv, List.set_append_right _ _ (by simp; omega), List.drop_eq_getElem_cons h]
  have : i - min i v.length = 0 := by omega
  simp [this]
def smL {α : Type} (p : α → Prop) (l : List α) : Prop := l.length ≤ 1048576 ∧ ∀ x ∈ l, p x
def smS (s : Str) : Prop := s.length ≤ 1048576
theorem toRecS_some (a : List Rec) (h : smL (fun _ => True) a) : laws_toRecS a = some a := by
  have hl : a.length ≤ 1048576 := h.1
  have key : ∀ i, i ≤ a.length → ∀ v : List Rec, v.length = a.length → laws_toRecS.l0 a i v = some (v.take i ++ a.drop i) := by
    refine down _ fun i hi ih v hv => ?_
    rw [laws_toRecS.l0]
    by_cases hlt : i < a.length
    · have c : decide ((i : Int) < (a.length : Int)) = true := by simpa using hlt
      have hv' : i < v.length := by omega
      simp only [c, if_true, ix_nat, List.getElem?_eq_getElem hlt, List.getElem?_eq_getElem hv', bind_some', laws_toRec, put_nat hv', w64_succ (show i < 9223372036854775807 by omega)]
      rw [ih hlt _ (by simpa using hv), set_step hlt hv']
    · rw [if_neg (by simpa using hlt)]
      obtain rfl : i = a.length := by omega
      simp [List.take_of_length_le, hv]
  simp only [laws_toRecS]
  rw [mk_ok (by omega)]
  simp only [bind_some']
  have := fun z => key 0 (by omega) (List.replicate a.length z) (by simp)
  simp only [Int.natCast_zero] at this
  simp only [this, bind_some']; simp
theorem eqRecS_self (a : List Rec) (h : smL (fun _ => True) a) : laws_eqRecS a a = some true := by
  have hl : a.length ≤ 1048576 := h.1
  have key : ∀ i, i ≤ a.length → laws_eqRecS.l0 a a i = some (.inr ()) := by
    refine down _ fun i hi ih => ?_
    rw [laws_eqRecS.l0]
    by_cases hlt : i < a.length
    · have c : decide ((i : Int) < (a.length : Int)) = true := by simpa using hlt
      simp only [c, if_true, ix_nat, List.getElem?_eq_getElem hlt, bind_some', laws_eqRec, bne_self_eq_false, beq_self_eq_true, Bool.false_eq_true, if_false, Bool.not_true, w64_succ (show i < 9223372036854775807 by omega)]
      exact ih hlt
    · rw [if_neg (by simpa using hlt)]
  simp only [laws_eqRecS, bne_self_eq_false, Bool.false_eq_true, if_false]
  have := key 0 (by omega)
  simp only [Int.natCast_zero] at this
  rw [this]; rfl
theorem szRecS_sp (a : List Rec) (left : Int) (ha : okL Rec.ok a) (h0 : 0 ≤ left) (h1 : left ≤ 1048576) : ∃ r, laws_szRecS a left = some r ∧ r ≤ left ∧ (r < 0 ∨ smL (fun _ => True) a) := by
  have := ha.1
  simp only [laws_szRecS]
  rw [w64_id (by omega) (by omega)]
  by_cases h : left < a.length
  · rw [if_pos (by simp; omega)]; exact ⟨_, rfl, by omega, .inl (by omega)⟩
  · rw [if_neg (by simp; omega)]; exact ⟨_, rfl, by omega, .inr ⟨by omega, by simp⟩⟩
theorem in_some (a b c : Int) : spec_l1In a b c = some (decide (a ≥ b) && decide (a ≤ c)) := by
  simp only [spec_l1In]; by_cases h : a ≥ b <;> simp [h]
theorem from_some (a b c : Int) : impl_from a b c = some (decide (a ≥ b) && decide (a ≤ c)) := by
  simp only [impl_from]; by_cases h : a ≥ b <;> simp [h]
theorem recsOk_same (a : List Rec) (h : a.length ≤ 1048576) : ∃ b, spec_RecsOk a = some b ∧ impl_RecsOk a = some b := by
  have key : ∀ i, i ≤ a.length → ∃ b, spec_RecsOk.l0 a i = some b ∧ impl_RecsOk.l0 a i = some b := by
    refine down _ fun i hi ih => ?_
    rw [spec_RecsOk.l0, impl_RecsOk.l0]
    by_cases hlt : i < a.length
    · obtain ⟨b, h1, h2⟩ := ih hlt
      have c : decide ((i : Int) < (a.length : Int)) = true := by simpa using hlt
      simp only [impl_isTime, impl_isMany, in_some, from_some, bind_some', ix_nat, List.getElem?_eq_getElem hlt, w64_succ (show i < 9223372036854775807 by omega), h1, h2, c, if_true]
      split
      · exact ⟨_, rfl, rfl⟩
      · split
        · exact ⟨_, rfl, rfl⟩
        · by_cases h0 : i = 0
          · subst h0; simp
          · have e : IntKind.i64.wrap ((i : Int) - 1) = ((i - 1 : Nat) : Int) := by rw [w64_id (by omega) (by omega)]; omega
            have c2 : decide ((i : Int) > 0) = true := by simp; omega
            simp only [c2, if_true, e, ix_nat, List.getElem?_eq_getElem (show i - 1 < a.length by omega), bind_some']
            split
            · exact ⟨_, rfl, rfl⟩
            · exact ⟨_, rfl, rfl⟩
    · rw [if_neg (by simpa using hlt), if_neg (by simpa using hlt)]
      exact ⟨_, rfl, rfl⟩
  obtain ⟨b, h1, h2⟩ := key 0 (by omega)
  simp only [Int.natCast_zero] at h1 h2
  simp only [spec_RecsOk, impl_RecsOk, h1, h2, bind_some']
  cases b with
  | inl r => exact ⟨_, rfl, rfl⟩
  | inr u => exact ⟨_, rfl, rfl⟩
theorem nameOk_same (a : Str) (h : smS a) : ∃ b, spec_NameOk a = some b ∧ impl_NameOk a = some b := by
  unfold smS at h
  have key : ∀ i, i ≤ a.length → ∃ b, spec_NameOk.l0 a i = some b ∧ impl_NameOk.l0 a i = some b := by
    refine down _ fun i hi ih => ?_
    rw [spec_NameOk.l0, impl_NameOk.l0]
    by_cases hlt : i < a.length
    · have c : decide ((i : Int) < (a.length : Int)) = true := by simpa using hlt
      obtain ⟨b, e1, e2⟩ := ih hlt
      simp only [c, if_true, ix_nat, List.getElem?_eq_getElem hlt, bind_some', impl_isDigit, w64_succ (show i < 9223372036854775807 by omega), e1, e2]
      generalize byte a[i] = x
      by_cases h1 : x ≥ 97 <;> by_cases h2 : x ≤ 122 <;> by_cases h3 : i = 0 <;> by_cases h4 : x ≥ 48 <;> by_cases h5 : x ≤ 57 <;> by_cases h6 : x = 45 <;>
        first
        | omega
        | (have h3' : (i : Int) > 0 := by omega
           have h3'' : ¬ ((i : Int) = 0) := by omega
           have h7 : 0 < i := by omega
           simp [h1, h2, h3, h3', h3'', h7, h4, h5, h6, bind_some'])
        | (subst h3; simp [h1, h2, h4, h5, h6, bind_some'])
    · rw [if_neg (by simpa using hlt), if_neg (by simpa using hlt)]
      exact ⟨_, rfl, rfl⟩
  obtain ⟨b, e1, e2⟩ := key 0 (by omega)
  simp only [Int.natCast_zero] at e1 e2
  simp only [spec_NameOk, impl_NameOk, e1, e2, bind_some', in_some, from_some]
  cases b with
  | inl r => exact ⟨_, rfl, rfl⟩
  | inr u => exact ⟨_, rfl, rfl⟩
def Metric.sm (x : Metric) : Prop := smS x.Name
theorem szMetric_sp (x : Metric) (left : Int) (h : Metric.ok x) (h0 : 0 ≤ left) (h1 : left ≤ 1048576) : ∃ r, laws_szMetric x left = some r ∧ r ≤ left ∧ (r < 0 ∨ Metric.sm x) := by
  have := h.1
  unfold okS at this
  simp only [laws_szMetric, Metric.sm, smS]
  rw [w64_id (by omega) (by omega)]
  split
  · exact ⟨_, rfl, by omega, .inl (by omega)⟩
  · rename_i h; simp at h; exact ⟨_, rfl, by omega, .inr (by omega)⟩
theorem metricOk_same (m : Metric) (h : Metric.sm m) : ∃ b, spec_MetricOk m = some b ∧ impl_MetricOk m = some b := by
  obtain ⟨n, n1, n2⟩ := nameOk_same m.Name h
  simp only [spec_MetricOk, impl_MetricOk, n1, n2, bind_some', in_some, from_some]
  repeat' split
  all_goals exact ⟨_, rfl, rfl⟩
def Scale.sm (x : Scale) : Prop := smS x.Name ∧ smL (fun _ => True) x.Recs
theorem szScale_sp (x : Scale) (left : Int) (h : Scale.ok x) (h0 : 0 ≤ left) (h1 : left ≤ 1048576) : ∃ r, laws_szScale x left = some r ∧ r ≤ left ∧ (r < 0 ∨ Scale.sm x) := by
  have := h.1
  unfold okS at this
  simp only [laws_szScale, Scale.sm, smS]
  rw [w64_id (by omega) (by omega)]
  split
  · exact ⟨_, rfl, by omega, .inl (by omega)⟩
  · rename_i hn; simp at hn
    obtain ⟨r, e, hr, hs⟩ := szRecS_sp x.Recs (left - x.Name.length) h.2.2 (by omega) (by omega)
    simp only [e, bind_some']
    split
    · exact ⟨_, rfl, by omega, .inl (by omega)⟩
    · rename_i h3; simp at h3
      rcases hs with hs | hs
      · omega
      · exact ⟨_, rfl, by omega, .inr ⟨by omega, hs⟩⟩
theorem toScale_some (x : Scale) (h : Scale.sm x) : laws_toScale x = some x := by
  simp only [laws_toScale, toRecS_some _ h.2, bind_some']
theorem eqScale_self (x : Scale) (h : Scale.sm x) : laws_eqScale x x = some true := by
  simp only [laws_eqScale, eqRecS_self _ h.2, bind_some', beq_self_eq_true, bne_self_eq_false, Bool.not_true, Bool.false_eq_true, if_false]
theorem scaleOk_same (x : Scale) (h : Scale.sm x) : ∃ b, spec_ScaleOk x = some b ∧ impl_ScaleOk x = some b := by
  obtain ⟨n, n1, n2⟩ := nameOk_same x.Name h.1
  obtain ⟨p, p1, p2⟩ := recsOk_same x.Recs h.2.1
  simp only [spec_ScaleOk, impl_ScaleOk, n1, n2, bind_some', in_some, from_some, impl_isMany, p1, p2]
  repeat' split
  all_goals exact ⟨_, rfl, rfl⟩
theorem toMetricS_some (a : List Metric) (h : smL Metric.sm a) : laws_toMetricS a = some a := by
  have hl : a.length ≤ 1048576 := h.1
  have key : ∀ i, i ≤ a.length → ∀ v : List Metric, v.length = a.length → laws_toMetricS.l0 a i v = some (v.take i ++ a.drop i) := by
    refine down _ fun i hi ih v hv => ?_
    rw [laws_toMetricS.l0]
    by_cases hlt : i < a.length
    · have c : decide ((i : Int) < (a.length : Int)) = true := by simpa using hlt
      have hv' : i < v.length := by omega
      simp only [c, if_true, ix_nat, List.getElem?_eq_getElem hlt, List.getElem?_eq_getElem hv', bind_some', laws_toMetric, put_nat hv', w64_succ (show i < 9223372036854775807 by omega)]
      rw [ih hlt _ (by simpa using hv), set_step hlt hv']
    · rw [if_neg (by simpa using hlt)]
      obtain rfl : i = a.length := by omega
      simp [List.take_of_length_le, hv]
  simp only [laws_toMetricS]
  rw [mk_ok (by omega)]
  simp only [bind_some']
  have := fun z => key 0 (by omega) (List.replicate a.length z) (by simp)
  simp only [Int.natCast_zero] at this
  simp only [this, bind_some']; simp
theorem eqMetricS_self (a : List Metric) (h : smL Metric.sm a) : laws_eqMetricS a a = some true := by
  have hl : a.length ≤ 1048576 := h.1
  have key : ∀ i, i ≤ a.length → laws_eqMetricS.l0 a a i = some (.inr ()) := by
    refine down _ fun i hi ih => ?_
    rw [laws_eqMetricS.l0]
    by_cases hlt : i < a.length
    · have c : decide ((i : Int) < (a.length : Int)) = true := by simpa using hlt
      simp only [c, if_true, ix_nat, List.getElem?_eq_getElem hlt, bind_some', laws_eqMetric, bne_self_eq_false, beq_self_eq_true, Bool.false_eq_true, if_false, Bool.not_true, w64_succ (show i < 9223372036854775807 by omega)]
      exact ih hlt
    · rw [if_neg (by simpa using hlt)]
  simp only [laws_eqMetricS, bne_self_eq_false, Bool.false_eq_true, if_false]
  have := key 0 (by omega)
  simp only [Int.natCast_zero] at this
  rw [this]; rfl
theorem szMetricS_sp (a : List Metric) (left : Int) (ha : okL Metric.ok a) (h0 : 0 ≤ left) (h1 : left ≤ 1048576) : ∃ r, laws_szMetricS a left = some r ∧ r ≤ left ∧ (r < 0 ∨ smL Metric.sm a) := by
  have hl := ha.1
  simp only [laws_szMetricS]
  rw [w64_id (by omega) (by omega)]
  by_cases h : left < a.length
  · rw [if_pos (by simp; omega)]; exact ⟨_, rfl, by omega, .inl (by omega)⟩
  · rw [if_neg (by simp; omega)]
    have key : ∀ i, i ≤ a.length → ∀ left : Int, 0 ≤ left → left ≤ 1048576 → (∃ r, laws_szMetricS.l0 a left i = some (.inl r) ∧ r < 0) ∨ ∃ r, laws_szMetricS.l0 a left i = some (.inr r) ∧ 0 ≤ r ∧ r ≤ left ∧ ∀ x ∈ a.drop i, Metric.sm x := by
      refine down _ fun i hi ih left h0 h1 => ?_
      rw [laws_szMetricS.l0]
      by_cases hlt : i < a.length
      · have c : decide ((i : Int) < (a.length : Int)) = true := by simpa using hlt
        obtain ⟨r, e, hr, hs⟩ := szMetric_sp a[i] left (ha.2 _ (List.getElem_mem hlt)) h0 h1
        simp only [c, if_true, ix_nat, List.getElem?_eq_getElem hlt, bind_some', e, w64_succ (show i < 9223372036854775807 by omega)]
        by_cases hn : r < 0
        · rw [if_pos (by simpa using hn)]; exact .inl ⟨_, rfl, by omega⟩
        · rw [if_neg (by simpa using hn)]
          rcases ih hlt r (by omega) (by omega) with ⟨q, e2, h2⟩ | ⟨q, e2, h2, h3, h4⟩
          · exact .inl ⟨q, e2, h2⟩
          · refine .inr ⟨q, e2, h2, by omega, fun x hx => ?_⟩
            rw [List.drop_eq_getElem_cons hlt] at hx
            rcases List.mem_cons.1 hx with rfl | hx
            · rcases hs with hs | hs
              · exact absurd hs hn
              · exact hs
            · exact h4 x hx
      · rw [if_neg (by simpa using hlt)]
        exact .inr ⟨_, rfl, h0, Int.le_refl _, by rw [List.drop_eq_nil_of_le (by omega)]; simp⟩
    rcases key 0 (by omega) (left - a.length) (by omega) (by omega) with ⟨q, e2, h2⟩ | ⟨q, e2, h2, h3, h4⟩
    · simp only [Int.natCast_zero] at e2
      rw [e2]; exact ⟨q, rfl, by omega, .inl h2⟩
    · simp only [Int.natCast_zero] at e2
      rw [e2]; exact ⟨q, rfl, by omega, .inr ⟨by omega, by simpa using h4⟩⟩
def Note.sm (x : Note) : Prop := smS x.Key ∧ smS x.Text
theorem szNote_sp (x : Note) (left : Int) (h : Note.ok x) (h0 : 0 ≤ left) (h1 : left ≤ 1048576) : ∃ r, laws_szNote x left = some r ∧ r ≤ left ∧ (r < 0 ∨ Note.sm x) := by
  have e1 := h.1
  have e2 := h.2
  unfold okS at e1 e2
  simp only [laws_szNote, Note.sm, smS]
  rw [w64_id (n := left - _) (by omega) (by omega)]
  split
  · exact ⟨_, rfl, by omega, .inl (by omega)⟩
  · rename_i h; simp at h
    rw [w64_id (by omega) (by omega)]
    split
    · exact ⟨_, rfl, by omega, .inl (by omega)⟩
    · rename_i h3; simp at h3; exact ⟨_, rfl, by omega, .inr ⟨by omega, by omega⟩⟩
theorem toNoteS_some (a : List Note) (h : smL Note.sm a) : laws_toNoteS a = some a := by
  have hl : a.length ≤ 1048576 := h.1
  have key : ∀ i, i ≤ a.length → ∀ v : List Note, v.length = a.length → laws_toNoteS.l0 a i v = some (v.take i ++ a.drop i) := by
    refine down _ fun i hi ih v hv => ?_
    rw [laws_toNoteS.l0]
    by_cases hlt : i < a.length
    · have c : decide ((i : Int) < (a.length : Int)) = true := by simpa using hlt
      have hv' : i < v.length := by omega
      simp only [c, if_true, ix_nat, List.getElem?_eq_getElem hlt, List.getElem?_eq_getElem hv', bind_some', laws_toNote, put_nat hv', w64_succ (show i < 9223372036854775807 by omega)]
      rw [ih hlt _ (by simpa using hv), set_step hlt hv']
    · rw [if_neg (by simpa using hlt)]
      obtain rfl : i = a.length := by omega
      simp [List.take_of_length_le, hv]
  simp only [laws_toNoteS]
  rw [mk_ok (by omega)]
  simp only [bind_some']
  have := fun z => key 0 (by omega) (List.replicate a.length z) (by simp)
  simp only [Int.natCast_zero] at this
  simp only [this, bind_some']; simp
theorem eqNoteS_self (a : List Note) (h : smL Note.sm a) : laws_eqNoteS a a = some true := by
  have hl : a.length ≤ 1048576 := h.1
  have key : ∀ i, i ≤ a.length → laws_eqNoteS.l0 a a i = some (.inr ()) := by
    refine down _ fun i hi ih => ?_
    rw [laws_eqNoteS.l0]
    by_cases hlt : i < a.length
    · have c : decide ((i : Int) < (a.length : Int)) = true := by simpa using hlt
      simp only [c, if_true, ix_nat, List.getElem?_eq_getElem hlt, bind_some', laws_eqNote, bne_self_eq_false, beq_self_eq_true, Bool.false_eq_true, if_false, Bool.not_true, w64_succ (show i < 9223372036854775807 by omega)]
      exact ih hlt
    · rw [if_neg (by simpa using hlt)]
  simp only [laws_eqNoteS, bne_self_eq_false, Bool.false_eq_true, if_false]
  have := key 0 (by omega)
  simp only [Int.natCast_zero] at this
  rw [this]; rfl
theorem szNoteS_sp (a : List Note) (left : Int) (ha : okL Note.ok a) (h0 : 0 ≤ left) (h1 : left ≤ 1048576) : ∃ r, laws_szNoteS a left = some r ∧ r ≤ left ∧ (r < 0 ∨ smL Note.sm a) := by
  have hl := ha.1
  simp only [laws_szNoteS]
  rw [w64_id (by omega) (by omega)]
  by_cases h : left < a.length
  · rw [if_pos (by simp; omega)]; exact ⟨_, rfl, by omega, .inl (by omega)⟩
  · rw [if_neg (by simp; omega)]
    have key : ∀ i, i ≤ a.length → ∀ left : Int, 0 ≤ left → left ≤ 1048576 → (∃ r, laws_szNoteS.l0 a left i = some (.inl r) ∧ r < 0) ∨ ∃ r, laws_szNoteS.l0 a left i = some (.inr r) ∧ 0 ≤ r ∧ r ≤ left ∧ ∀ x ∈ a.drop i, Note.sm x := by
      refine down _ fun i hi ih left h0 h1 => ?_
      rw [laws_szNoteS.l0]
      by_cases hlt : i < a.length
      · have c : decide ((i : Int) < (a.length : Int)) = true := by simpa using hlt
        obtain ⟨r, e, hr, hs⟩ := szNote_sp a[i] left (ha.2 _ (List.getElem_mem hlt)) h0 h1
        simp only [c, if_true, ix_nat, List.getElem?_eq_getElem hlt, bind_some', e, w64_succ (show i < 9223372036854775807 by omega)]
        by_cases hn : r < 0
        · rw [if_pos (by simpa using hn)]; exact .inl ⟨_, rfl, by omega⟩
        · rw [if_neg (by simpa using hn)]
          rcases ih hlt r (by omega) (by omega) with ⟨q, e2, h2⟩ | ⟨q, e2, h2, h3, h4⟩
          · exact .inl ⟨q, e2, h2⟩
          · refine .inr ⟨q, e2, h2, by omega, fun x hx => ?_⟩
            rw [List.drop_eq_getElem_cons hlt] at hx
            rcases List.mem_cons.1 hx with rfl | hx
            · rcases hs with hs | hs
              · exact absurd hs hn
              · exact hs
            · exact h4 x hx
      · rw [if_neg (by simpa using hlt)]
        exact .inr ⟨_, rfl, h0, Int.le_refl _, by rw [List.drop_eq_nil_of_le (by omega)]; simp⟩
    rcases key 0 (by omega) (left - a.length) (by omega) (by omega) with ⟨q, e2, h2⟩ | ⟨q, e2, h2, h3, h4⟩
    · simp only [Int.natCast_zero] at e2
      rw [e2]; exact ⟨q, rfl, by omega, .inl h2⟩
    · simp only [Int.natCast_zero] at e2
      rw [e2]; exact ⟨q, rfl, by omega, .inr ⟨by omega, by simpa using h4⟩⟩
def Order.sm (x : Order) : Prop := smS x.Name ∧ smS x.Target ∧ smL Metric.sm x.Metrics ∧ smL Note.sm x.Notes
theorem szOrder_sp (x : Order) (left : Int) (h : Order.ok x) (h0 : 0 ≤ left) (h1 : left ≤ 1048576) : ∃ r, laws_szOrder x left = some r ∧ r ≤ left ∧ (r < 0 ∨ Order.sm x) := by
  have e1 := h.1
  have e2 := h.2.1
  unfold okS at e1 e2
  simp only [laws_szOrder, Order.sm, smS]
  rw [w64_id (n := left - _) (by omega) (by omega)]
  split
  · exact ⟨_, rfl, by omega, .inl (by omega)⟩
  · rename_i hn; simp at hn
    rw [w64_id (by omega) (by omega)]
    split
    · exact ⟨_, rfl, by omega, .inl (by omega)⟩
    · rename_i hn2; simp at hn2
      obtain ⟨r, e, hr, hs⟩ := szMetricS_sp x.Metrics (left - x.Name.length - x.Target.length) h.2.2.2.2.1 (by omega) (by omega)
      simp only [e, bind_some']
      split
      · exact ⟨_, rfl, by omega, .inl (by omega)⟩
      · rename_i h3; simp at h3
        obtain ⟨r2, e2, hr2, hs2⟩ := szNoteS_sp x.Notes r h.2.2.2.2.2.2 (by omega) (by omega)
        simp only [e2, bind_some']
        split
        · exact ⟨_, rfl, by omega, .inl (by omega)⟩
        · rename_i h4; simp at h4
          rcases hs with hs | hs
          · omega
          · rcases hs2 with hs2 | hs2
            · omega
            · exact ⟨_, rfl, by omega, .inr ⟨by omega, by omega, hs, hs2⟩⟩
theorem toOrder_some (x : Order) (h : Order.sm x) : laws_toOrder x = some x := by
  simp only [laws_toOrder, toMetricS_some _ h.2.2.1, toNoteS_some _ h.2.2.2, laws_toPace, bind_some']
theorem eqOrder_self (x : Order) (h : Order.sm x) : laws_eqOrder x x = some true := by
  simp only [laws_eqOrder, eqMetricS_self _ h.2.2.1, eqNoteS_self _ h.2.2.2, laws_eqPace, bind_some', beq_self_eq_true, bne_self_eq_false, Bool.not_true, Bool.false_eq_true, if_false]
theorem paceOk_same (p : Pace) : ∃ b, spec_PaceOk p = some b ∧ impl_PaceOk p = some b := by
  simp only [spec_PaceOk, impl_PaceOk, impl_isMany, in_some, from_some, bind_some']
  repeat' split
  all_goals exact ⟨_, rfl, rfl⟩
theorem byte_u8 (c : UInt8) : (byte c).toNat.toUInt8 = c := by
  simp [byte]
theorem byte_range (c : UInt8) : 0 ≤ byte c ∧ byte c ≤ 255 := by
  unfold byte; have := c.toNat_lt; omega
theorem byte_eq (c d : UInt8) : (byte c = byte d) ↔ c = d := by
  unfold byte
  constructor
  · intro h; exact UInt8.toNat_inj.1 (by omega)
  · intro h; rw [h]
theorem indexByte_four (c : UInt8) : Nt.indexByte [95, 46, 47, 45] c < 0 ↔ ¬ (byte c = 95) ∧ ¬ (byte c = 46) ∧ ¬ (byte c = 47) ∧ ¬ (byte c = 45) := by
  have h1 : (byte c = 95) ↔ c = 95 := byte_eq c 95
  have h2 : (byte c = 46) ↔ c = 46 := byte_eq c 46
  have h3 : (byte c = 47) ↔ c = 47 := byte_eq c 47
  have h4 : (byte c = 45) ↔ c = 45 := byte_eq c 45
  rw [h1, h2, h3, h4]
  simp only [Nt.indexByte]
  by_cases g1 : c = 95
  · subst g1; decide
  by_cases g2 : c = 46
  · subst g2; decide
  by_cases g3 : c = 47
  · subst g3; decide
  by_cases g4 : c = 45
  · subst g4; decide
  have f1 : ((95 : UInt8) == c) = false := by simp; exact fun h => g1 h.symm
  have f2 : ((46 : UInt8) == c) = false := by simp; exact fun h => g2 h.symm
  have f3 : ((47 : UInt8) == c) = false := by simp; exact fun h => g3 h.symm
  have f4 : ((45 : UInt8) == c) = false := by simp; exact fun h => g4 h.symm
  simp [f1, f2, f3, f4, g1, g2, g3, g4]
theorem plainOk_same (a : Str) (h : smS a) : ∃ b, spec_PlainOk a = some b ∧ impl_PlainOk a = some b := by
  unfold smS at h
  have key : ∀ i, i ≤ a.length → ∃ b, spec_PlainOk.l0 a i = some b ∧ impl_PlainOk.l0 a i = some b := by
    refine down _ fun i hi ih => ?_
    rw [spec_PlainOk.l0, impl_PlainOk.l0]
    by_cases hlt : i < a.length
    · have c : decide ((i : Int) < (a.length : Int)) = true := by simpa using hlt
      obtain ⟨b, e1, e2⟩ := ih hlt
      have hL : ∀ n, impl_isLetter n = spec_l5Letter n := fun n => by simp only [impl_isLetter, spec_l5Letter]
      have hT : ∀ n, ∃ t, spec_l5Letter n = some t := fun n => by
        simp only [spec_l5Letter]; repeat' split
        all_goals exact ⟨_, rfl⟩
      obtain ⟨t, ht⟩ := hT (byte a[i])
      simp only [c, if_true, ix_nat, List.getElem?_eq_getElem hlt, bind_some', impl_isDigit, hL, ht, w64_succ (show i < 9223372036854775807 by omega), e1, e2, strings_IndexByte, internal_stringslite_IndexByte, internal_bytealg_IndexByteString, byte_u8]
      have hx := indexByte_four a[i]
      have hq : decide (Nt.indexByte [95, 46, 47, 45] a[i] < 0) = decide (¬ (byte a[i] = 95) ∧ ¬ (byte a[i] = 46) ∧ ¬ (byte a[i] = 47) ∧ ¬ (byte a[i] = 45)) := by simp only [hx]
      rw [hq]
      generalize byte a[i] = x
      cases t
      · by_cases h3 : i = 0
        · subst h3; simp [bind_some']
        · have h3'' : ((i : Int) == 0) = false := by simp; omega
          by_cases h4 : x ≥ 48 <;> by_cases h5 : x ≤ 57 <;> by_cases h6 : x = 95 <;> by_cases h7 : x = 46 <;> by_cases h8 : x = 47 <;> by_cases h9 : x = 45 <;>
          first
          | omega
          | simp [h3'', h4, h5, h6, h7, h8, h9, bind_some']
      · simp
    · rw [if_neg (by simpa using hlt), if_neg (by simpa using hlt)]
      exact ⟨_, rfl, rfl⟩
  obtain ⟨b, e1, e2⟩ := key 0 (by omega)
  simp only [Int.natCast_zero] at e1 e2
  simp only [spec_PlainOk, impl_PlainOk, e1, e2, bind_some', in_some, from_some]
  cases b with
  | inl r => exact ⟨_, rfl, rfl⟩
  | inr u =>
    repeat' split
    all_goals exact ⟨_, rfl, rfl⟩
theorem ours_same (s : Str) : ∃ b, spec_l6Ours s = some b ∧ strings_HasPrefix s [113, 117, 97, 121, 47] = some b := by
  simp only [spec_l6Ours, strings_HasPrefix, internal_stringslite_HasPrefix, List.length_cons, List.length_nil]
  by_cases h : (s.length : Int) ≥ 5
  · have e : slc s 0 5 = some (cut s 0 5) := by simp only [slc]; rw [if_pos ⟨by omega, by omega, by omega⟩]; rfl
    rw [if_pos (by simpa using h), if_pos (by simpa using h)]
    have e' : slc s 0 ((0 + 1 + 1 + 1 + 1 + 1 : Nat) : Int) = some (cut s 0 5) := e
    rw [e, e']
    exact ⟨_, rfl, rfl⟩
  · rw [if_neg (by simpa using h), if_neg (by simpa using h)]
    exact ⟨_, rfl, rfl⟩
theorem textOk_same (a : Str) (h : smS a) : ∃ b, spec_TextOk a = some b ∧ impl_TextOk a = some b := by
  unfold smS at h
  have key : ∀ i, i ≤ a.length → ∃ b, spec_TextOk.l0 a i = some b ∧ impl_TextOk.l0 a i = some b := by
    refine down _ fun i hi ih => ?_
    rw [spec_TextOk.l0, impl_TextOk.l0]
    by_cases hlt : i < a.length
    · have c : decide ((i : Int) < (a.length : Int)) = true := by simpa using hlt
      obtain ⟨b, e1, e2⟩ := ih hlt
      have hb := byte_range a[i]
      simp only [c, if_true, ix_nat, List.getElem?_eq_getElem hlt, bind_some', from_some, w64_succ (show i < 9223372036854775807 by omega), e1, e2]
      rw [w64_id (by omega) (by omega)]
      generalize byte a[i] = x at hb
      by_cases h4 : x < 32 <;> by_cases h5 : x > 126 <;> first
        | omega
        | (have g4 : ¬ (32 ≤ x) ∨ 32 ≤ x := by omega
           rcases g4 with g4 | g4 <;> first
             | omega
             | (have g5 : ¬ (x ≤ 126) ∨ x ≤ 126 := by omega
                rcases g5 with g5 | g5 <;> first
                  | omega
                  | simp [h4, h5, g4, g5]))
    · rw [if_neg (by simpa using hlt), if_neg (by simpa using hlt)]
      exact ⟨_, rfl, rfl⟩
  obtain ⟨b, e1, e2⟩ := key 0 (by omega)
  simp only [Int.natCast_zero] at e1 e2
  simp only [spec_TextOk, impl_TextOk, e1, e2, bind_some']
  cases b with
  | inl r => exact ⟨_, rfl, rfl⟩
  | inr u => exact ⟨_, rfl, rfl⟩
theorem notes_same (a : List Note) (h : smL Note.sm a) : ∃ b, spec_l6Notes a = some b ∧ impl_notesOk a = some b := by
  have hl : a.length ≤ 1048576 := h.1
  have key : ∀ i, i ≤ a.length → ∃ b, spec_l6Notes.l0 a i = some b ∧ impl_notesOk.l0 a i = some b := by
    refine down _ fun i hi ih => ?_
    rw [spec_l6Notes.l0, impl_notesOk.l0]
    by_cases hlt : i < a.length
    · have c : decide ((i : Int) < (a.length : Int)) = true := by simpa using hlt
      obtain ⟨b, e1, e2⟩ := ih hlt
      have hm := h.2 _ (List.getElem_mem hlt)
      obtain ⟨p, p1, p2⟩ := plainOk_same a[i].Key hm.1
      obtain ⟨q, q1, q2⟩ := ours_same a[i].Key
      obtain ⟨t, t1, t2⟩ := textOk_same a[i].Text hm.2
      simp only [c, if_true, ix_nat, List.getElem?_eq_getElem hlt, bind_some', p1, p2, q1, q2, t1, t2, w64_succ (show i < 9223372036854775807 by omega), e1, e2]
      split
      · exact ⟨_, rfl, rfl⟩
      · split
        · exact ⟨_, rfl, rfl⟩
        · split
          · exact ⟨_, rfl, rfl⟩
          · split
            · exact ⟨_, rfl, rfl⟩
            · by_cases h0 : i = 0
              · subst h0; simp
              · have e : IntKind.i64.wrap ((i : Int) - 1) = ((i - 1 : Nat) : Int) := by rw [w64_id (by omega) (by omega)]; omega
                have c2 : decide ((i : Int) > 0) = true := by simp; omega
                simp only [c2, if_true, e, ix_nat, List.getElem?_eq_getElem (show i - 1 < a.length by omega), bind_some']
                split
                · exact ⟨_, rfl, rfl⟩
                · exact ⟨_, rfl, rfl⟩
    · rw [if_neg (by simpa using hlt), if_neg (by simpa using hlt)]
      exact ⟨_, rfl, rfl⟩
  obtain ⟨b, h1, h2⟩ := key 0 (by omega)
  simp only [Int.natCast_zero] at h1 h2
  simp only [spec_l6Notes, impl_notesOk, h1, h2, bind_some']
  cases b with
  | inl r => exact ⟨_, rfl, rfl⟩
  | inr u => exact ⟨_, rfl, rfl⟩
theorem metrics_same (o : Order) (h : smL Metric.sm o.Metrics) : ∃ b : Bool, spec_l6Metrics.l0 o.Metrics 0 = some (if b then .inr () else .inl false) ∧ impl_OrderOk.l0 o 0 = some (if b then .inr () else .inl false) := by
  have hl : o.Metrics.length ≤ 1048576 := h.1
  have key : ∀ i, i ≤ o.Metrics.length → ∃ b : Bool, spec_l6Metrics.l0 o.Metrics i = some (if b then .inr () else .inl false) ∧ impl_OrderOk.l0 o i = some (if b then .inr () else .inl false) := by
    refine down _ fun i hi ih => ?_
    rw [spec_l6Metrics.l0, impl_OrderOk.l0]
    by_cases hlt : i < o.Metrics.length
    · have c : decide ((i : Int) < (o.Metrics.length : Int)) = true := by simpa using hlt
      obtain ⟨b, e1, e2⟩ := ih hlt
      obtain ⟨p, p1, p2⟩ := metricOk_same o.Metrics[i] (h.2 _ (List.getElem_mem hlt))
      simp only [c, if_true, ix_nat, List.getElem?_eq_getElem hlt, bind_some', p1, p2, w64_succ (show i < 9223372036854775807 by omega), e1, e2]
      split
      · exact ⟨false, rfl, rfl⟩
      · by_cases h0 : i = 0
        · subst h0; exact ⟨b, by simp, by simp⟩
        · have e : IntKind.i64.wrap ((i : Int) - 1) = ((i - 1 : Nat) : Int) := by rw [w64_id (by omega) (by omega)]; omega
          have c2 : decide ((i : Int) > 0) = true := by simp; omega
          simp only [c2, if_true, e, ix_nat, List.getElem?_eq_getElem (show i - 1 < o.Metrics.length by omega), bind_some']
          split
          · exact ⟨false, rfl, rfl⟩
          · exact ⟨b, rfl, rfl⟩
    · rw [if_neg (by simpa using hlt), if_neg (by simpa using hlt)]
      exact ⟨true, rfl, rfl⟩
  simpa using key 0 (by omega)
theorem orderOk_same (o : Order) (h : Order.sm o) : ∃ b, spec_OrderOk o = some b ∧ impl_OrderOk o = some b := by
  obtain ⟨n, n1, n2⟩ := nameOk_same o.Name h.1
  obtain ⟨t, t1, t2⟩ := nameOk_same o.Target h.2.1
  obtain ⟨m, m1, m2⟩ := metrics_same o h.2.2.1
  obtain ⟨p, p1, p2⟩ := paceOk_same o.Pace
  obtain ⟨q, q1, q2⟩ := notes_same o.Notes h.2.2.2
  simp only [spec_OrderOk, impl_OrderOk, spec_l6Metrics, n1, n2, t1, t2, m1, m2, p1, p2, q1, q2, in_some, from_some, bind_some']
  generalize (decide (o.Low ≥ 1) && decide (o.Low ≤ o.High)) = x
  generalize decide (o.High ≤ 1000) = y
  generalize decide ((o.Metrics.length : Int) ≤ 4) = z
  cases n <;> cases t <;> cases m <;> cases p <;> cases q <;> cases x <;> cases y <;> cases z <;> exact ⟨_, rfl, rfl⟩
def Item.sm (x : Item) : Prop := Order.sm x.Order
theorem szItem_sp (x : Item) (left : Int) (h : Item.ok x) (h0 : 0 ≤ left) (h1 : left ≤ 1048576) : ∃ r, laws_szItem x left = some r ∧ r ≤ left ∧ (r < 0 ∨ Item.sm x) := by
  obtain ⟨r, e, hr, hs⟩ := szOrder_sp x.Order left h.1 h0 h1
  simp only [laws_szItem, e, bind_some']
  split
  · exact ⟨_, rfl, by omega, .inl (by omega)⟩
  · exact ⟨_, rfl, hr, hs⟩
theorem toItem_some (x : Item) (h : Item.sm x) : laws_toItem x = some x := by
  simp only [laws_toItem, toOrder_some _ h, bind_some']
theorem eqItem_self (x : Item) (h : Item.sm x) : laws_eqItem x x = some true := by
  simp only [laws_eqItem, eqOrder_self _ h, bind_some', beq_self_eq_true, bne_self_eq_false, Bool.not_true, Bool.false_eq_true, if_false]
theorem toItemS_some (a : List Item) (h : smL Item.sm a) : laws_toItemS a = some a := by
  have hl : a.length ≤ 1048576 := h.1
  have key : ∀ i, i ≤ a.length → ∀ v : List Item, v.length = a.length → laws_toItemS.l0 a i v = some (v.take i ++ a.drop i) := by
    refine down _ fun i hi ih v hv => ?_
    rw [laws_toItemS.l0]
    by_cases hlt : i < a.length
    · have c : decide ((i : Int) < (a.length : Int)) = true := by simpa using hlt
      have hv' : i < v.length := by omega
      simp only [c, if_true, ix_nat, List.getElem?_eq_getElem hlt, List.getElem?_eq_getElem hv', bind_some', toItem_some _ (h.2 _ (List.getElem_mem hlt)), put_nat hv', w64_succ (show i < 9223372036854775807 by omega)]
      rw [ih hlt _ (by simpa using hv), set_step hlt hv']
    · rw [if_neg (by simpa using hlt)]
      obtain rfl : i = a.length := by omega
      simp [List.take_of_length_le, hv]
  simp only [laws_toItemS]
  rw [mk_ok (by omega)]
  simp only [bind_some']
  have := fun z => key 0 (by omega) (List.replicate a.length z) (by simp)
  simp only [Int.natCast_zero] at this
  simp only [this, bind_some']; simp
theorem eqItemS_self (a : List Item) (h : smL Item.sm a) : laws_eqItemS a a = some true := by
  have hl : a.length ≤ 1048576 := h.1
  have key : ∀ i, i ≤ a.length → laws_eqItemS.l0 a a i = some (.inr ()) := by
    refine down _ fun i hi ih => ?_
    rw [laws_eqItemS.l0]
    by_cases hlt : i < a.length
    · have c : decide ((i : Int) < (a.length : Int)) = true := by simpa using hlt
      simp only [c, if_true, ix_nat, List.getElem?_eq_getElem hlt, bind_some', eqItem_self _ (h.2 _ (List.getElem_mem hlt)), bne_self_eq_false, beq_self_eq_true, Bool.false_eq_true, if_false, Bool.not_true, w64_succ (show i < 9223372036854775807 by omega)]
      exact ih hlt
    · rw [if_neg (by simpa using hlt)]
  simp only [laws_eqItemS, bne_self_eq_false, Bool.false_eq_true, if_false]
  have := key 0 (by omega)
  simp only [Int.natCast_zero] at this
  rw [this]; rfl
theorem szItemS_sp (a : List Item) (left : Int) (ha : okL Item.ok a) (h0 : 0 ≤ left) (h1 : left ≤ 1048576) : ∃ r, laws_szItemS a left = some r ∧ r ≤ left ∧ (r < 0 ∨ smL Item.sm a) := by
  have hl := ha.1
  simp only [laws_szItemS]
  rw [w64_id (by omega) (by omega)]
  by_cases h : left < a.length
  · rw [if_pos (by simp; omega)]; exact ⟨_, rfl, by omega, .inl (by omega)⟩
  · rw [if_neg (by simp; omega)]
    have key : ∀ i, i ≤ a.length → ∀ left : Int, 0 ≤ left → left ≤ 1048576 → (∃ r, laws_szItemS.l0 a left i = some (.inl r) ∧ r < 0) ∨ ∃ r, laws_szItemS.l0 a left i = some (.inr r) ∧ 0 ≤ r ∧ r ≤ left ∧ ∀ x ∈ a.drop i, Item.sm x := by
      refine down _ fun i hi ih left h0 h1 => ?_
      rw [laws_szItemS.l0]
      by_cases hlt : i < a.length
      · have c : decide ((i : Int) < (a.length : Int)) = true := by simpa using hlt
        obtain ⟨r, e, hr, hs⟩ := szItem_sp a[i] left (ha.2 _ (List.getElem_mem hlt)) h0 h1
        simp only [c, if_true, ix_nat, List.getElem?_eq_getElem hlt, bind_some', e, w64_succ (show i < 9223372036854775807 by omega)]
        by_cases hn : r < 0
        · rw [if_pos (by simpa using hn)]; exact .inl ⟨_, rfl, by omega⟩
        · rw [if_neg (by simpa using hn)]
          rcases ih hlt r (by omega) (by omega) with ⟨q, e2, h2⟩ | ⟨q, e2, h2, h3, h4⟩
          · exact .inl ⟨q, e2, h2⟩
          · refine .inr ⟨q, e2, h2, by omega, fun x hx => ?_⟩
            rw [List.drop_eq_getElem_cons hlt] at hx
            rcases List.mem_cons.1 hx with rfl | hx
            · rcases hs with hs | hs
              · exact absurd hs hn
              · exact hs
            · exact h4 x hx
      · rw [if_neg (by simpa using hlt)]
        exact .inr ⟨_, rfl, h0, Int.le_refl _, by rw [List.drop_eq_nil_of_le (by omega)]; simp⟩
    rcases key 0 (by omega) (left - a.length) (by omega) (by omega) with ⟨q, e2, h2⟩ | ⟨q, e2, h2, h3, h4⟩
    · simp only [Int.natCast_zero] at e2
      rw [e2]; exact ⟨q, rfl, by omega, .inl h2⟩
    · simp only [Int.natCast_zero] at e2
      rw [e2]; exact ⟨q, rfl, by omega, .inr ⟨by omega, by simpa using h4⟩⟩
def Store.sm (x : Store) : Prop := smL Item.sm x.Items
theorem szStore_sp (x : Store) (left : Int) (h : Store.ok x) (h0 : 0 ≤ left) (h1 : left ≤ 1048576) : ∃ r, laws_szStore x left = some r ∧ r ≤ left ∧ (r < 0 ∨ Store.sm x) := by
  obtain ⟨r, e, hr, hs⟩ := szItemS_sp x.Items left h.1 h0 h1
  simp only [laws_szStore, e, bind_some']
  split
  · exact ⟨_, rfl, by omega, .inl (by omega)⟩
  · exact ⟨_, rfl, hr, hs⟩
theorem toStore_some (x : Store) (h : Store.sm x) : laws_toStore x = some x := by
  simp only [laws_toStore, toItemS_some _ h, bind_some']
theorem eqStore_self (x : Store) (h : Store.sm x) : laws_eqStore x x = some true := by
  simp only [laws_eqStore, eqItemS_self _ h, bind_some', beq_self_eq_true, bne_self_eq_false, Bool.not_true, Bool.false_eq_true, if_false]
theorem slc_take {α : Type} (l : List α) (i : Nat) (h : i ≤ l.length) : slc l 0 (i : Int) = some (l.take i) := by
  simp only [slc]; rw [if_pos ⟨by omega, by omega, by omega⟩]; simp [cut]
theorem vers1 (s : Store) (x : Item) (i : Nat) (hi : i ≤ s.Items.length) (hl : s.Items.length ≤ 1048576) : spec_StoreOk.l1 s i x 0 = some (if (s.Items.take i).any (fun y => y.Ver == x.Ver) then .inl false else .inr ()) := by
  have key : ∀ j, j ≤ i → spec_StoreOk.l1 s i x j = some (if ((s.Items.take i).drop j).any (fun y => y.Ver == x.Ver) then .inl false else .inr ()) := by
    refine down _ fun j hj ih => ?_
    rw [spec_StoreOk.l1]
    by_cases hlt : j < i
    · have c : decide ((j : Int) < (i : Int)) = true := by simpa using hlt
      have hlt' : j < s.Items.length := by omega
      have hd : (s.Items.take i).drop j = s.Items[j] :: (s.Items.take i).drop (j + 1) := by
        rw [List.drop_eq_getElem_cons (by simp; omega)]; simp
      simp only [c, if_true, ix_nat, List.getElem?_eq_getElem hlt', bind_some', w64_succ (show j < 9223372036854775807 by omega), ih hlt, hd, List.any_cons]
      cases (s.Items[j].Ver == x.Ver) <;> simp
    · rw [if_neg (by simpa using hlt)]
      rw [List.drop_eq_nil_of_le (by simp; omega)]; rfl
  have := key 0 (by omega)
  simpa only [List.drop_zero, Int.natCast_zero] using this
theorem vers2 (s : Store) (x : Item) (i : Nat) (hi : i ≤ s.Items.length) (hl : s.Items.length ≤ 1048576) : spec_StoreOk.l2 s i x 0 = some (if (s.Items.take i).any (fun y => y.Ver == x.Ver) then .inl false else .inr ()) := by
  have key : ∀ j, j ≤ i → spec_StoreOk.l2 s i x j = some (if ((s.Items.take i).drop j).any (fun y => y.Ver == x.Ver) then .inl false else .inr ()) := by
    refine down _ fun j hj ih => ?_
    rw [spec_StoreOk.l2]
    by_cases hlt : j < i
    · have c : decide ((j : Int) < (i : Int)) = true := by simpa using hlt
      have hlt' : j < s.Items.length := by omega
      have hd : (s.Items.take i).drop j = s.Items[j] :: (s.Items.take i).drop (j + 1) := by
        rw [List.drop_eq_getElem_cons (by simp; omega)]; simp
      simp only [c, if_true, ix_nat, List.getElem?_eq_getElem hlt', bind_some', w64_succ (show j < 9223372036854775807 by omega), ih hlt, hd, List.any_cons]
      cases (s.Items[j].Ver == x.Ver) <;> simp
    · rw [if_neg (by simpa using hlt)]
      rw [List.drop_eq_nil_of_le (by simp; omega)]; rfl
  have := key 0 (by omega)
  simpa only [List.drop_zero, Int.natCast_zero] using this
theorem vers3 (l : List Item) (x : Item) (hl : l.length ≤ 1048576) : slices_ContainsFunc_Simpl_Item_impl_Item_impl_StoreOk_1 l x = some (l.any (fun y => y.Ver == x.Ver), x) := by
  have key : ∀ j, j ≤ l.length → if (l.drop j).any (fun y => y.Ver == x.Ver) then (∃ k : Int, 0 ≤ k ∧ slices_IndexFunc_Simpl_Item_impl_Item_impl_StoreOk_1.l0 l j x.Order.Name x.Order.Target x.Order.Low x.Order.High x.Order.Metrics x.Order.Pace.Up x.Order.Pace.Down x.Order.Pace.UpSpan x.Order.Pace.DownSpan x.Order.Notes x.Ver = some (.inl (k, x))) else slices_IndexFunc_Simpl_Item_impl_Item_impl_StoreOk_1.l0 l j x.Order.Name x.Order.Target x.Order.Low x.Order.High x.Order.Metrics x.Order.Pace.Up x.Order.Pace.Down x.Order.Pace.UpSpan x.Order.Pace.DownSpan x.Order.Notes x.Ver = some (.inr (x.Order.Name, x.Order.Target, x.Order.Low, x.Order.High, x.Order.Metrics, x.Order.Pace.Up, x.Order.Pace.Down, x.Order.Pace.UpSpan, x.Order.Pace.DownSpan, x.Order.Notes, x.Ver)) := by
    refine down _ fun j hj ih => ?_
    by_cases hlt : j < l.length
    · have c : decide ((j : Int) < (l.length : Int)) = true := by simpa using hlt
      have ih' := ih hlt
      rw [List.drop_eq_getElem_cons hlt, List.any_cons]
      rw [slices_IndexFunc_Simpl_Item_impl_Item_impl_StoreOk_1.l0]
      simp only [c, if_true, ix_nat, List.getElem?_eq_getElem hlt, bind_some', impl_StoreOk_1, w64_succ (show j < 9223372036854775807 by omega)]
      cases hv : (l[j].Ver == x.Ver)
      · simp only [Bool.false_or, Bool.false_eq_true, if_false]
        exact ih'
      · simp only [Bool.true_or, if_true]
        exact ⟨j, by omega, rfl⟩
    · have c : decide ((j : Int) < (l.length : Int)) = false := by simpa using hlt
      rw [List.drop_eq_nil_of_le (by omega), slices_IndexFunc_Simpl_Item_impl_Item_impl_StoreOk_1.l0]
      simp only [c, List.any_nil, Bool.false_eq_true, if_false]
  have k0 := key 0 (by omega)
  simp only [List.drop_zero, Int.natCast_zero] at k0
  simp only [slices_ContainsFunc_Simpl_Item_impl_Item_impl_StoreOk_1, slices_IndexFunc_Simpl_Item_impl_Item_impl_StoreOk_1]
  cases hv : l.any (fun y => y.Ver == x.Ver)
  · rw [hv, if_neg (by simp)] at k0
    rw [k0]; rfl
  · rw [hv, if_pos rfl] at k0
    obtain ⟨k, hk, e⟩ := k0
    rw [e]
    simp only [bind_some']
    rw [show decide (k ≥ 0) = true by simpa using hk]
theorem storeOk_same (s : Store) (h : Store.sm s) : ∃ b, spec_StoreOk s = some b ∧ impl_StoreOk s = some b := by
  have hl : s.Items.length ≤ 1048576 := h.1
  have key : ∀ i, i ≤ s.Items.length → ∃ b, spec_StoreOk.l0 s i = some b ∧ impl_StoreOk.l0 s i = some b := by
    refine down _ fun i hi ih => ?_
    rw [spec_StoreOk.l0, impl_StoreOk.l0]
    by_cases hlt : i < s.Items.length
    · have c : decide ((i : Int) < (s.Items.length : Int)) = true := by simpa using hlt
      obtain ⟨b, e1, e2⟩ := ih hlt
      obtain ⟨p, p1, p2⟩ := orderOk_same s.Items[i].Order (h.2 _ (List.getElem_mem hlt))
      have ht : (s.Items.take i).length ≤ 1048576 := by simp; omega
      simp only [c, if_true, ix_nat, List.getElem?_eq_getElem hlt, bind_some', p1, p2, in_some, from_some, w64_succ (show i < 9223372036854775807 by omega), e1, e2, vers1 s _ i hi hl, vers2 s _ i hi hl, slc_take _ _ hi, vers3 _ _ ht]
      split
      · exact ⟨_, rfl, rfl⟩
      · split
        · exact ⟨_, rfl, rfl⟩
        · by_cases h0 : i = 0
          · subst h0; simp
          · have e : IntKind.i64.wrap ((i : Int) - 1) = ((i - 1 : Nat) : Int) := by rw [w64_id (by omega) (by omega)]; omega
            have c2 : decide ((i : Int) > 0) = true := by simp; omega
            simp only [c2, if_true, e, ix_nat, List.getElem?_eq_getElem (show i - 1 < s.Items.length by omega), bind_some']
            split
            · exact ⟨_, rfl, rfl⟩
            · cases (s.Items.take i).any (fun y => y.Ver == s.Items[i].Ver) <;> exact ⟨_, rfl, rfl⟩
    · rw [if_neg (by simpa using hlt), if_neg (by simpa using hlt)]
      exact ⟨_, rfl, rfl⟩
  obtain ⟨b, h1, h2⟩ := key 0 (by omega)
  simp only [Int.natCast_zero] at h1 h2
  simp only [spec_StoreOk, impl_StoreOk, h1, h2, in_some, from_some, bind_some']
  generalize (decide (s.Next ≥ 1) && decide (s.Next ≤ 100000)) = x
  generalize decide ((s.Items.length : Int) > 6) = y
  cases b with
  | inl r => cases x <;> cases y <;> exact ⟨_, rfl, rfl⟩
  | inr u => cases x <;> cases y <;> exact ⟨_, rfl, rfl⟩
theorem toScaleS_some (a : List Scale) (h : smL Scale.sm a) : laws_toScaleS a = some a := by
  have hl : a.length ≤ 1048576 := h.1
  have key : ∀ i, i ≤ a.length → ∀ v : List Scale, v.length = a.length → laws_toScaleS.l0 a i v = some (v.take i ++ a.drop i) := by
    refine down _ fun i hi ih v hv => ?_
    rw [laws_toScaleS.l0]
    by_cases hlt : i < a.length
    · have c : decide ((i : Int) < (a.length : Int)) = true := by simpa using hlt
      have hv' : i < v.length := by omega
      simp only [c, if_true, ix_nat, List.getElem?_eq_getElem hlt, List.getElem?_eq_getElem hv', bind_some', toScale_some _ (h.2 _ (List.getElem_mem hlt)), put_nat hv', w64_succ (show i < 9223372036854775807 by omega)]
      rw [ih hlt _ (by simpa using hv), set_step hlt hv']
    · rw [if_neg (by simpa using hlt)]
      obtain rfl : i = a.length := by omega
      simp [List.take_of_length_le, hv]
  simp only [laws_toScaleS]
  rw [mk_ok (by omega)]
  simp only [bind_some']
  have := fun z => key 0 (by omega) (List.replicate a.length z) (by simp)
  simp only [Int.natCast_zero] at this
  simp only [this, bind_some']; simp
theorem eqScaleS_self (a : List Scale) (h : smL Scale.sm a) : laws_eqScaleS a a = some true := by
  have hl : a.length ≤ 1048576 := h.1
  have key : ∀ i, i ≤ a.length → laws_eqScaleS.l0 a a i = some (.inr ()) := by
    refine down _ fun i hi ih => ?_
    rw [laws_eqScaleS.l0]
    by_cases hlt : i < a.length
    · have c : decide ((i : Int) < (a.length : Int)) = true := by simpa using hlt
      simp only [c, if_true, ix_nat, List.getElem?_eq_getElem hlt, bind_some', eqScale_self _ (h.2 _ (List.getElem_mem hlt)), bne_self_eq_false, beq_self_eq_true, Bool.false_eq_true, if_false, Bool.not_true, w64_succ (show i < 9223372036854775807 by omega)]
      exact ih hlt
    · rw [if_neg (by simpa using hlt)]
  simp only [laws_eqScaleS, bne_self_eq_false, Bool.false_eq_true, if_false]
  have := key 0 (by omega)
  simp only [Int.natCast_zero] at this
  rw [this]; rfl
theorem szScaleS_sp (a : List Scale) (left : Int) (ha : okL Scale.ok a) (h0 : 0 ≤ left) (h1 : left ≤ 1048576) : ∃ r, laws_szScaleS a left = some r ∧ r ≤ left ∧ (r < 0 ∨ smL Scale.sm a) := by
  have hl := ha.1
  simp only [laws_szScaleS]
  rw [w64_id (by omega) (by omega)]
  by_cases h : left < a.length
  · rw [if_pos (by simp; omega)]; exact ⟨_, rfl, by omega, .inl (by omega)⟩
  · rw [if_neg (by simp; omega)]
    have key : ∀ i, i ≤ a.length → ∀ left : Int, 0 ≤ left → left ≤ 1048576 → (∃ r, laws_szScaleS.l0 a left i = some (.inl r) ∧ r < 0) ∨ ∃ r, laws_szScaleS.l0 a left i = some (.inr r) ∧ 0 ≤ r ∧ r ≤ left ∧ ∀ x ∈ a.drop i, Scale.sm x := by
      refine down _ fun i hi ih left h0 h1 => ?_
      rw [laws_szScaleS.l0]
      by_cases hlt : i < a.length
      · have c : decide ((i : Int) < (a.length : Int)) = true := by simpa using hlt
        obtain ⟨r, e, hr, hs⟩ := szScale_sp a[i] left (ha.2 _ (List.getElem_mem hlt)) h0 h1
        simp only [c, if_true, ix_nat, List.getElem?_eq_getElem hlt, bind_some', e, w64_succ (show i < 9223372036854775807 by omega)]
        by_cases hn : r < 0
        · rw [if_pos (by simpa using hn)]; exact .inl ⟨_, rfl, by omega⟩
        · rw [if_neg (by simpa using hn)]
          rcases ih hlt r (by omega) (by omega) with ⟨q, e2, h2⟩ | ⟨q, e2, h2, h3, h4⟩
          · exact .inl ⟨q, e2, h2⟩
          · refine .inr ⟨q, e2, h2, by omega, fun x hx => ?_⟩
            rw [List.drop_eq_getElem_cons hlt] at hx
            rcases List.mem_cons.1 hx with rfl | hx
            · rcases hs with hs | hs
              · exact absurd hs hn
              · exact hs
            · exact h4 x hx
      · rw [if_neg (by simpa using hlt)]
        exact .inr ⟨_, rfl, h0, Int.le_refl _, by rw [List.drop_eq_nil_of_le (by omega)]; simp⟩
    rcases key 0 (by omega) (left - a.length) (by omega) (by omega) with ⟨q, e2, h2⟩ | ⟨q, e2, h2, h3, h4⟩
    · simp only [Int.natCast_zero] at e2
      rw [e2]; exact ⟨q, rfl, by omega, .inl h2⟩
    · simp only [Int.natCast_zero] at e2
      rw [e2]; exact ⟨q, rfl, by omega, .inr ⟨by omega, by simpa using h4⟩⟩
def Told.sm (x : Told) : Prop := smS x.Name
theorem szTold_sp (x : Told) (left : Int) (h : Told.ok x) (h0 : 0 ≤ left) (h1 : left ≤ 1048576) : ∃ r, laws_szTold x left = some r ∧ r ≤ left ∧ (r < 0 ∨ Told.sm x) := by
  have := h.2.1
  unfold okS at this
  simp only [laws_szTold, Told.sm, smS]
  rw [w64_id (by omega) (by omega)]
  split
  · exact ⟨_, rfl, by omega, .inl (by omega)⟩
  · rename_i h; simp at h; exact ⟨_, rfl, by omega, .inr (by omega)⟩
theorem toToldS_some (a : List Told) (h : smL Told.sm a) : laws_toToldS a = some a := by
  have hl : a.length ≤ 1048576 := h.1
  have key : ∀ i, i ≤ a.length → ∀ v : List Told, v.length = a.length → laws_toToldS.l0 a i v = some (v.take i ++ a.drop i) := by
    refine down _ fun i hi ih v hv => ?_
    rw [laws_toToldS.l0]
    by_cases hlt : i < a.length
    · have c : decide ((i : Int) < (a.length : Int)) = true := by simpa using hlt
      have hv' : i < v.length := by omega
      simp only [c, if_true, ix_nat, List.getElem?_eq_getElem hlt, List.getElem?_eq_getElem hv', bind_some', laws_toTold, put_nat hv', w64_succ (show i < 9223372036854775807 by omega)]
      rw [ih hlt _ (by simpa using hv), set_step hlt hv']
    · rw [if_neg (by simpa using hlt)]
      obtain rfl : i = a.length := by omega
      simp [List.take_of_length_le, hv]
  simp only [laws_toToldS]
  rw [mk_ok (by omega)]
  simp only [bind_some']
  have := fun z => key 0 (by omega) (List.replicate a.length z) (by simp)
  simp only [Int.natCast_zero] at this
  simp only [this, bind_some']; simp
theorem eqToldS_self (a : List Told) (h : smL Told.sm a) : laws_eqToldS a a = some true := by
  have hl : a.length ≤ 1048576 := h.1
  have key : ∀ i, i ≤ a.length → laws_eqToldS.l0 a a i = some (.inr ()) := by
    refine down _ fun i hi ih => ?_
    rw [laws_eqToldS.l0]
    by_cases hlt : i < a.length
    · have c : decide ((i : Int) < (a.length : Int)) = true := by simpa using hlt
      simp only [c, if_true, ix_nat, List.getElem?_eq_getElem hlt, bind_some', laws_eqTold, bne_self_eq_false, beq_self_eq_true, Bool.false_eq_true, if_false, Bool.not_true, w64_succ (show i < 9223372036854775807 by omega)]
      exact ih hlt
    · rw [if_neg (by simpa using hlt)]
  simp only [laws_eqToldS, bne_self_eq_false, Bool.false_eq_true, if_false]
  have := key 0 (by omega)
  simp only [Int.natCast_zero] at this
  rw [this]; rfl
theorem szToldS_sp (a : List Told) (left : Int) (ha : okL Told.ok a) (h0 : 0 ≤ left) (h1 : left ≤ 1048576) : ∃ r, laws_szToldS a left = some r ∧ r ≤ left ∧ (r < 0 ∨ smL Told.sm a) := by
  have hl := ha.1
  simp only [laws_szToldS]
  rw [w64_id (by omega) (by omega)]
  by_cases h : left < a.length
  · rw [if_pos (by simp; omega)]; exact ⟨_, rfl, by omega, .inl (by omega)⟩
  · rw [if_neg (by simp; omega)]
    have key : ∀ i, i ≤ a.length → ∀ left : Int, 0 ≤ left → left ≤ 1048576 → (∃ r, laws_szToldS.l0 a left i = some (.inl r) ∧ r < 0) ∨ ∃ r, laws_szToldS.l0 a left i = some (.inr r) ∧ 0 ≤ r ∧ r ≤ left ∧ ∀ x ∈ a.drop i, Told.sm x := by
      refine down _ fun i hi ih left h0 h1 => ?_
      rw [laws_szToldS.l0]
      by_cases hlt : i < a.length
      · have c : decide ((i : Int) < (a.length : Int)) = true := by simpa using hlt
        obtain ⟨r, e, hr, hs⟩ := szTold_sp a[i] left (ha.2 _ (List.getElem_mem hlt)) h0 h1
        simp only [c, if_true, ix_nat, List.getElem?_eq_getElem hlt, bind_some', e, w64_succ (show i < 9223372036854775807 by omega)]
        by_cases hn : r < 0
        · rw [if_pos (by simpa using hn)]; exact .inl ⟨_, rfl, by omega⟩
        · rw [if_neg (by simpa using hn)]
          rcases ih hlt r (by omega) (by omega) with ⟨q, e2, h2⟩ | ⟨q, e2, h2, h3, h4⟩
          · exact .inl ⟨q, e2, h2⟩
          · refine .inr ⟨q, e2, h2, by omega, fun x hx => ?_⟩
            rw [List.drop_eq_getElem_cons hlt] at hx
            rcases List.mem_cons.1 hx with rfl | hx
            · rcases hs with hs | hs
              · exact absurd hs hn
              · exact hs
            · exact h4 x hx
      · rw [if_neg (by simpa using hlt)]
        exact .inr ⟨_, rfl, h0, Int.le_refl _, by rw [List.drop_eq_nil_of_le (by omega)]; simp⟩
    rcases key 0 (by omega) (left - a.length) (by omega) (by omega) with ⟨q, e2, h2⟩ | ⟨q, e2, h2, h3, h4⟩
    · simp only [Int.natCast_zero] at e2
      rw [e2]; exact ⟨q, rfl, by omega, .inl h2⟩
    · simp only [Int.natCast_zero] at e2
      rw [e2]; exact ⟨q, rfl, by omega, .inr ⟨by omega, by simpa using h4⟩⟩
def World.sm (x : World) : Prop := Store.sm x.Store ∧ smL Scale.sm x.Scales ∧ smL Told.sm x.Log
theorem szWorld_sp (x : World) (left : Int) (h : World.ok x) (h0 : 0 ≤ left) (h1 : left ≤ 1048576) : ∃ r, laws_szWorld x left = some r ∧ r ≤ left ∧ (r < 0 ∨ World.sm x) := by
  obtain ⟨r, e, hr, hs⟩ := szStore_sp x.Store left h.1 h0 h1
  simp only [laws_szWorld, e, bind_some']
  split
  · exact ⟨_, rfl, by omega, .inl (by omega)⟩
  · rename_i h3; simp at h3
    obtain ⟨r2, e2, hr2, hs2⟩ := szScaleS_sp x.Scales r h.2.1 (by omega) (by omega)
    simp only [e2, bind_some']
    split
    · exact ⟨_, rfl, by omega, .inl (by omega)⟩
    · rename_i h4; simp at h4
      obtain ⟨r3, e3, hr3, hs3⟩ := szToldS_sp x.Log r2 h.2.2.2 (by omega) (by omega)
      simp only [e3, bind_some']
      split
      · exact ⟨_, rfl, by omega, .inl (by omega)⟩
      · rename_i h5; simp at h5
        rcases hs with hs | hs
        · omega
        · rcases hs2 with hs2 | hs2
          · omega
          · rcases hs3 with hs3 | hs3
            · omega
            · exact ⟨_, rfl, by omega, .inr ⟨hs, hs2, hs3⟩⟩
theorem toWorld_some (x : World) (h : World.sm x) : laws_toWorld x = some x := by
  simp only [laws_toWorld, toStore_some _ h.1, toScaleS_some _ h.2.1, toToldS_some _ h.2.2, bind_some']
theorem eqWorld_self (x : World) (h : World.sm x) : laws_eqWorld x x = some true := by
  simp only [laws_eqWorld, eqStore_self _ h.1, eqScaleS_self _ h.2.1, eqToldS_self _ h.2.2, bind_some', beq_self_eq_true, bne_self_eq_false, Bool.not_true, Bool.false_eq_true, if_false]
theorem scales_same (w : World) (h : World.sm w) (he : w.Scales.length = w.Store.Items.length) : ∃ b : Bool, spec_WorldOk.l0 w 0 = some (if b then .inr () else .inl false) ∧ impl_WorldOk.l0 w 0 = some (if b then .inr () else .inl false) := by
  have hl : w.Scales.length ≤ 1048576 := h.2.1.1
  have key : ∀ i, i ≤ w.Scales.length → ∃ b : Bool, spec_WorldOk.l0 w i = some (if b then .inr () else .inl false) ∧ impl_WorldOk.l0 w i = some (if b then .inr () else .inl false) := by
    refine down _ fun i hi ih => ?_
    rw [spec_WorldOk.l0, impl_WorldOk.l0]
    by_cases hlt : i < w.Scales.length
    · have c : decide ((i : Int) < (w.Scales.length : Int)) = true := by simpa using hlt
      obtain ⟨b, e1, e2⟩ := ih hlt
      have hm := h.2.1.2 _ (List.getElem_mem hlt)
      have hr : w.Scales[i].Recs.length ≤ 1048576 := hm.2.1
      obtain ⟨p, p1, p2⟩ := scaleOk_same w.Scales[i] hm
      simp only [c, if_true, ix_nat, List.getElem?_eq_getElem hlt, List.getElem?_eq_getElem (show i < w.Store.Items.length by omega), bind_some', p1, p2, w64_succ (show i < 9223372036854775807 by omega), e1, e2]
      split
      · exact ⟨false, rfl, rfl⟩
      · split
        · exact ⟨false, rfl, rfl⟩
        · by_cases h0 : w.Scales[i].Recs.length = 0
          · simp only [h0]; exact ⟨b, by simp, by simp⟩
          · have e : IntKind.i64.wrap ((w.Scales[i].Recs.length : Int) - 1) = ((w.Scales[i].Recs.length - 1 : Nat) : Int) := by rw [w64_id (by omega) (by omega)]; omega
            have c2 : decide ((w.Scales[i].Recs.length : Int) > 0) = true := by simp; omega
            simp only [c2, if_true, e, ix_nat, List.getElem?_eq_getElem (show w.Scales[i].Recs.length - 1 < w.Scales[i].Recs.length by omega), bind_some']
            split
            · exact ⟨false, rfl, rfl⟩
            · exact ⟨b, rfl, rfl⟩
    · rw [if_neg (by simpa using hlt), if_neg (by simpa using hlt)]
      exact ⟨true, rfl, rfl⟩
  simpa using key 0 (by omega)
theorem log_same (w : World) (h : World.sm w) : ∃ b : Bool, spec_l18Log.l0 w 0 = some (if b then .inr () else .inl false) ∧ impl_WorldOk.l1 w 0 = some (if b then .inr () else .inl false) := by
  have hl : w.Log.length ≤ 1048576 := h.2.2.1
  have key : ∀ i, i ≤ w.Log.length → ∃ b : Bool, spec_l18Log.l0 w i = some (if b then .inr () else .inl false) ∧ impl_WorldOk.l1 w i = some (if b then .inr () else .inl false) := by
    refine down _ fun i hi ih => ?_
    rw [spec_l18Log.l0, impl_WorldOk.l1]
    by_cases hlt : i < w.Log.length
    · have c : decide ((i : Int) < (w.Log.length : Int)) = true := by simpa using hlt
      obtain ⟨b, e1, e2⟩ := ih hlt
      obtain ⟨p, p1, p2⟩ := nameOk_same w.Log[i].Name (h.2.2.2 _ (List.getElem_mem hlt))
      simp only [c, if_true, ix_nat, List.getElem?_eq_getElem hlt, bind_some', p1, p2, in_some, from_some, impl_isMany, w64_succ (show i < 9223372036854775807 by omega), e1, e2]
      split
      · exact ⟨false, rfl, rfl⟩
      · split
        · exact ⟨false, rfl, rfl⟩
        · split
          · exact ⟨false, rfl, rfl⟩
          · by_cases h0 : i = 0
            · subst h0; exact ⟨b, by simp, by simp⟩
            · have e : IntKind.i64.wrap ((i : Int) - 1) = ((i - 1 : Nat) : Int) := by rw [w64_id (by omega) (by omega)]; omega
              have c2 : decide ((i : Int) > 0) = true := by simp; omega
              simp only [c2, if_true, e, ix_nat, List.getElem?_eq_getElem (show i - 1 < w.Log.length by omega), bind_some']
              split
              · exact ⟨false, rfl, rfl⟩
              · exact ⟨b, rfl, rfl⟩
    · rw [if_neg (by simpa using hlt), if_neg (by simpa using hlt)]
      exact ⟨true, rfl, rfl⟩
  simpa using key 0 (by omega)
theorem worldOk_same (w : World) (h : World.sm w) : ∃ b, spec_WorldOk w = some b ∧ impl_WorldOk w = some b := by
  obtain ⟨s, s1, s2⟩ := storeOk_same w.Store h.1
  obtain ⟨l, l1, l2⟩ := log_same w h
  simp only [spec_WorldOk, impl_WorldOk, spec_l18Log, impl_isTime, s1, s2, l1, l2, in_some, from_some, bind_some']
  by_cases he : w.Scales.length = w.Store.Items.length
  · obtain ⟨c, c1, c2⟩ := scales_same w h he
    simp only [c1, c2, he, bne_self_eq_false, Bool.false_eq_true, if_false, bind_some']
    generalize (decide (w.Time ≥ 0) && decide (w.Time ≤ 1000000)) = x
    have hy : decide ((w.Log.length : Int) > 40) = !decide ((w.Log.length : Int) ≤ 40) := by
      by_cases g : (w.Log.length : Int) ≤ 40
      · rw [decide_eq_true g, decide_eq_false (by omega)]; rfl
      · rw [decide_eq_false g, decide_eq_true (by omega)]; rfl
    rw [hy]
    generalize decide ((w.Log.length : Int) ≤ 40) = y
    cases s <;> cases l <;> cases c <;> cases x <;> cases y <;> exact ⟨_, rfl, rfl⟩
  · have g : ((w.Scales.length : Int) != (w.Store.Items.length : Int)) = true := by simpa using (by omega : ¬ ((w.Scales.length : Int) = (w.Store.Items.length : Int)))
    simp only [g, if_true]
    cases s <;> exact ⟨_, rfl, rfl⟩
theorem Pure.FnExactWorldOk (w : World) (hw : World.ok w) : laws_FnExactWorldOk w = some true := by
  simp only [laws_FnExactWorldOk]
  obtain ⟨r, e, _, hr⟩ := szWorld_sp w _ hw (by omega : (0 : Int) ≤ 1048576) (by omega)
  simp only [e, bind_some']
  rcases hr with hr | hr
  · rw [if_pos (by simpa using hr)]
  · obtain ⟨b, h1, h2⟩ := worldOk_same w hr
    split
    · rfl
    · simp only [toWorld_some w hr, bind_some', h1, h2, bne_self_eq_false, Bool.false_eq_true, if_false, eqWorld_self w hr, Bool.not_true]
end Go.Pu
