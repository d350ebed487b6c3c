import Derived.Test.YtligkplajabcfaaFindPu
set_option linter.unusedVariables false
set_option linter.unusedSimpArgs false
set_option synthInstance.maxSize 1000000000
namespace Go.Pu
open Go.Nt
theorem w64_id {n : Int} (h0 : -9223372036854775808 ≤ n) (h1 : n ≤ 9223372036854775807) : IntKind.i64.wrap n = n := by
  simp only [IntKind.wrap, IntKind.bits, IntKind.signed, Bool.true_and]
  split
  · rename_i h; simp at h; omega
  · rename_i h; simp at h; omega
theorem w64_succ {i : Nat} (h : i < 9223372036854775807) : IntKind.i64.wrap ((i : Int) + 1) = ((i + 1 : Nat) : Int) := by
  rw [w64_id (by omega) (by omega)]; omega
theorem ix_nat {α : Type} (l : List α) (i : Nat) : ix l (i : Int) = l[i]? := by simp [ix]
theorem put_nat {α : Type} {l : List α} {i : Nat} {x : α} (h : i < l.length) : Nt.put l (i : Int) x = some (l.set i x) := by simp [Nt.put, h]
theorem app_ok {α : Type} {b : Nat} {l m : List α} (h : (l.length + m.length) * b ≤ 70368744177664) : app b l m = some (l ++ m) := by
  simp only [app]; rw [if_pos h]
theorem mk_ok {α : Type} {b n : Nat} {x : α} (h : b * n ≤ 140737488355328) : Nt.mk b (n : Int) x = some (List.replicate n x) := by
  simp only [Nt.mk]; rw [if_pos ⟨by omega, by exact_mod_cast h⟩]; simp
/-- down from the end -/
theorem down {P : Nat → Prop} (n : Nat) (h : ∀ i, i ≤ n → (i < n → P (i + 1)) → P i) : ∀ i, i ≤ n → P i := by
  intro i hi
  obtain ⟨k, hk⟩ : ∃ k, k = n - i := ⟨_, rfl⟩
  induction k generalizing i with
  | zero => exact h i hi fun hlt => by omega
  | succ k ih => exact h i hi fun hlt => ih (i + 1) hlt (by omega)
theorem bind_some' {α β : Type} (x : α) (f : α → Option β) : (some x >>= f) = f x := rfl
theorem set_step {α : Type} {a v : List α} {i : Nat} (h : i < a.length) (hv : i < v.length) : some ((v.set i a[i]).take (i + 1) ++ a.drop (i + 1)) = some (v.take i ++ a.drop i) := by
  rw [List.take_set, List.take_add_one, List.getElem?_eq_getElem hv, List.set_append_right _ _ (by simp; omega), List.drop_eq_getElem_cons h]
  have : i - min i v.length = 0 := by omega
  simp [this]
def smL {α : Type} (p : α → Prop) (l : List α) : Prop := l.length ≤ 1048576 ∧ ∀ x ∈ l, p x
def smS (s : Str) : Prop := s.length ≤ 1048576
def Metric.sm (x : Metric) : Prop := smS x.Name
theorem szMetric_sp (x : Metric) (left : Int) (h : Metric.ok x) (h0 : 0 ≤ left) (h1 : left ≤ 1048576) : ∃ r, laws_szMetric x left = some r ∧ r ≤ left ∧ (r < 0 ∨ Metric.sm x) := by
  have := h.1
  unfold okS at this
  simp only [laws_szMetric, Metric.sm, smS]
  rw [w64_id (by omega) (by omega)]
  split
  · exact ⟨_, rfl, by omega, .inl (by omega)⟩
  · rename_i h; simp at h; exact ⟨_, rfl, by omega, .inr (by omega)⟩
theorem toMetricS_some (a : List Metric) (h : smL Metric.sm a) : laws_toMetricS a = some a := by
  have hl : a.length ≤ 1048576 := h.1
  have key : ∀ i, i ≤ a.length → ∀ v : List Metric, v.length = a.length → laws_toMetricS.l0 a i v = some (v.take i ++ a.drop i) := by
    refine down _ fun i hi ih v hv => ?_
    rw [laws_toMetricS.l0]
    by_cases hlt : i < a.length
    · have c : decide ((i : Int) < (a.length : Int)) = true := by simpa using hlt
      have hv' : i < v.length := by omega
      simp only [c, if_true, ix_nat, List.getElem?_eq_getElem hlt, List.getElem?_eq_getElem hv', bind_some', laws_toMetric, put_nat hv', w64_succ (show i < 9223372036854775807 by omega)]
      rw [ih hlt _ (by simpa using hv), set_step hlt hv']
    · rw [if_neg (by simpa using hlt)]
      obtain rfl : i = a.length := by omega
      simp [List.take_of_length_le, hv]
  simp only [laws_toMetricS]
  rw [mk_ok (by omega)]
  simp only [bind_some']
  have := fun z => key 0 (by omega) (List.replicate a.length z) (by simp)
  simp only [Int.natCast_zero] at this
  simp only [this, bind_some']; simp
theorem eqMetricS_self (a : List Metric) (h : smL Metric.sm a) : laws_eqMetricS a a = some true := by
  have hl : a.length ≤ 1048576 := h.1
  have key : ∀ i, i ≤ a.length → laws_eqMetricS.l0 a a i = some (.inr ()) := by
    refine down _ fun i hi ih => ?_
    rw [laws_eqMetricS.l0]
    by_cases hlt : i < a.length
    · have c : decide ((i : Int) < (a.length : Int)) = true := by simpa using hlt
      simp only [c, if_true, ix_nat, List.getElem?_eq_getElem hlt, bind_some', laws_eqMetric, bne_self_eq_false, beq_self_eq_true, Bool.false_eq_true, if_false, Bool.not_true, w64_succ (show i < 9223372036854775807 by omega)]
      exact ih hlt
    · rw [if_neg (by simpa using hlt)]
  simp only [laws_eqMetricS, bne_self_eq_false, Bool.false_eq_true, if_false]
  have := key 0 (by omega)
  simp only [Int.natCast_zero] at this
  rw [this]; rfl
theorem szMetricS_sp (a : List Metric) (left : Int) (ha : okL Metric.ok a) (h0 : 0 ≤ left) (h1 : left ≤ 1048576) : ∃ r, laws_szMetricS a left = some r ∧ r ≤ left ∧ (r < 0 ∨ smL Metric.sm a) := by
  have hl := ha.1
  simp only [laws_szMetricS]
  rw [w64_id (by omega) (by omega)]
  by_cases h : left < a.length
  · rw [if_pos (by simp; omega)]; exact ⟨_, rfl, by omega, .inl (by omega)⟩
  · rw [if_neg (by simp; omega)]
    have key : ∀ i, i ≤ a.length → ∀ left : Int, 0 ≤ left → left ≤ 1048576 → (∃ r, laws_szMetricS.l0 a left i = some (.inl r) ∧ r < 0) ∨ ∃ r, laws_szMetricS.l0 a left i = some (.inr r) ∧ 0 ≤ r ∧ r ≤ left ∧ ∀ x ∈ a.drop i, Metric.sm x := by
      refine down _ fun i hi ih left h0 h1 => ?_
      rw [laws_szMetricS.l0]
      by_cases hlt : i < a.length
      · have c : decide ((i : Int) < (a.length : Int)) = true := by simpa using hlt
        obtain ⟨r, e, hr, hs⟩ := szMetric_sp a[i] left (ha.2 _ (List.getElem_mem hlt)) h0 h1
        simp only [c, if_true, ix_nat, List.getElem?_eq_getElem hlt, bind_some', e, w64_succ (show i < 9223372036854775807 by omega)]
        by_cases hn : r < 0
        · rw [if_pos (by simpa using hn)]; exact .inl ⟨_, rfl, by omega⟩
        · rw [if_neg (by simpa using hn)]
          rcases ih hlt r (by omega) (by omega) with ⟨q, e2, h2⟩ | ⟨q, e2, h2, h3, h4⟩
          · exact .inl ⟨q, e2, h2⟩
          · refine .inr ⟨q, e2, h2, by omega, fun x hx => ?_⟩
            rw [List.drop_eq_getElem_cons hlt] at hx
            rcases List.mem_cons.1 hx with rfl | hx
            · rcases hs with hs | hs
              · exact absurd hs hn
              · exact hs
            · exact h4 x hx
      · rw [if_neg (by simpa using hlt)]
        exact .inr ⟨_, rfl, h0, Int.le_refl _, by rw [List.drop_eq_nil_of_le (by omega)]; simp⟩
    rcases key 0 (by omega) (left - a.length) (by omega) (by omega) with ⟨q, e2, h2⟩ | ⟨q, e2, h2, h3, h4⟩
    · simp only [Int.natCast_zero] at e2
      rw [e2]; exact ⟨q, rfl, by omega, .inl h2⟩
    · simp only [Int.natCast_zero] at e2
      rw [e2]; exact ⟨q, rfl, by omega, .inr ⟨by omega, by simpa using h4⟩⟩
def Note.sm (x : Note) : Prop := smS x.Key ∧ smS x.Text
theorem szNote_sp (x : Note) (left : Int) (h : Note.ok x) (h0 : 0 ≤ left) (h1 : left ≤ 1048576) : ∃ r, laws_szNote x left = some r ∧ r ≤ left ∧ (r < 0 ∨ Note.sm x) := by
  have e1 := h.1
  have e2 := h.2
  unfold okS at e1 e2
  simp only [laws_szNote, Note.sm, smS]
  rw [w64_id (n := left - _) (by omega) (by omega)]
  split
  · exact ⟨_, rfl, by omega, .inl (by omega)⟩
  · rename_i h; simp at h
    rw [w64_id (by omega) (by omega)]
    split
    · exact ⟨_, rfl, by omega, .inl (by omega)⟩
    · rename_i h3; simp at h3; exact ⟨_, rfl, by omega, .inr ⟨by omega, by omega⟩⟩
theorem toNoteS_some (a : List Note) (h : smL Note.sm a) : laws_toNoteS a = some a := by
  have hl : a.length ≤ 1048576 := h.1
  have key : ∀ i, i ≤ a.length → ∀ v : List Note, v.length = a.length → laws_toNoteS.l0 a i v = some (v.take i ++ a.drop i) := by
    refine down _ fun i hi ih v hv => ?_
    rw [laws_toNoteS.l0]
    by_cases hlt : i < a.length
    · have c : decide ((i : Int) < (a.length : Int)) = true := by simpa using hlt
      have hv' : i < v.length := by omega
      simp only [c, if_true, ix_nat, List.getElem?_eq_getElem hlt, List.getElem?_eq_getElem hv', bind_some', laws_toNote, put_nat hv', w64_succ (show i < 9223372036854775807 by omega)]
      rw [ih hlt _ (by simpa using hv), set_step hlt hv']
    · rw [if_neg (by simpa using hlt)]
      obtain rfl : i = a.length := by omega
      simp [List.take_of_length_le, hv]
  simp only [laws_toNoteS]
  rw [mk_ok (by omega)]
  simp only [bind_some']
  have := fun z => key 0 (by omega) (List.replicate a.length z) (by simp)
  simp only [Int.natCast_zero] at this
  simp only [this, bind_some']; simp
theorem eqNoteS_self (a : List Note) (h : smL Note.sm a) : laws_eqNoteS a a = some true := by
  have hl : a.length ≤ 1048576 := h.1
  have key : ∀ i, i ≤ a.length → laws_eqNoteS.l0 a a i = some (.inr ()) := by
    refine down _ fun i hi ih => ?_
    rw [laws_eqNoteS.l0]
    by_cases hlt : i < a.length
    · have c : decide ((i : Int) < (a.length : Int)) = true := by simpa using hlt
      simp only [c, if_true, ix_nat, List.getElem?_eq_getElem hlt, bind_some', laws_eqNote, bne_self_eq_false, beq_self_eq_true, Bool.false_eq_true, if_false, Bool.not_true, w64_succ (show i < 9223372036854775807 by omega)]
      exact ih hlt
    · rw [if_neg (by simpa using hlt)]
  simp only [laws_eqNoteS, bne_self_eq_false, Bool.false_eq_true, if_false]
  have := key 0 (by omega)
  simp only [Int.natCast_zero] at this
  rw [this]; rfl
theorem szNoteS_sp (a : List Note) (left : Int) (ha : okL Note.ok a) (h0 : 0 ≤ left) (h1 : left ≤ 1048576) : ∃ r, laws_szNoteS a left = some r ∧ r ≤ left ∧ (r < 0 ∨ smL Note.sm a) := by
  have hl := ha.1
  simp only [laws_szNoteS]
  rw [w64_id (by omega) (by omega)]
  by_cases h : left < a.length
  · rw [if_pos (by simp; omega)]; exact ⟨_, rfl, by omega, .inl (by omega)⟩
  · rw [if_neg (by simp; omega)]
    have key : ∀ i, i ≤ a.length → ∀ left : Int, 0 ≤ left → left ≤ 1048576 → (∃ r, laws_szNoteS.l0 a left i = some (.inl r) ∧ r < 0) ∨ ∃ r, laws_szNoteS.l0 a left i = some (.inr r) ∧ 0 ≤ r ∧ r ≤ left ∧ ∀ x ∈ a.drop i, Note.sm x := by
      refine down _ fun i hi ih left h0 h1 => ?_
      rw [laws_szNoteS.l0]
      by_cases hlt : i < a.length
      · have c : decide ((i : Int) < (a.length : Int)) = true := by simpa using hlt
        obtain ⟨r, e, hr, hs⟩ := szNote_sp a[i] left (ha.2 _ (List.getElem_mem hlt)) h0 h1
        simp only [c, if_true, ix_nat, List.getElem?_eq_getElem hlt, bind_some', e, w64_succ (show i < 9223372036854775807 by omega)]
        by_cases hn : r < 0
        · rw [if_pos (by simpa using hn)]; exact .inl ⟨_, rfl, by omega⟩
        · rw [if_neg (by simpa using hn)]
          rcases ih hlt r (by omega) (by omega) with ⟨q, e2, h2⟩ | ⟨q, e2, h2, h3, h4⟩
          · exact .inl ⟨q, e2, h2⟩
          · refine .inr ⟨q, e2, h2, by omega, fun x hx => ?_⟩
            rw [List.drop_eq_getElem_cons hlt] at hx
            rcases List.mem_cons.1 hx with rfl | hx
            · rcases hs with hs | hs
              · exact absurd hs hn
              · exact hs
            · exact h4 x hx
      · rw [if_neg (by simpa using hlt)]
        exact .inr ⟨_, rfl, h0, Int.le_refl _, by rw [List.drop_eq_nil_of_le (by omega)]; simp⟩
    rcases key 0 (by omega) (left - a.length) (by omega) (by omega) with ⟨q, e2, h2⟩ | ⟨q, e2, h2, h3, h4⟩
    · simp only [Int.natCast_zero] at e2
      rw [e2]; exact ⟨q, rfl, by omega, .inl h2⟩
    · simp only [Int.natCast_zero] at e2
      rw [e2]; exact ⟨q, rfl, by omega, .inr ⟨by omega, by simpa using h4⟩⟩
def Order.sm (x : Order) : Prop := smS x.Name ∧ smS x.Target ∧ smL Metric.sm x.Metrics ∧ smL Note.sm x.Notes
theorem szOrder_sp (x : Order) (left : Int) (h : Order.ok x) (h0 : 0 ≤ left) (h1 : left ≤ 1048576) : ∃ r, laws_szOrder x left = some r ∧ r ≤ left ∧ (r < 0 ∨ Order.sm x) := by
  have e1 := h.1
  have e2 := h.2.1
  unfold okS at e1 e2
  simp only [laws_szOrder, Order.sm, smS]
  rw [w64_id (n := left - _) (by omega) (by omega)]
  split
  · exact ⟨_, rfl, by omega, .inl (by omega)⟩
  · rename_i hn; simp at hn
    rw [w64_id (by omega) (by omega)]
    split
    · exact ⟨_, rfl, by omega, .inl (by omega)⟩
    · rename_i hn2; simp at hn2
      obtain ⟨r, e, hr, hs⟩ := szMetricS_sp x.Metrics (left - x.Name.length - x.Target.length) h.2.2.2.2.1 (by omega) (by omega)
      simp only [e, bind_some']
      split
      · exact ⟨_, rfl, by omega, .inl (by omega)⟩
      · rename_i h3; simp at h3
        obtain ⟨r2, e2, hr2, hs2⟩ := szNoteS_sp x.Notes r h.2.2.2.2.2.2 (by omega) (by omega)
        simp only [e2, bind_some']
        split
        · exact ⟨_, rfl, by omega, .inl (by omega)⟩
        · rename_i h4; simp at h4
          rcases hs with hs | hs
          · omega
          · rcases hs2 with hs2 | hs2
            · omega
            · exact ⟨_, rfl, by omega, .inr ⟨by omega, by omega, hs, hs2⟩⟩
theorem toOrder_some (x : Order) (h : Order.sm x) : laws_toOrder x = some x := by
  simp only [laws_toOrder, toMetricS_some _ h.2.2.1, toNoteS_some _ h.2.2.2, laws_toPace, bind_some']
theorem eqOrder_self (x : Order) (h : Order.sm x) : laws_eqOrder x x = some true := by
  simp only [laws_eqOrder, eqMetricS_self _ h.2.2.1, eqNoteS_self _ h.2.2.2, laws_eqPace, bind_some', beq_self_eq_true, bne_self_eq_false, Bool.not_true, Bool.false_eq_true, if_false]
def Item.sm (x : Item) : Prop := Order.sm x.Order
theorem szItem_sp (x : Item) (left : Int) (h : Item.ok x) (h0 : 0 ≤ left) (h1 : left ≤ 1048576) : ∃ r, laws_szItem x left = some r ∧ r ≤ left ∧ (r < 0 ∨ Item.sm x) := by
  obtain ⟨r, e, hr, hs⟩ := szOrder_sp x.Order left h.1 h0 h1
  simp only [laws_szItem, e, bind_some']
  split
  · exact ⟨_, rfl, by omega, .inl (by omega)⟩
  · exact ⟨_, rfl, hr, hs⟩
theorem toItem_some (x : Item) (h : Item.sm x) : laws_toItem x = some x := by
  simp only [laws_toItem, toOrder_some _ h, bind_some']
theorem eqItem_self (x : Item) (h : Item.sm x) : laws_eqItem x x = some true := by
  simp only [laws_eqItem, eqOrder_self _ h, bind_some', beq_self_eq_true, bne_self_eq_false, Bool.not_true, Bool.false_eq_true, if_false]
theorem toItemS_some (a : List Item) (h : smL Item.sm a) : laws_toItemS a = some a := by
  have hl : a.length ≤ 1048576 := h.1
  have key : ∀ i, i ≤ a.length → ∀ v : List Item, v.length = a.length → laws_toItemS.l0 a i v = some (v.take i ++ a.drop i) := by
    refine down _ fun i hi ih v hv => ?_
    rw [laws_toItemS.l0]
    by_cases hlt : i < a.length
    · have c : decide ((i : Int) < (a.length : Int)) = true := by simpa using hlt
      have hv' : i < v.length := by omega
      simp only [c, if_true, ix_nat, List.getElem?_eq_getElem hlt, List.getElem?_eq_getElem hv', bind_some', toItem_some _ (h.2 _ (List.getElem_mem hlt)), put_nat hv', w64_succ (show i < 9223372036854775807 by omega)]
      rw [ih hlt _ (by simpa using hv), set_step hlt hv']
    · rw [if_neg (by simpa using hlt)]
      obtain rfl : i = a.length := by omega
      simp [List.take_of_length_le, hv]
  simp only [laws_toItemS]
  rw [mk_ok (by omega)]
  simp only [bind_some']
  have := fun z => key 0 (by omega) (List.replicate a.length z) (by simp)
  simp only [Int.natCast_zero] at this
  simp only [this, bind_some']; simp
theorem eqItemS_self (a : List Item) (h : smL Item.sm a) : laws_eqItemS a a = some true := by
  have hl : a.length ≤ 1048576 := h.1
  have key : ∀ i, i ≤ a.length → laws_eqItemS.l0 a a i = some (.inr ()) := by
    refine down _ fun i hi ih => ?_
    rw [laws_eqItemS.l0]
    by_cases hlt : i < a.length
    · have c : decide ((i : Int) < (a.length : Int)) = true := by simpa using hlt
      simp only [c, if_true, ix_nat, List.getElem?_eq_getElem hlt, bind_some', eqItem_self _ (h.2 _ (List.getElem_mem hlt)), bne_self_eq_false, beq_self_eq_true, Bool.false_eq_true, if_false, Bool.not_true, w64_succ (show i < 9223372036854775807 by omega)]
      exact ih hlt
    · rw [if_neg (by simpa using hlt)]
  simp only [laws_eqItemS, bne_self_eq_false, Bool.false_eq_true, if_false]
  have := key 0 (by omega)
  simp only [Int.natCast_zero] at this
  rw [this]; rfl
theorem szItemS_sp (a : List Item) (left : Int) (ha : okL Item.ok a) (h0 : 0 ≤ left) (h1 : left ≤ 1048576) : ∃ r, laws_szItemS a left = some r ∧ r ≤ left ∧ (r < 0 ∨ smL Item.sm a) := by
  have hl := ha.1
  simp only [laws_szItemS]
  rw [w64_id (by omega) (by omega)]
  by_cases h : left < a.length
  · rw [if_pos (by simp; omega)]; exact ⟨_, rfl, by omega, .inl (by omega)⟩
  · rw [if_neg (by simp; omega)]
    have key : ∀ i, i ≤ a.length → ∀ left : Int, 0 ≤ left → left ≤ 1048576 → (∃ r, laws_szItemS.l0 a left i = some (.inl r) ∧ r < 0) ∨ ∃ r, laws_szItemS.l0 a left i = some (.inr r) ∧ 0 ≤ r ∧ r ≤ left ∧ ∀ x ∈ a.drop i, Item.sm x := by
      refine down _ fun i hi ih left h0 h1 => ?_
      rw [laws_szItemS.l0]
      by_cases hlt : i < a.length
      · have c : decide ((i : Int) < (a.length : Int)) = true := by simpa using hlt
        obtain ⟨r, e, hr, hs⟩ := szItem_sp a[i] left (ha.2 _ (List.getElem_mem hlt)) h0 h1
        simp only [c, if_true, ix_nat, List.getElem?_eq_getElem hlt, bind_some', e, w64_succ (show i < 9223372036854775807 by omega)]
        by_cases hn : r < 0
        · rw [if_pos (by simpa using hn)]; exact .inl ⟨_, rfl, by omega⟩
        · rw [if_neg (by simpa using hn)]
          rcases ih hlt r (by omega) (by omega) with ⟨q, e2, h2⟩ | ⟨q, e2, h2, h3, h4⟩
          · exact .inl ⟨q, e2, h2⟩
          · refine .inr ⟨q, e2, h2, by omega, fun x hx => ?_⟩
            rw [List.drop_eq_getElem_cons hlt] at hx
            rcases List.mem_cons.1 hx with rfl | hx
            · rcases hs with hs | hs
              · exact absurd hs hn
              · exact hs
            · exact h4 x hx
      · rw [if_neg (by simpa using hlt)]
        exact .inr ⟨_, rfl, h0, Int.le_refl _, by rw [List.drop_eq_nil_of_le (by omega)]; simp⟩
    rcases key 0 (by omega) (left - a.length) (by omega) (by omega) with ⟨q, e2, h2⟩ | ⟨q, e2, h2, h3, h4⟩
    · simp only [Int.natCast_zero] at e2
      rw [e2]; exact ⟨q, rfl, by omega, .inl h2⟩
    · simp only [Int.natCast_zero] at e2
      rw [e2]; exact ⟨q, rfl, by omega, .inr ⟨by omega, by simpa using h4⟩⟩
def Store.sm (x : Store) : Prop := smL Item.sm x.Items
theorem szStore_sp (x : Store) (left : Int) (h : Store.ok x) (h0 : 0 ≤ left) (h1 : left ≤ 1048576) : ∃ r, laws_szStore x left = some r ∧ r ≤ left ∧ (r < 0 ∨ Store.sm x) := by
  obtain ⟨r, e, hr, hs⟩ := szItemS_sp x.Items left h.1 h0 h1
  simp only [laws_szStore, e, bind_some']
  split
  · exact ⟨_, rfl, by omega, .inl (by omega)⟩
  · exact ⟨_, rfl, hr, hs⟩
theorem toStore_some (x : Store) (h : Store.sm x) : laws_toStore x = some x := by
  simp only [laws_toStore, toItemS_some _ h, bind_some']
theorem eqStore_self (x : Store) (h : Store.sm x) : laws_eqStore x x = some true := by
  simp only [laws_eqStore, eqItemS_self _ h, bind_some', beq_self_eq_true, bne_self_eq_false, Bool.not_true, Bool.false_eq_true, if_false]
theorem cat_ok {s t : Str} (h : s.length + t.length ≤ 4398046511104) : cat s t = some (s ++ t) := by
  unfold cat
  rw [if_neg]
  have : IntKind.i64.max = 9223372036854775807 := rfl
  omega
theorem bx {α β : Type} {e : Option α} {x : α} (h : e = some x) (f : α → Option β) : (e >>= f) = f x := by rw [h]; rfl
/-! trees within bounds -/
theorem cloneL {α : Type} {b : Nat} {l : List α} (h : l.length * b ≤ 70368744177664) : Nt.clone b l = some l := by unfold Nt.clone; rw [if_pos h]
theorem copyOrder_some (o : Order) (h : Order.sm o) : impl_copyOrder o = some o := by
  obtain ⟨h1, h2, h3, h4⟩ := h
  have := h3.1; have := h4.1
  simp only [impl_copyOrder, slices_Clone_Simpl_Metric_impl_Metric, slices_Clone_Simpl_Note_impl_Note]
  rw [cloneL (by omega), cloneL (by omega)]; rfl
theorem copyItem_some (x : Item) (h : Item.sm x) : impl_copyItem x = some x := by
  simp only [impl_copyItem, copyOrder_some _ h, bind_some']
theorem l6Copy_some (o : Order) (h : Order.sm o) : spec_l6Copy o = some o := by
  obtain ⟨h1, h2, h3, h4⟩ := h
  have := h3.1; have := h4.1
  simp only [spec_l6Copy]
  rw [app_ok (by simp; omega), app_ok (by simp; omega)]
  simp only [bind_some', List.nil_append]
/-- the first from i on -/
def fd {α : Type} (p : α → Bool) (l : List α) (i : Nat) : Option Nat := ((l.drop i).findIdx? p).map (· + i)
theorem fd_step {α : Type} {p : α → Bool} {l : List α} {i : Nat} (h : i < l.length) : fd p l i = if p l[i] then some i else fd p l (i + 1) := by
  unfold fd
  rw [List.drop_eq_getElem_cons h, List.findIdx?_cons]
  split
  · simp
  · simp only [Option.map_map]
    congr 1
    funext x
    simp only [Function.comp]; omega
theorem fd_end {α : Type} {p : α → Bool} {l : List α} {i : Nat} (h : l.length ≤ i) : fd p l i = none := by
  unfold fd; rw [List.drop_eq_nil_of_le h]; rfl
theorem fd_zero {α : Type} (p : α → Bool) (l : List α) : fd p l 0 = l.findIdx? p := by simp [fd]
def named (n : Str) (x : Item) : Bool := x.Order.Name == n
/-- the place of a name; -1 -/
def pos (l : List Item) (n : Str) : Int := match l.findIdx? (named n) with
  | some i => i
  | none => -1
theorem l13At_some (s : Store) (n : Str) (hl : s.Items.length ≤ 1048576) : spec_l13At s n = some (pos s.Items n) := by
  have key : ∀ i, i ≤ s.Items.length → spec_l13At.l0 s n i = some (match fd (named n) s.Items i with | some k => .inl (k : Int) | none => .inr ()) := by
    refine down _ fun i hi ih => ?_
    rw [spec_l13At.l0]
    by_cases hlt : i < s.Items.length
    · have c : decide ((i : Int) < (s.Items.length : Int)) = true := by simpa using hlt
      have hd := fd_step (p := named n) hlt
      simp only [c, if_true, ix_nat, List.getElem?_eq_getElem hlt, bind_some', w64_succ (show i < 9223372036854775807 by omega)]
      by_cases hn : ((s.Items[i].Order.Name == n)) = true
      · rw [if_pos (show named n s.Items[i] = true from hn)] at hd
        rw [if_pos hn, hd]
      · rw [if_neg (show ¬ named n s.Items[i] = true from hn)] at hd
        rw [if_neg hn, hd]; exact ih hlt
    · rw [if_neg (by simpa using hlt), fd_end (by omega)]
  have := key 0 (by omega)
  simp only [Int.natCast_zero, fd_zero] at this
  simp only [spec_l13At, this, bind_some', pos]
  cases s.Items.findIdx? (named n) <;> rfl
theorem placeOf_some (l : List Item) (n : Str) (hl : l.length ≤ 1048576) : impl_placeOf l n = some (pos l n) := by
  have key : ∀ i, i ≤ l.length → slices_IndexFunc_Simpl_Item_impl_Item_impl_placeOf_1.l0 l i n = some (match fd (named n) l i with | some k => .inl ((k : Int), n) | none => .inr n) := by
    refine down _ fun i hi ih => ?_
    rw [slices_IndexFunc_Simpl_Item_impl_Item_impl_placeOf_1.l0]
    by_cases hlt : i < l.length
    · have c : decide ((i : Int) < (l.length : Int)) = true := by simpa using hlt
      have hd := fd_step (p := named n) hlt
      simp only [c, if_true, ix_nat, List.getElem?_eq_getElem hlt, bind_some', impl_placeOf_1, w64_succ (show i < 9223372036854775807 by omega)]
      by_cases hn : ((l[i].Order.Name == n)) = true
      · rw [if_pos (show named n l[i] = true from hn)] at hd
        rw [if_pos hn, hd]
      · rw [if_neg (show ¬ named n l[i] = true from hn)] at hd
        rw [if_neg hn, hd]; exact ih hlt
    · rw [if_neg (by simpa using hlt), fd_end (by omega)]
  have := key 0 (by omega)
  simp only [Int.natCast_zero, fd_zero] at this
  simp only [impl_placeOf, slices_IndexFunc_Simpl_Item_impl_Item_impl_placeOf_1, this, bind_some', pos]
  cases l.findIdx? (named n) <;> rfl
theorem pos_some {l : List Item} {n : Str} : (∃ i : Nat, pos l n = i ∧ ∃ h : i < l.length, l[i].Order.Name = n) ∨ (pos l n = -1 ∧ ∀ x ∈ l, x.Order.Name ≠ n) := by
  unfold pos
  cases h : l.findIdx? (named n) with
  | none =>
    right
    refine ⟨rfl, fun x hx e => ?_⟩
    have := List.findIdx?_eq_none_iff.1 h x hx
    simp [named, e] at this
  | some i =>
    left
    obtain ⟨h1, h2, _⟩ := List.findIdx?_eq_some_iff_getElem.1 h
    exact ⟨i, rfl, h1, by simpa [named] using h2⟩
theorem find_ok (s : Store) (n : Str) (hk : Store.ok s) (h : Store.sm s) : ∃ r, spec_Find s n = some r ∧ impl_Find s n = some r ∧ (r.2 = true → Order.ok r.1.Order ∧ Order.sm r.1.Order) := by
  have hl : s.Items.length ≤ 1048576 := h.1
  simp only [spec_Find, impl_Find, l13At_some s n hl, placeOf_some _ n hl, bind_some']
  rcases pos_some (l := s.Items) (n := n) with ⟨i, e, hi, _⟩ | ⟨e, _⟩
  · rw [e]
    have c : decide ((i : Int) < 0) = false := by simp
    simp only [c, Bool.false_eq_true, if_false, ix_nat, List.getElem?_eq_getElem hi, bind_some', copyItem_some _ (h.2 _ (List.getElem_mem hi)), l6Copy_some _ (h.2 _ (List.getElem_mem hi))]
    exact ⟨_, rfl, rfl, fun _ => ⟨(hk.1.2 _ (List.getElem_mem hi)).1, h.2 _ (List.getElem_mem hi)⟩⟩
  · rw [e]
    exact ⟨_, rfl, rfl, fun h => nomatch h⟩
theorem mt_l0 : ∀ (n : Nat) (v : Int) (s : Str), 0 ≤ v → v < 10 ^ n → v ≤ 1000000000000000000 → s.length + n ≤ 1000 → ∃ r, laws_markText.l0 v s = some r ∧ r.length ≤ 1000 := by
  intro n
  induction n with
  | zero =>
    intro v s h0 h1 _ h2
    rw [laws_markText.l0, if_neg (by simp at h1 ⊢; omega)]
    exact ⟨s, rfl, by omega⟩
  | succ n ih =>
    intro v s h0 h1 h3 h2
    rw [laws_markText.l0]
    by_cases hv : v > 0
    · have hd : Int.tdiv v 10 = v / 10 := Int.tdiv_eq_ediv_of_nonneg h0
      have e : IntKind.i64.wrap (Int.tdiv v 10) = v / 10 := by rw [hd]; exact w64_id (by omega) (by omega)
      rw [if_pos (by simpa using hv), cat_ok (by simp [strOf]; omega)]
      simp only [bind_some', e]
      have h10 : v < 10 * 10 ^ n := by rw [Int.pow_succ] at h1; omega
      exact ih (v / 10) _ (by omega) (by omega) (by omega) (by simp [strOf]; omega)
    · rw [if_neg (by simpa using hv)]
      exact ⟨s, rfl, by omega⟩
theorem mt_some (k : Int) (h0 : 0 ≤ k) (h1 : k < 1000000000000000000) : ∃ s, laws_markText k = some s := by
  unfold laws_markText
  split
  · exact ⟨_, rfl⟩
  · obtain ⟨r, e, hr⟩ := mt_l0 18 k [] h0 (by simpa using h1) (by omega) (by simp)
    simp only [e, bind_some']
    rw [cat_ok (by simp; omega)]
    exact ⟨_, rfl⟩
theorem ixA {α : Type} (d r : List α) (x : α) : ix (d ++ x :: r) (d.length : Int) = some x := by rw [ix_nat]; simp
theorem putA {α : Type} (d r : List α) (x y : α) : Nt.put (d ++ x :: r) (d.length : Int) y = some (d ++ y :: r) := by
  rw [put_nat (by simp)]; simp
theorem lenA {α : Type} (d r : List α) (x : α) : decide ((d.length : Int) < ((d ++ x :: r).length : Int)) = true := by simp; omega
theorem lenN {α : Type} (d : List α) : decide ((d.length : Int) < ((d ++ []).length : Int)) = false := by simp
theorem w1 {k : Int} (h0 : 0 ≤ k) (h1 : k < 1000000000000000000) : IntKind.i64.wrap (k + 1) = k + 1 := w64_id (by omega) (by omega)
theorem snocA {α : Type} (d r : List α) (x : α) : d ++ x :: r = (d ++ [x]) ++ r := by simp
theorem wlen {α : Type} (d : List α) (x : α) (h : d.length < 1000000000000000000) : IntKind.i64.wrap ((d.length : Int) + 1) = ((d ++ [x]).length : Int) := by rw [w1 (by omega) (by omega)]; simp
/-! what is marked -/
def MkM (k : Int) : List Metric → Int → Prop
  | [], e => e = k
  | x :: l, e => laws_markText k = some x.Name ∧ x.Kind = k + 1 ∧ x.Goal = k + 1 + 1 ∧ MkM (k + 1 + 1 + 1) l e
def MkN (k : Int) : List Note → Int → Prop
  | [], e => e = k
  | x :: l, e => laws_markText k = some x.Key ∧ laws_markText (k + 1) = some x.Text ∧ MkN (k + 1 + 1) l e
def MkI (k : Int) : List Item → Int → Prop
  | [], e => e = k
  | x :: l, e => laws_markText k = some x.Order.Name ∧ laws_markText (k + 1) = some x.Order.Target ∧ x.Order.Low = k + 1 + 1 ∧ x.Order.High = k + 1 + 1 + 1 ∧ ∃ a, MkM (k + 1 + 1 + 1 + 1) x.Order.Metrics a ∧ k + 1 + 1 + 1 + 1 ≤ a ∧ x.Order.Pace = ⟨a, a + 1, a + 1 + 1, a + 1 + 1 + 1⟩ ∧ ∃ b, MkN (a + 1 + 1 + 1 + 1) x.Order.Notes b ∧ a + 1 + 1 + 1 + 1 ≤ b ∧ x.Ver = b ∧ b ≤ e ∧ MkI (b + 1) l e
theorem MkM_app : ∀ (l m : List Metric) (k e f : Int), MkM k l e → MkM e m f → MkM k (l ++ m) f
  | [], m, k, e, f, h, h2 => by simp only [MkM] at h; subst h; exact h2
  | x :: l, m, k, e, f, h, h2 => ⟨h.1, h.2.1, h.2.2.1, MkM_app l m _ _ _ h.2.2.2 h2⟩
theorem MkN_app : ∀ (l m : List Note) (k e f : Int), MkN k l e → MkN e m f → MkN k (l ++ m) f
  | [], m, k, e, f, h, h2 => by simp only [MkN] at h; subst h; exact h2
  | x :: l, m, k, e, f, h, h2 => ⟨h.1, h.2.1, MkN_app l m _ _ _ h.2.2 h2⟩
theorem MkI_app : ∀ (l m : List Item) (k e f : Int), MkI k l e → e ≤ f → MkI e m f → MkI k (l ++ m) f
  | [], m, k, e, f, h, _, h2 => by simp only [MkI] at h; subst h; exact h2
  | x :: l, m, k, e, f, h, hf, h2 => by
    obtain ⟨h1, h3, h4, h5, a, h6, h7, h8, b, h9, h10, h11, h12, h13⟩ := h
    exact ⟨h1, h3, h4, h5, a, h6, h7, h8, b, h9, h10, h11, by omega, MkI_app l m _ _ _ h13 hf h2⟩
theorem markM_l0 (k0 : Int) : ∀ (r d : List Metric) (e : Int), MkM k0 d e → 0 ≤ e → e + 3 * (r.length : Int) < 100000000000000000 → d.length + r.length ≤ 1048576 → ∃ m e', laws_markMetricS.l0 e d.length (d ++ r) = some (e', m) ∧ MkM k0 m e' ∧ m.length = d.length + r.length ∧ e' = e + 3 * (r.length : Int)
  | [], d, e, h, _, _, _ => ⟨d, e, by rw [laws_markMetricS.l0, if_neg (by rw [lenN]; simp), List.append_nil], h, by simp, by simp⟩
  | x :: r, d, e, h, h0, h1, h2 => by
    simp only [List.length_cons] at h1 h2
    obtain ⟨s, hs⟩ := mt_some e h0 (by omega)
    rw [laws_markMetricS.l0]
    simp only [lenA, if_true, hs, ixA, putA, bind_some', w1 h0 (by omega), w1 (k := e + 1) (by omega) (by omega), w1 (k := e + 1 + 1) (by omega) (by omega), wlen d (Metric.mk s (e + 1) (e + 1 + 1)) (by omega)]
    rw [snocA d r]
    obtain ⟨m, e', g1, g2, g3, g4⟩ := markM_l0 k0 r (d ++ [⟨s, e + 1, e + 1 + 1⟩]) (e + 1 + 1 + 1) (MkM_app _ _ _ _ _ h ⟨hs, rfl, rfl, rfl⟩) (by omega) (by omega) (by simp; omega)
    exact ⟨m, e', g1, g2, by simp at g3 ⊢; omega, by simp only [List.length_cons]; omega⟩
theorem markN_l0 (k0 : Int) : ∀ (r d : List Note) (e : Int), MkN k0 d e → 0 ≤ e → e + 2 * (r.length : Int) < 100000000000000000 → d.length + r.length ≤ 1048576 → ∃ m e', laws_markNoteS.l0 e d.length (d ++ r) = some (e', m) ∧ MkN k0 m e' ∧ m.length = d.length + r.length ∧ e' = e + 2 * (r.length : Int)
  | [], d, e, h, _, _, _ => ⟨d, e, by rw [laws_markNoteS.l0, if_neg (by rw [lenN]; simp), List.append_nil], h, by simp, by simp⟩
  | x :: r, d, e, h, h0, h1, h2 => by
    simp only [List.length_cons] at h1 h2
    obtain ⟨s, hs⟩ := mt_some e h0 (by omega)
    obtain ⟨s', hs'⟩ := mt_some (e + 1) (by omega) (by omega)
    rw [laws_markNoteS.l0]
    simp only [lenA, if_true, hs, hs', ixA, putA, bind_some', w1 h0 (by omega), w1 (k := e + 1) (by omega) (by omega), wlen d (Note.mk s s') (by omega)]
    rw [snocA d r]
    obtain ⟨m, e', g1, g2, g3, g4⟩ := markN_l0 k0 r (d ++ [⟨s, s'⟩]) (e + 1 + 1) (MkN_app _ _ _ _ _ h ⟨hs, hs', rfl⟩) (by omega) (by omega) (by simp; omega)
    exact ⟨m, e', g1, g2, by simp at g3 ⊢; omega, by simp only [List.length_cons]; omega⟩
theorem markM_some (a : List Metric) (k : Int) (h : a.length ≤ 1048576) (h0 : 0 ≤ k) (h1 : k < 10000000000000000) : ∃ m, laws_markMetricS a k = some (k + 3 * (a.length : Int), m) ∧ MkM k m (k + 3 * (a.length : Int)) ∧ m.length = a.length := by
  obtain ⟨m, e, g1, g2, g3, rfl⟩ := markM_l0 k a [] k rfl h0 (by omega) (by simpa using h)
  simp only [List.length_nil, Int.natCast_zero, List.nil_append] at g1
  simp only [laws_markMetricS, g1, bind_some']
  exact ⟨m, rfl, g2, by simpa using g3⟩
theorem markN_some (a : List Note) (k : Int) (h : a.length ≤ 1048576) (h0 : 0 ≤ k) (h1 : k < 10000000000000000) : ∃ m, laws_markNoteS a k = some (k + 2 * (a.length : Int), m) ∧ MkN k m (k + 2 * (a.length : Int)) ∧ m.length = a.length := by
  obtain ⟨m, e, g1, g2, g3, rfl⟩ := markN_l0 k a [] k rfl h0 (by omega) (by simpa using h)
  simp only [List.length_nil, Int.natCast_zero, List.nil_append] at g1
  simp only [laws_markNoteS, g1, bind_some']
  exact ⟨m, rfl, g2, by simpa using g3⟩
theorem heldM_l0 : ∀ (r d : List Metric) (e f : Int), MkM e r f → 0 ≤ e → e + 3 * (r.length : Int) < 100000000000000000 → d.length + r.length ≤ 1048576 → laws_heldMetricS.l0 (d ++ r) e d.length = some (.inr f)
  | [], d, e, f, h, _, _, _ => by simp only [MkM] at h; subst h; rw [laws_heldMetricS.l0, if_neg (by rw [lenN]; simp)]
  | x :: r, d, e, f, h, h0, h1, h2 => by
    simp only [List.length_cons] at h1 h2
    obtain ⟨g1, g2, g3, g4⟩ := h
    rw [laws_heldMetricS.l0]
    simp only [lenA, if_true, ixA, g1, bind_some', beq_self_eq_true, Bool.not_true, Bool.false_eq_true, if_false, w1 h0 (by omega), w1 (k := e + 1) (by omega) (by omega), w1 (k := e + 1 + 1) (by omega) (by omega), g2, g3, bne_self_eq_false, wlen d x (by omega)]
    rw [snocA d r]
    exact heldM_l0 r (d ++ [x]) _ f g4 (by omega) (by omega) (by simp; omega)
theorem heldN_l0 : ∀ (r d : List Note) (e f : Int), MkN e r f → 0 ≤ e → e + 2 * (r.length : Int) < 100000000000000000 → d.length + r.length ≤ 1048576 → laws_heldNoteS.l0 (d ++ r) e d.length = some (.inr f)
  | [], d, e, f, h, _, _, _ => by simp only [MkN] at h; subst h; rw [laws_heldNoteS.l0, if_neg (by rw [lenN]; simp)]
  | x :: r, d, e, f, h, h0, h1, h2 => by
    simp only [List.length_cons] at h1 h2
    obtain ⟨g1, g2, g4⟩ := h
    rw [laws_heldNoteS.l0]
    simp only [lenA, if_true, ixA, g1, g2, bind_some', beq_self_eq_true, Bool.not_true, Bool.false_eq_true, if_false, w1 h0 (by omega), w1 (k := e + 1) (by omega) (by omega), wlen d x (by omega)]
    rw [snocA d r]
    exact heldN_l0 r (d ++ [x]) _ f g4 (by omega) (by omega) (by simp; omega)
theorem heldM_some (m : List Metric) (k f : Int) (h : MkM k m f) (h0 : 0 ≤ k) (h1 : k < 10000000000000000) (h2 : m.length ≤ 1048576) : laws_heldMetricS m k = some f := by
  have := heldM_l0 m [] k f h h0 (by omega) (by simpa using h2)
  simp only [List.length_nil, Int.natCast_zero, List.nil_append] at this
  simp only [laws_heldMetricS, this, bind_some']
theorem heldN_some (m : List Note) (k f : Int) (h : MkN k m f) (h0 : 0 ≤ k) (h1 : k < 10000000000000000) (h2 : m.length ≤ 1048576) : laws_heldNoteS m k = some f := by
  have := heldN_l0 m [] k f h h0 (by omega) (by simpa using h2)
  simp only [List.length_nil, Int.natCast_zero, List.nil_append] at this
  simp only [laws_heldNoteS, this, bind_some']
theorem lendC_some {β : Type} (x : List β) (k : Int) {c : Option (Int × List β)} {k' : Int} {m : List β} (h : c = some (k', m)) (h0 : x = [] → k' = k ∧ m = []) : Nt.lendC x k c = some (k', m) := by
  cases x with
  | nil => obtain ⟨rfl, rfl⟩ := h0 rfl; rfl
  | cons => exact h
theorem lendA {α β : Type} {x : List β} {k k' : Int} {m : List β} {c : Option (Int × List β)} (h : Nt.lendC x k c = some (k', m)) (d r : List α) (y : α) (u : List β → α) : Nt.lendP (Nt.lendC x k c) (d ++ y :: r) (d.length : Int) u = some (k', d ++ u m :: r) := by
  rw [h]; simp only [Nt.lendP, Option.bind_some, putA, Option.map_some]
theorem markI_l0 (k0 : Int) : ∀ (r d : List Item) (e : Int), MkI k0 d e → 0 ≤ e → e + 10000000 * (r.length : Int) < 1000000000000000 → d.length + r.length ≤ 1048576 → (∀ x ∈ r, Item.sm x) → ∃ m e', laws_markItemS_d.l0 e d.length (d ++ r) = some (e', m) ∧ MkI k0 m e' ∧ m.length = d.length + r.length ∧ e ≤ e' ∧ e' ≤ e + 10000000 * (r.length : Int)
  | [], d, e, h, _, _, _, _ => ⟨d, e, by rw [laws_markItemS_d.l0, if_neg (by rw [lenN]; simp), List.append_nil], h, by simp, by omega, by simp⟩
  | x :: r, d, e, h, h0, h1, h2, h3 => by
    simp only [List.length_cons] at h1 h2
    have hx := h3 x (by simp)
    have hm : x.Order.Metrics.length ≤ 1048576 := hx.2.2.1.1
    have hn : x.Order.Notes.length ≤ 1048576 := hx.2.2.2.1
    obtain ⟨s, hs⟩ := mt_some e h0 (by omega)
    obtain ⟨s', hs'⟩ := mt_some (e + 1) (by omega) (by omega)
    obtain ⟨m1, a1, a2, a3⟩ := markM_some x.Order.Metrics (e + 1 + 1 + 1 + 1) hm (by omega) (by omega)
    generalize ha : e + 1 + 1 + 1 + 1 + 3 * (x.Order.Metrics.length : Int) = a at a1 a2
    obtain ⟨m2, b1, b2, b3⟩ := markN_some x.Order.Notes (a + 1 + 1 + 1 + 1) hn (by omega) (by omega)
    generalize hb : a + 1 + 1 + 1 + 1 + 2 * (x.Order.Notes.length : Int) = b at b1 b2
    have c1 := lendC_some x.Order.Metrics (e + 1 + 1 + 1 + 1) a1 (fun h => by rw [h] at ha a3; simp at ha a3; exact ⟨by omega, a3⟩)
    have c2 := lendC_some x.Order.Notes (a + 1 + 1 + 1 + 1) b1 (fun h => by rw [h] at hb b3; simp at hb b3; exact ⟨by omega, b3⟩)
    rw [laws_markItemS_d.l0]
    simp only [lenA, if_true, hs, hs', ixA, putA, bind_some', w1 h0 (by omega), w1 (k := e + 1) (by omega) (by omega), w1 (k := e + 1 + 1) (by omega) (by omega), w1 (k := e + 1 + 1 + 1) (by omega) (by omega), lendA c1, w1 (k := a) (by omega) (by omega), w1 (k := a + 1) (by omega) (by omega), w1 (k := a + 1 + 1) (by omega) (by omega), w1 (k := a + 1 + 1 + 1) (by omega) (by omega), lendA c2, w1 (k := b) (by omega) (by omega)]
    rw [w1 (k := (d.length : Int)) (by omega) (by omega)]
    have hl : ∀ y : Item, ((d.length : Int) + 1) = ((d ++ [y]).length : Int) := fun y => by simp
    rw [hl ⟨⟨s, s', e + 1 + 1, e + 1 + 1 + 1, m1, ⟨a, a + 1, a + 1 + 1, a + 1 + 1 + 1⟩, m2⟩, b⟩, snocA d r]
    obtain ⟨m, e', g1, g2, g3, g4, g5⟩ := markI_l0 k0 r (d ++ [⟨⟨s, s', e + 1 + 1, e + 1 + 1 + 1, m1, ⟨a, a + 1, a + 1 + 1, a + 1 + 1 + 1⟩, m2⟩, b⟩]) (b + 1) (MkI_app _ _ _ _ _ h (by omega) ⟨hs, hs', rfl, rfl, a, a2, by omega, rfl, b, b2, by omega, rfl, by omega, rfl⟩) (by omega) (by omega) (by simp; omega) (fun y hy => h3 y (by simp [hy]))
    exact ⟨m, e', g1, g2, by simp at g3 ⊢; omega, by omega, by simp only [List.length_cons]; omega⟩
theorem markI_some (a : List Item) (h : smL Item.sm a) : ∃ m e, laws_markItemS_d a 1 = some (e, m) ∧ MkI 1 m e ∧ m.length = a.length ∧ 1 ≤ e ∧ e ≤ 100000000000000 := by
  have hl := h.1
  obtain ⟨m, e, g1, g2, g3, g4, g5⟩ := markI_l0 1 a [] 1 rfl (by omega) (by omega) (by simpa using hl) h.2
  simp only [List.length_nil, Int.natCast_zero, List.nil_append] at g1
  simp only [laws_markItemS_d, g1, bind_some']
  exact ⟨m, e, rfl, g2, by simpa using g3, g4, by omega⟩
theorem find_sm (s : Store) (n : Str) (hk : Store.ok s) (h : Store.sm s) : ∃ r, spec_Find s n = some r ∧ impl_Find s n = some r ∧ Item.sm r.1 := by
  obtain ⟨r, h1, h2, h3⟩ := find_ok s n hk h
  refine ⟨r, h1, h2, ?_⟩
  cases hr : r.2 with
  | true => exact (h3 hr).2
  | false =>
    have : r = ((Item.mk (Order.mk [] [] 0 0 [] (Pace.mk 0 0 0 0) []) 0), false) := by
      unfold impl_Find at h2
      obtain ⟨k, hk1, h2⟩ := Option.bind_eq_some_iff.1 h2
      split at h2
      · exact (Option.some.inj h2).symm
      · obtain ⟨y, _, h2⟩ := Option.bind_eq_some_iff.1 h2
        obtain ⟨z, _, h2⟩ := Option.bind_eq_some_iff.1 h2
        have := Option.some.inj h2
        rw [← this] at hr; simp at hr
    rw [this]
    exact ⟨by simp [smS], by simp [smS], ⟨by simp, by simp⟩, ⟨by simp, by simp⟩⟩
theorem Pure.FnExactFind (s : Store) (n : Str) (hs : Store.ok s) (hn : okS n) : laws_FnExactFind s n = some true := by
  unfold laws_FnExactFind
  by_cases hc : decide ((n.length : Int) > 1048576) = true
  · rw [if_pos hc]
  · rw [if_neg hc]
    obtain ⟨r, e, _, hr⟩ := szStore_sp s _ hs (by omega : (0 : Int) ≤ 1048576) (by omega)
    rw [bx e]
    rcases hr with hr | hr
    · rw [if_pos (by simpa using hr)]
    · by_cases hc2 : decide (r < 0) = true
      · rw [if_pos hc2]
      · rw [if_neg hc2]
        obtain ⟨x, x1, x2, x3⟩ := find_sm s n hs hr
        have he : laws_eqItem (Item.mk (Order.mk x.1.Order.Name x.1.Order.Target x.1.Order.Low x.1.Order.High x.1.Order.Metrics (Pace.mk x.1.Order.Pace.Up x.1.Order.Pace.Down x.1.Order.Pace.UpSpan x.1.Order.Pace.DownSpan) x.1.Order.Notes) x.1.Ver) (Item.mk (Order.mk x.1.Order.Name x.1.Order.Target x.1.Order.Low x.1.Order.High x.1.Order.Metrics (Pace.mk x.1.Order.Pace.Up x.1.Order.Pace.Down x.1.Order.Pace.UpSpan x.1.Order.Pace.DownSpan) x.1.Order.Notes) x.1.Ver) = some true := eqItem_self x.1 x3
        obtain ⟨m, k, m1, m2, m3, m4, m5⟩ := markI_some s.Items hr
        have hm : laws_markStore_dn s 1 = some (k, m) := by simp only [laws_markStore_dn, m1, bind_some']
        obtain ⟨a, a1, a2, a3⟩ := markM_some x.1.Order.Metrics 1 x3.2.2.1.1 (by omega) (by omega)
        have hx1 := x3.2.2.1.1
        obtain ⟨b, b1, b2, b3⟩ := markN_some x.1.Order.Notes (1 + 3 * (x.1.Order.Metrics.length : Int)) x3.2.2.2.1 (by omega) (by omega)
        have hx2 := x3.2.2.2.1
        generalize hf : (1 + 3 * (x.1.Order.Metrics.length : Int)) = f at *
        generalize hg : f + 2 * (x.1.Order.Notes.length : Int) = g at *
        have hmi : ∀ o : Order, o.Metrics = x.1.Order.Metrics → o.Notes = x.1.Order.Notes → ∀ v, laws_markItem_nnnnonnnnon (Item.mk o v) 1 = some (g, a, b) := fun o h1 h2 v => by
          simp only [laws_markItem_nnnnonnnnon, laws_markOrder_nnnnonnnno, h1, h2, a1, b1, bind_some']
        have hhi : ∀ (o : Order) v, o.Metrics = a → o.Notes = b → laws_heldItem (Item.mk o v) 1 = some g := fun o v h1 h2 => by
          simp only [laws_heldItem, laws_heldOrder, h1, h2, heldM_some a 1 f a2 (by omega) (by omega) (by omega), heldN_some b f g b2 (by omega) (by omega) (by omega), bind_some']
          rw [if_neg (by simp; omega), if_neg (by simp; omega)]
          simp only [bind_some']
          rw [if_neg (by simp; omega)]
        simp only [toStore_some s hr, bind_some', x1, x2, he, Bool.not_true, Bool.false_eq_true, if_false, bne_self_eq_false, eqStore_self s hr, hm]
        rw [if_neg (by simp; omega)]
        rw [hmi _ rfl rfl]
        simp only [bind_some']
        rw [hhi _ _ rfl rfl]
        simp only [bind_some', bne_self_eq_false, Bool.false_eq_true, if_false]
        rw [if_neg (by simp; omega), if_neg (by simp; omega)]
end Go.Pu
