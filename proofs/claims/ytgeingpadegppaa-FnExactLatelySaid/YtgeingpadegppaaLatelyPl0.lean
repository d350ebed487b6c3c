import Derived.Test.YtgeingpadegppaaLatelyPu
set_option linter.unusedVariables false
set_option linter.unusedSimpArgs false
namespace Go.Pu
open Go.Nt
theorem w64_id {n : Int} (h0 : -9223372036854775808 ≤ n) (h1 : n ≤ 9223372036854775807) : IntKind.i64.wrap n = n := by
  simp only [IntKind.wrap, IntKind.bits, IntKind.signed, Bool.true_and]
  split
  · rename_i h; simp at h; omega
  · rename_i h; simp at h; omega
theorem w64_succ {i : Nat} (h : i < 9223372036854775807) : IntKind.i64.wrap ((i : Int) + 1) = ((i + 1 : Nat) : Int) := by
  rw [w64_id (by omega) (by omega)]; omega
theorem ix_nat {α : Type} (l : List α) (i : Nat) : ix l (i : Int) = l[i]? := by simp [ix]
theorem put_nat {α : Type} {l : List α} {i : Nat} {x : α} (h : i < l.length) : Nt.put l (i : Int) x = some (l.set i x) := by simp [Nt.put, h]
theorem app_ok {α : Type} {b : Nat} {l m : List α} (h : (l.length + m.length) * b ≤ 70368744177664) : app b l m = some (l ++ m) := by
  simp only [app]; rw [if_pos h]
theorem mk_ok {α : Type} {b n : Nat} {x : α} (h : b * n ≤ 140737488355328) : Nt.mk b (n : Int) x = some (List.replicate n x) := by
  simp only [Nt.mk]; rw [if_pos ⟨by omega, by exact_mod_cast h⟩]; simp
/-- down from the end -/
theorem down {P : Nat → Prop} (n : Nat) (h : ∀ i, i ≤ n → (i < n → P (i + 1)) → P i) : ∀ i, i ≤ n → P i := by
  intro i hi
  obtain ⟨k, hk⟩ : ∃ k, k = n - i := ⟨_, rfl⟩
  induction k generalizing i with
  | zero => exact h i hi fun hlt => by omega
  | succ k ih => exact h i hi fun hlt => ih (i + 1) hlt (by omega)
theorem bind_some' {α β : Type} (x : α) (f : α → Option β) : (some x >>= f) = f x := rfl
theorem set_step {α : Type} {a v : List α} {i : Nat} (h : i < a.length) (hv : i < v.length) : some ((v.set i a[i]).take (i + 1) ++ a.drop (i + 1)) = some (v.take i ++ a.drop i) := by
  rw [List.take_set, List.take_add_one, List.getElem?_eq_getElem hv, List.set_append_right _ _ (by simp; omega), List.drop_eq_getElem_cons h]
  have : i - min i v.length = 0 := by omega
  simp [this]
def smL {α : Type} (p : α → Prop) (l : List α) : Prop := l.length ≤ 1048576 ∧ ∀ x ∈ l, p x
theorem toRecS_some (a : List Rec) (h : smL (fun _ => True) a) : laws_toRecS a = some a := by
  have hl : a.length ≤ 1048576 := h.1
  have key : ∀ i, i ≤ a.length → ∀ v : List Rec, v.length = a.length → laws_toRecS.l0 a i v = some (v.take i ++ a.drop i) := by
    refine down _ fun i hi ih v hv => ?_
    rw [laws_toRecS.l0]
    by_cases hlt : i < a.length
    · have c : decide ((i : Int) < (a.length : Int)) = true := by simpa using hlt
      have hv' : i < v.length := by omega
      simp only [c, if_true, ix_nat, List.getElem?_eq_getElem hlt, List.getElem?_eq_getElem hv', bind_some', laws_toRec, put_nat hv', w64_succ (show i < 9223372036854775807 by omega)]
      rw [ih hlt _ (by simpa using hv), set_step hlt hv']
    · rw [if_neg (by simpa using hlt)]
      obtain rfl : i = a.length := by omega
      simp [List.take_of_length_le, hv]
  simp only [laws_toRecS]
  rw [mk_ok (by omega)]
  simp only [bind_some']
  have := fun z => key 0 (by omega) (List.replicate a.length z) (by simp)
  simp only [Int.natCast_zero] at this
  simp only [this, bind_some']; simp
theorem eqRecS_self (a : List Rec) (h : smL (fun _ => True) a) : laws_eqRecS a a = some true := by
  have hl : a.length ≤ 1048576 := h.1
  have key : ∀ i, i ≤ a.length → laws_eqRecS.l0 a a i = some (.inr ()) := by
    refine down _ fun i hi ih => ?_
    rw [laws_eqRecS.l0]
    by_cases hlt : i < a.length
    · have c : decide ((i : Int) < (a.length : Int)) = true := by simpa using hlt
      simp only [c, if_true, ix_nat, List.getElem?_eq_getElem hlt, bind_some', laws_eqRec, bne_self_eq_false, beq_self_eq_true, Bool.false_eq_true, if_false, Bool.not_true, w64_succ (show i < 9223372036854775807 by omega)]
      exact ih hlt
    · rw [if_neg (by simpa using hlt)]
  simp only [laws_eqRecS, bne_self_eq_false, Bool.false_eq_true, if_false]
  have := key 0 (by omega)
  simp only [Int.natCast_zero] at this
  rw [this]; rfl
theorem szRecS_sp (a : List Rec) (left : Int) (ha : okL Rec.ok a) (h0 : 0 ≤ left) (h1 : left ≤ 1048576) : ∃ r, laws_szRecS a left = some r ∧ r ≤ left ∧ (r < 0 ∨ smL (fun _ => True) a) := by
  have := ha.1
  simp only [laws_szRecS]
  rw [w64_id (by omega) (by omega)]
  by_cases h : left < a.length
  · rw [if_pos (by simp; omega)]; exact ⟨_, rfl, by omega, .inl (by omega)⟩
  · rw [if_neg (by simp; omega)]; exact ⟨_, rfl, by omega, .inr ⟨by omega, by simp⟩⟩
theorem eqIntS_self (a : List Int) (h : smL (fun _ => True) a) : laws_eqIntS a a = some true := by
  have hl : a.length ≤ 1048576 := h.1
  have key : ∀ i, i ≤ a.length → laws_eqIntS.l0 a a i = some (.inr ()) := by
    refine down _ fun i hi ih => ?_
    rw [laws_eqIntS.l0]
    by_cases hlt : i < a.length
    · have c : decide ((i : Int) < (a.length : Int)) = true := by simpa using hlt
      simp only [c, if_true, ix_nat, List.getElem?_eq_getElem hlt, bind_some', bne_self_eq_false, beq_self_eq_true, Bool.false_eq_true, if_false, Bool.not_true, w64_succ (show i < 9223372036854775807 by omega)]
      exact ih hlt
    · rw [if_neg (by simpa using hlt)]
  simp only [laws_eqIntS, bne_self_eq_false, Bool.false_eq_true, if_false]
  have := key 0 (by omega)
  simp only [Int.natCast_zero] at this
  rw [this]; rfl
theorem w64_eq (n : Int) : IntKind.i64.wrap n = (n + 9223372036854775808) % 18446744073709551616 - 9223372036854775808 := by
  simp only [IntKind.wrap, IntKind.bits, IntKind.signed, Bool.true_and]
  split
  · rename_i h; simp at h; omega
  · rename_i h; simp at h; omega
theorem u64_eq (n : Int) : IntKind.u64.wrap n = n % 18446744073709551616 := by
  simp only [IntKind.wrap, IntKind.bits, IntKind.signed, Bool.false_and, Bool.false_eq_true, if_false]
  rfl
theorem beyond_some (n now k : Int) (hn : okI n) (h1 : okI now) (h2 : okI k) : impl_beyond n now k = some (decide (n - now > k)) := by
  unfold okI at *
  simp only [impl_beyond, u64_eq]
  by_cases a : n ≥ now
  · by_cases b : k < 0
    · simp [a, b]; omega
    · simp only [a, b, decide_true, decide_false, if_true, if_false, Bool.false_eq_true, Option.some.injEq, decide_eq_decide]; omega
  · by_cases b : k < 0
    · simp only [a, b, decide_true, decide_false, if_true, if_false, Bool.false_eq_true, Option.some.injEq, decide_eq_decide]; omega
    · simp [a, b]; omega
theorem lately_same (a : List Rec) (t s : Int) (ha : okL Rec.ok a) (hl : a.length ≤ 1048576) (ht : okI t) (hs : okI s) : ∃ m, spec_Lately a t s = some m ∧ impl_Lately a t s = some m ∧ m.length ≤ a.length ∧ ∀ x ∈ m, okI x := by
  have key : ∀ i, i ≤ a.length → ∀ out : List Int, out.length ≤ i → (∀ x ∈ out, okI x) → ∃ m, spec_Lately.l0 a t s i out = some m ∧ impl_Lately.l0 a t s i out = some m ∧ m.length ≤ a.length ∧ ∀ x ∈ m, okI x := by
    refine down _ fun i hi ih out ho hx => ?_
    rw [spec_Lately.l0, impl_Lately.l0]
    by_cases hlt : i < a.length
    · have c : decide ((i : Int) < (a.length : Int)) = true := by simpa using hlt
      have hr := ha.2 _ (List.getElem_mem hlt)
      obtain ⟨b1, p1, p2, p3⟩ := ih hlt (out ++ [a[i].N]) (by simp; omega) (by
        intro x hx'
        rcases List.mem_append.1 hx' with h | h
        · exact hx x h
        · simp only [List.mem_singleton] at h; subst h; exact hr.2)
      obtain ⟨b2, q1, q2, q3⟩ := ih hlt out (by omega) hx
      simp only [c, if_true, ix_nat, List.getElem?_eq_getElem hlt, bind_some', w64_succ (show i < 9223372036854775807 by omega), app_ok (b := 8) (l := out) (m := [a[i].N]) (by simp; omega), p1, p2, q1, q2, beyond_some _ _ _ ht hr.1 hs, w64_eq]
      obtain ⟨hr1, _⟩ := hr
      generalize a[i].Time = u at *
      clear p1 p2 q1 q2 ih
      unfold okI at *
      generalize hz : (t - u + 9223372036854775808) % 18446744073709551616 - 9223372036854775808 = z
      have z1 : u ≤ t → t - u ≤ 9223372036854775807 → z = t - u := by omega
      have z2 : u ≤ t → t - u > 9223372036854775807 → z < 0 := by omega
      clear hz
      by_cases hc : u ≤ t ∧ (t ≤ u ∨ t - u ≤ s)
      · refine ⟨b1, ?_, ?_, p3⟩
        · by_cases h2 : u ≥ t
          · simp [hc.1, h2]
          · have h3 : 0 ≤ z := by omega
            have h4 : z ≤ s := by omega
            simp [hc.1, h2, h3, h4]
        · by_cases h5 : s < 0
          · have h6 : u = t := by omega
            simp [h5, h6]
          · have h6 : s ≥ 0 := by omega
            have h7 : ¬ (t - u > s) := by omega
            simp [h5, h6, hc.1, h7]
      · refine ⟨b2, ?_, ?_, q3⟩
        · by_cases h1 : u ≤ t
          · have h2 : ¬ (u ≥ t) := by omega
            by_cases h3 : 0 ≤ z
            · have h4 : ¬ (z ≤ s) := by omega
              simp [h1, h2, h3, h4]
            · simp [h1, h2, h3]
          · simp [h1]
        · by_cases h5 : s < 0
          · have h6 : ¬ u = t := by omega
            have h7 : ¬ (s ≥ 0) := by omega
            simp [h5, h6, h7]
          · have h6 : s ≥ 0 := by omega
            by_cases h1 : u ≤ t
            · have h7 : t - u > s := by omega
              simp [h5, h6, h1, h7]
            · simp [h5, h6, h1]
    · rw [if_neg (by simpa using hlt), if_neg (by simpa using hlt)]
      exact ⟨_, rfl, rfl, by omega, hx⟩
  obtain ⟨m, h1, h2, h3⟩ := key 0 (by omega) [] (by simp) (by simp)
  simp only [Int.natCast_zero] at h1 h2
  exact ⟨m, by simp only [spec_Lately, h1, bind_some'], by simp only [impl_Lately, h2, bind_some'], h3⟩
def markI (k : Int) : Nat → List Int
  | 0 => []
  | n + 1 => k :: markI (k + 1) n
theorem markI_len (k : Int) (n : Nat) : (markI k n).length = n := by
  induction n generalizing k with
  | zero => rfl
  | succ n ih => simp [markI, ih]
theorem markI_get (k : Int) (n i : Nat) (h : i < n) : (markI k n)[i]'(by rw [markI_len]; exact h) = k + i := by
  induction n generalizing k i with
  | zero => omega
  | succ n ih =>
    cases i with
    | zero => simp [markI]
    | succ i => simp only [markI, List.getElem_cons_succ]; rw [ih (k + 1) i (by omega)]; omega
theorem mark_step {α : Type} {v : List α} {i : Nat} (h : i < v.length) (x : α) (r : List α) : (v.set i x).take (i + 1) ++ r = v.take i ++ x :: r := by
  rw [List.take_set, List.take_add_one, List.getElem?_eq_getElem h, List.set_append_right _ _ (by simp; omega)]
  have : i - min i v.length = 0 := by omega
  simp [this]
theorem markIntS_some (a : List Int) (h : a.length ≤ 1048576) : laws_markIntS a 1 = some (1 + (a.length : Int), markI 1 a.length) := by
  have key : ∀ i, i ≤ a.length → ∀ v : List Int, v.length = a.length → laws_markIntS.l0 (1 + (i : Int)) i v = some (1 + (a.length : Int), v.take i ++ markI (1 + (i : Int)) (a.length - i)) := by
    refine down _ fun i hi ih v hv => ?_
    rw [laws_markIntS.l0]
    by_cases hlt : i < a.length
    · have c : decide ((i : Int) < (v.length : Int)) = true := by simp; omega
      have hv' : i < v.length := by omega
      have e : IntKind.i64.wrap (1 + (i : Int) + 1) = 1 + ((i + 1 : Nat) : Int) := by rw [w64_id (by omega) (by omega)]; omega
      simp only [c, if_true, ix_nat, List.getElem?_eq_getElem hv', bind_some', put_nat hv', w64_succ (show i < 9223372036854775807 by omega), e]
      rw [ih hlt _ (by simpa using hv), mark_step hv']
      obtain ⟨m, hm⟩ : ∃ m, a.length - i = m + 1 := ⟨a.length - i - 1, by omega⟩
      have hm2 : a.length - (i + 1) = m := by omega
      rw [hm, hm2, markI]
      have e3 : (1 + ((i + 1 : Nat) : Int)) = 1 + (i : Int) + 1 := by omega
      rw [e3]
    · rw [if_neg (by simp; omega)]
      obtain rfl : i = a.length := by omega
      simp [markI, List.take_of_length_le, hv]
  have := key 0 (by omega) a rfl
  simp only [Int.natCast_zero, Int.add_zero, Nat.sub_zero, List.take_zero, List.nil_append] at this
  simp only [laws_markIntS, this, bind_some']
theorem heldIntS_some (n : Nat) (h : n ≤ 1048576) : laws_heldIntS (markI 1 n) 1 = some (1 + (n : Int)) := by
  have key : ∀ i, i ≤ n → laws_heldIntS.l0 (markI 1 n) (1 + (i : Int)) i = some (.inr (1 + (n : Int))) := by
    refine down _ fun i hi ih => ?_
    rw [laws_heldIntS.l0]
    by_cases hlt : i < n
    · have c : decide ((i : Int) < ((markI 1 n).length : Int)) = true := by simp [markI_len]; omega
      have hv' : i < (markI 1 n).length := by rw [markI_len]; exact hlt
      have e : IntKind.i64.wrap (1 + (i : Int) + 1) = 1 + ((i + 1 : Nat) : Int) := by rw [w64_id (by omega) (by omega)]; omega
      simp only [c, if_true, ix_nat, List.getElem?_eq_getElem hv', bind_some', w64_succ (show i < 9223372036854775807 by omega), e, markI_get 1 n i hlt, bne_self_eq_false, Bool.false_eq_true, if_false]
      exact ih hlt
    · rw [if_neg (by simp [markI_len]; omega)]
      obtain rfl : i = n := by omega
      rfl
  have := key 0 (by omega)
  simp only [Int.natCast_zero, Int.add_zero] at this
  simp only [laws_heldIntS, this, bind_some']
def markR (k : Int) : Nat → List Rec
  | 0 => []
  | n + 1 => ⟨k, k + 1⟩ :: markR (k + 2) n
theorem markRecS_some (a : List Rec) (h : a.length ≤ 1048576) : laws_markRecS a 1 = some (1 + 2 * (a.length : Int), markR 1 a.length) := by
  have key : ∀ i, i ≤ a.length → ∀ v : List Rec, v.length = a.length → laws_markRecS.l0 (1 + 2 * (i : Int)) i v = some (1 + 2 * (a.length : Int), v.take i ++ markR (1 + 2 * (i : Int)) (a.length - i)) := by
    refine down _ fun i hi ih v hv => ?_
    rw [laws_markRecS.l0]
    by_cases hlt : i < a.length
    · have c : decide ((i : Int) < (v.length : Int)) = true := by simp; omega
      have hv' : i < v.length := by omega
      have e : IntKind.i64.wrap (1 + 2 * (i : Int) + 1) = 1 + 2 * (i : Int) + 1 := by rw [w64_id (by omega) (by omega)]
      have e1 : IntKind.i64.wrap (1 + 2 * (i : Int) + 1 + 1) = 1 + 2 * ((i + 1 : Nat) : Int) := by rw [w64_id (by omega) (by omega)]; omega
      simp only [c, if_true, ix_nat, List.getElem?_eq_getElem hv', bind_some', put_nat hv', List.length_set, List.getElem?_set_self hv', put_nat (show i < (v.set i (Rec.mk (1 + 2 * (i : Int)) v[i].N)).length by simpa using hv'), w64_succ (show i < 9223372036854775807 by omega), e, e1, List.set_set]
      rw [ih hlt _ (by simpa using hv), mark_step hv']
      obtain ⟨m, hm⟩ : ∃ m, a.length - i = m + 1 := ⟨a.length - i - 1, by omega⟩
      have hm2 : a.length - (i + 1) = m := by omega
      rw [hm, hm2, markR]
      have e3 : (1 + 2 * ((i + 1 : Nat) : Int)) = 1 + 2 * (i : Int) + 2 := by omega
      rw [e3]
    · rw [if_neg (by simp; omega)]
      obtain rfl : i = a.length := by omega
      simp [markR, List.take_of_length_le, hv]
  have := key 0 (by omega) a rfl
  simp only [Int.natCast_zero, Int.mul_zero, Int.add_zero, Nat.sub_zero, List.take_zero, List.nil_append] at this
  simp only [laws_markRecS, this, bind_some']
theorem Pure.FnExactLately (a : List Rec) (t s : Int) (ha : okL Rec.ok a) (ht : okI t) (hs : okI s) : laws_FnExactLately a t s = some true := by
  simp only [laws_FnExactLately]
  obtain ⟨r, e, _, hr⟩ := szRecS_sp a _ ha (by omega : (0 : Int) ≤ 1048576) (by omega)
  simp only [e, bind_some']
  rcases hr with hr | hr
  · rw [if_pos (by simpa using hr)]
  · obtain ⟨m, h1, h2, h3, h4⟩ := lately_same a t s ha hr.1 ht hs
    have hm : m.length ≤ 1048576 := Nat.le_trans h3 hr.1
    have c1 : decide (1 + 2 * (a.length : Int) < 0) = false := by simp; omega
    have c2 : decide (1 + (m.length : Int) < 0) = false := by simp; omega
    split
    · rfl
    · simp only [toRecS_some a hr, bind_some', h1, h2, eqIntS_self m ⟨hm, fun _ _ => trivial⟩, bne_self_eq_false, Bool.false_eq_true, if_false, eqRecS_self a hr, Bool.not_true, markRecS_some a hr.1, markIntS_some m hm, heldIntS_some m.length hm, c1, c2]
end Go.Pu
