import Derived.Test.YtgeingpadegppaaRecAddPu
set_option linter.unusedVariables false
set_option linter.unusedSimpArgs false
namespace Go.Pu
open Go.Nt
theorem w64_id {n : Int} (h0 : -9223372036854775808 ≤ n) (h1 : n ≤ 9223372036854775807) : IntKind.i64.wrap n = n := by
  simp only [IntKind.wrap, IntKind.bits, IntKind.signed, Bool.true_and]
  split
  · rename_i h; simp at h; omega
  · rename_i h; simp at h; omega
theorem w64_succ {i : Nat} (h : i < 9223372036854775807) : IntKind.i64.wrap ((i : Int) + 1) = ((i + 1 : Nat) : Int) := by
  rw [w64_id (by omega) (by omega)]; omega
theorem ix_nat {α : Type} (l : List α) (i : Nat) : ix l (i : Int) = l[i]? := by simp [ix]
theorem put_nat {α : Type} {l : List α} {i : Nat} {x : α} (h : i < l.length) : Nt.put l (i : Int) x = some (l.set i x) := by simp [Nt.put, h]
theorem app_ok {α : Type} {b : Nat} {l m : List α} (h : (l.length + m.length) * b ≤ 70368744177664) : app b l m = some (l ++ m) := by
  simp only [app]; rw [if_pos h]
theorem mk_ok {α : Type} {b n : Nat} {x : α} (h : b * n ≤ 140737488355328) : Nt.mk b (n : Int) x = some (List.replicate n x) := by
  simp only [Nt.mk]; rw [if_pos ⟨by omega, by exact_mod_cast h⟩]; simp
/-- down from the end -/
theorem down {P : Nat → Prop} (n : Nat) (h : ∀ i, i ≤ n → (i < n → P (i + 1)) → P i) : ∀ i, i ≤ n → P i := by
  intro i hi
  obtain ⟨k, hk⟩ : ∃ k, k = n - i := ⟨_, rfl⟩
  induction k generalizing i with
  | zero => exact h i hi fun hlt => by omega
  | succ k ih => exact h i hi fun hlt => ih (i + 1) hlt (by omega)
theorem bind_some' {α β : Type} (x : α) (f : α → Option β) : (some x >>= f) = f x := rfl
theorem set_step {α : Type} {a v : List α} {i : Nat} (h : i < a.length) (hv : i < v.length) : some ((v.set i a[i]).take (i + 1) ++ a.drop (i + 1)) = some (v.take i ++ a.drop i) := by
  rw [List.take_set, List.take_add_one, List.getElem?_eq_getElem hv, List.set_append_right _ _ (by simp; omega), List.drop_eq_getElem_cons h]
  have : i - min i v.length = 0 := by omega
  simp [this]
def smL {α : Type} (p : α → Prop) (l : List α) : Prop := l.length ≤ 1048576 ∧ ∀ x ∈ l, p x
theorem toRecS_some (a : List Rec) (h : smL (fun _ => True) a) : laws_toRecS a = some a := by
  have hl : a.length ≤ 1048576 := h.1
  have key : ∀ i, i ≤ a.length → ∀ v : List Rec, v.length = a.length → laws_toRecS.l0 a i v = some (v.take i ++ a.drop i) := by
    refine down _ fun i hi ih v hv => ?_
    rw [laws_toRecS.l0]
    by_cases hlt : i < a.length
    · have c : decide ((i : Int) < (a.length : Int)) = true := by simpa using hlt
      have hv' : i < v.length := by omega
      simp only [c, if_true, ix_nat, List.getElem?_eq_getElem hlt, List.getElem?_eq_getElem hv', bind_some', laws_toRec, put_nat hv', w64_succ (show i < 9223372036854775807 by omega)]
      rw [ih hlt _ (by simpa using hv), set_step hlt hv']
    · rw [if_neg (by simpa using hlt)]
      obtain rfl : i = a.length := by omega
      simp [List.take_of_length_le, hv]
  simp only [laws_toRecS]
  rw [mk_ok (by omega)]
  simp only [bind_some']
  have := fun z => key 0 (by omega) (List.replicate a.length z) (by simp)
  simp only [Int.natCast_zero] at this
  simp only [this, bind_some']; simp
theorem eqRecS_self (a : List Rec) (h : smL (fun _ => True) a) : laws_eqRecS a a = some true := by
  have hl : a.length ≤ 1048576 := h.1
  have key : ∀ i, i ≤ a.length → laws_eqRecS.l0 a a i = some (.inr ()) := by
    refine down _ fun i hi ih => ?_
    rw [laws_eqRecS.l0]
    by_cases hlt : i < a.length
    · have c : decide ((i : Int) < (a.length : Int)) = true := by simpa using hlt
      simp only [c, if_true, ix_nat, List.getElem?_eq_getElem hlt, bind_some', laws_eqRec, bne_self_eq_false, beq_self_eq_true, Bool.false_eq_true, if_false, Bool.not_true, w64_succ (show i < 9223372036854775807 by omega)]
      exact ih hlt
    · rw [if_neg (by simpa using hlt)]
  simp only [laws_eqRecS, bne_self_eq_false, Bool.false_eq_true, if_false]
  have := key 0 (by omega)
  simp only [Int.natCast_zero] at this
  rw [this]; rfl
theorem szRecS_sp (a : List Rec) (left : Int) (ha : okL Rec.ok a) (h0 : 0 ≤ left) (h1 : left ≤ 1048576) : ∃ r, laws_szRecS a left = some r ∧ r ≤ left ∧ (r < 0 ∨ smL (fun _ => True) a) := by
  have := ha.1
  simp only [laws_szRecS]
  rw [w64_id (by omega) (by omega)]
  by_cases h : left < a.length
  · rw [if_pos (by simp; omega)]; exact ⟨_, rfl, by omega, .inl (by omega)⟩
  · rw [if_neg (by simp; omega)]; exact ⟨_, rfl, by omega, .inr ⟨by omega, by simp⟩⟩
theorem in_some (a b c : Int) : spec_l1In a b c = some (decide (a ≥ b) && decide (a ≤ c)) := by
  simp only [spec_l1In]; by_cases h : a ≥ b <;> simp [h]
theorem from_some (a b c : Int) : impl_from a b c = some (decide (a ≥ b) && decide (a ≤ c)) := by
  simp only [impl_from]; by_cases h : a ≥ b <;> simp [h]
theorem recsOk_same (a : List Rec) (h : a.length ≤ 1048576) : ∃ b, spec_RecsOk a = some b ∧ impl_RecsOk a = some b := by
  have key : ∀ i, i ≤ a.length → ∃ b, spec_RecsOk.l0 a i = some b ∧ impl_RecsOk.l0 a i = some b := by
    refine down _ fun i hi ih => ?_
    rw [spec_RecsOk.l0, impl_RecsOk.l0]
    by_cases hlt : i < a.length
    · obtain ⟨b, h1, h2⟩ := ih hlt
      have c : decide ((i : Int) < (a.length : Int)) = true := by simpa using hlt
      simp only [impl_isTime, impl_isMany, in_some, from_some, bind_some', ix_nat, List.getElem?_eq_getElem hlt, w64_succ (show i < 9223372036854775807 by omega), h1, h2, c, if_true]
      split
      · exact ⟨_, rfl, rfl⟩
      · split
        · exact ⟨_, rfl, rfl⟩
        · by_cases h0 : i = 0
          · subst h0; simp
          · have e : IntKind.i64.wrap ((i : Int) - 1) = ((i - 1 : Nat) : Int) := by rw [w64_id (by omega) (by omega)]; omega
            have c2 : decide ((i : Int) > 0) = true := by simp; omega
            simp only [c2, if_true, e, ix_nat, List.getElem?_eq_getElem (show i - 1 < a.length by omega), bind_some']
            split
            · exact ⟨_, rfl, rfl⟩
            · exact ⟨_, rfl, rfl⟩
    · rw [if_neg (by simpa using hlt), if_neg (by simpa using hlt)]
      exact ⟨_, rfl, rfl⟩
  obtain ⟨b, h1, h2⟩ := key 0 (by omega)
  simp only [Int.natCast_zero] at h1 h2
  simp only [spec_RecsOk, impl_RecsOk, h1, h2, bind_some']
  cases b with
  | inl r => exact ⟨_, rfl, rfl⟩
  | inr u => exact ⟨_, rfl, rfl⟩
theorem mark_step {α : Type} {v : List α} {i : Nat} (h : i < v.length) (x : α) (r : List α) : (v.set i x).take (i + 1) ++ r = v.take i ++ x :: r := by
  rw [List.take_set, List.take_add_one, List.getElem?_eq_getElem h, List.set_append_right _ _ (by simp; omega)]
  have : i - min i v.length = 0 := by omega
  simp [this]
def markR (k : Int) : Nat → List Rec
  | 0 => []
  | n + 1 => ⟨k, k + 1⟩ :: markR (k + 2) n
theorem markR_len (k : Int) (n : Nat) : (markR k n).length = n := by
  induction n generalizing k with
  | zero => rfl
  | succ n ih => simp [markR, ih]
theorem markR_get (k : Int) (n i : Nat) (h : i < n) : (markR k n)[i]'(by rw [markR_len]; exact h) = ⟨k + 2 * i, k + 2 * i + 1⟩ := by
  induction n generalizing k i with
  | zero => omega
  | succ n ih =>
    cases i with
    | zero => simp [markR]
    | succ i =>
      simp only [markR, List.getElem_cons_succ]; rw [ih (k + 2) i (by omega)]
      simp only [Rec.mk.injEq]; omega
theorem markRecS_some (a : List Rec) (h : a.length ≤ 1048576) : laws_markRecS a 1 = some (1 + 2 * (a.length : Int), markR 1 a.length) := by
  have key : ∀ i, i ≤ a.length → ∀ v : List Rec, v.length = a.length → laws_markRecS.l0 (1 + 2 * (i : Int)) i v = some (1 + 2 * (a.length : Int), v.take i ++ markR (1 + 2 * (i : Int)) (a.length - i)) := by
    refine down _ fun i hi ih v hv => ?_
    rw [laws_markRecS.l0]
    by_cases hlt : i < a.length
    · have c : decide ((i : Int) < (v.length : Int)) = true := by simp; omega
      have hv' : i < v.length := by omega
      have e : IntKind.i64.wrap (1 + 2 * (i : Int) + 1) = 1 + 2 * (i : Int) + 1 := by rw [w64_id (by omega) (by omega)]
      have e1 : IntKind.i64.wrap (1 + 2 * (i : Int) + 1 + 1) = 1 + 2 * ((i + 1 : Nat) : Int) := by rw [w64_id (by omega) (by omega)]; omega
      simp only [c, if_true, ix_nat, List.getElem?_eq_getElem hv', bind_some', put_nat hv', List.length_set, List.getElem?_set_self hv', put_nat (show i < (v.set i (Rec.mk (1 + 2 * (i : Int)) v[i].N)).length by simpa using hv'), w64_succ (show i < 9223372036854775807 by omega), e, e1, List.set_set]
      rw [ih hlt _ (by simpa using hv), mark_step hv']
      obtain ⟨m, hm⟩ : ∃ m, a.length - i = m + 1 := ⟨a.length - i - 1, by omega⟩
      have hm2 : a.length - (i + 1) = m := by omega
      rw [hm, hm2, markR]
      have e3 : (1 + 2 * ((i + 1 : Nat) : Int)) = 1 + 2 * (i : Int) + 2 := by omega
      rw [e3]
    · rw [if_neg (by simp; omega)]
      obtain rfl : i = a.length := by omega
      simp [markR, List.take_of_length_le, hv]
  have := key 0 (by omega) a rfl
  simp only [Int.natCast_zero, Int.mul_zero, Int.add_zero, Nat.sub_zero, List.take_zero, List.nil_append] at this
  simp only [laws_markRecS, this, bind_some']
theorem heldRecS_some (n : Nat) (h : n ≤ 1048576) : laws_heldRecS (markR 1 n) 1 = some (1 + 2 * (n : Int)) := by
  have key : ∀ i, i ≤ n → laws_heldRecS.l0 (markR 1 n) (1 + 2 * (i : Int)) i = some (.inr (1 + 2 * (n : Int))) := by
    refine down _ fun i hi ih => ?_
    rw [laws_heldRecS.l0]
    by_cases hlt : i < n
    · have c : decide ((i : Int) < ((markR 1 n).length : Int)) = true := by simp [markR_len]; omega
      have hv' : i < (markR 1 n).length := by rw [markR_len]; exact hlt
      have e : IntKind.i64.wrap (1 + 2 * (i : Int) + 1) = 1 + 2 * (i : Int) + 1 := by rw [w64_id (by omega) (by omega)]
      have e1 : IntKind.i64.wrap (1 + 2 * (i : Int) + 1 + 1) = 1 + 2 * ((i + 1 : Nat) : Int) := by rw [w64_id (by omega) (by omega)]; omega
      simp only [c, if_true, ix_nat, List.getElem?_eq_getElem hv', bind_some', w64_succ (show i < 9223372036854775807 by omega), e, e1, markR_get 1 n i hlt, bne_self_eq_false, Bool.false_eq_true, if_false]
      exact ih hlt
    · rw [if_neg (by simp [markR_len]; omega)]
      obtain rfl : i = n := by omega
      rfl
  have := key 0 (by omega)
  simp only [Int.natCast_zero, Int.mul_zero, Int.add_zero] at this
  simp only [laws_heldRecS, this, bind_some']
theorem recAdd_same (a : List Rec) (t n : Int) (hl : a.length ≤ 1048576) : ∃ m, spec_RecAdd a t n = some m ∧ impl_RecAdd a t n = some m ∧ m.length ≤ 1048576 := by
  have h1 : (0 + a.length) * 16 ≤ 70368744177664 := by omega
  have h2 : (a.length + 1) * 16 ≤ 70368744177664 := by omega
  have h3 : Nt.clone 16 a = some a := if_pos (by omega)
  have e1 : app 16 [] a = some a := app_ok (l := []) (by simpa using h1)
  have e2 : app 16 a [Rec.mk t n] = some (a ++ [Rec.mk t n]) := app_ok (by simpa using h2)
  simp only [spec_RecAdd, impl_RecAdd, slices_Clone_Simpl_Rec_impl_Rec, h3, e1, e2, bind_some']
  by_cases hc : ((a ++ [Rec.mk t n]).length : Int) > 12
  · have e3 : slc (a ++ [Rec.mk t n]) 1 ((a ++ [Rec.mk t n]).length : Int) = some ((a ++ [Rec.mk t n]).drop 1) := by
      simp only [slc]
      rw [if_pos ⟨by omega, by omega, by omega⟩]
      simp only [Nt.cut, Int.toNat_natCast, List.take_length]
      rfl
    have hd : ((a ++ [Rec.mk t n]).drop 1).length ≤ 1048576 := by simp; omega
    have e4 : app 16 [] ((a ++ [Rec.mk t n]).drop 1) = some ((a ++ [Rec.mk t n]).drop 1) := app_ok (l := []) (by simp only [List.length_nil]; omega)
    obtain ⟨b, b1, b2⟩ := recsOk_same _ hd
    simp only [hc, decide_true, if_true, e3, e4, bind_some', b1, b2, e1]
    cases b
    · exact ⟨_, rfl, rfl, hl⟩
    · exact ⟨_, rfl, rfl, hd⟩
  · have hd : (a ++ [Rec.mk t n]).length ≤ 1048576 := by omega
    obtain ⟨b, b1, b2⟩ := recsOk_same _ hd
    simp only [hc, decide_false, Bool.false_eq_true, if_false, b1, b2, bind_some', e1]
    cases b
    · exact ⟨_, rfl, rfl, hl⟩
    · exact ⟨_, rfl, rfl, hd⟩
theorem Pure.FnExactRecAdd (a : List Rec) (t n : Int) (ha : okL Rec.ok a) (ht : okI t) (hn : okI n) : laws_FnExactRecAdd a t n = some true := by
  simp only [laws_FnExactRecAdd]
  obtain ⟨r, e, _, hr⟩ := szRecS_sp a _ ha (by omega : (0 : Int) ≤ 1048576) (by omega)
  simp only [e, bind_some']
  rcases hr with hr | hr
  · rw [if_pos (by simpa using hr)]
  · obtain ⟨m, h1, h2, hm⟩ := recAdd_same a t n hr.1
    have c1 : decide (1 + 2 * (a.length : Int) < 0) = false := by simp; omega
    have c2 : decide (1 + 2 * (m.length : Int) < 0) = false := by simp; omega
    split
    · rfl
    · simp only [toRecS_some a hr, bind_some', h1, h2, eqRecS_self m ⟨hm, fun _ _ => trivial⟩, bne_self_eq_false, Bool.false_eq_true, if_false, eqRecS_self a hr, Bool.not_true, markRecS_some a hr.1, markRecS_some m hm, heldRecS_some m.length hm, c1, c2]
end Go.Pu
