import Derived.Test.YtgeingpadegppaaRecsOkPu
set_option linter.unusedVariables false
set_option linter.unusedSimpArgs false
namespace Go.Pu
open Go.Nt
theorem w64_id {n : Int} (h0 : -9223372036854775808 ≤ n) (h1 : n ≤ 9223372036854775807) : IntKind.i64.wrap n = n := by
  simp only [IntKind.wrap, IntKind.bits, IntKind.signed, Bool.true_and]
  split
  · rename_i h; simp at h; omega
  · rename_i h; simp at h; omega
theorem w64_succ {i : Nat} (h : i < 9223372036854775807) : IntKind.i64.wrap ((i : Int) + 1) = ((i + 1 : Nat) : Int) := by
  rw [w64_id (by omega) (by omega)]; omega
theorem ix_nat {α : Type} (l : List α) (i : Nat) : ix l (i : Int) = l[i]? := by simp [ix]
theorem put_nat {α : Type} {l : List α} {i : Nat} {x : α} (h : i < l.length) : Nt.put l (i : Int) x = some (l.set i x) := by simp [Nt.put, h]
theorem mk_ok {α : Type} {b n : Nat} {x : α} (h : b * n ≤ 140737488355328) : Nt.mk b (n : Int) x = some (List.replicate n x) := by
  simp only [Nt.mk]; rw [if_pos ⟨by omega, by exact_mod_cast h⟩]; simp
/-- down from the end -/
theorem down {P : Nat → Prop} (n : Nat) (h : ∀ i, i ≤ n → (i < n → P (i + 1)) → P i) : ∀ i, i ≤ n → P i := by
  intro i hi
  obtain ⟨k, hk⟩ : ∃ k, k = n - i := ⟨_, rfl⟩
  induction k generalizing i with
  | zero => exact h i hi fun hlt => by omega
  | succ k ih => exact h i hi fun hlt => ih (i + 1) hlt (by omega)
theorem bind_some' {α β : Type} (x : α) (f : α → Option β) : (some x >>= f) = f x := rfl
theorem szRecS_some (a : List Rec) (left : Int) (ha : okL Rec.ok a) (h0 : 0 ≤ left) (h1 : left ≤ 1048576) : laws_szRecS a left = some (if left < a.length then -1 else left - a.length) := by
  have := ha.1
  simp only [laws_szRecS]
  rw [w64_id (by omega) (by omega)]
  by_cases h : left < a.length
  · rw [if_pos (by simp; omega), if_pos h]
  · rw [if_neg (by simp; omega), if_neg h]
theorem toRecS_some (a : List Rec) (h : a.length ≤ 1048576) : laws_toRecS a = some a := by
  have key : ∀ i, i ≤ a.length → ∀ v : List Rec, v.length = a.length → laws_toRecS.l0 a i v = some (v.take i ++ a.drop i) := by
    refine down _ fun i hi ih v hv => ?_
    rw [laws_toRecS.l0]
    by_cases hlt : i < a.length
    · rw [if_pos (by simpa using hlt), ix_nat, List.getElem?_eq_getElem hlt]
      simp only [bind_some', laws_toRec]
      rw [ix_nat, List.getElem?_eq_getElem (by omega)]
      simp only [bind_some']
      rw [put_nat (by omega)]
      simp only [bind_some']
      rw [w64_succ (by omega), ih hlt _ (by simpa using hv)]
      rw [List.take_set, List.take_add_one, List.getElem?_eq_getElem (by omega), List.set_append_right _ _ (by simp; omega)]
      rw [List.drop_eq_getElem_cons hlt]
      have : i - min i v.length = 0 := by omega
      simp [this]
    · rw [if_neg (by simpa using hlt)]
      obtain rfl : i = a.length := by omega
      simp [List.take_of_length_le, hv]
  simp only [laws_toRecS]
  rw [mk_ok (by omega)]
  simp only [bind_some']
  have := key 0 (by omega) (List.replicate a.length (Rec.mk 0 0)) (by simp)
  simp only [Int.natCast_zero] at this
  rw [this]; simp
theorem eqRecS_self (a : List Rec) (h : a.length ≤ 1048576) : laws_eqRecS a a = some true := by
  have key : ∀ i, i ≤ a.length → laws_eqRecS.l0 a a i = some (.inr ()) := by
    refine down _ fun i hi ih => ?_
    rw [laws_eqRecS.l0]
    by_cases hlt : i < a.length
    · rw [if_pos (by simpa using hlt), ix_nat, List.getElem?_eq_getElem hlt]
      simp only [bind_some', laws_eqRec, bne_self_eq_false, Bool.false_eq_true, if_false, Bool.not_true]
      rw [w64_succ (by omega), ih hlt]
    · rw [if_neg (by simpa using hlt)]
  simp only [laws_eqRecS, bne_self_eq_false, Bool.false_eq_true, if_false]
  have := key 0 (by omega)
  simp only [Int.natCast_zero] at this
  rw [this]; rfl
theorem in_some (a b c : Int) : spec_l1In a b c = some (decide (a ≥ b) && decide (a ≤ c)) := by
  simp only [spec_l1In]; by_cases h : a ≥ b <;> simp [h]
theorem from_some (a b c : Int) : impl_from a b c = some (decide (a ≥ b) && decide (a ≤ c)) := by
  simp only [impl_from]; by_cases h : a ≥ b <;> simp [h]
theorem recsOk_same (a : List Rec) (h : a.length ≤ 1048576) : ∃ b, spec_RecsOk a = some b ∧ impl_RecsOk a = some b := by
  have key : ∀ i, i ≤ a.length → ∃ b, spec_RecsOk.l0 a i = some b ∧ impl_RecsOk.l0 a i = some b := by
    refine down _ fun i hi ih => ?_
    rw [spec_RecsOk.l0, impl_RecsOk.l0]
    by_cases hlt : i < a.length
    · obtain ⟨b, h1, h2⟩ := ih hlt
      have c : decide ((i : Int) < (a.length : Int)) = true := by simpa using hlt
      simp only [impl_isTime, impl_isMany, in_some, from_some, bind_some', ix_nat, List.getElem?_eq_getElem hlt, w64_succ (show i < 9223372036854775807 by omega), h1, h2, c, if_true]
      split
      · exact ⟨_, rfl, rfl⟩
      · split
        · exact ⟨_, rfl, rfl⟩
        · by_cases h0 : i = 0
          · subst h0; simp
          · have e : IntKind.i64.wrap ((i : Int) - 1) = ((i - 1 : Nat) : Int) := by rw [w64_id (by omega) (by omega)]; omega
            have c2 : decide ((i : Int) > 0) = true := by simp; omega
            simp only [c2, if_true, e, ix_nat, List.getElem?_eq_getElem (show i - 1 < a.length by omega), bind_some']
            split
            · exact ⟨_, rfl, rfl⟩
            · exact ⟨_, rfl, rfl⟩
    · rw [if_neg (by simpa using hlt), if_neg (by simpa using hlt)]
      exact ⟨_, rfl, rfl⟩
  obtain ⟨b, h1, h2⟩ := key 0 (by omega)
  simp only [Int.natCast_zero] at h1 h2
  simp only [spec_RecsOk, impl_RecsOk, h1, h2, bind_some']
  cases b with
  | inl r => exact ⟨_, rfl, rfl⟩
  | inr u => exact ⟨_, rfl, rfl⟩
theorem Pure.FnExactRecsOk (a : List Rec) (ha : okL Rec.ok a) : laws_FnExactRecsOk a = some true := by
  simp only [laws_FnExactRecsOk]
  rw [szRecS_some a _ ha (by omega) (by omega)]
  simp only [bind_some']
  by_cases h : (1048576 : Int) < a.length
  · simp [h]
  · have hl : a.length ≤ 1048576 := by omega
    obtain ⟨b, h1, h2⟩ := recsOk_same a hl
    rw [if_neg h, if_neg (by simp; omega)]
    simp only [toRecS_some a hl, bind_some', h1, h2, bne_self_eq_false, Bool.false_eq_true, if_false, eqRecS_self a hl, Bool.not_true]
end Go.Pu
