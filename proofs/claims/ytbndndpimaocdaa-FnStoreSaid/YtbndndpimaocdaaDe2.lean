import Derived.Test.YtbndndpimaocdaaDe1
set_option linter.unusedVariables false
set_option linter.unusedSimpArgs false
set_option linter.unusedSectionVars false
set_option linter.unusedVariables false
set_option linter.unusedSimpArgs false
namespace Go.SX
open Go.Shelf Go.Proofs Go.RowKit Go.Lib
variable {P : Program} {ρ : Ren} {w w' : World} {ok ok' okc : Nat → Prop} {E : Env} {σ : St}
theorem ends_row1 {bs : List Nat} (M : Mem w ⟨(· ∈ bs), okc⟩ σ E ok' w') (hk : Keep w w' okc ok') {j : Nat} {q : Row} {r r0 : RV} (hq : rowAt σ j = some q) (ho : q.ow = true) (hqf : q.dp = .f) (hE : E.ρ[j]? = some r) :
    Ends w [.r r0] bs okc (.c (.r q.l) (some (q.sz, false))) [none] (.slice r.a r.n r.cap) w' := by
  have hz := (M.row j r q hE hq).1
  have hO := M.own hE hq ho hqf
  refine ⟨ok', r.κ.toList, [], M.fr, hk, fun k h => ?_, ⟨[.r r], ?_⟩, .gone .nil, ?_, fun k hk => ?_⟩
  · rcases M.okin k h with h | h | h
    · exact .inl h
    · exact .inr (.inr h)
    · exact .inr (.inl h)
  · have := ArgsRel.own (w := w') (ok := ok') hO.x .nil
    rw [List.append_nil] at this
    rw [hz]; exact this
  · cases r.κ <;> simp
  · rw [List.append_nil] at hk
    have hm : mutAt σ E (.r j) = some k := mut_r hE hq ho (by cases hr : r.κ <;> simp_all)
    exact ⟨(M.mine _ _ hm).1, (M.mine _ _ hm).2.1.symm⟩
/-- slices.Delete -/
def delF (z : Nat) : List A → Option (A × List (Option Cs))
  | [.c (.r l) (some (s, false)), .c (.s (.int .i64 i)) none, .c (.s (.int .i64 j)) none] => if (s = z ∨ l = []) ∧ 0 ≤ i ∧ i ≤ j ∧ j ≤ l.length ∧ l.length ≤ 70368744177664 then some (.c (.r (l.take i.toNat ++ l.drop j.toNat)) (some (s, false)), [none]) else none
  | _ => none
theorem del_cells {l : List (List C)} {z i j : Nat} {cs fs : Array Value} {off : Nat} (hl : ∀ el ∈ l, el.length = z) (hij : i ≤ j) (hj : j ≤ l.length)
    (hcl : ∀ p q el c, l[p]? = some el → el[q]? = some c → ∃ u, cs[off + (p * z + q)]? = some u ∧ Holds w ok c u)
    (hA : ∀ q, q < i * z → fs[off + q]? = cs[off + q]?) (hB : ∀ q, q < (l.length - j) * z → fs[off + i * z + q]? = cs[off + j * z + q]?) :
    ∀ p q el c, (l.take i ++ l.drop j)[p]? = some el → el[q]? = some c → ∃ u, fs[off + (p * z + q)]? = some u ∧ Holds w ok c u := by
  intro p q el c hp hq
  have hql : q < el.length := (List.getElem?_eq_some_iff.1 hq).1
  have hti : (l.take i).length = i := by simp; omega
  have lt_of : ∀ a b : Nat, a < b → q < z → a * z + q < b * z := fun a b h hz => by
    have : (a + 1) * z ≤ b * z := Nat.mul_le_mul_right _ h
    rw [Nat.add_mul] at this; omega
  by_cases h1 : p < i
  · rw [List.getElem?_append_left (by omega), List.getElem?_take, if_pos h1] at hp
    have hz := hl el (List.mem_of_getElem? hp)
    obtain ⟨u, h3, h4⟩ := hcl p q el c hp hq
    exact ⟨u, by rw [hA _ (lt_of p i h1 (by omega))]; exact h3, h4⟩
  · rw [List.getElem?_append_right (by omega), hti, List.getElem?_drop] at hp
    have hz := hl el (List.mem_of_getElem? hp)
    have hpl := (List.getElem?_eq_some_iff.1 hp).1
    obtain ⟨u, h3, h4⟩ := hcl (j + (p - i)) q el c hp hq
    refine ⟨u, ?_, h4⟩
    have e : p * z = i * z + (p - i) * z := by rw [← Nat.add_mul]; congr 1; omega
    have e2 : (j + (p - i)) * z = j * z + (p - i) * z := by rw [← Nat.add_mul]
    rw [show off + (p * z + q) = off + i * z + ((p - i) * z + q) by omega, hB _ (lt_of (p - i) (l.length - j) (by omega) (by omega)), show off + j * z + ((p - i) * z + q) = off + ((j + (p - i)) * z + q) by omega]
    exact h3
theorem delete_ok {z : Nat} {i0 : TypeInfo} {z0 : Value} {nm : String} (L : DelL P ρ z i0 z0 nm) : FOk P (ρ.f 24) (delF z) := by
  intro xs r back h w vs hs bs okc hA hnd hno
  unfold delF at h
  split at h
  case h_2 => simp at h
  rename_i l s i j
  split at h
  case isFalse => simp at h
  rename_i hc
  obtain ⟨hsz, hi0, hij, hjl, hbig⟩ := hc
  simp only [Option.some.injEq, Prod.mk.injEq] at h
  obtain ⟨rfl, rfl⟩ := h
  obtain ⟨i, rfl⟩ : ∃ k : Nat, i = k := ⟨i.toNat, by omega⟩
  obtain ⟨j, rfl⟩ : ∃ k : Nat, j = k := ⟨j.toNat, by omega⟩
  simp only [Int.toNat_natCast] at *
  have h0 := L.h0
  have M0 : Mem w ⟨(· ∈ bs), okc⟩ st0 E00 okc w := mem00
  have hfree : Free w ⟨(· ∈ bs), okc⟩ okc st0 E00 bs := free00 hnd hno
  obtain ⟨E1, ⟨M1, _, _, _⟩, hT, hH⟩ := tellVs_ok hA M0 hfree
  have hst : tellVs st0 [A.c (.r l) (some (s, false)), .c (.s (.int .i64 (i : Int))) none, .c (.s (.int .i64 (j : Int))) none] = ([.row 0, .c (.s (.int .i64 i)), .c (.s (.int .i64 j))], ⟨[], [], [some ⟨s, l, true, .f⟩]⟩) := rfl
  rw [hst] at M1 hT hH
  cases hT with
  | cons x0 hT =>
  cases hT with
  | cons x1 hT =>
  cases hT with
  | cons x2 hT =>
  cases hT
  obtain ⟨r0, e0, rfl⟩ := x0
  cases x1
  cases x2
  have hhs : hs = [.r r0] := by
    have hl2 : lentOf true [T.row 0, .c (.s (.int .i64 (i : Int))), .c (.s (.int .i64 (j : Int)))] = [.r 0] := rfl
    rw [hl2] at hH
    cases hH with
    | cons a hH =>
    cases hH
    rename_i h1
    cases h1 <;> simp only [HRel] at a
    rw [e0] at a
    cases a; rfl
  subst hhs
  have hq0 : rowAt (⟨[], [], [some ⟨s, l, true, .f⟩]⟩ : St) 0 = some ⟨s, l, true, .f⟩ := rfl
  have hs0 := (M1.row 0 r0 _ e0 hq0).1
  have hO0 := M1.own e0 hq0 rfl rfl
  simp only at hs0 hO0
  have hbod : ({ Body2.n24 ρ with name := nm } : Func).body.isNone = false := rfl
  refine .inl ⟨_, L.f24, L.hnm, hbod, ?_⟩
  show Calls P (ρ.f 24) #[.slice r0.a r0.n r0.cap, .int .i64 i, .int .i64 j] w _
  have hO := hO0
  obtain ⟨a1, a2, a3, a4, a5⟩ := hO0
  by_cases heq : i = j
  · subst heq
    have hnil : r0.a = none → r0.cap = 0 := fun h => by
      cases hκ : r0.κ with
      | none => rw [hκ] at a5; exact a5
      | some x =>
        rw [hκ] at a5
        obtain ⟨off, t, cs, h1, _⟩ := a5
        rw [h] at h1; cases h1
    refine (del_none L r0.a r0.n r0.cap i w (by omega) a2 (by omega) hnil).mono fun e w' he => ?_
    obtain ⟨rfl, rfl⟩ := he
    rw [List.take_append_drop]
    exact ends_row1 M1 keep_refl (j := 0) (q := ⟨s, l, true, .f⟩) (r := r0) (r0 := r0) hq0 rfl rfl e0
  · have hlt : i < j := by omega
    have hsz' : s = z := by
      rcases hsz with h | h
      · exact h
      · subst h; simp at hjl; omega
    subst hsz'
    rw [← hs0] at a3 a5
    obtain ⟨b0, hk0⟩ : ∃ b0, r0.κ = some b0 := by
      cases hκ : r0.κ with
      | none => rw [hκ] at a5; simp only at a5; omega
      | some b0 => exact ⟨b0, rfl⟩
    rw [hk0] at a5
    simp only at a5
    obtain ⟨off, tb, cs, d1, d2, d3, d4⟩ := a5
    have hm0 := M1.mine _ _ (mut_r e0 hq0 rfl hk0)
    have h1c := cells_allone (off := off) h0 a1 a3 d4
    have hdead : ∀ (x : Mt) (k : Nat), mutAt (setRow (⟨[], [], [some ⟨s, l, true, .f⟩]⟩ : St) 0 none) E1 x ≠ some k := fun x k => mut_none (fun b => by simp [boxAt, setRow]) (fun i => by rcases i with _ | i <;> simp [rawAt, setRow]) x k
    have M2 := M1.killR 0
    have hjn : j ≤ r0.n := by omega
    have hmul1 : j * s + (r0.n - j) * s = r0.n * s := by rw [← Nat.add_mul]; congr 1; omega
    have hmul2 : r0.n * s ≤ r0.cap * s := Nat.mul_le_mul_right _ a2
    have hmul3 : i * s + (r0.n - j) * s = (i + (r0.n - j)) * s := by rw [← Nat.add_mul]
    have hmul4 : (i + (r0.n - j)) * s + (j - i) * s = r0.n * s := by rw [← Nat.add_mul]; congr 1; omega
    have hX : ((cs.toList.drop (off + j * s)).take ((r0.n - j) * s)).length = (r0.n - j) * s := by simp; omega
    have hZ : (Builtin.zeroCells z0.cells (j - i)).toList.length = (j - i) * s := by simp [Builtin.zeroCells, L.hzc]
    rw [d1]
    refine (del_walk L b0 off r0.n r0.cap i j w hlt hjn a2 (by omega) d2 d3 h1c).mono fun e w' he => ?_
    obtain ⟨rfl, hp⟩ := he
    obtain ⟨M3, kp⟩ := M2.poke hp (fun x => hdead x _) hm0.1 hm0.2.1
    obtain ⟨tf, hf⟩ := hp.here
    have hs1 : (over cs (off + i * s) ((cs.toList.drop (off + j * s)).take ((r0.n - j) * s))).size = cs.size := over_size (by rw [hX]; omega)
    have hs2 : (over (over cs (off + i * s) ((cs.toList.drop (off + j * s)).take ((r0.n - j) * s))) (off + (i + (r0.n - j)) * s) (Builtin.zeroCells z0.cells (j - i)).toList).size = cs.size := by rw [over_size (by rw [hZ, hs1]; omega), hs1]
    have hcells := del_cells (i := i) (j := j) (w := w) (ok := okc) (off := off) (fs := over (over cs (off + i * s) ((cs.toList.drop (off + j * s)).take ((r0.n - j) * s))) (off + (i + (r0.n - j)) * s) (Builtin.zeroCells z0.cells (j - i)).toList) a3 (by omega) (by omega) d4
      (fun q hq => by rw [over_get (by rw [hZ, hs1]; omega), if_neg (by omega), over_get (by rw [hX]; omega), if_neg (by omega)])
      (fun q hq => by rw [a1] at hq; rw [over_get (by rw [hZ, hs1]; omega), if_neg (by omega), over_get (by rw [hX]; omega), if_pos (by rw [hX]; omega), show off + i * s + q - (off + i * s) = q by omega, drop_take_get hq])
    have hwid : ∀ el ∈ l.take i ++ l.drop j, el.length = s := by
      intro el hel
      rcases List.mem_append.1 hel with h | h
      · exact a3 _ (List.mem_of_mem_take h)
      · exact a3 _ (List.mem_of_mem_drop h)
    obtain ⟨M4, hle, _⟩ := M3.newR (r := ⟨some ⟨b0, off, none⟩, r0.n - (j - i), r0.cap, s, some b0⟩) (q := ⟨s, l.take i ++ l.drop j, true, .f⟩) rfl ⟨rfl, by
      rw [if_pos rfl]
      exact ⟨by simp; omega, by show r0.n - (j - i) ≤ r0.cap; omega, hwid, fun h => by simp only at h; omega, off, tf, _, rfl, hf, by rw [hs2]; exact d3, fun p q el c h h' => by
        obtain ⟨u, h5, h6⟩ := hcells p q el c h h'
        exact ⟨u, h5, h6.keep kp⟩⟩⟩ (fun k _ hk => by
        cases hk
        exact ⟨hm0.1, hm0.2.1, fun x => hdead x _⟩)
    exact ends_row1 M4 kp (j := 1) (q := ⟨s, l.take i ++ l.drop j, true, .f⟩) (r := ⟨some ⟨b0, off, none⟩, r0.n - (j - i), r0.cap, s, some b0⟩) rfl rfl rfl (by
      have := M2.lr
      simp only [setRow, List.length_set, List.length_cons, List.length_nil] at this
      show (E1.ρ ++ [_])[1]? = _
      rw [List.getElem?_append_right (by omega), this]; rfl)
theorem delF_of {α : Type} {z : Nat} {en : α → List C} {l r : List α} {i j : Int} (h : Nt.del l i j = some r) : delF z [.c (.r (l.map en)) (some (z, false)), .c (.s (.int .i64 i)) none, .c (.s (.int .i64 j)) none] = some (.c (.r (r.map en)) (some (z, false)), [none]) := by
  unfold Nt.del at h
  split at h
  · rename_i hc
    obtain ⟨h1, h2, h3, h4⟩ := hc
    obtain rfl := Option.some.inj h
    simp only [delF]
    rw [if_pos ⟨.inl trivial, h1, h2, by simpa using h3, by simpa using h4⟩]
    simp [List.map_take, List.map_drop]
  · cases h
end Go.SX
