import Derived.Test.YtnjjfghnbgbclaaGreatIn1
set_option linter.unusedVariables false
set_option linter.unusedSimpArgs false
set_option linter.unusedSectionVars false
set_option linter.unusedVariables false
set_option linter.unusedSimpArgs false
namespace Go.SX
open Go.Shelf Go.Proofs Go.RowKit Go.Lib
variable {P : Program} {ρ : Ren} {w w' : World} {ok ok' okc : Nat → Prop} {E : Env} {σ : St}
/-- a row that is ours, as a result; what was lent is gone -/
theorem ends_row {bs : List Nat} (M : Mem w ⟨(· ∈ bs), okc⟩ σ E ok' w') (hk : Keep w w' okc ok') {j : Nat} {q : Row} {r r0 r1 : RV} (hq : rowAt σ j = some q) (ho : q.ow = true) (hqf : q.dp = .f) (hE : E.ρ[j]? = some r) :
    Ends w [.r r0, .r r1] bs okc (.c (.r q.l) (some (q.sz, false))) [none, none] (.slice r.a r.n r.cap) w' := by
  have hz := (M.row j r q hE hq).1
  have hO := M.own hE hq ho hqf
  refine ⟨ok', r.κ.toList, [], M.fr, hk, fun k h => ?_, ⟨[.r r], ?_⟩, .gone (.gone .nil), ?_, fun k hk => ?_⟩
  · rcases M.okin k h with h | h | h
    · exact .inl h
    · exact .inr (.inr h)
    · exact .inr (.inl h)
  · have := ArgsRel.own (w := w') (ok := ok') hO.x .nil
    rw [List.append_nil] at this
    rw [hz]; exact this
  · cases r.κ <;> simp
  · rw [List.append_nil] at hk
    have hm : mutAt σ E (.r j) = some k := mut_r hE hq ho (by cases hr : r.κ <;> simp_all)
    exact ⟨(M.mine _ _ hm).1, (M.mine _ _ hm).2.1.symm⟩
/-- the cells, put together -/
theorem ins_cells {l v : List (List C)} {z i : Nat} {cs vs fs : Array Value} {off0 voff off : Nat} (hl : ∀ el ∈ l, el.length = z) (hv : ∀ el ∈ v, el.length = z) (hi : i ≤ l.length)
    (hcl : ∀ p j el c, l[p]? = some el → el[j]? = some c → ∃ u, cs[off0 + (p * z + j)]? = some u ∧ Holds w ok c u) (hcv : ∀ p j el c, v[p]? = some el → el[j]? = some c → ∃ u, vs[voff + (p * z + j)]? = some u ∧ Holds w ok c u)
    (hA : ∀ q, q < i * z → fs[off + q]? = cs[off0 + q]?) (hB : ∀ q, q < v.length * z → fs[off + i * z + q]? = vs[voff + q]?) (hC : ∀ q, q < (l.length - i) * z → fs[off + (i + v.length) * z + q]? = cs[off0 + i * z + q]?) :
    ∀ p j el c, (l.take i ++ v ++ l.drop i)[p]? = some el → el[j]? = some c → ∃ u, fs[off + (p * z + j)]? = some u ∧ Holds w ok c u := by
  intro p j el c hp hj
  have hjl : j < el.length := (List.getElem?_eq_some_iff.1 hj).1
  have hti : (l.take i).length = i := by simp; omega
  have lt_of : ∀ a b : Nat, a < b → j < z → a * z + j < b * z := fun a b h hz => by
    have : (a + 1) * z ≤ b * z := Nat.mul_le_mul_right _ h
    rw [Nat.add_mul] at this; omega
  by_cases h1 : p < i
  · rw [List.append_assoc, List.getElem?_append_left (by omega), List.getElem?_take, if_pos h1] at hp
    have hz := hl el (List.mem_of_getElem? hp)
    obtain ⟨u, h3, h4⟩ := hcl p j el c hp hj
    exact ⟨u, by rw [hA _ (lt_of p i h1 (by omega))]; exact h3, h4⟩
  · by_cases h2 : p < i + v.length
    · rw [List.getElem?_append_left (by simp; omega), List.getElem?_append_right (by omega), hti] at hp
      have hz := hv el (List.mem_of_getElem? hp)
      obtain ⟨u, h3, h4⟩ := hcv (p - i) j el c hp hj
      refine ⟨u, ?_, h4⟩
      have e : p * z = i * z + (p - i) * z := by rw [← Nat.add_mul]; congr 1; omega
      rw [show off + (p * z + j) = off + i * z + ((p - i) * z + j) by omega, hB _ (lt_of (p - i) v.length (by omega) (by omega))]
      exact h3
    · rw [List.getElem?_append_right (by simp; omega), List.getElem?_drop] at hp
      have e0 : i + (p - (l.take i ++ v).length) = p - v.length := by simp; omega
      rw [e0] at hp
      have hz := hl el (List.mem_of_getElem? hp)
      have hpl := (List.getElem?_eq_some_iff.1 hp).1
      obtain ⟨u, h3, h4⟩ := hcl (p - v.length) j el c hp hj
      refine ⟨u, ?_, h4⟩
      have e : p * z = (i + v.length) * z + (p - v.length - i) * z := by rw [← Nat.add_mul]; congr 1; omega
      have e2 : (p - v.length) * z = i * z + (p - v.length - i) * z := by rw [← Nat.add_mul]; congr 1; omega
      rw [show off + (p * z + j) = off + (i + v.length) * z + ((p - v.length - i) * z + j) by omega, hC _ (lt_of (p - v.length - i) (l.length - i) (by omega) (by omega)), show off0 + i * z + ((p - v.length - i) * z + j) = off0 + ((p - v.length) * z + j) by omega]
      exact h3
theorem drop_take_get {cs : Array Value} {o n q : Nat} (h : q < n) : ((cs.toList.drop o).take n)[q]? = cs[o + q]? := by
  rw [List.getElem?_take, if_pos h, List.getElem?_drop]; simp
/-- slices.Insert -/
def insF (z b : Nat) : List A → Option (A × List (Option Cs))
  | [.c (.r l) (some (s, false)), .c (.s (.int .i64 i)) none, .c (.r v) (some (s2, false))] => if (s = z ∨ (s = 0 ∧ l = [])) ∧ s2 = z ∧ v ≠ [] ∧ 0 ≤ i ∧ i ≤ l.length ∧ (l.length + v.length) * b ≤ 70368744177664 then some (.c (.r (l.take i.toNat ++ v ++ l.drop i.toNat)) (some (z, false)), [none, none]) else none
  | _ => none
theorem cells_allone {l : List (List C)} {z n : Nat} {cs : Array Value} {off : Nat} (hz : 0 < z) (hn : l.length = n) (hl : ∀ el ∈ l, el.length = z) (hcl : ∀ p j el c, l[p]? = some el → el[j]? = some c → ∃ u, cs[off + (p * z + j)]? = some u ∧ Holds w ok c u) :
    ∀ j u, cs[j]? = some u → off ≤ j → j < off + n * z → u.oneCell' = true := by
  intro j u hj h1 h2
  have hd := Nat.div_add_mod (j - off) z
  have hm := Nat.mod_lt (j - off) hz
  have hp : (j - off) / z < l.length := by
    rw [hn]; exact (Nat.div_lt_iff_lt_mul hz).2 (by omega)
  have hel := hl _ (List.getElem_mem hp)
  obtain ⟨u', h3, h4⟩ := hcl ((j - off) / z) ((j - off) % z) _ _ (List.getElem?_eq_getElem hp) (List.getElem?_eq_getElem (by rw [hel]; exact hm))
  have e : off + ((j - off) / z * z + (j - off) % z) = j := by rw [Nat.mul_comm]; omega
  rw [e, hj] at h3
  cases h3
  exact h4.one
theorem mut_none (h1 : ∀ b, boxAt σ b = none) (h2 : ∀ i, rawAt σ i = none) (x : Mt) (k : Nat) : mutAt σ E x ≠ some k := by
  cases x <;> simp [mutAt, h1, h2]
theorem insert_ok {z b : Nat} {i0 : TypeInfo} {z0 : Value} {nm : String} (L : InsL P ρ z i0 z0 nm) (hbb : i0.bytes = b) : FOk P (ρ.f 22) (insF z b) := by
  intro xs r back h w vs hs bs okc hA hnd hno
  unfold insF at h
  split at h
  case h_2 => simp at h
  rename_i l s i v s2
  split at h
  case isFalse => simp at h
  rename_i hc
  obtain ⟨hsz, rfl, hv0, hi0, hil, hbig⟩ := hc
  simp only [Option.some.injEq, Prod.mk.injEq] at h
  obtain ⟨rfl, rfl⟩ := h
  obtain ⟨k, rfl⟩ : ∃ k : Nat, i = k := ⟨i.toNat, by omega⟩
  simp only [Int.toNat_natCast] at *
  have hkl : k ≤ l.length := by omega
  have hb := L.hb
  have h0 := L.h0
  -- as it begins
  have M0 : Mem w ⟨(· ∈ bs), okc⟩ st0 E00 okc w := mem00
  have hfree : Free w ⟨(· ∈ bs), okc⟩ okc st0 E00 bs := free00 hnd hno
  obtain ⟨E1, ⟨M1, _, _, _⟩, hT, hH⟩ := tellVs_ok hA M0 hfree
  have hst : tellVs st0 [A.c (.r l) (some (s, false)), .c (.s (.int .i64 (k : Int))) none, .c (.r v) (some (s2, false))] = ([.row 0, .c (.s (.int .i64 k)), .row 1], ⟨[], [], [some ⟨s, l, true, .f⟩, some ⟨s2, v, true, .f⟩]⟩) := rfl
  rw [hst] at M1 hT hH
  cases hT with
  | cons x0 hT =>
  cases hT with
  | cons x1 hT =>
  cases hT with
  | cons x2 hT =>
  cases hT
  have y0 := x0
  have y2 := x2
  obtain ⟨r0, e0, rfl⟩ := x0
  obtain ⟨r1, e1, rfl⟩ := x2
  cases x1
  -- what is lent
  have hhs : hs = [.r r0, .r r1] := by
    have hl2 : lentOf true [T.row 0, .c (.s (.int .i64 (k : Int))), .row 1] = [.r 0, .r 1] := rfl
    rw [hl2] at hH
    cases hH with
    | cons a hH =>
    cases hH with
    | cons b hH =>
    cases hH
    rename_i h1 h2
    cases h1 <;> simp only [HRel] at a
    cases h2 <;> simp only [HRel] at b
    rw [e0] at a; rw [e1] at b
    cases a; cases b; rfl
  subst hhs
  have hq0 : rowAt (⟨[], [], [some ⟨s, l, true, .f⟩, some ⟨s2, v, true, .f⟩]⟩ : St) 0 = some ⟨s, l, true, .f⟩ := rfl
  have hq1 : rowAt (⟨[], [], [some ⟨s, l, true, .f⟩, some ⟨s2, v, true, .f⟩]⟩ : St) 1 = some ⟨s2, v, true, .f⟩ := rfl
  have hs0 := (M1.row 0 r0 _ e0 hq0).1
  have hO0 := M1.own e0 hq0 rfl rfl
  have hs1 := (M1.row 1 r1 _ e1 hq1).1
  have hO1 := M1.own e1 hq1 rfl rfl
  simp only at hs0 hs1 hO0 hO1
  have hvp : 0 < v.length := List.length_pos_iff.2 hv0
  obtain ⟨b1, b2, b3, b4, b5⟩ := hO1
  obtain ⟨vb, hk1⟩ : ∃ vb, r1.κ = some vb := by
    cases hκ : r1.κ with
    | none => rw [hκ] at b5; simp only at b5; omega
    | some vb => exact ⟨vb, rfl⟩
  rw [hk1] at b5
  simp only at b5
  obtain ⟨voff, tv, vcs, c1, c2, c3, c4⟩ := b5
  have hmv := M1.mine _ _ (mut_r e1 hq1 rfl hk1)
  have hbod : ({ Body2.n22 ρ with name := nm } : Func).body.isNone = false := rfl
  refine .inl ⟨_, L.f22, L.hnm, hbod, ?_⟩
  show Calls P (ρ.f 22) #[.slice r0.a r0.n r0.cap, .int .i64 k, .slice r1.a r1.n r1.cap] w _
  obtain ⟨a1, a2, a3, a4, a5⟩ := hO0
  have hdead : ∀ (x : Mt) (j : Nat), mutAt (setRow (setRow (⟨[], [], [some ⟨s, l, true, .f⟩, some ⟨s2, v, true, .f⟩]⟩ : St) 0 none) 1 none) E1 x ≠ some j := fun x j => mut_none (fun b => by simp [boxAt, setRow]) (fun i => by rcases i with _ | _ | i <;> simp [rawAt, setRow]) x j
  have M2 := (M1.killR 0).killR 1
  have hnm : r0.n + r1.n ≤ 70368744177664 := by
    rw [← a1, ← b1]; exact Nat.le_trans (Nat.le_mul_of_pos_right _ (by omega)) hbig
  subst hs1
  have h1v := cells_allone (off := voff) h0 b1 b3 c4
  by_cases hlt : k < l.length
  · have hsz' : s = r1.sz := by
      rcases hsz with h | ⟨_, h⟩
      · exact h
      · subst h; simp at hlt
    subst hsz'
    rw [← hs0] at a3 a5
    obtain ⟨b0, hk0⟩ : ∃ b0, r0.κ = some b0 := by
      cases hκ : r0.κ with
      | none => rw [hκ] at a5; simp only at a5; omega
      | some b0 => exact ⟨b0, rfl⟩
    rw [hk0] at a5
    simp only at a5
    obtain ⟨off, tb, cs, d1, d2, d3, d4⟩ := a5
    have hm0 := M1.mine _ _ (mut_r e0 hq0 rfl hk0)
    have hne : vb ≠ b0 := fun e => by
      have := M1.dis _ _ _ (mut_r e0 hq0 rfl hk0) (e ▸ mut_r e1 hq1 rfl hk1)
      cases this
    have h1c := cells_allone (off := off) h0 a1 a3 d4
    have hmul4 : r0.n * r1.sz ≤ r0.cap * r1.sz := Nat.mul_le_mul_right _ a2
    have hmul5 : r1.n * r1.sz ≤ r1.cap * r1.sz := Nat.mul_le_mul_right _ b2
    have hmul2 : k * r1.sz + (r0.n - k) * r1.sz = r0.n * r1.sz := by rw [← Nat.add_mul]; congr 1; omega
    have hmul3 : k * r1.sz + r1.n * r1.sz = (k + r1.n) * r1.sz := by rw [← Nat.add_mul]
    have hmul1 : (k + r1.n) * r1.sz + (r0.n - k) * r1.sz = (r0.n + r1.n) * r1.sz := by rw [← Nat.add_mul]; congr 1; omega
    have hX : ((cs.toList.drop (off + k * r1.sz)).take ((r0.n - k) * r1.sz)).length = (r0.n - k) * r1.sz := by simp; omega
    have hV : ((vcs.toList.drop voff).take (r1.n * r1.sz)).length = r1.n * r1.sz := by simp; omega
    have hwid : ∀ el ∈ l.take k ++ v ++ l.drop k, el.length = r1.sz := by
      intro el hel
      rcases List.mem_append.1 hel with h | h
      · rcases List.mem_append.1 h with h | h
        · exact a3 _ (List.mem_of_mem_take h)
        · exact b3 _ h
      · exact a3 _ (List.mem_of_mem_drop h)
    have hlen : (l.take k ++ v ++ l.drop k).length = r0.n + r1.n := by simp; omega
    rw [d1, c1]
    by_cases hroom : r0.n + r1.n ≤ r0.cap
    · have hmul6 : (r0.n + r1.n) * r1.sz ≤ r0.cap * r1.sz := Nat.mul_le_mul_right _ hroom
      refine (ins_shift L b0 off r0.n r0.cap k vb voff r1.n r1.cap w (by omega) (by omega) b2 hroom hnm hne d2 c2 d3 c3 (fun j u hj p q => h1c j u hj (by omega) q) h1v).mono fun e w' he => ?_
      obtain ⟨rfl, hp⟩ := he
      obtain ⟨M3, kp⟩ := M2.poke hp (fun x => hdead x _) hm0.1 hm0.2.1
      obtain ⟨tf, hf⟩ := hp.here
      have hs1 : (over cs (off + (k + r1.n) * r1.sz) ((cs.toList.drop (off + k * r1.sz)).take ((r0.n - k) * r1.sz))).size = cs.size := over_size (by rw [hX]; omega)
      have hs2 : (over (over cs (off + (k + r1.n) * r1.sz) ((cs.toList.drop (off + k * r1.sz)).take ((r0.n - k) * r1.sz))) (off + k * r1.sz) ((vcs.toList.drop voff).take (r1.n * r1.sz))).size = cs.size := by rw [over_size (by rw [hV, hs1]; omega), hs1]
      have hcells := ins_cells (w := w) (ok := okc) (off := off) (fs := over (over cs (off + (k + r1.n) * r1.sz) ((cs.toList.drop (off + k * r1.sz)).take ((r0.n - k) * r1.sz))) (off + k * r1.sz) ((vcs.toList.drop voff).take (r1.n * r1.sz))) a3 b3 hkl d4 c4
        (fun q hq => by rw [over_get (by rw [hV, hs1]; omega), if_neg (by omega), over_get (by rw [hX]; omega), if_neg (by omega)])
        (fun q hq => by rw [b1] at hq; rw [over_get (by rw [hV, hs1]; omega), if_pos (by rw [hV]; omega), show off + k * r1.sz + q - (off + k * r1.sz) = q by omega, drop_take_get hq])
        (fun q hq => by rw [b1]; rw [a1] at hq; rw [over_get (by rw [hV, hs1]; omega), if_neg (by rw [hV]; omega), over_get (by rw [hX]; omega), if_pos (by rw [hX]; omega), show off + (k + r1.n) * r1.sz + q - (off + (k + r1.n) * r1.sz) = q by omega, drop_take_get hq])
      obtain ⟨M4, hle, _⟩ := M3.newR (r := ⟨some ⟨b0, off, none⟩, r0.n + r1.n, r0.cap, r1.sz, some b0⟩) (q := ⟨r1.sz, l.take k ++ v ++ l.drop k, true, .f⟩) rfl ⟨rfl, by
        rw [if_pos rfl]
        exact ⟨hlen, hroom, hwid, fun h => by simp only at h; omega, off, tf, _, rfl, hf, by rw [hs2]; exact d3, fun i j el c h h' => by
          obtain ⟨u, h5, h6⟩ := hcells i j el c h h'
          exact ⟨u, h5, h6.keep kp⟩⟩⟩ (fun j _ hj => by
          cases hj
          exact ⟨hm0.1, hm0.2.1, fun x => hdead x _⟩)
      exact ends_row M4 kp (j := 2) (q := ⟨r1.sz, l.take k ++ v ++ l.drop k, true, .f⟩) (r := ⟨some ⟨b0, off, none⟩, r0.n + r1.n, r0.cap, r1.sz, some b0⟩) rfl rfl rfl (by
        have := M2.lr
        simp only [setRow, List.length_set, List.length_cons, List.length_nil] at this
        show (E1.ρ ++ [_])[2]? = _
        rw [List.getElem?_append_right (by omega), this]; rfl)
    · obtain ⟨G, ROW, g1, g2, g3, hcalls⟩ := ins_grow L b0 off r0.n r0.cap k vb voff r1.n r1.cap w (by omega) (by omega) b2 a2 (by omega) (by rw [hbb, ← a1, ← b1]; exact hbig) d2 c2 d3 c3 h1c h1v
      have hmul6 : (r0.n + r1.n) * r1.sz ≤ G * r1.sz := Nat.mul_le_mul_right _ g1
      refine hcalls.mono fun e w' he => ?_
      obtain ⟨rfl, hp⟩ := he
      obtain ⟨M3, kp⟩ := (M2.push (.cells ROW (ρ.t 9))).poke hp (fun x => hdead x _) (fun h => by have := h.2; omega) (.inl (Nat.le_refl _))
      have kp2 : Keep w w' okc (lt w okc) := fun j hj hjl => by
        obtain ⟨h1, h2⟩ := keep_push (ok := okc) (.cells ROW (ρ.t 9)) j hj hjl
        obtain ⟨h3, h4⟩ := kp j h2 (by show j < (w.heap.push _).size; simp; omega)
        exact ⟨h3.trans h1, h4⟩
      obtain ⟨tf, hf⟩ := hp.here
      have hs1 : (over ROW (k * r1.sz) ((vcs.toList.drop voff).take (r1.n * r1.sz))).size = ROW.size := over_size (by rw [hV]; omega)
      have hs2 : (over (over ROW (k * r1.sz) ((vcs.toList.drop voff).take (r1.n * r1.sz))) ((k + r1.n) * r1.sz) ((cs.toList.drop (off + k * r1.sz)).take ((r0.n - k) * r1.sz))).size = ROW.size := by rw [over_size (by rw [hX, hs1]; omega), hs1]
      have hcells := ins_cells (w := w) (ok := okc) (off := 0) (fs := over (over ROW (k * r1.sz) ((vcs.toList.drop voff).take (r1.n * r1.sz))) ((k + r1.n) * r1.sz) ((cs.toList.drop (off + k * r1.sz)).take ((r0.n - k) * r1.sz))) a3 b3 hkl d4 c4
        (fun q hq => by
          rw [Nat.zero_add, over_get (by rw [hX, hs1]; omega), if_neg (by omega), over_get (by rw [hV]; omega), if_neg (by omega)]
          have h1 : (ROW.toList.take (k * r1.sz))[q]? = ROW[q]? := by rw [List.getElem?_take, if_pos hq]; simp
          rw [← h1, g3, drop_take_get hq])
        (fun q hq => by rw [b1] at hq; rw [Nat.zero_add, over_get (by rw [hX, hs1]; omega), if_neg (by omega), over_get (by rw [hV]; omega), if_pos (by rw [hV]; omega), show k * r1.sz + q - k * r1.sz = q by omega, drop_take_get hq])
        (fun q hq => by rw [b1]; rw [a1] at hq; rw [Nat.zero_add, over_get (by rw [hX, hs1]; omega), if_pos (by rw [hX]; omega), show (k + r1.n) * r1.sz + q - (k + r1.n) * r1.sz = q by omega, drop_take_get hq])
      obtain ⟨M4, hle, _⟩ := M3.newR (r := ⟨some ⟨w.heap.size, 0, none⟩, r0.n + r1.n, G, r1.sz, some w.heap.size⟩) (q := ⟨r1.sz, l.take k ++ v ++ l.drop k, true, .f⟩) rfl ⟨rfl, by
        rw [if_pos rfl]
        exact ⟨hlen, g1, hwid, fun h => by simp only at h; omega, 0, tf, _, rfl, hf, by rw [hs2, g2, Nat.zero_add]; exact Nat.le_refl _, fun i j el c h h' => by
          obtain ⟨u, h5, h6⟩ := hcells i j el c h h'
          exact ⟨u, h5, h6.keep kp2⟩⟩⟩ (fun j _ hj => by
          cases hj
          exact ⟨fun h => by have := h.2; omega, .inl (Nat.le_refl _), fun x => hdead x _⟩)
      exact ends_row M4 kp2 (j := 2) (q := ⟨r1.sz, l.take k ++ v ++ l.drop k, true, .f⟩) (r := ⟨some ⟨w.heap.size, 0, none⟩, r0.n + r1.n, G, r1.sz, some w.heap.size⟩) rfl rfl rfl (by
        have := M2.lr
        simp only [setRow, List.length_set, List.length_cons, List.length_nil] at this
        show (E1.ρ ++ [_])[2]? = _
        rw [List.getElem?_append_right (by omega), this]; rfl)
  · have hkn : k = l.length := by omega
    subst hkn
    have hel : elOf P (ρ.t 24) = some (ρ.t 9) := by simp [elOf, L.t24]
    have hd0 : deepT (⟨[], [], [some ⟨s, l, true, .f⟩, some ⟨r1.sz, v, true, .f⟩]⟩ : St) (.row 0) = false := rfl
    have hd1 : deepT (⟨[], [], [some ⟨s, l, true, .f⟩, some ⟨r1.sz, v, true, .f⟩]⟩ : St) (.row 1) = false := rfl
    have ha : opAppend P (⟨[], [], [some ⟨s, l, true, .f⟩, some ⟨r1.sz, v, true, .f⟩]⟩ : St) (ρ.t 24) (.row 0) (.row 1) = some (newRow (setRow (⟨[], [], [some ⟨s, l, true, .f⟩, some ⟨r1.sz, v, true, .f⟩]⟩ : St) 0 none) ⟨r1.sz, l ++ v, true, .f⟩) := by
      have hm : meltX (meltS (⟨[], [], [some ⟨s, l, true, .f⟩, some ⟨r1.sz, v, true, .f⟩]⟩ : St) (.row 0)) (.row 1) = ⟨[], [], [some ⟨s, l, true, .f⟩, some ⟨r1.sz, v, true, .f⟩]⟩ := rfl
      unfold opAppend
      rw [hd1, Bool.false_and, if_neg (by simp)]
      simp only
      rw [hm]
      unfold opAppend0
      simp only [hel, L.i9, L.hz0, Option.bind_some, elems, hq0, hq1, Option.map_some]
      rw [if_pos]
      · rw [if_pos ⟨trivial, by rw [L.hz]; rcases hsz with h | ⟨h, _⟩ <;> omega⟩, L.hz]
      · refine ⟨by rw [L.hz]; exact L.hzc, ?_, ?_, by rw [L.hz]; omega, hb, by rw [hbb]; exact hbig⟩
        · rw [L.hz]; simp only [wide, List.all_eq_true, beq_iff_eq]; exact b3
        · rw [L.hz]; simp only [wide, List.all_eq_true, beq_iff_eq]; intro x hx
          rcases hsz with h | ⟨_, h⟩
          · rw [a3 x hx, ← hs0, h]
          · rw [h] at hx; cases hx
    obtain ⟨v', w', hr, E', ok', M', hE', hk', ht⟩ := ok_append (ty := ρ.t 24) M1 L.t24 y0.t y2.t ha
    obtain ⟨r', er', rfl⟩ := ht
    have hnil : r0.a = none → r0.cap = 0 := fun h => by
      cases hκ : r0.κ with
      | none => rw [hκ] at a5; exact a5
      | some x =>
        rw [hκ] at a5
        obtain ⟨off, t, cs, h1, _⟩ := a5
        rw [h] at h1; cases h1
    have hc := ins_end L r0.a r1.a r0.n r0.cap r1.n r1.cap w w' _ (by omega) a2 hnil hr
    rw [a1]
    refine hc.mono fun e w2 he => ?_
    obtain ⟨rfl, rfl⟩ := he
    have := ends_row M' hk' (j := 2) (q := ⟨r1.sz, l ++ v, true, .f⟩) (r := r') (r0 := r0) (r1 := r1) rfl rfl rfl er'
    rw [← a1, List.take_length, List.drop_length, List.append_nil]
    exact this
theorem insF_of {α : Type} {z b : Nat} {en : α → List C} {l v r : List α} {i : Int} (h : Nt.ins b l i v = some r) : insF z b [.c (.r (l.map en)) (some (z, false)), .c (.s (.int .i64 i)) none, .c (.r (v.map en)) (some (z, false))] = some (.c (.r (r.map en)) (some (z, false)), [none, none]) := by
  unfold Nt.ins at h
  split at h
  · rename_i hc
    obtain ⟨h1, h2, h3, h4⟩ := hc
    obtain rfl := Option.some.inj h
    simp only [insF]
    rw [if_pos ⟨.inl trivial, trivial, fun e => by simp only [List.map_eq_nil_iff] at e; subst e; simp at h3, h1, by simpa using h2, by simpa using h4⟩]
    simp [List.map_take, List.map_drop]
  · cases h
end Go.SX
