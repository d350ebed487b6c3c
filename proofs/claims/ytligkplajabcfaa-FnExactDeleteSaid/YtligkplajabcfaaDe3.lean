import Derived.Test.YtligkplajabcfaaDe2
set_option linter.unusedVariables false
set_option linter.unusedSimpArgs false
set_option linter.unusedSectionVars false
set_option linter.unusedVariables false
set_option linter.unusedSimpArgs false
namespace Go.SX
open Go.Shelf Go.Proofs Go.RowKit Go.Lib
variable {P : Program} {ρ : Ren} {w w' : World} {ok ok' okc : Nat → Prop} {E : Env} {σ : St}
/-! slices.Delete, at a row all below which is ours -/
theorem ends_rowX {bs : List Nat} (M : Mem w ⟨(· ∈ bs), okc⟩ σ E ok' w') (hk : Keep w w' okc ok') {j : Nat} {q : Row} {r r0 : RV} (hq : rowAt σ j = some q) (ho : q.ow = true) (hE : E.ρ[j]? = some r) :
    Ends w [.r r0] bs okc (.c (.r q.l) (some (q.sz, q.dp.q))) [none] (.slice r.a r.n r.cap) w' := by
  have hz := (M.row j r q hE hq).1
  obtain ⟨b0, hX, hn, hb⟩ := M.ownX hE hq ho
  refine ⟨ok', b0, [], M.fr, hk, fun k h => ?_, ⟨[.r r], ?_⟩, .gone .nil, by simpa using hn, fun k hk => ?_⟩
  · rcases M.okin k h with h | h | h
    · exact .inl h
    · exact .inr (.inr h)
    · exact .inr (.inl h)
  · have := ArgsRel.own (w := w') (ok := ok') hX .nil
    rw [List.append_nil] at this
    rw [hz]; exact this
  · rw [List.append_nil] at hk
    obtain ⟨y, h1, _⟩ := blks_mut hE (row_raw hq) (hb k hk)
    exact ⟨(M.mine _ _ h1).1, (M.mine _ _ h1).2.1.symm⟩
def delD (z : Nat) : List A → Option (A × List (Option Cs))
  | [.c (.r l) (some (s, true)), .c (.s (.int .i64 i)) none, .c (.s (.int .i64 j)) none] => if (s = z ∨ l = []) ∧ 0 ≤ i ∧ i ≤ j ∧ j ≤ l.length ∧ l.length ≤ 70368744177664 then some (.c (.r (l.take i.toNat ++ l.drop j.toNat)) (some (s, true)), [none]) else none
  | _ => none
/-- a row whose cells have moved: those of the p-th element are where those of the φ p-th were -/
theorem deep_move {r r' : RV} {l l' : List (List C)} {δ : List Nat} {b0 off : Nat} {tf : TypeId} {fs cs : Array Value} {tb : TypeId} (h : DeepAt w r l δ none) (hκ : r.κ = some b0) (ha : r.a = some ⟨b0, off, none⟩) (hw : w.heap[b0]? = some (.cells cs tb (0, 0))) (φ : Nat → Nat) (hφ : ∀ p, p < r'.n → φ p < r.n) (hinj : ∀ p q, p < r'.n → q < r'.n → φ p = φ q → p = q)
    (hl : ∀ p, p < r'.n → l'[p]? = l[φ p]?) (hn : l'.length = r'.n) (hc : r'.n ≤ r'.cap) (hz : r'.sz = r.sz) (h0 : 0 < r.sz) (hκ' : r'.κ = some b0) (ha' : r'.a = some ⟨b0, off, none⟩) (hcap : r'.cap = r.cap) (hf : w'.heap[b0]? = some (.cells fs tf (0, 0))) (hs : fs.size = cs.size)
    (hcell : ∀ p q, p < r'.n → q < r.sz → fs[off + (p * r.sz + q)]? = cs[off + (φ p * r.sz + q)]?) (hold : ∀ b, b ∈ δ → w'.heap[b]? = w.heap[b]?) :
    ∃ δ', DeepAt w' r' l' δ' none ∧ ∀ b ∈ δ', b ∈ δ := by
  obtain ⟨off', t, cs', u, f, a1, a2, a3, a4, a5, a6, a7, a8, a9, a10, a11, a12⟩ := h
  obtain ⟨b1, b2, b3⟩ := a6 b0 hκ
  rw [ha] at b1; cases b1
  rw [hw] at b2; cases b2
  obtain ⟨δ', d1, d2⟩ := gather r'.n r'.sz (fun _ _ => True) fun p q => f (φ p) q
  have hin : ∀ p q, p < r'.n → q < r'.sz → ∀ b ∈ f (φ p) q, b ∈ δ := fun p q hp hq b hb => (a9 b).2 ⟨φ p, q, hφ p hp, by rw [← hz]; exact hq, by simp, hb⟩
  refine ⟨δ', ⟨off, tf, fs, fun p q => u (φ p) q, fun p q => f (φ p) q, hn, hc, fun el hel => ?_, fun h => by rw [hz] at h; omega, fun h => by rw [hκ'] at h; simp at h, fun k hk => ?_, fun p q hp hq => ?_, fun p q el c hp hq _ => ?_, fun b => by rw [d2]; simp, fun p q hp hq _ b hb => ?_, fun p q p' q' h1 h2 h3 h4 _ _ b hb hb' => ?_, d1⟩, fun b hb => ?_⟩
  · obtain ⟨p, hp, rfl⟩ := List.mem_iff_getElem.1 hel
    have := hl p (by omega)
    rw [List.getElem?_eq_getElem hp] at this
    rw [hz]; exact a3 _ (List.mem_of_getElem? this.symm)
  · rw [hκ'] at hk; cases hk
    exact ⟨ha', hf, by rw [hs, hz, hcap]; exact b3⟩
  · rw [hz] at hq ⊢
    rw [hcell p q hp hq]; exact a7 _ _ (hφ p hp) hq
  · have hpl : p < r'.n := by rw [← hn]; exact (List.getElem?_eq_some_iff.1 hp).1
    rw [hl p hpl] at hp
    have hin2 := cell_in a1 a3 hp hq
    exact (a8 _ _ el c hp hq (by simp)).keep fun b hb => hold b ((a9 b).2 ⟨φ p, q, hin2.1, hin2.2, by simp, hb⟩)
  · rw [hκ', ← hκ]; exact a10 _ _ (hφ p hp) (by rw [← hz]; exact hq) (by simp) b hb
  · obtain ⟨e1, e2⟩ := a11 _ _ _ _ (hφ p h1) (by rw [← hz]; exact h2) (hφ p' h3) (by rw [← hz]; exact h4) (by simp) (by simp) b hb hb'
    exact ⟨hinj _ _ h1 h3 e1, e2⟩
  · obtain ⟨p, q, h1, h2, _, h3⟩ := (d2 b).1 hb
    exact hin p q h1 h2 b h3
/-- a deep row's cells, each of one -/
theorem deep_one {r : RV} {l : List (List C)} {δ : List Nat} {b0 off : Nat} {cs : Array Value} {tb : TypeId} (h : DeepAt w r l δ none) (hκ : r.κ = some b0) (ha : r.a = some ⟨b0, off, none⟩) (hw : w.heap[b0]? = some (.cells cs tb (0, 0))) (h0 : 0 < r.sz) : ∀ k u, cs[k]? = some u → off ≤ k → k < off + r.n * r.sz → u.oneCell' = true := by
  obtain ⟨off', t, cs', u, f, a1, a2, a3, a4, a5, a6, a7, a8, a9, a10, a11, a12⟩ := h
  obtain ⟨b1, b2, b3⟩ := a6 b0 hκ
  rw [ha] at b1; cases b1
  rw [hw] at b2; cases b2
  intro k v hv hk1 hk2
  have hp : (k - off) / r.sz < r.n := Nat.div_lt_of_lt_mul (by rw [Nat.mul_comm]; omega)
  have hq : (k - off) % r.sz < r.sz := Nat.mod_lt _ h0
  have h1 := a7 _ _ hp hq
  rw [show off + ((k - off) / r.sz * r.sz + (k - off) % r.sz) = k by rw [Nat.mul_comm, Nat.div_add_mod]; omega, hv] at h1
  cases h1
  have hel : l[(k - off) / r.sz]? = some (l[(k - off) / r.sz]'(by omega)) := List.getElem?_eq_getElem _
  have hc : (l[(k - off) / r.sz]'(by omega))[(k - off) % r.sz]? = some ((l[(k - off) / r.sz]'(by omega))[(k - off) % r.sz]'(by rw [a3 _ (List.mem_of_getElem? hel)]; exact hq)) := List.getElem?_eq_getElem _
  exact (a8 _ _ _ _ hel hc (by simp)).one
theorem deleteD_ok {z : Nat} {i0 : TypeInfo} {z0 : Value} {nm : String} (L : DelL P ρ z i0 z0 nm) : FOk P (ρ.f 24) (delD z) := by
  intro xs r back h w vs hs bs okc hA hnd hno
  unfold delD at h
  split at h
  case h_2 => simp at h
  rename_i l s i j
  split at h
  case isFalse => simp at h
  rename_i hc
  obtain ⟨hsz, hi0, hij, hjl, hbig⟩ := hc
  simp only [Option.some.injEq, Prod.mk.injEq] at h
  obtain ⟨rfl, rfl⟩ := h
  obtain ⟨i, rfl⟩ : ∃ k : Nat, i = k := ⟨i.toNat, by omega⟩
  obtain ⟨j, rfl⟩ : ∃ k : Nat, j = k := ⟨j.toNat, by omega⟩
  simp only [Int.toNat_natCast] at *
  have h0 := L.h0
  have M0 : Mem w ⟨(· ∈ bs), okc⟩ st0 E00 okc w := mem00
  have hfree : Free w ⟨(· ∈ bs), okc⟩ okc st0 E00 bs := free00 hnd hno
  obtain ⟨E1, ⟨M1, _, _, _⟩, hT, hH⟩ := tellVs_ok hA M0 hfree
  have hst : tellVs st0 [A.c (.r l) (some (s, true)), .c (.s (.int .i64 (i : Int))) none, .c (.s (.int .i64 (j : Int))) none] = ([.row 0, .c (.s (.int .i64 i)), .c (.s (.int .i64 j))], ⟨[], [], [some ⟨s, l, true, .d⟩]⟩) := rfl
  rw [hst] at M1 hT hH
  cases hT with
  | cons x0 hT =>
  cases hT with
  | cons x1 hT =>
  cases hT with
  | cons x2 hT =>
  cases hT
  obtain ⟨r0, e0, rfl⟩ := x0
  cases x1
  cases x2
  have hhs : hs = [.r r0] := by
    have hl2 : lentOf true [T.row 0, .c (.s (.int .i64 (i : Int))), .c (.s (.int .i64 (j : Int)))] = [.r 0] := rfl
    rw [hl2] at hH
    cases hH with
    | cons a hH =>
    cases hH
    rename_i h1
    cases h1 <;> simp only [HRel] at a
    rw [e0] at a
    cases a; rfl
  subst hhs
  have hq0 : rowAt (⟨[], [], [some ⟨s, l, true, .d⟩]⟩ : St) 0 = some ⟨s, l, true, .d⟩ := rfl
  have hR := M1.row 0 r0 _ e0 hq0
  have hs0 : s = r0.sz := hR.1
  have hD : DeepAt w r0 l (E1.δ 0) none := hR.2
  have hbod : ({ Body2.n24 ρ with name := nm } : Func).body.isNone = false := rfl
  refine .inl ⟨_, L.f24, L.hnm, hbod, ?_⟩
  show Calls P (ρ.f 24) #[.slice r0.a r0.n r0.cap, .int .i64 i, .int .i64 j] w _
  have hlen := deep_len hD
  obtain ⟨a1, a2, a3, a4⟩ := hlen
  by_cases heq : i = j
  · subst heq
    have hnil : r0.a = none → r0.cap = 0 := fun h => by
      by_cases hc : r0.cap = 0
      · exact hc
      · obtain ⟨ad, e⟩ := a4 hc; rw [h] at e; cases e
    refine (del_none L r0.a r0.n r0.cap i w (by omega) a2 (by omega) hnil).mono fun e w' he => ?_
    obtain ⟨rfl, rfl⟩ := he
    rw [List.take_append_drop]
    exact ends_rowX M1 keep_refl (j := 0) (q := ⟨s, l, true, .d⟩) (r := r0) (r0 := r0) hq0 rfl e0
  · have hlt : i < j := by omega
    have hsz' : s = z := by
      rcases hsz with h | h
      · exact h
      · subst h; simp at hjl; omega
    subst hsz'
    obtain ⟨b0, hk0⟩ : ∃ b0, r0.κ = some b0 := by
      obtain ⟨_, _, _, _, _, _, _, _, _, h5, _⟩ := hD
      cases hκ : r0.κ with
      | none => have := h5 hκ; omega
      | some b0 => exact ⟨b0, rfl⟩
    obtain ⟨off, tb, cs, d1, d2, d3⟩ : ∃ off tb cs, r0.a = some ⟨b0, off, none⟩ ∧ w.heap[b0]? = some (.cells cs tb (0, 0)) ∧ off + r0.cap * r0.sz ≤ cs.size := by
      obtain ⟨off, tb, cs, _, _, _, _, _, _, _, h6, _⟩ := hD
      exact ⟨off, tb, cs, h6 b0 hk0⟩
    have hm0 := M1.mine _ _ (mut_r e0 hq0 rfl hk0)
    have h1c := deep_one hD hk0 d1 d2 (by omega)
    rw [← hs0] at d3 h1c
    have hdead : ∀ (x : Mt) (k : Nat), mutAt (setRow (⟨[], [], [some ⟨s, l, true, .d⟩]⟩ : St) 0 none) E1 x ≠ some k := fun x k => mut_none (fun b => by simp [boxAt, setRow]) (fun i => by rcases i with _ | i <;> simp [rawAt, setRow]) x k
    have M2 := M1.killR 0
    have hjn : j ≤ r0.n := by omega
    have hmul1 : j * s + (r0.n - j) * s = r0.n * s := by rw [← Nat.add_mul]; congr 1; omega
    have hmul2 : r0.n * s ≤ r0.cap * s := Nat.mul_le_mul_right _ a2
    have hmul3 : i * s + (r0.n - j) * s = (i + (r0.n - j)) * s := by rw [← Nat.add_mul]
    have hmul4 : (i + (r0.n - j)) * s + (j - i) * s = r0.n * s := by rw [← Nat.add_mul]; congr 1; omega
    have hX : ((cs.toList.drop (off + j * s)).take ((r0.n - j) * s)).length = (r0.n - j) * s := by simp; omega
    have hZ : (Builtin.zeroCells z0.cells (j - i)).toList.length = (j - i) * s := by simp [Builtin.zeroCells, L.hzc]
    rw [d1]
    refine (del_walk L b0 off r0.n r0.cap i j w hlt hjn a2 (by omega) d2 d3 h1c).mono fun e w' he => ?_
    obtain ⟨rfl, hp⟩ := he
    obtain ⟨M3, kp⟩ := M2.poke hp (fun x => hdead x _) hm0.1 hm0.2.1
    obtain ⟨tf, hf⟩ := hp.here
    have hs1 : (over cs (off + i * s) ((cs.toList.drop (off + j * s)).take ((r0.n - j) * s))).size = cs.size := over_size (by rw [hX]; omega)
    have hs2 : (over (over cs (off + i * s) ((cs.toList.drop (off + j * s)).take ((r0.n - j) * s))) (off + (i + (r0.n - j)) * s) (Builtin.zeroCells z0.cells (j - i)).toList).size = cs.size := by rw [over_size (by rw [hZ, hs1]; omega), hs1]
    have hA : ∀ q, q < i * s → (over (over cs (off + i * s) ((cs.toList.drop (off + j * s)).take ((r0.n - j) * s))) (off + (i + (r0.n - j)) * s) (Builtin.zeroCells z0.cells (j - i)).toList)[off + q]? = cs[off + q]? :=
      fun q hq => by rw [over_get (by rw [hZ, hs1]; omega), if_neg (by omega), over_get (by rw [hX]; omega), if_neg (by omega)]
    have hB : ∀ q, q < (r0.n - j) * s → (over (over cs (off + i * s) ((cs.toList.drop (off + j * s)).take ((r0.n - j) * s))) (off + (i + (r0.n - j)) * s) (Builtin.zeroCells z0.cells (j - i)).toList)[off + i * s + q]? = cs[off + j * s + q]? :=
      fun q hq => by rw [over_get (by rw [hZ, hs1]; omega), if_neg (by omega), over_get (by rw [hX]; omega), if_pos (by rw [hX]; omega), show off + i * s + q - (off + i * s) = q by omega, drop_take_get hq]
    have hκδ : b0 ∉ E1.δ 0 := fun h => (List.nodup_append.1 (deep_nodup hD)).2.2 b0 (by simp [hk0]) b0 h rfl
    have lt_of : ∀ a b q : Nat, a < b → q < s → a * s + q < b * s := fun a b q h hz => by
      have : (a + 1) * s ≤ b * s := Nat.mul_le_mul_right _ h
      rw [Nat.add_mul] at this; omega
    have hti : (l.take i).length = i := by simp; omega
    obtain ⟨δ', hδ1, hδ2⟩ := deep_move (w' := w') (r' := ⟨some ⟨b0, off, none⟩, r0.n - (j - i), r0.cap, s, some b0⟩) (l' := l.take i ++ l.drop j) (tf := tf) hD hk0 d1 d2 (fun p => if p < i then p else p + (j - i)) (fun p hp => by have hp : p < r0.n - (j - i) := hp; show (if p < i then p else p + (j - i)) < r0.n; split <;> omega) (fun p q hp hq e => by have e : (if p < i then p else p + (j - i)) = (if q < i then q else q + (j - i)) := e; have hp : p < r0.n - (j - i) := hp; have hq : q < r0.n - (j - i) := hq; split at e <;> split at e <;> omega)
      (fun p hp => by
        have hp : p < r0.n - (j - i) := hp
        show _ = l[if p < i then p else p + (j - i)]?
        by_cases h1 : p < i
        · rw [if_pos h1, List.getElem?_append_left (by omega), List.getElem?_take, if_pos h1]
        · rw [if_neg h1, List.getElem?_append_right (by omega), hti, List.getElem?_drop]; congr 1; omega)
      (by simp; omega) (by show r0.n - (j - i) ≤ r0.cap; omega) hs0 (by omega) rfl rfl rfl hf hs2
      (fun p q hp hq => by
        have hp : p < r0.n - (j - i) := hp
        show _ = cs[off + ((if p < i then p else p + (j - i)) * r0.sz + q)]?
        rw [← hs0] at hq ⊢
        by_cases h1 : p < i
        · rw [if_pos h1]; exact hA _ (lt_of p i q h1 hq)
        · rw [if_neg h1]
          have e : p * s = i * s + (p - i) * s := by rw [← Nat.add_mul]; congr 1; omega
          have e2 : (p + (j - i)) * s = j * s + (p - i) * s := by rw [← Nat.add_mul]; congr 1; omega
          rw [show off + (p * s + q) = off + i * s + ((p - i) * s + q) by omega, hB _ (lt_of (p - i) (r0.n - j) q (by omega) hq), show off + j * s + ((p - i) * s + q) = off + ((p + (j - i)) * s + q) by omega])
      (fun b hb => hp.other b fun e => hκδ (e ▸ hb))
    have hδm : ∀ b ∈ E1.δ 0, ¬ okc b ∧ (w.heap.size ≤ b ∨ b ∈ bs) ∧ b < w.heap.size := fun b hb => by
      obtain ⟨m, hm⟩ := mut_mem (E := E1) (row_raw hq0) rfl (by simp) hb
      exact M1.mine _ _ hm
    obtain ⟨M4, hle, _⟩ := M3.newRD (r := ⟨some ⟨b0, off, none⟩, r0.n - (j - i), r0.cap, s, some b0⟩) (q := ⟨s, l.take i ++ l.drop j, true, .d⟩) (D := δ') ⟨rfl, hδ1⟩ (fun k _ hk => by
        cases hk
        exact ⟨hm0.1, hm0.2.1, fun x => hdead x _⟩) fun _ _ => ⟨by obtain ⟨_, _, _, _, _, _, _, _, _, _, _, _, _, _, _, _, h⟩ := hδ1; exact h, fun k hk => ⟨fun e => by cases e; exact hκδ (hδ2 _ hk), (hδm k (hδ2 k hk)).1, (hδm k (hδ2 k hk)).2.1, by rw [hp.size]; exact (hδm k (hδ2 k hk)).2.2, fun x => hdead x _⟩⟩
    exact ends_rowX M4 kp (j := 1) (q := ⟨s, l.take i ++ l.drop j, true, .d⟩) (r := ⟨some ⟨b0, off, none⟩, r0.n - (j - i), r0.cap, s, some b0⟩) rfl rfl (by
      have := M2.lr
      simp only [setRow, List.length_set, List.length_cons, List.length_nil] at this
      show (E1.ρ ++ [_])[1]? = _
      rw [List.getElem?_append_right (by omega), this]; rfl)
theorem delD_of {α : Type} {z : Nat} {en : α → List C} {l r : List α} {i j : Int} (h : Nt.del l i j = some r) : delD z [.c (.r (l.map en)) (some (z, true)), .c (.s (.int .i64 i)) none, .c (.s (.int .i64 j)) none] = some (.c (.r (r.map en)) (some (z, true)), [none]) := by
  unfold Nt.del at h
  split at h
  · rename_i hc
    obtain ⟨h1, h2, h3, h4⟩ := hc
    obtain rfl := Option.some.inj h
    simp only [delD]
    rw [if_pos ⟨.inl trivial, h1, h2, by simpa using h3, by simpa using h4⟩]
    simp [List.map_take, List.map_drop]
  · cases h
end Go.SX
