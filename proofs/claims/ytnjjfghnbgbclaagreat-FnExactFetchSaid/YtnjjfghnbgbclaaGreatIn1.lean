import Derived.Shelf.Spec.SlicesInsertGrow
import Derived.Test.YtnjjfghnbgbclaaGreatSx33
set_option linter.unusedVariables false
set_option linter.unusedSimpArgs false
set_option linter.unusedSectionVars false
set_option linter.unusedVariables false
set_option linter.unusedSimpArgs false
namespace Go.SX
open Go.Shelf Go.Proofs Go.RowKit Go.Lib
variable {P : Program} {ρ : Ren}
/-! slices.Insert, at elements of z cells -/
structure InsL (P : Program) (ρ : Ren) (z : Nat) (i0 : TypeInfo) (z0 : Value) (nm : String) : Prop where
  mixed : P.follows .mixedOrders = true
  f22 : P.funcs[ρ.f 22]? = some { Body2.n22 ρ with name := nm }
  hnm : (nm == "runtime.NumGoroutine") = false
  hov : ∀ (x y : Value) (w w' : World) (r : Bool), (Extern.SlicesOverlaps.overlaps #[ρ.t 24, ρ.t 24] #[ρ.t 4] #[x, y]).run P w = .ok (.bool r) w' → (callFunc (ρ.f 29) #[x, y]).run P w = .ok (.value (.bool r)) w'
  t3 : P.underlying (ρ.t 3) = some (TypeDesc.int IntKind.i64)
  t4 : P.underlying (ρ.t 4) = some TypeDesc.bool
  t24 : P.underlying (ρ.t 24) = some (TypeDesc.slice (ρ.t 9))
  i9 : P.info? (ρ.t 9) = some i0
  hz : i0.size = z
  h0 : 0 < z
  hz0 : i0.zero = some z0
  hzc : z0.cells.size = z
  hb : 0 < i0.bytes
theorem run_copy_z {w : World} {t e : TypeId} {z : Nat} (ht : P.underlying t = some (.slice e)) (hz : ∀ w, (Go.sizeOf e).run P w = .ok z w) {b o n : Nat} {a : Addr} {m : Nat} {cs vs : Array Value} {tb ta : TypeId} {k : Nat}
    (hh : w.heap[b]? = some (.cells cs tb (0, 0))) (ha : w.heap[a.block]? = some (.cells vs ta (0, 0))) (hs : a.spot = none) (hk : k = min m n) (h1 : o + k * z ≤ cs.size) (h2 : a.off + k * z ≤ vs.size) (h3 : ∀ j u, vs[j]? = some u → a.off ≤ j → j < a.off + k * z → u.oneCell' = true) :
    ∃ w', (∀ ty c d, (Builtin.copy_ #[t, t] ty #[.slice (some ⟨b, o, none⟩) n c, .slice (some a) m d]).run P w = .ok (goInt k) w') ∧ w'.heap[b]? = some (.cells (over cs o ((vs.toList.drop a.off).take (k * z))) tb (0, 0)) ∧ Poked w b (over cs o ((vs.toList.drop a.off).take (k * z))) w' := by
  obtain ⟨ab, ao, sp⟩ := a
  simp only at hs ha h2 h3
  subst hs
  have hlen : ((vs.toList.drop ao).take (k * z)).length = k * z := by simp; omega
  have hload : (loadCells ⟨ab, ao, none⟩ (k * z)).run P w = .ok ((vs.toList.drop ao).take (k * z)).toArray w := by
    have := run_loadCells (P := P) (w := w) ⟨ab, ao, none⟩ ((vs.toList.drop ao).take (k * z)) (fun j u hj => by
      rw [add_none, cell_block ha]
      rw [List.getElem?_take] at hj
      split at hj
      · rw [List.getElem?_drop] at hj; simpa using hj
      · cases hj)
    rw [hlen] at this; exact this
  obtain ⟨w', r1, r2, r3⟩ := run_storeCells (P := P) ((vs.toList.drop ao).take (k * z)) o 0 cs w hh (by rw [hlen]; omega) (fun u hu => by
    obtain ⟨j, hj, rfl⟩ := List.mem_iff_getElem.1 hu
    rw [hlen] at hj
    refine h3 (ao + j) _ ?_ (by omega) (by omega)
    rw [List.getElem_take, List.getElem_drop]; simp)
  rw [Nat.add_zero] at r2 r3
  refine ⟨w', fun ty c d => ?_, r3, r2⟩
  have hk2 : (if m ≤ n then m else n) = k := by rw [hk, Nat.min_def]
  simp [Builtin.copy_, run_underlying ht, hz, Builtin.lenOf, Builtin.firstCells, Nat.min_def]
  rw [hk2, hload]
  simp [r1]
set_option maxHeartbeats 4000000 in
set_option maxRecDepth 100000 in
/-- there is room -/
theorem ins_shift {z : Nat} {i0 : TypeInfo} {z0 : Value} {nm : String} (L : InsL P ρ z i0 z0 nm) (b off n c i vb voff m vc : Nat) (w : World) {cs vs : Array Value} {tb tv : TypeId} (hi : i < n) (hm : 0 < m) (hmv : m ≤ vc) (hroom : n + m ≤ c) (hnm : n + m ≤ 70368744177664) (hvb : vb ≠ b)
    (hb : w.heap[b]? = some (.cells cs tb (0, 0))) (hv : w.heap[vb]? = some (.cells vs tv (0, 0))) (hbs : off + c * z ≤ cs.size) (hvs : voff + vc * z ≤ vs.size)
    (h1c : ∀ j u, cs[j]? = some u → off + i * z ≤ j → j < off + n * z → u.oneCell' = true) (h1v : ∀ j u, vs[j]? = some u → voff ≤ j → j < voff + m * z → u.oneCell' = true) :
    Calls P (ρ.f 22) #[.slice (some ⟨b, off, none⟩) n c, .int .i64 i, .slice (some ⟨vb, voff, none⟩) m vc] w fun e w' =>
      e = .returned (.slice (some ⟨b, off, none⟩) (n + m) c) ∧ Poked w b (over (over cs (off + (i + m) * z) ((cs.toList.drop (off + i * z)).take ((n - i) * z))) (off + i * z) ((vs.toList.drop voff).take (m * z))) w' := by
  have t3 := L.t3; have t4 := L.t4; have t24 := L.t24
  have u3 := run_underlying L.t3; have u4 := run_underlying L.t4; have u24 := run_underlying L.t24
  have mixed := L.mixed
  have z9 : ∀ w, (Go.sizeOf (ρ.t 9)).run P w = .ok z w := fun w => by simp [Go.sizeOf, typeInfo, L.i9, L.hz]
  have hz1 : ¬ ((m : Int) = 0) := by omega
  have hz2 : ¬ ((i : Int) = (n : Int)) := by omega
  have hw1 : IntKind.i64.wrap ((i : Int) + (m : Int)) = (i : Int) + (m : Int) := by rw [IntKind.wrap_i64]; omega
  have hb1 : (0 : Int) ≤ (i : Int) + (m : Int) := by omega
  have hin : i ≤ n := by omega
  have htn : ((i : Int) + (m : Int)).toNat = i + m := by omega
  have hb2 : ¬ (c = i + m) := by omega
  have hb3 : (i : Int) ≤ (n : Int) + (m : Int) := by omega
  have hb4 : ¬ (c = i) := by omega
  have hmul1 : (i + m) * z + (n - i) * z ≤ c * z := by rw [← Nat.add_mul]; exact Nat.mul_le_mul_right _ (by omega)
  have hmul2 : i * z + (n - i) * z = n * z := by rw [← Nat.add_mul]; congr 1; omega
  have hmul3 : i * z + m * z ≤ c * z := by rw [← Nat.add_mul]; exact Nat.mul_le_mul_right _ (by omega)
  have hmul4 : n * z ≤ c * z := Nat.mul_le_mul_right _ (by omega)
  have hmul5 : m * z ≤ vc * z := Nat.mul_le_mul_right _ hmv
  have hov : ∀ lb cb, (callFunc (ρ.f 29) #[.slice (some ⟨vb, voff, none⟩) m vc, .slice (some ⟨b, off + (i + m) * z, none⟩) lb cb]).run P w = .ok (.value (.bool false)) w := fun lb cb =>
    L.hov _ _ _ _ _ (Lib.run_overlaps_apart w (ρ.t 24) (ρ.t 4) (ρ.t 9) L.t24 z z9 ⟨vb, voff, none⟩ ⟨b, off + (i + m) * z, none⟩ m vc lb cb hvb tv tb vs.size cs.size (by simp [World.shape?, hv]) (by simp [World.shape?, hb]) (by have := L.h0; have : 0 < c * z := Nat.mul_pos (by omega) this; omega) (frozen_block hv) (frozen_block hv))
  obtain ⟨W1, e1, e2, e3⟩ := run_copy_z (P := P) (w := w.drew) (b := b) (o := off + (i + m) * z) (n := n + m - (i + m)) (a := ⟨b, off + i * z, none⟩) (m := n + m - i) (k := n - i) L.t24 z9 hb hb rfl (by rw [Nat.min_def]; split <;> omega) (by omega) (by show off + i * z + (n - i) * z ≤ cs.size; omega) (fun j u hj h1 h2 => h1c j u hj h1 (by simp only at h2; omega))
  have hvW : W1.heap[vb]? = some (.cells vs tv (0, 0)) := by rw [e3.other vb hvb]; exact hv
  have hsz : (over cs (off + (i + m) * z) ((cs.toList.drop (off + i * z)).take ((n - i) * z))).size = cs.size := by
    simp [over]; omega
  obtain ⟨W2, f1, f2, f3⟩ := run_copy_z (P := P) (w := W1) (b := b) (o := off + i * z) (n := n + m - i) (a := ⟨vb, voff, none⟩) (m := m) (k := m) L.t24 z9 e2 hvW rfl (by rw [Nat.min_def]; split <;> omega) (by rw [hsz]; omega) (by show voff + m * z ≤ vs.size; omega) (fun j u hj h1 h2 => h1v j u hj h1 h2)
  go_enter L.f22, Body2.n22_ntmps ρ
  go_wp2_with (simp only [hov])
  go_region_law_o (refine step_copy_runI rfl _ _ (ρ.t 24) (ρ.t 24) rfl _ _ (by simp [Act.eval, Act.put]) (by simp [Act.eval, Act.put]) (e1 _ _ _) ?_)
  go_wp2_with (at_builtin; refine wpList_copy_runI _ rfl _ _ (ρ.t 24) (ρ.t 24) rfl _ _ rfl rfl (f1 _ _ _) ?_)
  go_ret
  exact ⟨rfl, f3.os.trans e3.os, f3.tape.trans e3.tape, f3.output.trans e3.output, f3.size.trans e3.size, fun j hj => (f3.other j hj).trans (e3.other j hj), f3.here⟩
set_option maxHeartbeats 4000000 in
set_option maxRecDepth 100000 in
/-- at the end: the append's own run -/
theorem ins_end {z : Nat} {i0 : TypeInfo} {z0 : Value} {nm : String} (L : InsL P ρ z i0 z0 nm) (base vb : Option Addr) (n c m vc : Nat) (w w' : World) (v' : Value) (hm : 0 < m) (hnc : n ≤ c) (hnil : base = none → c = 0)
    (hr : (Builtin.append_ #[ρ.t 24, ρ.t 24] (ρ.t 24) #[.slice base n c, .slice vb m vc]).run P w = .ok v' w') :
    Calls P (ρ.f 22) #[.slice base n c, .int .i64 n, .slice vb m vc] w fun e w2 => e = .returned v' ∧ w2 = w' := by
  have t3 := L.t3; have t4 := L.t4; have t24 := L.t24
  have u3 := run_underlying L.t3; have u4 := run_underlying L.t4; have u24 := run_underlying L.t24
  have mixed := L.mixed
  have z9 : ∀ w, (Go.sizeOf (ρ.t 9)).run P w = .ok z w := fun w => by simp [Go.sizeOf, typeInfo, L.i9, L.hz]
  have hz1 : ¬ ((m : Int) = 0) := by omega
  go_enter L.f22, Body2.n22_ntmps ρ
  cases base with
  | none =>
    have h0 := hnil rfl
    subst h0
    obtain rfl : n = 0 := by omega
    go_wp2_with (at_builtin; refine Lib.wpList_append_run _ rfl _ _ _ _ rfl _ _ rfl rfl _ _ hr ?_)
    go_ret
    exact ⟨rfl, rfl⟩
  | some a =>
    obtain ⟨ab, ao, asp⟩ := a
    go_wp2_with (at_builtin; refine Lib.wpList_append_run _ rfl _ _ _ _ rfl _ _ rfl rfl _ _ hr ?_)
    all_goals (go_ret; exact ⟨rfl, rfl⟩)
set_option maxHeartbeats 4000000 in
set_option maxRecDepth 100000 in
/-- no room -/
theorem ins_grow {z : Nat} {i0 : TypeInfo} {z0 : Value} {nm : String} (L : InsL P ρ z i0 z0 nm) (b off n c i vb voff m vc : Nat) (w : World) {cs vs : Array Value} {tb tv : TypeId} (hi : i < n) (hm : 0 < m) (hmv : m ≤ vc) (hnc : n ≤ c) (hroom : c < n + m) (hbig : (n + m) * i0.bytes ≤ 70368744177664)
    (hb : w.heap[b]? = some (.cells cs tb (0, 0))) (hv : w.heap[vb]? = some (.cells vs tv (0, 0))) (hbs : off + c * z ≤ cs.size) (hvs : voff + vc * z ≤ vs.size)
    (h1c : ∀ j u, cs[j]? = some u → off ≤ j → j < off + n * z → u.oneCell' = true) (h1v : ∀ j u, vs[j]? = some u → voff ≤ j → j < voff + m * z → u.oneCell' = true) :
    ∃ (G : Nat) (ROW : Array Value), n + m ≤ G ∧ ROW.size = G * z ∧ ROW.toList.take (i * z) = (cs.toList.drop off).take (i * z) ∧
    Calls P (ρ.f 22) #[.slice (some ⟨b, off, none⟩) n c, .int .i64 i, .slice (some ⟨vb, voff, none⟩) m vc] w fun e w' =>
      e = .returned (.slice (some ⟨w.heap.size, 0, none⟩) (n + m) G) ∧ Poked (w.alloc (.cells ROW (ρ.t 9))) w.heap.size (over (over ROW (i * z) ((vs.toList.drop voff).take (m * z))) ((i + m) * z) ((cs.toList.drop (off + i * z)).take ((n - i) * z))) w' := by
  have t3 := L.t3; have t4 := L.t4; have t24 := L.t24
  have u3 := run_underlying L.t3; have u4 := run_underlying L.t4; have u24 := run_underlying L.t24
  have mixed := L.mixed
  have z9 : ∀ w, (Go.sizeOf (ρ.t 9)).run P w = .ok z w := fun w => by simp [Go.sizeOf, typeInfo, L.i9, L.hz]
  have hbp := L.hb
  have hnm63 : n + m ≤ 70368744177664 := Nat.le_trans (Nat.le_mul_of_pos_right _ hbp) hbig
  have hz1 : ¬ ((m : Int) = 0) := by omega
  have hz2 : ¬ ((i : Int) = (n : Int)) := by omega
  have hz3 : (c : Int) < (n : Int) + (m : Int) := by omega
  have hw1 : IntKind.i64.wrap ((i : Int) + (m : Int)) = (i : Int) + (m : Int) := by rw [IntKind.wrap_i64]; omega
  have hb1 : (0 : Int) ≤ (i : Int) + (m : Int) := by omega
  have hin : i ≤ n := by omega
  have htn : ((i : Int) + (m : Int)).toNat = i + m := by omega
  have hb3 : (i : Int) ≤ (n : Int) := by omega
  have hmul1 : (i + m) * z + (n - i) * z = (n + m) * z := by rw [← Nat.add_mul]; congr 1; omega
  have hmul2 : i * z + (n - i) * z = n * z := by rw [← Nat.add_mul]; congr 1; omega
  have hmul3 : i * z + m * z = (i + m) * z := by rw [← Nat.add_mul]
  have hmul4 : n * z ≤ c * z := Nat.mul_le_mul_right _ hnc
  have hmul5 : m * z ≤ vc * z := Nat.mul_le_mul_right _ hmv
  have hmul6 : i * z + (n + m - i) * z = (n + m) * z := by rw [← Nat.add_mul]; congr 1; omega
  have hkk : (n : Int) + (m : Int) - (i : Int) = ((n + m - i : Nat) : Int) := by omega
  have hik : i + (n + m - i) = n + m := by omega
  have hbw : b < w.heap.size := (Array.getElem?_eq_some_iff.1 hb).1
  have hvw : vb < w.heap.size := (Array.getElem?_eq_some_iff.1 hv).1
  have hol : ((cs.toList.drop off).take (i * z)).length = i * z := by simp; omega
  have hold : (Builtin.firstCells i0.size i (.slice (some ⟨b, off, none⟩) i c)).run P w.drew = .ok ((cs.toList.drop off).take (i * z)).toArray w.drew := by
    rw [L.hz]
    exact run_firstCells_some w.drew z i ⟨b, off, none⟩ i c _ hol (fun j v hj => by
      rw [add_none, show w.drew.cell? ⟨b, off + j, none⟩ = w.cell? ⟨b, off + j, none⟩ from rfl, cell_block hb]
      rw [List.getElem?_take] at hj
      split at hj
      · rw [List.getElem?_drop] at hj; simpa using hj
      · cases hj)
  have hrz : ∀ ty, _ := fun ty => Lib.run_append_grow_zeros w (ρ.t 24) (ρ.t 3) ty (ρ.t 9) i0 z0 .i64 .i64 L.t24 L.t3 L.i9 L.hz0 (some ⟨b, off, none⟩) i c _ hold (n + m - i) (by omega) (by rw [L.hz]; exact L.h0) (by omega) (by omega)
    (by have : (n + m - i) * i0.bytes ≤ (n + m) * i0.bytes := Nat.mul_le_mul_right _ (by omega); omega) (by rw [hik]; exact growslice_fits hroom (by omega))
  rw [hik, ← hkk] at hrz
  obtain ⟨G, hG⟩ : ∃ G, G = grownCap w (n + m) c (ρ.t 9) := ⟨_, rfl⟩
  obtain ⟨ROW, hROW⟩ : ∃ ROW : Array Value, ROW = ((cs.toList.drop off).take (i * z)).toArray ++ Builtin.zeroCells z0.cells (n + m - i) ++ Builtin.zeroCells z0.cells (G - (n + m)) := ⟨_, rfl⟩
  rw [← hG, ← hROW] at hrz
  have hGn : n + m ≤ G := by rw [hG]; exact grownCap_ge w _ _ _
  have hmul7 : (n + m) * z + (G - (n + m)) * z = G * z := by rw [← Nat.add_mul]; congr 1; omega
  have hRs : ROW.size = G * z := by
    rw [hROW]
    simp only [Array.size_append, List.size_toArray, hol, Builtin.zeroCells, Array.size_map, Array.size_range, L.hzc]
    omega
  have hRt : ROW.toList.take (i * z) = (cs.toList.drop off).take (i * z) := by
    rw [hROW, Array.append_assoc]
    rw [Array.toList_append, List.take_append_of_le_length (by simp; omega)]
    rw [List.take_take, Nat.min_self]
  refine ⟨G, ROW, hGn, hRs, hRt, ?_⟩
  have hG63 : G ≤ 9223372036854775807 := by
    have := grownCap_le_maxLen w (n + m) c (ρ.t 9) (by unfold maxLen; omega)
    rw [← hG] at this
    unfold maxLen at this
    omega
  clear hkk hik hold hROW hG
  have hbN : b ≠ w.heap.size := by omega
  have hvN : vb ≠ w.heap.size := by omega
  have g0 : (w.alloc (.cells ROW (ρ.t 9))).drew.heap[w.heap.size]? = some (.cells ROW (ρ.t 9) (0, 0)) := push_new
  have gv : (w.alloc (.cells ROW (ρ.t 9))).drew.heap[vb]? = some (.cells vs tv (0, 0)) := (push_same hvw).trans hv
  have gb : (w.alloc (.cells ROW (ρ.t 9))).drew.heap[b]? = some (.cells cs tb (0, 0)) := (push_same hbw).trans hb
  obtain ⟨WB, e1, e2, e3⟩ := run_copy_z (P := P) (w := (w.alloc (.cells ROW (ρ.t 9))).drew) (b := w.heap.size) (o := i * z) (n := n + m - i) (a := ⟨vb, voff, none⟩) (m := m) (k := m) L.t24 z9 g0 gv rfl (by rw [Nat.min_def]; split <;> omega) (by rw [hRs]; omega) (by show voff + m * z ≤ vs.size; omega) (fun j u hj h1 h2 => h1v j u hj h1 h2)
  have hs1 : (over ROW (i * z) ((vs.toList.drop voff).take (m * z))).size = ROW.size := by simp [over]; omega
  obtain ⟨WC, f1, f2, f3⟩ := run_copy_z (P := P) (w := WB.drew) (b := w.heap.size) (o := (i + m) * z) (n := n + m - (i + m)) (a := ⟨b, off + i * z, none⟩) (m := n - i) (k := n - i) L.t24 z9 e2 (show WB.drew.heap[b]? = _ from (e3.other b hbN).trans gb) rfl (by rw [Nat.min_def]; split <;> omega) (by rw [hs1, hRs]; omega) (by show off + i * z + (n - i) * z ≤ cs.size; omega) (fun j u hj h1 h2 => h1c j u hj (by simp only at h1; omega) (by simp only at h2; omega))
  have hGi : ¬ (G = i) := by omega
  have hGim : ¬ (G = i + m) := by omega
  have hci : ¬ (c = i) := by omega
  go_enter L.f22, Body2.n22_ntmps ρ
  go_wp2_with (first
    | (at_builtin; refine Lib.wpList_append_run _ rfl _ _ _ _ rfl _ _ rfl rfl _ _ (hrz _) ?_)
    | (at_builtin; refine wpList_copy_runI _ rfl _ _ (ρ.t 24) (ρ.t 24) rfl _ _ rfl rfl (e1 _ _ _) ?_))
  go_region_law_o (refine step_copy_runI rfl _ _ (ρ.t 24) (ρ.t 24) rfl (.slice (some ⟨w.heap.size, (i + m) * z, none⟩) (n + m - (i + m)) (G - (i + m))) (.slice (some ⟨b, off + i * z, none⟩) (n - i) (c - i)) (by simp [Act.eval, Act.put]) (by simp [Act.eval, Act.put]) (f1 (ρ.t 3) (G - (i + m)) (c - i)) ?_)
  go_wp2
  go_ret
  exact ⟨rfl, f3.os.trans e3.os, f3.tape.trans e3.tape, f3.output.trans e3.output, f3.size.trans e3.size, fun j hj => (f3.other j hj).trans (e3.other j hj), f3.here⟩
end Go.SX
