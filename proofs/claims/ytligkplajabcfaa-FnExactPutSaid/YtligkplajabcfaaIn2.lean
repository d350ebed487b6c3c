import Derived.Shelf.Spec.SlicesInsertGrow
import Derived.Test.YtligkplajabcfaaLn
set_option linter.unusedVariables false
set_option linter.unusedSimpArgs false
set_option linter.unusedSectionVars false
set_option linter.unusedVariables false
set_option linter.unusedSimpArgs false
namespace Go.SX
open Go.Shelf Go.Proofs Go.RowKit Go.Lib
variable {P : Program} {ρ : Ren}
/-! slices.Insert, at elements of z cells -/
structure InsL (P : Program) (ρ : Ren) (z : Nat) (i0 : TypeInfo) (z0 : Value) (nm : String) : Prop where
  mixed : P.follows .mixedOrders = true
  f22 : P.funcs[ρ.f 22]? = some { Body2.n22 ρ with name := nm }
  hnm : (nm == "runtime.NumGoroutine") = false
  hov : ∀ (x y : Value) (w w' : World) (r : Bool), (Extern.SlicesOverlaps.overlaps #[ρ.t 24, ρ.t 24] #[ρ.t 4] #[x, y]).run P w = .ok (.bool r) w' → (callFunc (ρ.f 29) #[x, y]).run P w = .ok (.value (.bool r)) w'
  t3 : P.underlying (ρ.t 3) = some (TypeDesc.int IntKind.i64)
  t4 : P.underlying (ρ.t 4) = some TypeDesc.bool
  t24 : P.underlying (ρ.t 24) = some (TypeDesc.slice (ρ.t 9))
  i9 : P.info? (ρ.t 9) = some i0
  hz : i0.size = z
  h0 : 0 < z
  hz0 : i0.zero = some z0
  hzc : z0.cells.size = z
  hb : 0 < i0.bytes
theorem run_copy_z {w : World} {t e : TypeId} {z : Nat} (ht : P.underlying t = some (.slice e)) (hz : ∀ w, (Go.sizeOf e).run P w = .ok z w) {b o n : Nat} {a : Addr} {m : Nat} {cs vs : Array Value} {tb ta : TypeId} {k : Nat}
    (hh : w.heap[b]? = some (.cells cs tb (0, 0))) (ha : w.heap[a.block]? = some (.cells vs ta (0, 0))) (hs : a.spot = none) (hk : k = min m n) (h1 : o + k * z ≤ cs.size) (h2 : a.off + k * z ≤ vs.size) (h3 : ∀ j u, vs[j]? = some u → a.off ≤ j → j < a.off + k * z → u.oneCell' = true) :
    ∃ w', (∀ ty c d, (Builtin.copy_ #[t, t] ty #[.slice (some ⟨b, o, none⟩) n c, .slice (some a) m d]).run P w = .ok (goInt k) w') ∧ w'.heap[b]? = some (.cells (over cs o ((vs.toList.drop a.off).take (k * z))) tb (0, 0)) ∧ Poked w b (over cs o ((vs.toList.drop a.off).take (k * z))) w' := by
  obtain ⟨ab, ao, sp⟩ := a
  simp only at hs ha h2 h3
  subst hs
  have hlen : ((vs.toList.drop ao).take (k * z)).length = k * z := by simp; omega
  have hload : (loadCells ⟨ab, ao, none⟩ (k * z)).run P w = .ok ((vs.toList.drop ao).take (k * z)).toArray w := by
    have := run_loadCells (P := P) (w := w) ⟨ab, ao, none⟩ ((vs.toList.drop ao).take (k * z)) (fun j u hj => by
      rw [add_none, cell_block ha]
      rw [List.getElem?_take] at hj
      split at hj
      · rw [List.getElem?_drop] at hj; simpa using hj
      · cases hj)
    rw [hlen] at this; exact this
  obtain ⟨w', r1, r2, r3⟩ := run_storeCells (P := P) ((vs.toList.drop ao).take (k * z)) o 0 cs w hh (by rw [hlen]; omega) (fun u hu => by
    obtain ⟨j, hj, rfl⟩ := List.mem_iff_getElem.1 hu
    rw [hlen] at hj
    refine h3 (ao + j) _ ?_ (by omega) (by omega)
    rw [List.getElem_take, List.getElem_drop]; simp)
  rw [Nat.add_zero] at r2 r3
  refine ⟨w', fun ty c d => ?_, r3, r2⟩
  have hk2 : (if m ≤ n then m else n) = k := by rw [hk, Nat.min_def]
  simp [Builtin.copy_, run_underlying ht, hz, Builtin.lenOf, Builtin.firstCells, Nat.min_def]
  rw [hk2, hload]
  simp [r1]
set_option maxHeartbeats 4000000 in
set_option maxRecDepth 100000 in
/-- there is room -/
theorem ins_shift {z : Nat} {i0 : TypeInfo} {z0 : Value} {nm : String} (L : InsL P ρ z i0 z0 nm) (b off n c i vb voff m vc : Nat) (w : World) {cs vs : Array Value} {tb tv : TypeId} (hi : i < n) (hm : 0 < m) (hmv : m ≤ vc) (hroom : n + m ≤ c) (hnm : n + m ≤ 70368744177664) (hvb : vb ≠ b)
    (hb : w.heap[b]? = some (.cells cs tb (0, 0))) (hv : w.heap[vb]? = some (.cells vs tv (0, 0))) (hbs : off + c * z ≤ cs.size) (hvs : voff + vc * z ≤ vs.size)
    (h1c : ∀ j u, cs[j]? = some u → off + i * z ≤ j → j < off + n * z → u.oneCell' = true) (h1v : ∀ j u, vs[j]? = some u → voff ≤ j → j < voff + m * z → u.oneCell' = true) :
    Calls P (ρ.f 22) #[.slice (some ⟨b, off, none⟩) n c, .int .i64 i, .slice (some ⟨vb, voff, none⟩) m vc] w fun e w' =>
      e = .returned (.slice (some ⟨b, off, none⟩) (n + m) c) ∧ Poked w b (over (over cs (off + (i + m) * z) ((cs.toList.drop (off + i * z)).take ((n - i) * z))) (off + i * z) ((vs.toList.drop voff).take (m * z))) w' := by
  have t3 := L.t3; have t4 := L.t4; have t24 := L.t24
  have u3 := run_underlying L.t3; have u4 := run_underlying L.t4; have u24 := run_underlying L.t24
  have mixed := L.mixed
  have z9 : ∀ w, (Go.sizeOf (ρ.t 9)).run P w = .ok z w := fun w => by simp [Go.sizeOf, typeInfo, L.i9, L.hz]
  have hz1 : ¬ ((m : Int) = 0) := by omega
  have hz2 : ¬ ((i : Int) = (n : Int)) := by omega
  have hw1 : IntKind.i64.wrap ((i : Int) + (m : Int)) = (i : Int) + (m : Int) := by rw [IntKind.wrap_i64]; omega
  have hb1 : (0 : Int) ≤ (i : Int) + (m : Int) := by omega
  have hin : i ≤ n := by omega
  have htn : ((i : Int) + (m : Int)).toNat = i + m := by omega
  have hb2 : ¬ (c = i + m) := by omega
  have hb3 : (i : Int) ≤ (n : Int) + (m : Int) := by omega
  have hb4 : ¬ (c = i) := by omega
  have hmul1 : (i + m) * z + (n - i) * z ≤ c * z := by rw [← Nat.add_mul]; exact Nat.mul_le_mul_right _ (by omega)
  have hmul2 : i * z + (n - i) * z = n * z := by rw [← Nat.add_mul]; congr 1; omega
  have hmul3 : i * z + m * z ≤ c * z := by rw [← Nat.add_mul]; exact Nat.mul_le_mul_right _ (by omega)
  have hmul4 : n * z ≤ c * z := Nat.mul_le_mul_right _ (by omega)
  have hmul5 : m * z ≤ vc * z := Nat.mul_le_mul_right _ hmv
  have hov : ∀ lb cb, (callFunc (ρ.f 29) #[.slice (some ⟨vb, voff, none⟩) m vc, .slice (some ⟨b, off + (i + m) * z, none⟩) lb cb]).run P w = .ok (.value (.bool false)) w := fun lb cb =>
    L.hov _ _ _ _ _ (Lib.run_overlaps_apart w (ρ.t 24) (ρ.t 4) (ρ.t 9) L.t24 z z9 ⟨vb, voff, none⟩ ⟨b, off + (i + m) * z, none⟩ m vc lb cb hvb tv tb vs.size cs.size (by simp [World.shape?, hv]) (by simp [World.shape?, hb]) (by have := L.h0; have : 0 < c * z := Nat.mul_pos (by omega) this; omega) (frozen_block hv) (frozen_block hv))
  obtain ⟨W1, e1, e2, e3⟩ := run_copy_z (P := P) (w := w.drew) (b := b) (o := off + (i + m) * z) (n := n + m - (i + m)) (a := ⟨b, off + i * z, none⟩) (m := n + m - i) (k := n - i) L.t24 z9 hb hb rfl (by rw [Nat.min_def]; split <;> omega) (by omega) (by show off + i * z + (n - i) * z ≤ cs.size; omega) (fun j u hj h1 h2 => h1c j u hj h1 (by simp only at h2; omega))
  have hvW : W1.heap[vb]? = some (.cells vs tv (0, 0)) := by rw [e3.other vb hvb]; exact hv
  have hsz : (over cs (off + (i + m) * z) ((cs.toList.drop (off + i * z)).take ((n - i) * z))).size = cs.size := by
    simp [over]; omega
  obtain ⟨W2, f1, f2, f3⟩ := run_copy_z (P := P) (w := W1) (b := b) (o := off + i * z) (n := n + m - i) (a := ⟨vb, voff, none⟩) (m := m) (k := m) L.t24 z9 e2 hvW rfl (by rw [Nat.min_def]; split <;> omega) (by rw [hsz]; omega) (by show voff + m * z ≤ vs.size; omega) (fun j u hj h1 h2 => h1v j u hj h1 h2)
  go_enter L.f22, Body2.n22_ntmps ρ
  go_wp2_with (simp only [hov])
  go_region_law_o (refine step_copy_runI rfl _ _ (ρ.t 24) (ρ.t 24) rfl _ _ (by simp [Act.eval, Act.put]) (by simp [Act.eval, Act.put]) (e1 _ _ _) ?_)
  go_wp2_with (at_builtin; refine wpList_copy_runI _ rfl _ _ (ρ.t 24) (ρ.t 24) rfl _ _ rfl rfl (f1 _ _ _) ?_)
  go_ret
  exact ⟨rfl, f3.os.trans e3.os, f3.tape.trans e3.tape, f3.output.trans e3.output, f3.size.trans e3.size, fun j hj => (f3.other j hj).trans (e3.other j hj), f3.here⟩
set_option maxHeartbeats 4000000 in
set_option maxRecDepth 100000 in
/-- at the end: the append's own run -/
theorem ins_end {z : Nat} {i0 : TypeInfo} {z0 : Value} {nm : String} (L : InsL P ρ z i0 z0 nm) (base vb : Option Addr) (n c m vc : Nat) (w w' : World) (v' : Value) (hm : 0 < m) (hnc : n ≤ c) (hnil : base = none → c = 0)
    (hr : (Builtin.append_ #[ρ.t 24, ρ.t 24] (ρ.t 24) #[.slice base n c, .slice vb m vc]).run P w = .ok v' w') :
    Calls P (ρ.f 22) #[.slice base n c, .int .i64 n, .slice vb m vc] w fun e w2 => e = .returned v' ∧ w2 = w' := by
  have t3 := L.t3; have t4 := L.t4; have t24 := L.t24
  have u3 := run_underlying L.t3; have u4 := run_underlying L.t4; have u24 := run_underlying L.t24
  have mixed := L.mixed
  have z9 : ∀ w, (Go.sizeOf (ρ.t 9)).run P w = .ok z w := fun w => by simp [Go.sizeOf, typeInfo, L.i9, L.hz]
  have hz1 : ¬ ((m : Int) = 0) := by omega
  go_enter L.f22, Body2.n22_ntmps ρ
  cases base with
  | none =>
    have h0 := hnil rfl
    subst h0
    obtain rfl : n = 0 := by omega
    go_wp2_with (at_builtin; refine Lib.wpList_append_run _ rfl _ _ _ _ rfl _ _ rfl rfl _ _ hr ?_)
    go_ret
    exact ⟨rfl, rfl⟩
  | some a =>
    obtain ⟨ab, ao, asp⟩ := a
    go_wp2_with (at_builtin; refine Lib.wpList_append_run _ rfl _ _ _ _ rfl _ _ rfl rfl _ _ hr ?_)
    all_goals (go_ret; exact ⟨rfl, rfl⟩)
set_option maxHeartbeats 4000000 in
set_option maxRecDepth 100000 in
/-- no room -/
theorem ins_grow {z : Nat} {i0 : TypeInfo} {z0 : Value} {nm : String} (L : InsL P ρ z i0 z0 nm) (b off n c i vb voff m vc : Nat) (w : World) {cs vs : Array Value} {tb tv : TypeId} (hi : i < n) (hm : 0 < m) (hmv : m ≤ vc) (hnc : n ≤ c) (hroom : c < n + m) (hbig : (n + m) * i0.bytes ≤ 70368744177664)
    (hb : w.heap[b]? = some (.cells cs tb (0, 0))) (hv : w.heap[vb]? = some (.cells vs tv (0, 0))) (hbs : off + c * z ≤ cs.size) (hvs : voff + vc * z ≤ vs.size)
    (h1c : ∀ j u, cs[j]? = some u → off ≤ j → j < off + n * z → u.oneCell' = true) (h1v : ∀ j u, vs[j]? = some u → voff ≤ j → j < voff + m * z → u.oneCell' = true) :
    ∃ (G : Nat) (ROW : Array Value), n + m ≤ G ∧ ROW.size = G * z ∧ ROW.toList.take (i * z) = (cs.toList.drop off).take (i * z) ∧
    Calls P (ρ.f 22) #[.slice (some ⟨b, off, none⟩) n c, .int .i64 i, .slice (some ⟨vb, voff, none⟩) m vc] w fun e w' =>
      e = .returned (.slice (some ⟨w.heap.size, 0, none⟩) (n + m) G) ∧ Poked (w.alloc (.cells ROW (ρ.t 9))) w.heap.size (over (over ROW (i * z) ((vs.toList.drop voff).take (m * z))) ((i + m) * z) ((cs.toList.drop (off + i * z)).take ((n - i) * z))) w' := by
  have t3 := L.t3; have t4 := L.t4; have t24 := L.t24
  have u3 := run_underlying L.t3; have u4 := run_underlying L.t4; have u24 := run_underlying L.t24
  have mixed := L.mixed
  have z9 : ∀ w, (Go.sizeOf (ρ.t 9)).run P w = .ok z w := fun w => by simp [Go.sizeOf, typeInfo, L.i9, L.hz]
  have hbp := L.hb
  have hnm63 : n + m ≤ 70368744177664 := Nat.le_trans (Nat.le_mul_of_pos_right _ hbp) hbig
  have hz1 : ¬ ((m : Int) = 0) := by omega
  have hz2 : ¬ ((i : Int) = (n : Int)) := by omega
  have hz3 : (c : Int) < (n : Int) + (m : Int) := by omega
  have hw1 : IntKind.i64.wrap ((i : Int) + (m : Int)) = (i : Int) + (m : Int) := by rw [IntKind.wrap_i64]; omega
  have hb1 : (0 : Int) ≤ (i : Int) + (m : Int) := by omega
  have hin : i ≤ n := by omega
  have htn : ((i : Int) + (m : Int)).toNat = i + m := by omega
  have hb3 : (i : Int) ≤ (n : Int) := by omega
  have hmul1 : (i + m) * z + (n - i) * z = (n + m) * z := by rw [← Nat.add_mul]; congr 1; omega
  have hmul2 : i * z + (n - i) * z = n * z := by rw [← Nat.add_mul]; congr 1; omega
  have hmul3 : i * z + m * z = (i + m) * z := by rw [← Nat.add_mul]
  have hmul4 : n * z ≤ c * z := Nat.mul_le_mul_right _ hnc
  have hmul5 : m * z ≤ vc * z := Nat.mul_le_mul_right _ hmv
  have hmul6 : i * z + (n + m - i) * z = (n + m) * z := by rw [← Nat.add_mul]; congr 1; omega
  have hkk : (n : Int) + (m : Int) - (i : Int) = ((n + m - i : Nat) : Int) := by omega
  have hik : i + (n + m - i) = n + m := by omega
  have hbw : b < w.heap.size := (Array.getElem?_eq_some_iff.1 hb).1
  have hvw : vb < w.heap.size := (Array.getElem?_eq_some_iff.1 hv).1
  have hol : ((cs.toList.drop off).take (i * z)).length = i * z := by simp; omega
  have hold : (Builtin.firstCells i0.size i (.slice (some ⟨b, off, none⟩) i c)).run P w.drew = .ok ((cs.toList.drop off).take (i * z)).toArray w.drew := by
    rw [L.hz]
    exact run_firstCells_some w.drew z i ⟨b, off, none⟩ i c _ hol (fun j v hj => by
      rw [add_none, show w.drew.cell? ⟨b, off + j, none⟩ = w.cell? ⟨b, off + j, none⟩ from rfl, cell_block hb]
      rw [List.getElem?_take] at hj
      split at hj
      · rw [List.getElem?_drop] at hj; simpa using hj
      · cases hj)
  have hrz : ∀ ty, _ := fun ty => Lib.run_append_grow_zeros w (ρ.t 24) (ρ.t 3) ty (ρ.t 9) i0 z0 .i64 .i64 L.t24 L.t3 L.i9 L.hz0 (some ⟨b, off, none⟩) i c _ hold (n + m - i) (by omega) (by rw [L.hz]; exact L.h0) (by omega) (by omega)
    (by have : (n + m - i) * i0.bytes ≤ (n + m) * i0.bytes := Nat.mul_le_mul_right _ (by omega); omega) (by rw [hik]; exact growslice_fits hroom (by omega))
  rw [hik, ← hkk] at hrz
  obtain ⟨G, hG⟩ : ∃ G, G = grownCap w (n + m) c (ρ.t 9) := ⟨_, rfl⟩
  obtain ⟨ROW, hROW⟩ : ∃ ROW : Array Value, ROW = ((cs.toList.drop off).take (i * z)).toArray ++ Builtin.zeroCells z0.cells (n + m - i) ++ Builtin.zeroCells z0.cells (G - (n + m)) := ⟨_, rfl⟩
  rw [← hG, ← hROW] at hrz
  have hGn : n + m ≤ G := by rw [hG]; exact grownCap_ge w _ _ _
  have hmul7 : (n + m) * z + (G - (n + m)) * z = G * z := by rw [← Nat.add_mul]; congr 1; omega
  have hRs : ROW.size = G * z := by
    rw [hROW]
    simp only [Array.size_append, List.size_toArray, hol, Builtin.zeroCells, Array.size_map, Array.size_range, L.hzc]
    omega
  have hRt : ROW.toList.take (i * z) = (cs.toList.drop off).take (i * z) := by
    rw [hROW, Array.append_assoc]
    rw [Array.toList_append, List.take_append_of_le_length (by simp; omega)]
    rw [List.take_take, Nat.min_self]
  refine ⟨G, ROW, hGn, hRs, hRt, ?_⟩
  have hG63 : G ≤ 9223372036854775807 := by
    have := grownCap_le_maxLen w (n + m) c (ρ.t 9) (by unfold maxLen; omega)
    rw [← hG] at this
    unfold maxLen at this
    omega
  clear hkk hik hold hROW hG
  have hbN : b ≠ w.heap.size := by omega
  have hvN : vb ≠ w.heap.size := by omega
  have g0 : (w.alloc (.cells ROW (ρ.t 9))).drew.heap[w.heap.size]? = some (.cells ROW (ρ.t 9) (0, 0)) := push_new
  have gv : (w.alloc (.cells ROW (ρ.t 9))).drew.heap[vb]? = some (.cells vs tv (0, 0)) := (push_same hvw).trans hv
  have gb : (w.alloc (.cells ROW (ρ.t 9))).drew.heap[b]? = some (.cells cs tb (0, 0)) := (push_same hbw).trans hb
  obtain ⟨WB, e1, e2, e3⟩ := run_copy_z (P := P) (w := (w.alloc (.cells ROW (ρ.t 9))).drew) (b := w.heap.size) (o := i * z) (n := n + m - i) (a := ⟨vb, voff, none⟩) (m := m) (k := m) L.t24 z9 g0 gv rfl (by rw [Nat.min_def]; split <;> omega) (by rw [hRs]; omega) (by show voff + m * z ≤ vs.size; omega) (fun j u hj h1 h2 => h1v j u hj h1 h2)
  have hs1 : (over ROW (i * z) ((vs.toList.drop voff).take (m * z))).size = ROW.size := by simp [over]; omega
  obtain ⟨WC, f1, f2, f3⟩ := run_copy_z (P := P) (w := WB.drew) (b := w.heap.size) (o := (i + m) * z) (n := n + m - (i + m)) (a := ⟨b, off + i * z, none⟩) (m := n - i) (k := n - i) L.t24 z9 e2 (show WB.drew.heap[b]? = _ from (e3.other b hbN).trans gb) rfl (by rw [Nat.min_def]; split <;> omega) (by rw [hs1, hRs]; omega) (by show off + i * z + (n - i) * z ≤ cs.size; omega) (fun j u hj h1 h2 => h1c j u hj (by simp only at h1; omega) (by simp only at h2; omega))
  have hGi : ¬ (G = i) := by omega
  have hGim : ¬ (G = i + m) := by omega
  have hci : ¬ (c = i) := by omega
  go_enter L.f22, Body2.n22_ntmps ρ
  go_wp2_with (first
    | (at_builtin; refine Lib.wpList_append_run _ rfl _ _ _ _ rfl _ _ rfl rfl _ _ (hrz _) ?_)
    | (at_builtin; refine wpList_copy_runI _ rfl _ _ (ρ.t 24) (ρ.t 24) rfl _ _ rfl rfl (e1 _ _ _) ?_))
  go_region_law_o (refine step_copy_runI rfl _ _ (ρ.t 24) (ρ.t 24) rfl (.slice (some ⟨w.heap.size, (i + m) * z, none⟩) (n + m - (i + m)) (G - (i + m))) (.slice (some ⟨b, off + i * z, none⟩) (n - i) (c - i)) (by simp [Act.eval, Act.put]) (by simp [Act.eval, Act.put]) (f1 (ρ.t 3) (G - (i + m)) (c - i)) ?_)
  go_wp2
  go_ret
  exact ⟨rfl, f3.os.trans e3.os, f3.tape.trans e3.tape, f3.output.trans e3.output, f3.size.trans e3.size, fun j hj => (f3.other j hj).trans (e3.other j hj), f3.here⟩
end Go.SX

set_option linter.unusedVariables false
set_option linter.unusedSimpArgs false
set_option linter.unusedSectionVars false
set_option linter.unusedVariables false
set_option linter.unusedSimpArgs false
namespace Go.SX
open Go.Shelf Go.Proofs Go.RowKit Go.Lib
variable {P : Program} {ρ : Ren} {w w' : World} {ok ok' okc : Nat → Prop} {E : Env} {σ : St}
/-- a row that is ours, as a result; what was lent is gone -/
theorem ends_row {bs : List Nat} (M : Mem w ⟨(· ∈ bs), okc⟩ σ E ok' w') (hk : Keep w w' okc ok') {j : Nat} {q : Row} {r r0 r1 : RV} (hq : rowAt σ j = some q) (ho : q.ow = true) (hqf : q.dp = .f) (hE : E.ρ[j]? = some r) :
    Ends w [.r r0, .r r1] bs okc (.c (.r q.l) (some (q.sz, false))) [none, none] (.slice r.a r.n r.cap) w' := by
  have hz := (M.row j r q hE hq).1
  have hO := M.own hE hq ho hqf
  refine ⟨ok', r.κ.toList, [], M.fr, hk, fun k h => ?_, ⟨[.r r], ?_⟩, .gone (.gone .nil), ?_, fun k hk => ?_⟩
  · rcases M.okin k h with h | h | h
    · exact .inl h
    · exact .inr (.inr h)
    · exact .inr (.inl h)
  · have := ArgsRel.own (w := w') (ok := ok') hO.x .nil
    rw [List.append_nil] at this
    rw [hz]; exact this
  · cases r.κ <;> simp
  · rw [List.append_nil] at hk
    have hm : mutAt σ E (.r j) = some k := mut_r hE hq ho (by cases hr : r.κ <;> simp_all)
    exact ⟨(M.mine _ _ hm).1, (M.mine _ _ hm).2.1.symm⟩
/-- the cells, put together -/
theorem ins_cells {l v : List (List C)} {z i : Nat} {cs vs fs : Array Value} {off0 voff off : Nat} (hl : ∀ el ∈ l, el.length = z) (hv : ∀ el ∈ v, el.length = z) (hi : i ≤ l.length)
    (hcl : ∀ p j el c, l[p]? = some el → el[j]? = some c → ∃ u, cs[off0 + (p * z + j)]? = some u ∧ Holds w ok c u) (hcv : ∀ p j el c, v[p]? = some el → el[j]? = some c → ∃ u, vs[voff + (p * z + j)]? = some u ∧ Holds w ok c u)
    (hA : ∀ q, q < i * z → fs[off + q]? = cs[off0 + q]?) (hB : ∀ q, q < v.length * z → fs[off + i * z + q]? = vs[voff + q]?) (hC : ∀ q, q < (l.length - i) * z → fs[off + (i + v.length) * z + q]? = cs[off0 + i * z + q]?) :
    ∀ p j el c, (l.take i ++ v ++ l.drop i)[p]? = some el → el[j]? = some c → ∃ u, fs[off + (p * z + j)]? = some u ∧ Holds w ok c u := by
  intro p j el c hp hj
  have hjl : j < el.length := (List.getElem?_eq_some_iff.1 hj).1
  have hti : (l.take i).length = i := by simp; omega
  have lt_of : ∀ a b : Nat, a < b → j < z → a * z + j < b * z := fun a b h hz => by
    have : (a + 1) * z ≤ b * z := Nat.mul_le_mul_right _ h
    rw [Nat.add_mul] at this; omega
  by_cases h1 : p < i
  · rw [List.append_assoc, List.getElem?_append_left (by omega), List.getElem?_take, if_pos h1] at hp
    have hz := hl el (List.mem_of_getElem? hp)
    obtain ⟨u, h3, h4⟩ := hcl p j el c hp hj
    exact ⟨u, by rw [hA _ (lt_of p i h1 (by omega))]; exact h3, h4⟩
  · by_cases h2 : p < i + v.length
    · rw [List.getElem?_append_left (by simp; omega), List.getElem?_append_right (by omega), hti] at hp
      have hz := hv el (List.mem_of_getElem? hp)
      obtain ⟨u, h3, h4⟩ := hcv (p - i) j el c hp hj
      refine ⟨u, ?_, h4⟩
      have e : p * z = i * z + (p - i) * z := by rw [← Nat.add_mul]; congr 1; omega
      rw [show off + (p * z + j) = off + i * z + ((p - i) * z + j) by omega, hB _ (lt_of (p - i) v.length (by omega) (by omega))]
      exact h3
    · rw [List.getElem?_append_right (by simp; omega), List.getElem?_drop] at hp
      have e0 : i + (p - (l.take i ++ v).length) = p - v.length := by simp; omega
      rw [e0] at hp
      have hz := hl el (List.mem_of_getElem? hp)
      have hpl := (List.getElem?_eq_some_iff.1 hp).1
      obtain ⟨u, h3, h4⟩ := hcl (p - v.length) j el c hp hj
      refine ⟨u, ?_, h4⟩
      have e : p * z = (i + v.length) * z + (p - v.length - i) * z := by rw [← Nat.add_mul]; congr 1; omega
      have e2 : (p - v.length) * z = i * z + (p - v.length - i) * z := by rw [← Nat.add_mul]; congr 1; omega
      rw [show off + (p * z + j) = off + (i + v.length) * z + ((p - v.length - i) * z + j) by omega, hC _ (lt_of (p - v.length - i) (l.length - i) (by omega) (by omega)), show off0 + i * z + ((p - v.length - i) * z + j) = off0 + ((p - v.length) * z + j) by omega]
      exact h3
theorem drop_take_get {cs : Array Value} {o n q : Nat} (h : q < n) : ((cs.toList.drop o).take n)[q]? = cs[o + q]? := by
  rw [List.getElem?_take, if_pos h, List.getElem?_drop]; simp
/-- slices.Insert -/
def insF (z b : Nat) : List A → Option (A × List (Option Cs))
  | [.c (.r l) (some (s, false)), .c (.s (.int .i64 i)) none, .c (.r v) (some (s2, false))] => if (s = z ∨ (s = 0 ∧ l = [])) ∧ s2 = z ∧ v ≠ [] ∧ 0 ≤ i ∧ i ≤ l.length ∧ (l.length + v.length) * b ≤ 70368744177664 then some (.c (.r (l.take i.toNat ++ v ++ l.drop i.toNat)) (some (z, false)), [none, none]) else none
  | _ => none
theorem cells_allone {l : List (List C)} {z n : Nat} {cs : Array Value} {off : Nat} (hz : 0 < z) (hn : l.length = n) (hl : ∀ el ∈ l, el.length = z) (hcl : ∀ p j el c, l[p]? = some el → el[j]? = some c → ∃ u, cs[off + (p * z + j)]? = some u ∧ Holds w ok c u) :
    ∀ j u, cs[j]? = some u → off ≤ j → j < off + n * z → u.oneCell' = true := by
  intro j u hj h1 h2
  have hd := Nat.div_add_mod (j - off) z
  have hm := Nat.mod_lt (j - off) hz
  have hp : (j - off) / z < l.length := by
    rw [hn]; exact (Nat.div_lt_iff_lt_mul hz).2 (by omega)
  have hel := hl _ (List.getElem_mem hp)
  obtain ⟨u', h3, h4⟩ := hcl ((j - off) / z) ((j - off) % z) _ _ (List.getElem?_eq_getElem hp) (List.getElem?_eq_getElem (by rw [hel]; exact hm))
  have e : off + ((j - off) / z * z + (j - off) % z) = j := by rw [Nat.mul_comm]; omega
  rw [e, hj] at h3
  cases h3
  exact h4.one
theorem mut_none (h1 : ∀ b, boxAt σ b = none) (h2 : ∀ i, rawAt σ i = none) (x : Mt) (k : Nat) : mutAt σ E x ≠ some k := by
  cases x <;> simp [mutAt, h1, h2]
theorem insert_ok {z b : Nat} {i0 : TypeInfo} {z0 : Value} {nm : String} (L : InsL P ρ z i0 z0 nm) (hbb : i0.bytes = b) : FOk P (ρ.f 22) (insF z b) := by
  intro xs r back h w vs hs bs okc hA hnd hno
  unfold insF at h
  split at h
  case h_2 => simp at h
  rename_i l s i v s2
  split at h
  case isFalse => simp at h
  rename_i hc
  obtain ⟨hsz, rfl, hv0, hi0, hil, hbig⟩ := hc
  simp only [Option.some.injEq, Prod.mk.injEq] at h
  obtain ⟨rfl, rfl⟩ := h
  obtain ⟨k, rfl⟩ : ∃ k : Nat, i = k := ⟨i.toNat, by omega⟩
  simp only [Int.toNat_natCast] at *
  have hkl : k ≤ l.length := by omega
  have hb := L.hb
  have h0 := L.h0
  -- as it begins
  have M0 : Mem w ⟨(· ∈ bs), okc⟩ st0 E00 okc w := mem00
  have hfree : Free w ⟨(· ∈ bs), okc⟩ okc st0 E00 bs := free00 hnd hno
  obtain ⟨E1, ⟨M1, _, _, _⟩, hT, hH⟩ := tellVs_ok hA M0 hfree
  have hst : tellVs st0 [A.c (.r l) (some (s, false)), .c (.s (.int .i64 (k : Int))) none, .c (.r v) (some (s2, false))] = ([.row 0, .c (.s (.int .i64 k)), .row 1], ⟨[], [], [some ⟨s, l, true, .f⟩, some ⟨s2, v, true, .f⟩]⟩) := rfl
  rw [hst] at M1 hT hH
  cases hT with
  | cons x0 hT =>
  cases hT with
  | cons x1 hT =>
  cases hT with
  | cons x2 hT =>
  cases hT
  have y0 := x0
  have y2 := x2
  obtain ⟨r0, e0, rfl⟩ := x0
  obtain ⟨r1, e1, rfl⟩ := x2
  cases x1
  -- what is lent
  have hhs : hs = [.r r0, .r r1] := by
    have hl2 : lentOf true [T.row 0, .c (.s (.int .i64 (k : Int))), .row 1] = [.r 0, .r 1] := rfl
    rw [hl2] at hH
    cases hH with
    | cons a hH =>
    cases hH with
    | cons b hH =>
    cases hH
    rename_i h1 h2
    cases h1 <;> simp only [HRel] at a
    cases h2 <;> simp only [HRel] at b
    rw [e0] at a; rw [e1] at b
    cases a; cases b; rfl
  subst hhs
  have hq0 : rowAt (⟨[], [], [some ⟨s, l, true, .f⟩, some ⟨s2, v, true, .f⟩]⟩ : St) 0 = some ⟨s, l, true, .f⟩ := rfl
  have hq1 : rowAt (⟨[], [], [some ⟨s, l, true, .f⟩, some ⟨s2, v, true, .f⟩]⟩ : St) 1 = some ⟨s2, v, true, .f⟩ := rfl
  have hs0 := (M1.row 0 r0 _ e0 hq0).1
  have hO0 := M1.own e0 hq0 rfl rfl
  have hs1 := (M1.row 1 r1 _ e1 hq1).1
  have hO1 := M1.own e1 hq1 rfl rfl
  simp only at hs0 hs1 hO0 hO1
  have hvp : 0 < v.length := List.length_pos_iff.2 hv0
  obtain ⟨b1, b2, b3, b4, b5⟩ := hO1
  obtain ⟨vb, hk1⟩ : ∃ vb, r1.κ = some vb := by
    cases hκ : r1.κ with
    | none => rw [hκ] at b5; simp only at b5; omega
    | some vb => exact ⟨vb, rfl⟩
  rw [hk1] at b5
  simp only at b5
  obtain ⟨voff, tv, vcs, c1, c2, c3, c4⟩ := b5
  have hmv := M1.mine _ _ (mut_r e1 hq1 rfl hk1)
  have hbod : ({ Body2.n22 ρ with name := nm } : Func).body.isNone = false := rfl
  refine .inl ⟨_, L.f22, L.hnm, hbod, ?_⟩
  show Calls P (ρ.f 22) #[.slice r0.a r0.n r0.cap, .int .i64 k, .slice r1.a r1.n r1.cap] w _
  obtain ⟨a1, a2, a3, a4, a5⟩ := hO0
  have hdead : ∀ (x : Mt) (j : Nat), mutAt (setRow (setRow (⟨[], [], [some ⟨s, l, true, .f⟩, some ⟨s2, v, true, .f⟩]⟩ : St) 0 none) 1 none) E1 x ≠ some j := fun x j => mut_none (fun b => by simp [boxAt, setRow]) (fun i => by rcases i with _ | _ | i <;> simp [rawAt, setRow]) x j
  have M2 := (M1.killR 0).killR 1
  have hnm : r0.n + r1.n ≤ 70368744177664 := by
    rw [← a1, ← b1]; exact Nat.le_trans (Nat.le_mul_of_pos_right _ (by omega)) hbig
  subst hs1
  have h1v := cells_allone (off := voff) h0 b1 b3 c4
  by_cases hlt : k < l.length
  · have hsz' : s = r1.sz := by
      rcases hsz with h | ⟨_, h⟩
      · exact h
      · subst h; simp at hlt
    subst hsz'
    rw [← hs0] at a3 a5
    obtain ⟨b0, hk0⟩ : ∃ b0, r0.κ = some b0 := by
      cases hκ : r0.κ with
      | none => rw [hκ] at a5; simp only at a5; omega
      | some b0 => exact ⟨b0, rfl⟩
    rw [hk0] at a5
    simp only at a5
    obtain ⟨off, tb, cs, d1, d2, d3, d4⟩ := a5
    have hm0 := M1.mine _ _ (mut_r e0 hq0 rfl hk0)
    have hne : vb ≠ b0 := fun e => by
      have := M1.dis _ _ _ (mut_r e0 hq0 rfl hk0) (e ▸ mut_r e1 hq1 rfl hk1)
      cases this
    have h1c := cells_allone (off := off) h0 a1 a3 d4
    have hmul4 : r0.n * r1.sz ≤ r0.cap * r1.sz := Nat.mul_le_mul_right _ a2
    have hmul5 : r1.n * r1.sz ≤ r1.cap * r1.sz := Nat.mul_le_mul_right _ b2
    have hmul2 : k * r1.sz + (r0.n - k) * r1.sz = r0.n * r1.sz := by rw [← Nat.add_mul]; congr 1; omega
    have hmul3 : k * r1.sz + r1.n * r1.sz = (k + r1.n) * r1.sz := by rw [← Nat.add_mul]
    have hmul1 : (k + r1.n) * r1.sz + (r0.n - k) * r1.sz = (r0.n + r1.n) * r1.sz := by rw [← Nat.add_mul]; congr 1; omega
    have hX : ((cs.toList.drop (off + k * r1.sz)).take ((r0.n - k) * r1.sz)).length = (r0.n - k) * r1.sz := by simp; omega
    have hV : ((vcs.toList.drop voff).take (r1.n * r1.sz)).length = r1.n * r1.sz := by simp; omega
    have hwid : ∀ el ∈ l.take k ++ v ++ l.drop k, el.length = r1.sz := by
      intro el hel
      rcases List.mem_append.1 hel with h | h
      · rcases List.mem_append.1 h with h | h
        · exact a3 _ (List.mem_of_mem_take h)
        · exact b3 _ h
      · exact a3 _ (List.mem_of_mem_drop h)
    have hlen : (l.take k ++ v ++ l.drop k).length = r0.n + r1.n := by simp; omega
    rw [d1, c1]
    by_cases hroom : r0.n + r1.n ≤ r0.cap
    · have hmul6 : (r0.n + r1.n) * r1.sz ≤ r0.cap * r1.sz := Nat.mul_le_mul_right _ hroom
      refine (ins_shift L b0 off r0.n r0.cap k vb voff r1.n r1.cap w (by omega) (by omega) b2 hroom hnm hne d2 c2 d3 c3 (fun j u hj p q => h1c j u hj (by omega) q) h1v).mono fun e w' he => ?_
      obtain ⟨rfl, hp⟩ := he
      obtain ⟨M3, kp⟩ := M2.poke hp (fun x => hdead x _) hm0.1 hm0.2.1
      obtain ⟨tf, hf⟩ := hp.here
      have hs1 : (over cs (off + (k + r1.n) * r1.sz) ((cs.toList.drop (off + k * r1.sz)).take ((r0.n - k) * r1.sz))).size = cs.size := over_size (by rw [hX]; omega)
      have hs2 : (over (over cs (off + (k + r1.n) * r1.sz) ((cs.toList.drop (off + k * r1.sz)).take ((r0.n - k) * r1.sz))) (off + k * r1.sz) ((vcs.toList.drop voff).take (r1.n * r1.sz))).size = cs.size := by rw [over_size (by rw [hV, hs1]; omega), hs1]
      have hcells := ins_cells (w := w) (ok := okc) (off := off) (fs := over (over cs (off + (k + r1.n) * r1.sz) ((cs.toList.drop (off + k * r1.sz)).take ((r0.n - k) * r1.sz))) (off + k * r1.sz) ((vcs.toList.drop voff).take (r1.n * r1.sz))) a3 b3 hkl d4 c4
        (fun q hq => by rw [over_get (by rw [hV, hs1]; omega), if_neg (by omega), over_get (by rw [hX]; omega), if_neg (by omega)])
        (fun q hq => by rw [b1] at hq; rw [over_get (by rw [hV, hs1]; omega), if_pos (by rw [hV]; omega), show off + k * r1.sz + q - (off + k * r1.sz) = q by omega, drop_take_get hq])
        (fun q hq => by rw [b1]; rw [a1] at hq; rw [over_get (by rw [hV, hs1]; omega), if_neg (by rw [hV]; omega), over_get (by rw [hX]; omega), if_pos (by rw [hX]; omega), show off + (k + r1.n) * r1.sz + q - (off + (k + r1.n) * r1.sz) = q by omega, drop_take_get hq])
      obtain ⟨M4, hle, _⟩ := M3.newR (r := ⟨some ⟨b0, off, none⟩, r0.n + r1.n, r0.cap, r1.sz, some b0⟩) (q := ⟨r1.sz, l.take k ++ v ++ l.drop k, true, .f⟩) rfl ⟨rfl, by
        rw [if_pos rfl]
        exact ⟨hlen, hroom, hwid, fun h => by simp only at h; omega, off, tf, _, rfl, hf, by rw [hs2]; exact d3, fun i j el c h h' => by
          obtain ⟨u, h5, h6⟩ := hcells i j el c h h'
          exact ⟨u, h5, h6.keep kp⟩⟩⟩ (fun j _ hj => by
          cases hj
          exact ⟨hm0.1, hm0.2.1, fun x => hdead x _⟩)
      exact ends_row M4 kp (j := 2) (q := ⟨r1.sz, l.take k ++ v ++ l.drop k, true, .f⟩) (r := ⟨some ⟨b0, off, none⟩, r0.n + r1.n, r0.cap, r1.sz, some b0⟩) rfl rfl rfl (by
        have := M2.lr
        simp only [setRow, List.length_set, List.length_cons, List.length_nil] at this
        show (E1.ρ ++ [_])[2]? = _
        rw [List.getElem?_append_right (by omega), this]; rfl)
    · obtain ⟨G, ROW, g1, g2, g3, hcalls⟩ := ins_grow L b0 off r0.n r0.cap k vb voff r1.n r1.cap w (by omega) (by omega) b2 a2 (by omega) (by rw [hbb, ← a1, ← b1]; exact hbig) d2 c2 d3 c3 h1c h1v
      have hmul6 : (r0.n + r1.n) * r1.sz ≤ G * r1.sz := Nat.mul_le_mul_right _ g1
      refine hcalls.mono fun e w' he => ?_
      obtain ⟨rfl, hp⟩ := he
      obtain ⟨M3, kp⟩ := (M2.push (.cells ROW (ρ.t 9))).poke hp (fun x => hdead x _) (fun h => by have := h.2; omega) (.inl (Nat.le_refl _))
      have kp2 : Keep w w' okc (lt w okc) := fun j hj hjl => by
        obtain ⟨h1, h2⟩ := keep_push (ok := okc) (.cells ROW (ρ.t 9)) j hj hjl
        obtain ⟨h3, h4⟩ := kp j h2 (by show j < (w.heap.push _).size; simp; omega)
        exact ⟨h3.trans h1, h4⟩
      obtain ⟨tf, hf⟩ := hp.here
      have hs1 : (over ROW (k * r1.sz) ((vcs.toList.drop voff).take (r1.n * r1.sz))).size = ROW.size := over_size (by rw [hV]; omega)
      have hs2 : (over (over ROW (k * r1.sz) ((vcs.toList.drop voff).take (r1.n * r1.sz))) ((k + r1.n) * r1.sz) ((cs.toList.drop (off + k * r1.sz)).take ((r0.n - k) * r1.sz))).size = ROW.size := by rw [over_size (by rw [hX, hs1]; omega), hs1]
      have hcells := ins_cells (w := w) (ok := okc) (off := 0) (fs := over (over ROW (k * r1.sz) ((vcs.toList.drop voff).take (r1.n * r1.sz))) ((k + r1.n) * r1.sz) ((cs.toList.drop (off + k * r1.sz)).take ((r0.n - k) * r1.sz))) a3 b3 hkl d4 c4
        (fun q hq => by
          rw [Nat.zero_add, over_get (by rw [hX, hs1]; omega), if_neg (by omega), over_get (by rw [hV]; omega), if_neg (by omega)]
          have h1 : (ROW.toList.take (k * r1.sz))[q]? = ROW[q]? := by rw [List.getElem?_take, if_pos hq]; simp
          rw [← h1, g3, drop_take_get hq])
        (fun q hq => by rw [b1] at hq; rw [Nat.zero_add, over_get (by rw [hX, hs1]; omega), if_neg (by omega), over_get (by rw [hV]; omega), if_pos (by rw [hV]; omega), show k * r1.sz + q - k * r1.sz = q by omega, drop_take_get hq])
        (fun q hq => by rw [b1]; rw [a1] at hq; rw [Nat.zero_add, over_get (by rw [hX, hs1]; omega), if_pos (by rw [hX]; omega), show (k + r1.n) * r1.sz + q - (k + r1.n) * r1.sz = q by omega, drop_take_get hq])
      obtain ⟨M4, hle, _⟩ := M3.newR (r := ⟨some ⟨w.heap.size, 0, none⟩, r0.n + r1.n, G, r1.sz, some w.heap.size⟩) (q := ⟨r1.sz, l.take k ++ v ++ l.drop k, true, .f⟩) rfl ⟨rfl, by
        rw [if_pos rfl]
        exact ⟨hlen, g1, hwid, fun h => by simp only at h; omega, 0, tf, _, rfl, hf, by rw [hs2, g2, Nat.zero_add]; exact Nat.le_refl _, fun i j el c h h' => by
          obtain ⟨u, h5, h6⟩ := hcells i j el c h h'
          exact ⟨u, h5, h6.keep kp2⟩⟩⟩ (fun j _ hj => by
          cases hj
          exact ⟨fun h => by have := h.2; omega, .inl (Nat.le_refl _), fun x => hdead x _⟩)
      exact ends_row M4 kp2 (j := 2) (q := ⟨r1.sz, l.take k ++ v ++ l.drop k, true, .f⟩) (r := ⟨some ⟨w.heap.size, 0, none⟩, r0.n + r1.n, G, r1.sz, some w.heap.size⟩) rfl rfl rfl (by
        have := M2.lr
        simp only [setRow, List.length_set, List.length_cons, List.length_nil] at this
        show (E1.ρ ++ [_])[2]? = _
        rw [List.getElem?_append_right (by omega), this]; rfl)
  · have hkn : k = l.length := by omega
    subst hkn
    have hel : elOf P (ρ.t 24) = some (ρ.t 9) := by simp [elOf, L.t24]
    have hd0 : deepT (⟨[], [], [some ⟨s, l, true, .f⟩, some ⟨r1.sz, v, true, .f⟩]⟩ : St) (.row 0) = false := rfl
    have hd1 : deepT (⟨[], [], [some ⟨s, l, true, .f⟩, some ⟨r1.sz, v, true, .f⟩]⟩ : St) (.row 1) = false := rfl
    have ha : opAppend P (⟨[], [], [some ⟨s, l, true, .f⟩, some ⟨r1.sz, v, true, .f⟩]⟩ : St) (ρ.t 24) (.row 0) (.row 1) = some (newRow (setRow (⟨[], [], [some ⟨s, l, true, .f⟩, some ⟨r1.sz, v, true, .f⟩]⟩ : St) 0 none) ⟨r1.sz, l ++ v, true, .f⟩) := by
      have hm : meltX (meltS (⟨[], [], [some ⟨s, l, true, .f⟩, some ⟨r1.sz, v, true, .f⟩]⟩ : St) (.row 0)) (.row 1) = ⟨[], [], [some ⟨s, l, true, .f⟩, some ⟨r1.sz, v, true, .f⟩]⟩ := rfl
      unfold opAppend
      rw [show movQ (⟨[], [], [some ⟨s, l, true, .f⟩, some ⟨r1.sz, v, true, .f⟩]⟩ : St) (.row 1) = false from rfl, hd1, Bool.false_and, if_neg (by simp)]
      simp only
      rw [if_neg (by simp)]
      simp only
      rw [hm]
      unfold opAppend0
      simp only [hel, L.i9, L.hz0, Option.bind_some, elems, hq0, hq1, Option.map_some]
      rw [if_pos]
      · rw [if_pos ⟨trivial, by rw [L.hz]; rcases hsz with h | ⟨h, _⟩ <;> omega⟩, L.hz]
      · refine ⟨by rw [L.hz]; exact L.hzc, ?_, ?_, by rw [L.hz]; omega, hb, by rw [hbb]; exact hbig⟩
        · rw [L.hz]; simp only [wide, List.all_eq_true, beq_iff_eq]; exact b3
        · rw [L.hz]; simp only [wide, List.all_eq_true, beq_iff_eq]; intro x hx
          rcases hsz with h | ⟨_, h⟩
          · rw [a3 x hx, ← hs0, h]
          · rw [h] at hx; cases hx
    obtain ⟨v', w', hr, E', ok', M', hE', hk', ht⟩ := ok_append (ty := ρ.t 24) M1 L.t24 y0.t y2.t ha
    obtain ⟨r', er', rfl⟩ := ht
    have hnil : r0.a = none → r0.cap = 0 := fun h => by
      cases hκ : r0.κ with
      | none => rw [hκ] at a5; exact a5
      | some x =>
        rw [hκ] at a5
        obtain ⟨off, t, cs, h1, _⟩ := a5
        rw [h] at h1; cases h1
    have hc := ins_end L r0.a r1.a r0.n r0.cap r1.n r1.cap w w' _ (by omega) a2 hnil hr
    rw [a1]
    refine hc.mono fun e w2 he => ?_
    obtain ⟨rfl, rfl⟩ := he
    have := ends_row M' hk' (j := 2) (q := ⟨r1.sz, l ++ v, true, .f⟩) (r := r') (r0 := r0) (r1 := r1) rfl rfl rfl er'
    rw [← a1, List.take_length, List.drop_length, List.append_nil]
    exact this
end Go.SX
