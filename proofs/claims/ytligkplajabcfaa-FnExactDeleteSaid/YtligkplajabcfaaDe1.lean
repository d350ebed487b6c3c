import Derived.Shelf.Slices.Delete
import Derived.Test.YtligkplajabcfaaIn2
set_option linter.unusedVariables false
set_option linter.unusedSimpArgs false
set_option linter.unusedSectionVars false
set_option linter.unusedVariables false
set_option linter.unusedSimpArgs false
namespace Go.SX
open Go.Shelf Go.Proofs Go.RowKit Go.Lib
variable {P : Program} {ρ : Ren}
/-! slices.Delete, at elements of z cells -/
structure DelL (P : Program) (ρ : Ren) (z : Nat) (i0 : TypeInfo) (z0 : Value) (nm : String) : Prop where
  mixed : P.follows .mixedOrders = true
  f24 : P.funcs[ρ.f 24]? = some { Body2.n24 ρ with name := nm }
  hnm : (nm == "runtime.NumGoroutine") = false
  t3 : P.underlying (ρ.t 3) = some (TypeDesc.int IntKind.i64)
  t4 : P.underlying (ρ.t 4) = some TypeDesc.bool
  t24 : P.underlying (ρ.t 24) = some (TypeDesc.slice (ρ.t 9))
  i9 : P.info? (ρ.t 9) = some i0
  hz : i0.size = z
  h0 : 0 < z
  hz0 : i0.zero = some z0
  hzc : z0.cells.size = z
  h1 : ∀ u ∈ z0.cells.toList, u.oneCell' = true
theorem step_append_runI {ops : Array Oper} {o : Oper} {a : Act} {w : World} {K : Act → World → Prop} {Q : Exit → Act → World → Prop} {E : Prop}
    (hg : o.guard = none) (d x : Operand) (dT sT : TypeId) (hop : o.op = Op.call { callee := Callee.builtin Builtin.append, args := #[d, x], argTypes := #[dT, sT] })
    (v u : Value) (hd : a.eval d = v) (hx : a.eval x = u) {v' : Value} {w' : World} (hr : (Builtin.append_ #[dT, sT] o.type #[v, u]).run P w = .ok v' w') (hK : K (a.put o.dst v') w') :
    if Region.wanted o (yielded ops a.tmps) = true then Oper.wp P o a w K Q else E := by
  have hw : Region.wanted o (yielded ops a.tmps) = true := by simp [Region.wanted, hg]
  rw [if_pos hw]
  unfold Oper.wp
  simp [execOp, hop, resolve, invoke, builtin, hd, hx, hr, Result.andThen]
  exact hK
set_option maxHeartbeats 4000000 in
set_option maxRecDepth 1000000 in
theorem del_walk {z : Nat} {i0 : TypeInfo} {z0 : Value} {nm : String} (L : DelL P ρ z i0 z0 nm) (b off n c i j : Nat) (w : World) {cs : Array Value} {tb : TypeId} (hij : i < j) (hj : j ≤ n) (hnc : n ≤ c) (hn : n ≤ 70368744177664)
    (hb : w.heap[b]? = some (.cells cs tb (0, 0))) (hbs : off + c * z ≤ cs.size) (h1c : ∀ k u, cs[k]? = some u → off ≤ k → k < off + n * z → u.oneCell' = true) :
    Calls P (ρ.f 24) #[.slice (some ⟨b, off, none⟩) n c, .int .i64 i, .int .i64 j] w fun e w' => e = .returned (.slice (some ⟨b, off, none⟩) (n - (j - i)) c) ∧ Poked w b (over (over cs (off + i * z) ((cs.toList.drop (off + j * z)).take ((n - j) * z))) (off + (i + (n - j)) * z) (Builtin.zeroCells z0.cells (j - i)).toList) w' := by
  have t3 := L.t3; have t4 := L.t4; have t24 := L.t24
  have u3 := run_underlying L.t3; have u4 := run_underlying L.t4; have u24 := run_underlying L.t24
  have mixed := L.mixed
  have z9 : ∀ w, (Go.sizeOf (ρ.t 9)).run P w = .ok z w := fun w => by simp [Go.sizeOf, typeInfo, L.i9, L.hz]
  have v9 : ∀ w, (zeroValue (ρ.t 9)).run P w = .ok z0 w := fun w => by simp [zeroValue, typeInfo, L.i9, L.hz0]
  have hmul1 : j * z + (n - j) * z = n * z := by rw [← Nat.add_mul]; congr 1; omega
  have hmul2 : n * z ≤ c * z := Nat.mul_le_mul_right _ hnc
  have hmul3 : i * z + (n - j) * z = (i + (n - j)) * z := by rw [← Nat.add_mul]
  have hmul4 : (i + (n - j)) * z + (j - i) * z = n * z := by rw [← Nat.add_mul]; congr 1; omega
  have hX : ((cs.toList.drop (off + j * z)).take ((n - j) * z)).length = (n - j) * z := by simp; omega
  have hX1 : ∀ u ∈ ((cs.toList.drop (off + j * z)).take ((n - j) * z)), u.oneCell' = true := fun u hu => by
    obtain ⟨k, hk, rfl⟩ := List.mem_iff_getElem.1 hu
    rw [hX] at hk
    refine h1c (off + j * z + k) _ ?_ (by omega) (by omega)
    rw [List.getElem_take, List.getElem_drop]; simp
  obtain ⟨A, hA, hsrc⟩ : ∃ A : Addr, (if c = j then some (⟨b, off, none⟩ : Addr) else some ⟨b, off + j * z, none⟩) = some A ∧ Src P i0.size (ρ.t 24) (.slice (some A) (n - j) (c - j)) (n - j) ((cs.toList.drop (off + j * z)).take ((n - j) * z)) w.drew := by
    by_cases h : c = j
    · refine ⟨⟨b, off, none⟩, by simp [h], Src.ofSlice w.drew L.t24 _ _ _ _ (by rw [hX, L.hz]) (fun k u hu => ?_) hX1⟩
      have : n - j = 0 := by omega
      rw [this] at hu; simp at hu
    · refine ⟨⟨b, off + j * z, none⟩, by simp [h], Src.ofSlice w.drew L.t24 _ _ _ _ (by rw [hX, L.hz]) (fun k u hu => ?_) hX1⟩
      have hk := (List.getElem?_eq_some_iff.1 hu).1
      rw [hX] at hk
      rw [add_none, show w.drew.cell? ⟨b, off + j * z + k, none⟩ = w.cell? ⟨b, off + j * z + k, none⟩ from rfl, cell_block hb]
      rw [drop_take_get hk] at hu; exact hu
  obtain ⟨W1, e1, e2, e3⟩ := run_append_in (P := P) (w := w.drew) (t := ρ.t 24) (u := ρ.t 24) (ty := ρ.t 24) (e := ρ.t 9) (i := i0) L.t24 L.i9 (b := b) (o := off) (sLen := i) (sCap := c) hsrc (by omega) (cur := cs) (t0 := tb) hb (by rw [hX, L.hz]; omega)
  rw [L.hz] at e2 e3
  have hs1 : (over cs (off + i * z) ((cs.toList.drop (off + j * z)).take ((n - j) * z))).size = cs.size := over_size (by rw [hX]; omega)
  obtain ⟨W2, f1, f2, f3⟩ := run_clear_z (P := P) (w := W1) (b := b) (o := off + (i + (n - j)) * z) (n := n - (i + (n - j))) L.t24 v9 L.hzc L.h1 (by omega) e3 (by rw [hs1, show n - (i + (n - j)) = j - i by omega]; omega)
  have hcl : ∀ ty, (Builtin.clear_ #[ρ.t 24] ty #[.slice (some ⟨b, off + (i + (n - j)) * z, none⟩) (n - (i + (n - j))) (c - (i + (n - j)))]).run P W1 = .ok (.tuple #[]) W2 := fun ty => f1 ty _
  have hij2 : ¬ ((i : Int) = (j : Int)) := by omega
  have hic : i ≤ c := by omega
  have hjc : j ≤ c := by omega
  go_enter L.f24, Body2.n24_ntmps ρ
  go_wp2_with fail
  go_region_law_o (refine step_append_runI rfl (.tmp 22) (.tmp 25) (ρ.t 24) (ρ.t 24) rfl (.slice (some ⟨b, off, none⟩) i c) (.slice (some A) (n - j) (c - j)) (by simp [Act.eval, Act.put]) (by first | (simp [Act.eval, Act.put]; exact hA) | simp [Act.eval, Act.put]) e1 ?_)
  go_wp2
  go_ret
  rw [show n - (i + (n - j)) = j - i by omega] at f2
  exact ⟨by rw [show n - (j - i) = i + (n - j) by omega]; rfl, f2.os.trans e2.os, f2.tape.trans e2.tape, f2.output.trans e2.output, f2.size.trans e2.size, fun k hk => (f2.other k hk).trans (e2.other k hk), f2.here⟩
set_option maxHeartbeats 4000000 in
set_option maxRecDepth 1000000 in
theorem del_none {z : Nat} {i0 : TypeInfo} {z0 : Value} {nm : String} (L : DelL P ρ z i0 z0 nm) (a : Option Addr) (n c i : Nat) (w : World) (hi : i ≤ n) (hnc : n ≤ c) (hn : n ≤ 70368744177664) (hnil : a = none → c = 0) :
    Calls P (ρ.f 24) #[.slice a n c, .int .i64 i, .int .i64 i] w fun e w' => e = .returned (.slice a n c) ∧ w' = w := by
  have t3 := L.t3; have t4 := L.t4; have t24 := L.t24
  have u3 := run_underlying L.t3; have u4 := run_underlying L.t4; have u24 := run_underlying L.t24
  have mixed := L.mixed
  have z9 : ∀ w, (Go.sizeOf (ρ.t 9)).run P w = .ok z w := fun w => by simp [Go.sizeOf, typeInfo, L.i9, L.hz]
  have hic : i ≤ c := by omega
  go_enter L.f24, Body2.n24_ntmps ρ
  cases a with
  | none =>
    have h0 := hnil rfl
    subst h0
    obtain rfl : n = 0 := by omega
    obtain rfl : i = 0 := by omega
    go_wp2
    all_goals (go_ret; exact ⟨rfl, rfl⟩)
  | some a =>
    obtain ⟨ab, ao, asp⟩ := a
    go_wp2
    all_goals (go_ret; exact ⟨rfl, rfl⟩)
end Go.SX
