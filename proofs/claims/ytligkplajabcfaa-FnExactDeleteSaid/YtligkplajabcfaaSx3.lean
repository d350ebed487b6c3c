import Derived.Test.YtligkplajabcfaaSx2
import Derived.Laws.Tables
set_option linter.unusedVariables false
set_option linter.unusedSimpArgs false
set_option linter.unusedSectionVars false
namespace Go.SX
variable {P : Program} {w w' : World}

theorem run_pureRun {α : Type} : ∀ (s : Sem α) (a : α), pureRun P s = some a → s.run P w = .ok a w
  | .pure a, b, h => by simp only [pureRun, Option.some.injEq] at h; subst h; rfl
  | .program k, b, h => by simp only [pureRun] at h; simp only [Sem.run]; exact run_pureRun (k P) b h
  | .load .., _, h | .store .., _, h | .new .., _, h | .shape .., _, h | .freeze .., _, h | .frozen .., _, h | .getObj .., _, h | .setObj .., _, h | .choose .., _, h | .sys .., _, h | .mark .., _, h | .halt _, _, h => by simp [pureRun] at h

theorem run_und {t : TypeId} {d : TypeDesc} (h : P.underlying t = some d) : (underlying t).run P w = .ok d w := run_underlying h w
theorem run_info {t : TypeId} {i : TypeInfo} (h : P.info? t = some i) : (typeInfo t).run P w = .ok i w := by simp [typeInfo, h]
theorem run_size {t : TypeId} {n : Nat} (h : szOf P t = some n) : (sizeOf t).run P w = .ok n w := by
  unfold szOf at h
  cases hi : P.info? t with
  | none => simp [hi] at h
  | some i => simp [hi] at h; simp [sizeOf, run_info hi, h]
theorem run_zero {t : TypeId} {i : TypeInfo} {z : Value} (h : P.info? t = some i) (hz : i.zero = some z) : (zeroValue t).run P w = .ok z w := by simp [zeroValue, run_info h, hz]
theorem run_agg {t : TypeId} {b : Bool} (h : aggQ P t = some b) : (isAgg t).run P w = .ok b w := by
  unfold aggQ at h
  cases hd : P.underlying t with
  | none => simp [hd] at h
  | some d => simp [hd] at h; cases d <;> simp_all [isAgg, run_und hd]
theorem und_elOf {t e : TypeId} (h : elOf P t = some e) : P.underlying t = some (.slice e) := by
  unfold elOf at h
  cases hd : P.underlying t with
  | none => simp [hd] at h
  | some d => simp [hd] at h; cases d <;> simp_all
theorem und_fld {t : TypeId} {f : Nat} {fd : Field} (h : fldOf P t f = some fd) : ∃ fs, P.underlying t = some (.struct fs) ∧ fs[f]? = some fd := by
  unfold fldOf at h
  cases hd : P.underlying t with
  | none => simp [hd] at h
  | some d => simp [hd] at h; cases d <;> simp_all

theorem run_loadCellsFrom (a : Addr) : ∀ (vs : List Value) (i : Nat) (acc : Array Value), (∀ j u, vs[j]? = some u → w.cell? (a.add (i + j)) = some u) → (loadCellsFrom a i vs.length acc).run P w = .ok (acc ++ vs.toArray) w
  | [], i, acc, _ => by simp [loadCellsFrom]
  | v :: vs, i, acc, h => by
    have h0 := h 0 v rfl
    simp only [Nat.add_zero] at h0
    simp only [List.length_cons, loadCellsFrom, Sem.run_bind, run_load, h0, Result.andThen_ok]
    rw [run_loadCellsFrom a vs (i + 1) (acc.push v) (fun j u hj => by have := h (j + 1) u (by simpa using hj); rw [show i + (j + 1) = i + 1 + j by omega] at this; exact this)]
    simp
theorem run_loadCells (a : Addr) (vs : List Value) (h : ∀ j u, vs[j]? = some u → w.cell? (a.add j) = some u) : (loadCells a vs.length).run P w = .ok vs.toArray w := by
  unfold loadCells
  rw [run_loadCellsFrom a vs 0 #[] (fun j u hj => by rw [Nat.zero_add]; exact h j u hj)]; simp
theorem run_loadVar {t : TypeId} {b : Bool} {n : Nat} (a : Addr) (vs : List Value) (hb : aggQ P t = some b) (hn : szOf P t = some n) (h : ∀ j u, vs[j]? = some u → w.cell? (a.add j) = some u) (hl : b = true → n ≤ vs.length) (hh : b = false → vs ≠ []) :
    (loadVar t a).run P w = .ok (if b then .agg (vs.take n).toArray else vs.headD undef) w := by
  unfold loadVar
  cases b with
  | true =>
    have hv : (vs.take n).length = n := by have := hl rfl; simp; omega
    simp only [Sem.run_bind, run_agg hb, Result.andThen_ok, if_true, Sem.run_pure, run_size hn]
    rw [show (loadCells a n).run P w = .ok (vs.take n).toArray w from by
      have h2 := run_loadCells (P := P) (w := w) a (vs.take n) (fun j u hj => h j u (by rw [List.getElem?_take] at hj; split at hj <;> simp_all))
      rw [hv] at h2; exact h2]
    rfl
  | false =>
    cases vs with
    | nil => exact absurd rfl (hh rfl)
    | cons v vs =>
      have h0 := h 0 v rfl
      rw [show a.add 0 = a from by simp [Addr.add]] at h0
      simp only [Sem.run_bind, run_agg hb, Result.andThen_ok, Bool.false_eq_true, if_false, run_load, h0]
      rfl

/-- block k alone is turned -/
structure Poked (w : World) (k : Nat) (cs : Array Value) (w' : World) : Prop where
  os : w'.os = w.os
  tape : w'.tape = w.tape
  output : w'.output = w.output
  size : w'.heap.size = w.heap.size
  other : ∀ j, j ≠ k → w'.heap[j]? = w.heap[j]?
  here : ∃ t, w'.heap[k]? = some (.cells cs t (0, 0))
theorem setCell_block {k i : Nat} {cs : Array Value} {t : TypeId} {v : Value} (h : w.heap[k]? = some (.cells cs t (0, 0))) : (w.setCell ⟨k, i, none⟩ v).heap[k]? = some (.cells (cs.setIfInBounds i v) t (0, 0)) := by
  simp [World.setCell, Array.getElem?_modify, h]
theorem setCell_other {k i j : Nat} {v : Value} (h : j ≠ k) : (w.setCell ⟨k, i, none⟩ v).heap[j]? = w.heap[j]? := by
  simp only [World.setCell, Array.getElem?_modify]; rw [if_neg (by omega)]
theorem cell_block {k i : Nat} {cs : Array Value} {t : TypeId} {q : Nat × Nat} (h : w.heap[k]? = some (.cells cs t q)) : w.cell? ⟨k, i, none⟩ = cs[i]? := by simp [World.cell?, h]
theorem frozen_block {k i : Nat} {cs : Array Value} {t : TypeId} (h : w.heap[k]? = some (.cells cs t (0, 0))) : w.frozen? ⟨k, i, none⟩ = false := by simp [World.frozen?, h]
/-- cells laid over others -/
def over (cs : Array Value) (o : Nat) (vs : List Value) : Array Value := (cs.toList.take o ++ vs ++ cs.toList.drop (o + vs.length)).toArray
theorem add_none (k o n : Nat) : (⟨k, o, none⟩ : Addr).add n = ⟨k, o + n, none⟩ := by unfold Addr.add; split <;> simp_all
theorem run_storeCells {k : Nat} {t : TypeId} : ∀ (vs : List Value) (o i : Nat) (cs : Array Value) (w : World), w.heap[k]? = some (.cells cs t (0, 0)) → o + i + vs.length ≤ cs.size → (∀ v ∈ vs, v.oneCell' = true) →
    ∃ w', (storeCells ⟨k, o, none⟩ vs i).run P w = .ok () w' ∧ Poked w k (over cs (o + i) vs) w' ∧ w'.heap[k]? = some (.cells (over cs (o + i) vs) t (0, 0))
  | [], o, i, cs, w, h, _, _ => ⟨w, rfl, ⟨rfl, rfl, rfl, rfl, fun _ _ => rfl, ⟨t, by simpa [over] using h⟩⟩, by simpa [over] using h⟩
  | v :: vs, o, i, cs, w, h, hs, h1 => by
    have hlt : o + i < cs.size := by simp at hs; omega
    have hc : w.cell? ⟨k, o + i, none⟩ = some cs[o + i] := by rw [cell_block h]; simp [hlt]
    have hv := h1 v (by simp)
    obtain ⟨w', hr, hp, hk⟩ := run_storeCells vs o (i + 1) (cs.setIfInBounds (o + i) v) (w.setCell ⟨k, o + i, none⟩ v) (setCell_block h) (by simp at hs ⊢; omega) (fun u hu => h1 u (by simp [hu]))
    have e : over (cs.setIfInBounds (o + i) v) (o + (i + 1)) vs = over cs (o + i) (v :: vs) := by
      unfold over
      congr 1
      have e1 : (cs.setIfInBounds (o + i) v).toList = cs.toList.set (o + i) v := by simp
      rw [e1]
      have hl : o + i < cs.toList.length := by simpa using hlt
      have e2 : (cs.toList.set (o + i) v).take (o + (i + 1)) = cs.toList.take (o + i) ++ [v] := by
        rw [show o + (i + 1) = (o + i) + 1 by omega, List.take_add_one, List.take_set_of_le (by omega), List.getElem?_set_self (by omega)]; simp
      have e3 : (cs.toList.set (o + i) v).drop (o + (i + 1) + vs.length) = cs.toList.drop (o + i + (v :: vs).length) := by
        rw [List.drop_set_of_lt (by omega), show o + (i + 1) + vs.length = o + i + (v :: vs).length by simp; omega]
      rw [e2, e3]; simp
    refine ⟨w', ?_, ?_, by rw [← e]; exact hk⟩
    · simp only [storeCells, Sem.run_bind, add_none]
      rw [run_store P w _ v _ hv]
      simp only [hc, frozen_block h, Bool.false_eq_true, if_false, Result.andThen_ok]
      exact hr
    · rw [← e]
      refine ⟨hp.os, hp.tape, hp.output, by rw [hp.size]; simp [World.setCell], fun j hj => ?_, hp.here⟩
      rw [hp.other j hj, setCell_other hj]
theorem run_storeVar {k o n : Nat} {t ty : TypeId} {v : Value} {cs : Array Value} (h : w.heap[k]? = some (.cells cs t (0, 0))) (hn : szOf P ty = some n) (hv : v.cells.size = n) (hs : o + n ≤ cs.size) (h1 : ∀ u ∈ v.cells.toList, u.oneCell' = true) :
    ∃ w', (storeVar ty ⟨k, o, none⟩ v).run P w = .ok () w' ∧ Poked w k (over cs o v.cells.toList) w' ∧ w'.heap[k]? = some (.cells (over cs o v.cells.toList) t (0, 0)) := by
  obtain ⟨w', h2, h3, h4⟩ := run_storeCells (P := P) v.cells.toList o 0 cs w h (by simp [hv]; omega) h1
  refine ⟨w', ?_, h3, h4⟩
  unfold storeVar
  simp only [Sem.run_bind, run_size hn, Result.andThen_ok, hv]
  simp only [ne_eq, not_true_eq_false, if_false, Sem.run_bind, Sem.run_pure, Result.andThen_ok]
  exact h2
end Go.SX
