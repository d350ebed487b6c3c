import Derived.Shelf.Sort.Plain
import Derived.Lib.SlicesCompact
import Derived.Test.YtmdmbolhbjfcjaaIn2
import Derived.Test.YtmdmbolhbjfcjaaJn
set_option linter.unusedVariables false
set_option linter.unusedSimpArgs false
set_option linter.unusedSectionVars false
set_option linter.unusedVariables false
set_option linter.unusedSimpArgs false
namespace Go.SX
open Go.Shelf Go.Proofs Go.RowKit Go.Lib Go.Nt
variable {P : Program} {w w' : World} {ok ok' okc : Nat → Prop}
/-- a block's strings were turned; there may be more blocks -/
structure Turned (w : World) (blk : Nat) (w' : World) (cs' : Array Value) (t : TypeId) : Prop where
  os : w'.os = w.os
  tape : w'.tape = w.tape
  output : w'.output = w.output
  size : w.heap.size ≤ w'.heap.size
  other : ∀ k, k < w.heap.size → k ≠ blk → w'.heap[k]? = w.heap[k]?
  here : w'.heap[blk]? = some (.cells cs' t (0, 0))
theorem turned_put {blk off n : Nat} {cs : Array Value} {t : TypeId} {d : Array Str} {os : Array Obj} (h : w.heap[blk]? = some (.cells cs t (0, 0))) : Turned w blk (Sort.grow (Sort.putRow encStr (Sort.ahead w n) blk off d) os) (Sort.putCells encStr off d cs) t := by
  have hlt : blk < w.heap.size := (Array.getElem?_eq_some_iff.1 h).1
  refine ⟨rfl, rfl, rfl, ?_, fun k hk hne => ?_, ?_⟩
  · simp [Sort.grow, Sort.putRow, Sort.mapBlock, Sort.ahead]
  · show ((w.heap.modify blk _) ++ os)[k]? = _
    rw [Array.getElem?_append_left (by simpa using hk), Array.getElem?_modify, if_neg (fun e => hne e.symm)]
  · show ((w.heap.modify blk _) ++ os)[blk]? = _
    rw [Array.getElem?_append_left (by simpa using hlt), Array.getElem?_modify, if_pos rfl, h]; rfl
theorem putCells_size {off : Nat} {d : Array Str} {cs : Array Value} : (Sort.putCells encStr off d cs).size = cs.size := by simp [Sort.putCells]
theorem putCells_get {off j : Nat} {d : Array Str} {cs : Array Value} (hj : j < d.size) (hs : off + d.size ≤ cs.size) : (Sort.putCells encStr off d cs)[off + j]? = some (.string (bs d[j])) := by
  have hlt : off + j < (Sort.putCells encStr off d cs).size := by rw [putCells_size]; omega
  rw [Array.getElem?_eq_getElem hlt]
  simp only [Sort.putCells, Array.getElem_mapIdx]
  rw [if_pos ⟨by omega, by omega⟩, show off + j - off = j by omega, getElem!_pos d j hj]
theorem Turned.keep {blk : Nat} {cs' : Array Value} {t : TypeId} (T : Turned w blk w' cs' t) (h : ¬ okc blk) : Keep w w' okc okc := fun k h1 h2 => ⟨T.other k h2 (fun e => h (e ▸ h1)), h1⟩
theorem Turned.fr {blk : Nat} {cs' : Array Value} {t : TypeId} (T : Turned w blk w' cs' t) {L : Nat → Prop} (h : L blk) : Fr w L w' := ⟨T.os, T.tape, T.output, T.size, fun k h1 h2 => T.other k h1 (fun e => h2 (e ▸ h))⟩
/-- a row of strings -/
theorem own_strs {r : RV} {xs : List ByteArray} (h : OwnAt w okc r (xs.map fun b => [C.s (.string b)])) (hx : xs ≠ []) : ∃ blk off t cs, r.κ = some blk ∧ r.a = some ⟨blk, off, none⟩ ∧ r.sz = 1 ∧ xs.length = r.n ∧ w.heap[blk]? = some (.cells cs t (0, 0)) ∧ off + r.cap ≤ cs.size ∧ Sort.Holds encStr w blk off (xs.map (·.data.toList)).toArray := by
  obtain ⟨a1, a2, a3, a4, a5⟩ := h
  rw [List.length_map] at a1
  obtain ⟨x, l, rfl⟩ := List.exists_cons_of_ne_nil hx
  have hsz : r.sz = 1 := (a3 [C.s (.string x)] (by simp)).symm
  cases hκ : r.κ with
  | none => rw [hκ] at a5; simp only at a5; simp at a1; omega
  | some blk =>
    rw [hκ] at a5
    obtain ⟨off, t, cs, h1, h2, h3, h4⟩ := a5
    rw [hsz, Nat.mul_one] at h3
    refine ⟨blk, off, t, cs, rfl, h1, hsz, a1, h2, h3, fun j hj => ?_⟩
    simp only [List.size_toArray, List.length_map] at hj
    obtain ⟨u, h5, h6⟩ := h4 j 0 [C.s (.string (x :: l)[j])] (C.s (.string (x :: l)[j])) (by rw [List.getElem?_map, List.getElem?_eq_getElem hj]; rfl) rfl
    cases h6
    rw [hsz, Nat.mul_one, Nat.add_zero] at h5
    refine ⟨?_, frozen_block h2⟩
    rw [cell_block h2, h5]
    rw [getElem!_pos _ j (by simpa using hj)]
    have e : ((x :: l).map (·.data.toList)).toArray[j]'(by simpa using hj) = (x :: l)[j].data.toList := by simp only [List.getElem_toArray, List.getElem_map]
    rw [e]
def srt (l : List Str) : List Str := l.mergeSort fun x y => decide (x ≤ y)
def sortF : List A → Option (A × List (Option Cs))
  | [.c (.r l) (some s)] => (strs l).bind fun xs => if xs.length ≤ 70368744177664 then some (.tu [], [some [(.r ((srt (xs.map (·.data.toList))).map eS), some s)]]) else none
  | _ => none
theorem own_put {ys : List Str} {blk off cap : Nat} {t : TypeId} {cs : Array Value} (T : Turned w blk w' (Sort.putCells encStr off ys.toArray cs) t) (hs : off + cap ≤ cs.size) {zs : List Str} {n : Nat} (hn : zs.length = n) (hc : n ≤ cap) (hy : ys.length ≤ cap) (hz : ∀ (j : Nat) (y : Str), zs[j]? = some y → ys[j]? = some y) :
    OwnAt w' okc ⟨some ⟨blk, off, none⟩, n, cap, 1, some blk⟩ (zs.map eS) := by
  refine ⟨by simpa using hn, hc, fun el hel => ?_, fun h => by simp at h, off, t, _, rfl, T.here, by rw [putCells_size]; simpa using hs, fun i j el c hi hj => ?_⟩
  · obtain ⟨y, _, rfl⟩ := List.mem_map.1 hel; rfl
  · rw [List.getElem?_map] at hi
    obtain ⟨y, h1, rfl⟩ := Option.map_eq_some_iff.1 hi
    have h2 := hz i y h1
    have hlt := (List.getElem?_eq_some_iff.1 h2).1
    cases j with
    | succ j => simp [eS] at hj
    | zero =>
      simp only [eS, List.getElem?_cons_zero, Option.some.injEq] at hj
      subst hj
      refine ⟨.string (bs y), ?_, .s _ rfl⟩
      show (Sort.putCells encStr off ys.toArray cs)[off + (i * 1 + 0)]? = _
      rw [Nat.mul_one, Nat.add_zero, putCells_get (by simpa using hlt) (by simp; omega)]
      have : ys[i] = y := by rw [List.getElem?_eq_getElem hlt] at h2; simpa using h2
      simp [this]
theorem sort_ok {f : FuncId} {fn : Func} (hfn : P.funcs[f]? = some fn) (hnm : (fn.name == "runtime.NumGoroutine") = false) (hb : fn.body.isNone = false)
    (h0 : ∀ (p : Option Addr) (cap : Nat) (w : World), Calls P f #[.slice p 0 cap] w fun e w' => e = .returned (.tuple #[]) ∧ w' = w)
    (hS : ∀ (blk off cap : Nat) (ss : List (List UInt8)) (w : World), Sort.Holds encStr w blk off ss.toArray → blk < w.heap.size → ss.length < 4611686018427387904 → Calls P f #[.slice (some ⟨blk, off, none⟩) ss.length cap] w fun e w' => e = .returned (.tuple #[]) ∧ ∃ n os, w' = Sort.grow (Sort.putRow encStr (Sort.ahead w n) blk off (ss.mergeSort fun x y => decide (x ≤ y)).toArray) os) : FOk P f sortF := by
  intro xs r back h w vs hs bs okc hA hnd hno
  unfold sortF at h
  split at h
  case h_2 => cases h
  rename_i l s
  obtain ⟨xs, hx, h⟩ := Option.bind_eq_some_iff.1 h
  split at h
  case isFalse => cases h
  rename_i hlen
  simp only [Option.some.injEq, Prod.mk.injEq] at h
  obtain ⟨rfl, rfl⟩ := h
  obtain rfl := strs_spec hx
  cases hA with
  | own hO hA =>
  cases hA
  rename_i r
  refine .inl ⟨fn, hfn, hnm, hb, ?_⟩
  by_cases he : xs = []
  · subst he
    have hn : r.n = 0 := by have := hO.1; simpa using this.symm
    show Calls P f #[.slice r.a r.n r.cap] w _
    rw [hn]
    refine (h0 _ _ _).mono fun e w' he => ?_
    obtain ⟨rfl, rfl⟩ := he
    have hO2 : OwnAt w' okc r ((srt (([] : List ByteArray).map (·.data.toList))).map eS) := by simpa [srt] using hO
    exact ⟨okc, [], r.κ.toList ++ [], ⟨rfl, rfl, rfl, Nat.le_refl _, fun _ _ _ => rfl⟩, fun k h _ => ⟨rfl, h⟩, fun k h => .inl h, ⟨[], [], rfl, .nil⟩, .row hO2 .nil, by simpa using hnd, fun k hk => ⟨hno k hk, .inl hk⟩⟩
  · obtain ⟨blk, off, t, cs, k1, k2, k3, k4, k5, k6, k7⟩ := own_strs hO he
    have hblk : blk < w.heap.size := (Array.getElem?_eq_some_iff.1 k5).1
    show Calls P f #[.slice r.a r.n r.cap] w _
    have hm : blk ∈ r.κ.toList ++ [] := by rw [k1]; simp
    have := hS blk off r.cap (xs.map (·.data.toList)) w k7 hblk (by rw [List.length_map]; omega)
    rw [List.length_map, k4] at this
    rw [k2]
    refine this.mono fun e w' he => ?_
    obtain ⟨rfl, n, os, rfl⟩ := he
    have T := turned_put (n := n) (os := os) (off := off) (d := (srt (xs.map (·.data.toList))).toArray) k5
    have hsl : (srt (xs.map (·.data.toList))).length = r.n := by unfold srt; rw [List.length_mergeSort, List.length_map, k4]
    have hO' := own_put (okc := okc) T k6 hsl hO.2.1 (by rw [hsl]; exact hO.2.1) (fun j y h => h)
    have er : (⟨some ⟨blk, off, none⟩, r.n, r.cap, 1, some blk⟩ : RV) = r := by cases r; simp_all
    rw [er] at hO'
    exact ⟨okc, [], r.κ.toList ++ [], T.fr hm, T.keep (hno _ hm), fun k h => .inl h, ⟨[], [], rfl, .nil⟩, .row hO' .nil, by simpa using hnd, fun k hk => ⟨hno k hk, .inl hk⟩⟩
def compactF : List A → Option (A × List (Option Cs))
  | [.c (.r l) (some s)] => (strs l).bind fun xs => if xs.length ≤ 70368744177664 then some (.c (.r ((Lib.compact (List.map (fun x : ByteArray => x.data.toList) xs)).map eS)) (some s), [none]) else none
  | _ => none
theorem compact_len (l : List Str) : (Lib.compact l).length ≤ l.length := by
  unfold Lib.compact Lib.compactUpTo
  rw [List.length_map]
  exact Nat.le_trans (List.length_filter_le _ _) (by simp)
theorem compact_ok {f : FuncId} {fn : Func} (hfn : P.funcs[f]? = some fn) (hnm : (fn.name == "runtime.NumGoroutine") = false) (hb : fn.body.isNone = false)
    (h0 : ∀ (p : Option Addr) (cap : Nat) (w : World), Calls P f #[.slice p 0 cap] w fun e w' => e = .returned (.slice p 0 cap) ∧ w' = w)
    (hS : ∀ (blk off cap : Nat) (zs : List (List UInt8)) (w : World), Sort.Holds encStr w blk off zs.toArray → zs.length ≤ 9223372036854775807 → zs.length ≤ cap → Calls P f #[.slice (some ⟨blk, off, none⟩) zs.length cap] w fun e w' => e = .returned (.slice (some ⟨blk, off, none⟩) (Lib.compact zs).length cap) ∧ ∃ q, w' = Sort.putRow encStr (Sort.ahead w q) blk off (Lib.compact zs ++ List.replicate (zs.length - (Lib.compact zs).length) []).toArray) : FOk P f compactF := by
  intro xs r back h w vs hs bs okc hA hnd hno
  unfold compactF at h
  split at h
  case h_2 => cases h
  rename_i l s
  obtain ⟨xs, hx, h⟩ := Option.bind_eq_some_iff.1 h
  split at h
  case isFalse => cases h
  rename_i hlen
  simp only [Option.some.injEq, Prod.mk.injEq] at h
  obtain ⟨rfl, rfl⟩ := h
  obtain rfl := strs_spec hx
  cases hA with
  | own hO hA =>
  cases hA
  rename_i r
  refine .inl ⟨fn, hfn, hnm, hb, ?_⟩
  by_cases he : xs = []
  · subst he
    have hn : r.n = 0 := by have := hO.1; simpa using this.symm
    show Calls P f #[.slice r.a r.n r.cap] w _
    rw [hn]
    refine (h0 _ _ _).mono fun e w' he => ?_
    obtain ⟨rfl, rfl⟩ := he
    have hO2 : OwnAt w' okc r ((Lib.compact (([] : List ByteArray).map (·.data.toList))).map eS) := hO
    refine ⟨okc, r.κ.toList ++ [], [], ⟨rfl, rfl, rfl, Nat.le_refl _, fun _ _ _ => rfl⟩, fun k h _ => ⟨rfl, h⟩, fun k h => .inl h, ⟨[.r r], ?_⟩, .gone .nil, by simpa using hnd, fun k hk => ⟨hno k (by simpa using hk), .inl (by simpa using hk)⟩⟩
    have := ArgsRel.own (w := w') (ok := okc) hO2 .nil
    rw [hn] at this
    exact this
  · obtain ⟨blk, off, t, cs, k1, k2, k3, k4, k5, k6, k7⟩ := own_strs hO he
    have hblk : blk < w.heap.size := (Array.getElem?_eq_some_iff.1 k5).1
    show Calls P f #[.slice r.a r.n r.cap] w _
    have hm : blk ∈ r.κ.toList ++ [] := by rw [k1]; simp
    have := hS blk off r.cap (List.map (fun x : ByteArray => x.data.toList) xs) w k7 (by rw [List.length_map]; omega) (by rw [List.length_map, k4]; exact hO.2.1)
    rw [List.length_map, k4] at this
    rw [k2]
    refine this.mono fun e w' he => ?_
    obtain ⟨rfl, q, hw⟩ := he
    have hcl : (Lib.compact (List.map (fun x : ByteArray => x.data.toList) xs)).length ≤ r.n := by have h9 := compact_len (List.map (fun x : ByteArray => x.data.toList) xs); rw [List.length_map, k4] at h9; exact h9
    have T := turned_put (n := q) (os := #[]) (off := off) (d := (Lib.compact (List.map (fun x : ByteArray => x.data.toList) xs) ++ List.replicate (r.n - (Lib.compact (List.map (fun x : ByteArray => x.data.toList) xs)).length) []).toArray) k5
    have hg : Sort.grow (Sort.putRow encStr (Sort.ahead w q) blk off (Lib.compact (List.map (fun x : ByteArray => x.data.toList) xs) ++ List.replicate (r.n - (Lib.compact (List.map (fun x : ByteArray => x.data.toList) xs)).length) []).toArray) #[] = w' := by
      rw [hw]; simp only [Sort.grow, Array.append_empty]
    rw [hg] at T
    have hO' := own_put (okc := okc) T k6 (zs := Lib.compact (List.map (fun x : ByteArray => x.data.toList) xs)) rfl (Nat.le_trans hcl hO.2.1) (by simp; have := hO.2.1; omega) (fun j y h => by rw [List.getElem?_append_left (List.getElem?_eq_some_iff.1 h).1]; exact h)
    refine ⟨okc, [blk], [], T.fr hm, T.keep (hno _ hm), fun k h => .inl h, ⟨[.r ⟨some ⟨blk, off, none⟩, (Lib.compact (List.map (fun x : ByteArray => x.data.toList) xs)).length, r.cap, 1, some blk⟩], ?_⟩, .gone .nil, by simp, fun k hk => ?_⟩
    · have := ArgsRel.own (w := w') (ok := okc) hO' .nil
      rw [← k3] at this ⊢
      exact this
    · have : k = blk := by simpa using hk
      subst this
      exact ⟨hno _ hm, .inl hm⟩
theorem bls_bs (l : List Str) : (l.map bs).map (·.data.toList) = l := by
  rw [List.map_map]
  conv => rhs; rw [← List.map_id l]
  exact List.map_congr_left fun a _ => by simp [bs]
theorem sortF_of {s : Nat} {l r : List Str} (h : Nt.sort l = some r) : sortF [.c (.r (l.map eS)) (some s)] = some (.tu [], [some [(.r (r.map eS), some s)]]) := by
  unfold Nt.sort at h
  split at h
  · obtain rfl := Option.some.inj h
    simp only [sortF, strs_map, Option.bind_some]
    rw [if_pos (by simpa using ‹_›), bls_bs]; rfl
  · cases h
theorem uniqs_compact (l : List Str) : Lib.compact l = Nt.uniqs l := by
  have e : Lib.keeps l.toArray = fun j => decide (j = 0 ∨ l[j]! ≠ l[j - 1]!) := by
    funext j; simp only [Lib.keeps, List.getElem!_toArray]
  unfold Lib.compact Lib.compactUpTo Nt.uniqs
  rw [e]; simp only [List.getElem!_toArray]
theorem compactF_of {s : Nat} {l r : List Str} (h : Nt.uniq l = some r) : compactF [.c (.r (l.map eS)) (some s)] = some (.c (.r (r.map eS)) (some s), [none]) := by
  unfold Nt.uniq at h
  split at h
  · obtain rfl := Option.some.inj h
    simp only [compactF, strs_map, Option.bind_some]
    rw [if_pos (by simpa using ‹_›), bls_bs, uniqs_compact]
  · cases h
end Go.SX
