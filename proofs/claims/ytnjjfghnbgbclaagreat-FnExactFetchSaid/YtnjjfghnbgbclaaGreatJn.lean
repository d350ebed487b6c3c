import Derived.Test.YtnjjfghnbgbclaaGreatCl
import Derived.Test.YtnjjfghnbgbclaaGreatSx33
import Derived.Below
import Derived.Lib.Join
import Derived.Lib.Repeat
set_option linter.unusedVariables false
set_option linter.unusedSimpArgs false
set_option linter.unusedSectionVars false
namespace Go.SX
open Go.Nt Go.RowKit
variable {P : Program}
/-! strings.Join, strings.Repeat: the shelf's contracts as functions of cells -/
def strs : List (List C) → Option (List ByteArray)
  | [] => some []
  | [.s (.string b)] :: l => (strs l).map (b :: ·)
  | _ => none
def joinF : List A → Option (A × List (Option Cs))
  | [.c (.r l) none, .c (.s (.string sep)) none] => (strs l).bind fun xs => if xs.length ≤ 140737488355328 ∧ (Lib.join (xs.map (·.data.toList)) sep.data.toList).length ≤ 140737488355328 then some (.c (.s (.string ⟨(Lib.join (xs.map (·.data.toList)) sep.data.toList).toArray⟩)) none, []) else none
  | _ => none
def repeatF : List A → Option (A × List (Option Cs))
  | [.c (.s (.string s)) none, .c (.s (.int .i64 n)) none] => if 0 ≤ n ∧ n ≤ 9223372036854775807 ∧ s.size * n.toNat ≤ 140737488355328 then some (.c (.s (.string ⟨(Lib.repeatL s.data.toList n.toNat).toArray⟩)) none, []) else none
  | _ => none
theorem strs_spec : ∀ {l : List (List C)} {xs : List ByteArray}, strs l = some xs → l = xs.map fun b => [C.s (.string b)]
  | [], xs, h => by simp only [strs, Option.some.injEq] at h; subst h; rfl
  | el :: l, xs, h => by
    unfold strs at h
    split at h
    · rename_i e; cases e
    · rename_i b l' e
      simp only [List.cons.injEq] at e
      obtain ⟨rfl, rfl⟩ := e
      obtain ⟨ys, h1, rfl⟩ := Option.map_eq_some_iff.1 h
      rw [strs_spec h1]; rfl
    · cases h
theorem strs_map : ∀ l : List Str, strs (l.map eS) = some (l.map bs)
  | [] => rfl
  | s :: l => by simp only [List.map_cons, eS, cS, strs, strs_map l, Option.map_some]
theorem ends_below {w w' : World} {okc : Nat → Prop} {v : Value} (hv : v.oneCell' = true) (h : Below w.heap.size w w') : Ends w [] [] okc (.c (.s v) none) [] v w' :=
  ⟨okc, [], [], ⟨h.os, h.tape, h.output, h.size, fun k hk _ => h.block k hk⟩, fun k h1 h2 => ⟨h.block k h2, h1⟩, fun k h => .inl h, ⟨[], .sh (.s v hv) .nil⟩, .nil, by simp, by simp⟩
theorem cell_spot {w : World} {a : Addr} {v : Value} (h : w.cell? a = some v) : a.spot = none ∧ a.block < w.heap.size := by
  unfold World.cell? at h
  split at h
  · rename_i c x y e
    split at h
    · cases h
    · rename_i hs
      refine ⟨by simpa using hs, ?_⟩
      exact (Array.getElem?_eq_some_iff.1 e).1
  · cases h
theorem join_ok {f : FuncId} {fn : Func} (hfn : P.funcs[f]? = some fn) (hnm : (fn.name == "runtime.NumGoroutine") = false) (hb : fn.body.isNone = false)
    (h0 : ∀ (a : Option Addr) (c : Nat) (sep : ByteArray) (w : World), Calls P f #[.slice a 0 c, .string sep] w fun e w' => e = .returned (.string ⟨#[]⟩) ∧ w' = w)
    (hJ : ∀ (bk o c : Nat) (xs : List ByteArray) (sep : ByteArray) (w : World), (∀ (j : Nat) x, xs[j]? = some x → w.cell? ⟨bk, o + j, none⟩ = some (.string x)) → bk < w.heap.size → xs.length ≤ 140737488355328 → xs.length ≤ c → (Lib.join (xs.map (·.data.toList)) sep.data.toList).length ≤ 140737488355328 →
      Calls P f #[.slice (some ⟨bk, o, none⟩) xs.length c, .string sep] w fun e w' => e = .returned (.string ⟨(Lib.join (xs.map (·.data.toList)) sep.data.toList).toArray⟩) ∧ Below w.heap.size w w') : FOk P f joinF := by
  intro xs r back h
  unfold joinF at h
  split at h
  · rename_i l sep
    obtain ⟨xs, hx, h⟩ := Option.bind_eq_some_iff.1 h
    split at h
    · rename_i hc
      simp only [Option.some.injEq, Prod.mk.injEq] at h
      obtain ⟨rfl, rfl⟩ := h
      obtain rfl := strs_spec hx
      intro w vs hs bs okc hA hnd hno
      cases hA with
      | sh ha hA =>
        cases hA with
        | sh hb' hA =>
          cases hA
          cases hb'
          cases ha with
          | r _ a n cap sz g hn hcap hz hm hf =>
            simp only [List.length_map] at hn
            refine .inl ⟨fn, hfn, hnm, hb, ?_⟩
            match xs, hx, hc, hn, hz, hf with
            | [], _, _, hn, _, _ =>
              subst hn
              refine (h0 a cap sep w).mono fun e w' he => ?_
              obtain ⟨rfl, rfl⟩ := he
              exact ends_below rfl (Below.refl _ _)
            | x :: l, hx, hc, hn, hz, hf =>
              have hsz : sz = 1 := (hz [C.s (.string x)] (by simp)).symm
              subst hsz
              have cell : ∀ (j : Nat) y, (x :: l)[j]? = some y → ∃ ad, a = some ad ∧ w.cell? (ad.add j) = some (.string y) := by
                intro j y hj
                have hlt : j < n := by have := (List.getElem?_eq_some_iff.1 hj).1; omega
                obtain ⟨ad, e1, _, e3⟩ := hm j 0 hlt (by omega)
                have hh := hf j 0 [C.s (.string y)] (C.s (.string y)) (by rw [List.getElem?_map, hj]; rfl) rfl
                generalize hg : g j 0 = u at hh e3
                cases hh
                exact ⟨ad, e1, by simpa using e3⟩
              obtain ⟨ad, rfl, e0⟩ := cell 0 x rfl
              have e0' : w.cell? ad = some (.string x) := by simpa [Addr.add] using e0
              obtain ⟨hsp, hlt⟩ := cell_spot e0'
              obtain ⟨bk, o, sp⟩ := ad
              simp only at hsp hlt
              subst hsp
              subst hn
              refine (hJ bk o cap (x :: l) sep w (fun j y hj => ?_) hlt hc.1 hcap hc.2).mono fun e w' he => ?_
              · obtain ⟨ad, e1, e2⟩ := cell j y hj
                cases e1
                rwa [add_none] at e2
              · obtain ⟨rfl, hb2⟩ := he
                exact ends_below rfl hb2
    · cases h
  · cases h
theorem repeat_ok {f : FuncId} {fn : Func} (hfn : P.funcs[f]? = some fn) (hnm : (fn.name == "runtime.NumGoroutine") = false) (hb : fn.body.isNone = false)
    (hR : ∀ (s : ByteArray) (c : Nat) (w : World), c ≤ 9223372036854775807 → s.size * c ≤ 140737488355328 → Calls P f #[.string s, .int .i64 c] w fun e w' => e = .returned (.string ⟨(Lib.repeatL s.data.toList c).toArray⟩) ∧ Below w.heap.size w w') : FOk P f repeatF := by
  intro xs r back h
  unfold repeatF at h
  split at h
  · rename_i s n
    split at h
    · rename_i hc
      simp only [Option.some.injEq, Prod.mk.injEq] at h
      obtain ⟨rfl, rfl⟩ := h
      intro w vs hs bs okc hA hnd hno
      cases hA with
      | sh ha hA =>
        cases hA with
        | sh hb' hA =>
          cases hA
          cases ha
          cases hb'
          refine .inl ⟨fn, hfn, hnm, hb, ?_⟩
          have e : ((n.toNat : Nat) : Int) = n := by omega
          have := hR s n.toNat w (by omega) hc.2.2
          rw [e] at this
          refine this.mono fun e w' he => ?_
          obtain ⟨rfl, hb2⟩ := he
          exact ends_below rfl hb2
    · cases h
  · cases h
theorem bs_data (l : List Str) : (l.map bs).map (·.data.toList) = l := by
  induction l with
  | nil => rfl
  | cons a l ih => simp only [List.map_cons, ih]
theorem joinF_of {l : List Str} {sep r : Str} (h : Nt.join l sep = some r) : joinF [.c (cL eS l) none, .c (cS sep) none] = some (.c (cS r) none, []) := by
  unfold Nt.join at h
  split at h
  · rename_i hc
    simp only [Option.some.injEq] at h
    subst h
    have e : Lib.join ((l.map bs).map (·.data.toList)) (bs sep).data.toList = sep.intercalate l := by rw [bs_data]; rfl
    simp only [joinF, strs_map, Option.bind_some, e, List.length_map]
    rw [if_pos ⟨by omega, by omega⟩]
  · cases h
theorem reps_lib (s : Str) : ∀ n, Lib.repeatL s n = Nt.reps s n
  | 0 => rfl
  | n + 1 => by rw [Lib.repeatL, Nt.reps, reps_lib s n]
theorem repeatF_of {s : Str} {n : Int} {r : Str} (h : Nt.repeats s n = some r) : repeatF [.c (cS s) none, .c (cI .i64 n) none] = some (.c (cS r) none, []) := by
  unfold Nt.repeats at h
  split at h
  · rename_i hc
    simp only [Option.some.injEq] at h
    subst h
    have e : (bs s).size = s.length := by simp [bs, ByteArray.size]
    have e2 : (bs s).data.toList = s := by simp [bs]
    simp only [repeatF, e, e2, reps_lib]
    rw [if_pos ⟨hc.1, by omega, by omega⟩]
  · cases h
end Go.SX
