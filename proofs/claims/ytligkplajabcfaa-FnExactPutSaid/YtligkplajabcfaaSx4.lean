import Derived.Test.YtligkplajabcfaaSx2
import Derived.Laws.Tables
set_option linter.unusedVariables false
set_option linter.unusedSimpArgs false
set_option linter.unusedSectionVars false
namespace Go.SX
variable {P : Program} {w w' : World}

theorem run_pureRun {α : Type} : ∀ (s : Sem α) (a : α), pureRun P s = some a → s.run P w = .ok a w
  | .pure a, b, h => by simp only [pureRun, Option.some.injEq] at h; subst h; rfl
  | .program k, b, h => by simp only [pureRun] at h; simp only [Sem.run]; exact run_pureRun (k P) b h
  | .load .., _, h | .store .., _, h | .new .., _, h | .shape .., _, h | .freeze .., _, h | .frozen .., _, h | .getObj .., _, h | .setObj .., _, h | .choose .., _, h | .sys .., _, h | .mark .., _, h | .halt _, _, h => by simp [pureRun] at h

theorem run_und {t : TypeId} {d : TypeDesc} (h : P.underlying t = some d) : (underlying t).run P w = .ok d w := run_underlying h w
theorem run_info {t : TypeId} {i : TypeInfo} (h : P.info? t = some i) : (typeInfo t).run P w = .ok i w := by simp [typeInfo, h]
theorem run_size {t : TypeId} {n : Nat} (h : szOf P t = some n) : (sizeOf t).run P w = .ok n w := by
  unfold szOf at h
  cases hi : P.info? t with
  | none => simp [hi] at h
  | some i => simp [hi] at h; simp [sizeOf, run_info hi, h]
theorem run_zero {t : TypeId} {i : TypeInfo} {z : Value} (h : P.info? t = some i) (hz : i.zero = some z) : (zeroValue t).run P w = .ok z w := by simp [zeroValue, run_info h, hz]
theorem run_agg {t : TypeId} {b : Bool} (h : aggQ P t = some b) : (isAgg t).run P w = .ok b w := by
  unfold aggQ at h
  cases hd : P.underlying t with
  | none => simp [hd] at h
  | some d => simp [hd] at h; cases d <;> simp_all [isAgg, run_und hd]
theorem und_elOf {t e : TypeId} (h : elOf P t = some e) : P.underlying t = some (.slice e) := by
  unfold elOf at h
  cases hd : P.underlying t with
  | none => simp [hd] at h
  | some d => simp [hd] at h; cases d <;> simp_all
theorem und_fld {t : TypeId} {f : Nat} {fd : Field} (h : fldOf P t f = some fd) : ∃ fs, P.underlying t = some (.struct fs) ∧ fs[f]? = some fd := by
  unfold fldOf at h
  cases hd : P.underlying t with
  | none => simp [hd] at h
  | some d => simp [hd] at h; cases d <;> simp_all

theorem run_loadCellsFrom (a : Addr) : ∀ (vs : List Value) (i : Nat) (acc : Array Value), (∀ j u, vs[j]? = some u → w.cell? (a.add (i + j)) = some u) → (loadCellsFrom a i vs.length acc).run P w = .ok (acc ++ vs.toArray) w
  | [], i, acc, _ => by simp [loadCellsFrom]
  | v :: vs, i, acc, h => by
    have h0 := h 0 v rfl
    simp only [Nat.add_zero] at h0
    simp only [List.length_cons, loadCellsFrom, Sem.run_bind, run_load, h0, Result.andThen_ok]
    rw [run_loadCellsFrom a vs (i + 1) (acc.push v) (fun j u hj => by have := h (j + 1) u (by simpa using hj); rw [show i + (j + 1) = i + 1 + j by omega] at this; exact this)]
    simp
theorem run_loadCells (a : Addr) (vs : List Value) (h : ∀ j u, vs[j]? = some u → w.cell? (a.add j) = some u) : (loadCells a vs.length).run P w = .ok vs.toArray w := by
  unfold loadCells
  rw [run_loadCellsFrom a vs 0 #[] (fun j u hj => by rw [Nat.zero_add]; exact h j u hj)]; simp
theorem run_loadVar {t : TypeId} {b : Bool} {n : Nat} (a : Addr) (vs : List Value) (hb : aggQ P t = some b) (hn : szOf P t = some n) (h : ∀ j u, vs[j]? = some u → w.cell? (a.add j) = some u) (hl : b = true → n ≤ vs.length) (hh : b = false → vs ≠ []) :
    (loadVar t a).run P w = .ok (if b then .agg (vs.take n).toArray else vs.headD undef) w := by
  unfold loadVar
  cases b with
  | true =>
    have hv : (vs.take n).length = n := by have := hl rfl; simp; omega
    simp only [Sem.run_bind, run_agg hb, Result.andThen_ok, if_true, Sem.run_pure, run_size hn]
    rw [show (loadCells a n).run P w = .ok (vs.take n).toArray w from by
      have h2 := run_loadCells (P := P) (w := w) a (vs.take n) (fun j u hj => h j u (by rw [List.getElem?_take] at hj; split at hj <;> simp_all))
      rw [hv] at h2; exact h2]
    rfl
  | false =>
    cases vs with
    | nil => exact absurd rfl (hh rfl)
    | cons v vs =>
      have h0 := h 0 v rfl
      rw [show a.add 0 = a from by simp [Addr.add]] at h0
      simp only [Sem.run_bind, run_agg hb, Result.andThen_ok, Bool.false_eq_true, if_false, run_load, h0]
      rfl

/-- block k alone is turned -/
structure Poked (w : World) (k : Nat) (cs : Array Value) (w' : World) : Prop where
  os : w'.os = w.os
  tape : w'.tape = w.tape
  output : w'.output = w.output
  size : w'.heap.size = w.heap.size
  other : ∀ j, j ≠ k → w'.heap[j]? = w.heap[j]?
  here : ∃ t, w'.heap[k]? = some (.cells cs t (0, 0))
theorem setCell_block {k i : Nat} {cs : Array Value} {t : TypeId} {v : Value} (h : w.heap[k]? = some (.cells cs t (0, 0))) : (w.setCell ⟨k, i, none⟩ v).heap[k]? = some (.cells (cs.setIfInBounds i v) t (0, 0)) := by
  simp [World.setCell, Array.getElem?_modify, h]
theorem setCell_other {k i j : Nat} {v : Value} (h : j ≠ k) : (w.setCell ⟨k, i, none⟩ v).heap[j]? = w.heap[j]? := by
  simp only [World.setCell, Array.getElem?_modify]; rw [if_neg (by omega)]
theorem cell_block {k i : Nat} {cs : Array Value} {t : TypeId} {q : Nat × Nat} (h : w.heap[k]? = some (.cells cs t q)) : w.cell? ⟨k, i, none⟩ = cs[i]? := by simp [World.cell?, h]
theorem frozen_block {k i : Nat} {cs : Array Value} {t : TypeId} (h : w.heap[k]? = some (.cells cs t (0, 0))) : w.frozen? ⟨k, i, none⟩ = false := by simp [World.frozen?, h]
/-- cells laid over others -/
def over (cs : Array Value) (o : Nat) (vs : List Value) : Array Value := (cs.toList.take o ++ vs ++ cs.toList.drop (o + vs.length)).toArray
theorem add_none (k o n : Nat) : (⟨k, o, none⟩ : Addr).add n = ⟨k, o + n, none⟩ := by unfold Addr.add; split <;> simp_all
theorem run_storeCells {k : Nat} {t : TypeId} : ∀ (vs : List Value) (o i : Nat) (cs : Array Value) (w : World), w.heap[k]? = some (.cells cs t (0, 0)) → o + i + vs.length ≤ cs.size → (∀ v ∈ vs, v.oneCell' = true) →
    ∃ w', (storeCells ⟨k, o, none⟩ vs i).run P w = .ok () w' ∧ Poked w k (over cs (o + i) vs) w' ∧ w'.heap[k]? = some (.cells (over cs (o + i) vs) t (0, 0))
  | [], o, i, cs, w, h, _, _ => ⟨w, rfl, ⟨rfl, rfl, rfl, rfl, fun _ _ => rfl, ⟨t, by simpa [over] using h⟩⟩, by simpa [over] using h⟩
  | v :: vs, o, i, cs, w, h, hs, h1 => by
    have hlt : o + i < cs.size := by simp at hs; omega
    have hc : w.cell? ⟨k, o + i, none⟩ = some cs[o + i] := by rw [cell_block h]; simp [hlt]
    have hv := h1 v (by simp)
    obtain ⟨w', hr, hp, hk⟩ := run_storeCells vs o (i + 1) (cs.setIfInBounds (o + i) v) (w.setCell ⟨k, o + i, none⟩ v) (setCell_block h) (by simp at hs ⊢; omega) (fun u hu => h1 u (by simp [hu]))
    have e : over (cs.setIfInBounds (o + i) v) (o + (i + 1)) vs = over cs (o + i) (v :: vs) := by
      unfold over
      congr 1
      have e1 : (cs.setIfInBounds (o + i) v).toList = cs.toList.set (o + i) v := by simp
      rw [e1]
      have hl : o + i < cs.toList.length := by simpa using hlt
      have e2 : (cs.toList.set (o + i) v).take (o + (i + 1)) = cs.toList.take (o + i) ++ [v] := by
        rw [show o + (i + 1) = (o + i) + 1 by omega, List.take_add_one, List.take_set_of_le (by omega), List.getElem?_set_self (by omega)]; simp
      have e3 : (cs.toList.set (o + i) v).drop (o + (i + 1) + vs.length) = cs.toList.drop (o + i + (v :: vs).length) := by
        rw [List.drop_set_of_lt (by omega), show o + (i + 1) + vs.length = o + i + (v :: vs).length by simp; omega]
      rw [e2, e3]; simp
    refine ⟨w', ?_, ?_, by rw [← e]; exact hk⟩
    · simp only [storeCells, Sem.run_bind, add_none]
      rw [run_store P w _ v _ hv]
      simp only [hc, frozen_block h, Bool.false_eq_true, if_false, Result.andThen_ok]
      exact hr
    · rw [← e]
      refine ⟨hp.os, hp.tape, hp.output, by rw [hp.size]; simp [World.setCell], fun j hj => ?_, hp.here⟩
      rw [hp.other j hj, setCell_other hj]
theorem run_storeVar {k o n : Nat} {t ty : TypeId} {v : Value} {cs : Array Value} (h : w.heap[k]? = some (.cells cs t (0, 0))) (hn : szOf P ty = some n) (hv : v.cells.size = n) (hs : o + n ≤ cs.size) (h1 : ∀ u ∈ v.cells.toList, u.oneCell' = true) :
    ∃ w', (storeVar ty ⟨k, o, none⟩ v).run P w = .ok () w' ∧ Poked w k (over cs o v.cells.toList) w' ∧ w'.heap[k]? = some (.cells (over cs o v.cells.toList) t (0, 0)) := by
  obtain ⟨w', h2, h3, h4⟩ := run_storeCells (P := P) v.cells.toList o 0 cs w h (by simp [hv]; omega) h1
  refine ⟨w', ?_, h3, h4⟩
  unfold storeVar
  simp only [Sem.run_bind, run_size hn, Result.andThen_ok, hv]
  simp only [ne_eq, not_true_eq_false, if_false, Sem.run_bind, Sem.run_pure, Result.andThen_ok]
  exact h2
end Go.SX

set_option linter.unusedVariables false
set_option linter.unusedSimpArgs false
set_option linter.unusedSectionVars false
namespace Go.SX
variable {P : Program} {w w' w0 : World} {ok ok' : Nat → Prop} {E E' : Env} {B : Bd} {σ σ' : St}

theorem ofV_rel {v : Value} (h1 : v.oneCell' = true) : XRel w ok E (ofV v) v := by
  unfold ofV
  split
  · simp [Value.oneCell'] at h1
  · simp [Value.oneCell'] at h1
  · rfl
  · exact .s v h1
theorem ofV_t (v : Value) : TRel w ok E (ofV v) v := by
  unfold ofV
  split
  · trivial
  · trivial
  · rfl
  · rename_i h1 h2 _
    refine Holds.s v ?_
    cases v <;> first | rfl | exact absurd rfl (h1 _) | exact absurd rfl (h2 _)
theorem all2_map {α β : Type} {R : β → α → Prop} {f : α → β} : ∀ (l : List α), (∀ x ∈ l, R (f x) x) → All2 R (l.map f) l
  | [], _ => .nil
  | x :: l, h => .cons (h x (by simp)) (all2_map l fun y hy => h y (by simp [hy]))
theorem constT_rel (v : Value) : TRel w ok E (constT v) v := by
  unfold constT
  split
  · rename_i cs
    split
    · rename_i h
      refine ⟨cs, rfl, all2_map _ fun u hu => ofV_rel ?_⟩
      exact List.all_eq_true.mp h u hu
    · trivial
  · exact ofV_t _

/-- the slots -/
def Tmps (w : World) (ok : Nat → Prop) (E : Env) (σ : St) (a : Act) : Prop := ∀ t, TRel w ok E (gt σ.ts t) (a.tmps.getD t undef)
theorem ev_rel {a : Act} (h : Tmps w ok E σ a) (x : Operand) : TRel w ok E (ev σ x) (a.eval x) := by
  cases x with
  | tmp t => exact h t
  | const v => exact constT_rel v
  | global g => trivial
  | func f => exact ⟨[], rfl, .nil⟩
theorem TRel.sc {v u : Value} (h : TRel w ok E (.c (.s v)) u) : u = v := by cases (h : Holds w ok (.s v) u); rfl

theorem exists_vs {R : T → Value → Prop} (ad : Addr) : ∀ (l : List T) (i : Nat), (∀ j x, l[j]? = some x → ∃ u, w.cell? (ad.add (i + j)) = some u ∧ R x u) → ∃ vs, All2 R l vs ∧ ∀ j u, vs[j]? = some u → w.cell? (ad.add (i + j)) = some u
  | [], _, _ => ⟨[], .nil, fun j u h => by simp at h⟩
  | x :: l, i, h => by
    obtain ⟨u, h1, h2⟩ := h 0 x rfl
    obtain ⟨vs, h3, h4⟩ := exists_vs ad l (i + 1) (fun j y hj => by have := h (j + 1) y (by simpa using hj); rw [show i + (j + 1) = i + 1 + j by omega] at this; exact this)
    refine ⟨u :: vs, .cons h2 h3, fun j u' hj => ?_⟩
    cases j with
    | zero => simp at hj; subst hj; exact h1
    | succ j => rw [show i + (j + 1) = i + 1 + j by omega]; exact h4 j u' (by simpa using hj)
theorem cells_rel (M : Mem w0 B σ E ok w) {x : T} {av : Value} {cs : List T} (hx : TRel w ok E x av) (h : cells σ x = some cs) :
    ∃ ad vs, av = .pointer (some ad) ∧ All2 (XRel w ok E) cs vs ∧ ∀ j u, vs[j]? = some u → w.cell? (ad.add j) = some u := by
  have key : ∀ (ad : Addr), av = .pointer (some ad) → (∀ j x, cs[j]? = some x → ∃ u, w.cell? (ad.add j) = some u ∧ XRel w ok E x u) →
      ∃ ad vs, av = .pointer (some ad) ∧ All2 (XRel w ok E) cs vs ∧ ∀ j u, vs[j]? = some u → w.cell? (ad.add j) = some u := by
    intro ad he hc
    obtain ⟨vs, h1, h2⟩ := exists_vs (w := w) ad cs 0 (fun j x hj => by rw [Nat.zero_add]; exact hc j x hj)
    exact ⟨ad, vs, he, h1, fun j u hj => by have := h2 j u hj; rwa [Nat.zero_add] at this⟩
  cases x <;> simp only [cells, Option.map_eq_some_iff, Option.bind_eq_some_iff, Option.some.injEq, reduceCtorEq] at h
  case bp b o =>
    obtain ⟨l, hl, rfl⟩ := h
    obtain ⟨k, hk, rfl⟩ := hx
    obtain ⟨t, c0, h1, h2⟩ := M.box b k l hk hl
    refine key _ rfl fun j x hj => ?_
    rw [List.getElem?_drop] at hj
    obtain ⟨u, h3, h4⟩ := h2.get _ x hj
    exact ⟨u, by rw [add_none, cell_block h1]; simpa using h3, h4⟩
  case rp i n o =>
    obtain ⟨q, hq, h⟩ := h
    split at h
    · simp at h
    rename_i hdp
    simp only [Option.map_eq_some_iff] at h
    obtain ⟨el, hel, rfl⟩ := h
    have hdp' : q.dp = .f := by
      rcases dp_cases hq with h | h
      · exact h
      · rw [h] at hdp; exact absurd rfl hdp
    obtain ⟨r, ad, hr, ha, hn, rfl⟩ := hx
    obtain ⟨hz, hrow⟩ := M.row i r q hr hq
    refine key _ rfl fun j x hj => ?_
    rw [List.getElem?_map, List.getElem?_drop] at hj
    cases hc : el[o + j]? with
    | none => rw [hc] at hj; simp at hj
    | some c =>
      rw [hc] at hj; simp at hj; subst hj
      have hlt : o + j < el.length := (List.getElem?_eq_some_iff.mp hc).1
      rw [add_add, show n * r.sz + o + j = n * r.sz + (o + j) by omega]
      cases ho : q.ow with
      | true =>
        rw [ho, if_pos rfl, hdp'] at hrow
        obtain ⟨h1, h2, h3, h3', h4⟩ := hrow
        cases hκ : r.κ with
        | none => simp only [hκ] at h4; omega
        | some k =>
          simp only [hκ] at h4
          obtain ⟨off, t, c0, h5, h6, h7, h8⟩ := h4
          rw [ha] at h5; cases h5
          obtain ⟨u, h9, h10⟩ := h8 n (o + j) el c hel hc
          exact ⟨u, by rw [add_none, cell_block h6]; exact h9, h10⟩
      | false =>
        rw [ho] at hrow
        obtain ⟨_, h1, h2, h3, _, f, h4, h5⟩ := hrow
        have hsz : el.length = r.sz := h3 el (List.mem_of_getElem? hel)
        obtain ⟨ad', h6, _, h7⟩ := h4 n (o + j) hn (by omega)
        rw [ha] at h6; cases h6
        exact ⟨f n (o + j), h7, h5 n (o + j) el c hel hc⟩
  case cp l o =>
    subst h
    obtain ⟨ad, f, rfl, h2⟩ := hx
    refine key _ rfl fun j x hj => ?_
    rw [List.getElem?_map, List.getElem?_drop] at hj
    cases hc : l[o + j]? with
    | none => rw [hc] at hj; simp at hj
    | some c =>
      rw [hc] at hj; simp at hj; subst hj
      obtain ⟨_, h3, h4⟩ := h2 (o + j) c hc
      exact ⟨f (o + j), by rw [add_add]; exact h3, h4⟩

theorem ok_load (M : Mem w0 B σ E ok w) {x y : T} {av : Value} {t : TypeId} (hx : TRel w ok E x av) (h : opLoad P σ t x = some (y, σ')) :
    σ' = σ ∧ ∃ v, (Instr.loadAt t av).run P w = .ok v w ∧ TRel w ok E y v := by
  unfold opLoad at h
  simp only [Option.bind_eq_some_iff] at h
  obtain ⟨cs, hcs, n, hn, b, hb, h⟩ := h
  obtain ⟨ad, vs, rfl, h1, h2⟩ := cells_rel M hx hcs
  have hrun : (Instr.loadAt t (.pointer (some ad))).run P w = (loadVar t ad).run P w := by
    simp [Instr.loadAt, Instr.sureAddr]
  cases b with
  | true =>
    simp only [if_true] at h
    split at h
    · rename_i hle
      simp only [Option.some.injEq, Prod.mk.injEq] at h
      obtain ⟨rfl, rfl⟩ := h
      refine ⟨rfl, _, hrun.trans (run_loadVar ad vs hb hn h2 (fun _ => by rw [← h1.len]; exact hle) (by simp)), ?_⟩
      exact ⟨_, rfl, by simpa using h1.take n⟩
    · simp at h
  | false =>
    simp only [Bool.false_eq_true, if_false, Option.map_eq_some_iff, Prod.mk.injEq] at h
    obtain ⟨y', hy, rfl, rfl⟩ := h
    cases h1 with
    | nil => simp at hy
    | cons hh ht =>
      simp at hy; subst hy
      exact ⟨rfl, _, hrun.trans (run_loadVar ad _ hb hn h2 (by simp) (by simp)), hh.t⟩

theorem run_fieldPlace {a : Addr} {fd : Field} {n : Nat} (hn : szOf P fd.type = some n) (h0 : n ≠ 0) : (fieldPlace a fd).run P w = .ok (a.add fd.offset) w := by
  unfold fieldPlace
  simp only [Sem.run_bind, run_size hn, Result.andThen_ok]
  rw [if_neg h0]; rfl
theorem ok_fieldAddr {x y : T} {av : Value} {s : TypeId} {f : Nat} (hx : TRel w ok E x av) (h : opFieldAddr P σ s x f = some (y, σ')) :
    σ' = σ ∧ ∃ v, (Instr.fieldAt s av f).run P w = .ok v w ∧ TRel w ok E y v := by
  unfold opFieldAddr at h
  simp only [Option.bind_eq_some_iff] at h
  obtain ⟨fd, hf, n, hn, h⟩ := h
  split at h
  · simp at h
  rename_i h0
  obtain ⟨fs, hu, hfs⟩ := und_fld hf
  have hrun : ∀ ad, (Instr.fieldAt s (.pointer (some ad)) f).run P w = .ok (.pointer (some (ad.add fd.offset))) w := by
    intro ad
    simp only [Instr.fieldAt, Sem.run_bind, run_und hu, Result.andThen_ok, hfs, Instr.sureAddr, Sem.run_pure, run_fieldPlace hn h0]
  cases x <;> simp only [Option.some.injEq, Prod.mk.injEq, reduceCtorEq] at h <;> obtain ⟨rfl, rfl⟩ := h
  case bp b o =>
    obtain ⟨k, hk, rfl⟩ := hx
    exact ⟨rfl, _, hrun _, k, hk, by rw [add_none]⟩
  case rp i n o =>
    obtain ⟨r, ad, hr, ha, hn', rfl⟩ := hx
    exact ⟨rfl, _, hrun _, r, ad, hr, ha, hn', by rw [add_add, Nat.add_assoc]⟩
  case cp l o =>
    obtain ⟨ad, g, rfl, h2⟩ := hx
    exact ⟨rfl, _, hrun _, ad, g, by rw [add_add], h2⟩

theorem ok_field {x y : T} {av : Value} {s : TypeId} {f : Nat} (hx : TRel w ok E x av) (h : opField P σ s x f = some (y, σ')) :
    σ' = σ ∧ ∃ v, (Instr.field s av f).run P w = .ok v w ∧ TRel w ok E y v := by
  unfold opField at h
  simp only [Option.bind_eq_some_iff] at h
  obtain ⟨fd, hf, n, hn, b, hb, h⟩ := h
  obtain ⟨fs, hu, hfs⟩ := und_fld hf
  cases x <;> simp only [reduceCtorEq] at h
  rename_i l
  obtain ⟨vs, rfl, hl⟩ := hx
  split at h
  · rename_i hle
    have hsz : vs.size = l.length := by rw [hl.len]; simp
    cases b with
    | true =>
      simp only [if_true, Option.some.injEq, Prod.mk.injEq] at h
      obtain ⟨rfl, rfl⟩ := h
      refine ⟨rfl, .agg (vs.extract fd.offset (fd.offset + n)), ?_, ?_⟩
      · simp only [Instr.field, Sem.run_bind, run_und hu, Result.andThen_ok, hfs, asAgg, Sem.run_pure, part, run_agg hb, if_true, run_size hn]
      · refine ⟨_, rfl, ?_⟩
        have := (hl.drop fd.offset).take n
        simpa [List.extract_eq_take_drop, List.take_drop, Nat.add_comm] using this
    | false =>
      simp only [Bool.false_eq_true, if_false, Option.map_eq_some_iff, Prod.mk.injEq] at h
      obtain ⟨y', hy, rfl, rfl⟩ := h
      obtain ⟨u, h1, h2⟩ := hl.get _ _ hy
      refine ⟨rfl, u, ?_, h2.t⟩
      simp only [Instr.field, Sem.run_bind, run_und hu, Result.andThen_ok, hfs, asAgg, Sem.run_pure, part, run_agg hb, Bool.false_eq_true, if_false]
      have : vs[fd.offset]? = some u := by simpa using h1
      rw [this]; rfl
  · simp at h

theorem deep_len {r : RV} {l} {δ : List Nat} {x : Option Nat} (h : DeepAt w r l δ x) : l.length = r.n ∧ r.n ≤ r.cap ∧ (∀ el ∈ l, el.length = r.sz) ∧ (r.cap ≠ 0 → ∃ ad, r.a = some ad) := by
  obtain ⟨off, t, cs, u, f, a1, a2, a3, a4, a5, a6, _⟩ := h
  refine ⟨a1, a2, a3, fun h0 => ?_⟩
  cases hκ : r.κ with
  | none => exact absurd (a5 hκ) h0
  | some k => exact ⟨_, (a6 k hκ).1⟩
theorem RowOk.all {δ : List Nat} {r : RV} {q : Row} (h : RowOk w ok δ r q) : q.l.length = r.n ∧ r.n ≤ r.cap ∧ (∀ el ∈ q.l, el.length = r.sz) ∧ (r.cap ≠ 0 → ∃ ad, r.a = some ad) := by
  obtain ⟨_, h⟩ := h
  cases ho : q.ow with
  | true =>
    rw [ho, if_pos rfl] at h
    cases hp : q.dp with
    | f =>
      rw [hp] at h
      obtain ⟨h1, h2, h3, _, h4⟩ := h
      refine ⟨h1, h2, h3, fun h0 => ?_⟩
      cases hκ : r.κ with
      | none => simp only [hκ] at h4; omega
      | some k => simp only [hκ] at h4; obtain ⟨off, _, _, h5, _⟩ := h4; exact ⟨_, h5⟩
    | d => rw [hp] at h; exact deep_len h
    | p n => rw [hp] at h; exact deep_len h
  | false =>
    rw [ho] at h
    exact ⟨h.2.1, h.2.2.1, h.2.2.2.1, h.2.2.2.2.1⟩
theorem row_addr {δ : List Nat} {r : RV} {q : Row} (h : RowOk w ok δ r q) (h0 : r.cap ≠ 0) : ∃ ad, r.a = some ad := h.all.2.2.2 h0
theorem RowOk.len {δ : List Nat} {r : RV} {q : Row} (h : RowOk w ok δ r q) : q.l.length = r.n ∧ r.n ≤ r.cap ∧ (∀ el ∈ q.l, el.length = r.sz) ∧ q.sz = r.sz := ⟨h.all.1, h.all.2.1, h.all.2.2.1, h.1⟩
theorem ok_indexAddr (M : Mem w0 B σ E ok w) {x ix y : T} {av iv : Value} {t : TypeId} (hx : TRel w ok E x av) (hi : TRel w ok E ix iv) (h : opIndexAddr P σ t x ix = some (y, σ')) :
    σ' = σ ∧ ∃ v, (Instr.indexAt t av iv).run P w = .ok v w ∧ TRel w ok E y v := by
  unfold opIndexAddr at h
  simp only [Option.bind_eq_some_iff] at h
  obtain ⟨e, he, n, hn, h⟩ := h
  split at h
  · simp at h
  rename_i hn0
  have hu := und_elOf he
  have hrun : ∀ (k : IntKind) (i : Int) (ad : Addr) (len cap : Nat), 0 ≤ i → i < len → (Instr.indexAt t (.slice (some ad) len cap) (.int k i)).run P w = .ok (.pointer (some (ad.add (i.toNat * n)))) w := by
    intro k i ad len cap h0 h1
    simp only [Instr.indexAt, asIntOf, Sem.run_bind, Sem.run_pure, Result.andThen_ok, run_und hu]
    rw [if_pos ⟨h0, h1⟩]
    simp only [Sem.run_bind, run_size hn, Result.andThen_ok, Sem.run_pure]
  cases ix <;> try (simp at h; done)
  rename_i c
  cases c <;> try (simp at h; done)
  rename_i iv'
  obtain rfl := hi.sc
  cases iv <;> try (simp at h; done)
  rename_i k i
  cases x <;> first | (simp at h; done) | skip
  case c cx =>
    cases cx with
    | s v =>
      simp only [Option.map_eq_some_iff, Prod.mk.injEq] at h
      obtain ⟨z, h, rfl, rfl⟩ := h
      unfold rawIx at h
      split at h
      · split at h
        · rename_i b off m c hc
          simp only [Option.some.injEq] at h
          subst h
          obtain rfl := hx.sc
          refine ⟨rfl, _, hrun k i ⟨b, off, none⟩ m c hc.1 (by omega), ?_⟩
          rw [add_none]
          exact (show XRel w ok E (.c (.s _)) _ from Holds.s _ rfl)
        · simp at h
      · simp at h
    | r l =>
      simp only at h
      split at h
      · rename_i h0
        simp only [Option.bind_eq_some_iff] at h
        obtain ⟨el, hel, h⟩ := h
        split at h
        · rename_i hsz
          simp only [Option.some.injEq, Prod.mk.injEq] at h
          obtain ⟨rfl, rfl⟩ := h
          cases (hx : Holds w ok (.r l) av) with
          | r _ a m cap sz f hm hc hz hmem hf =>
            have hlt : i.toNat < l.length := (List.getElem?_eq_some_iff.mp hel).1
            have hsz' : sz = n := by rw [← hsz]; exact (hz el (List.mem_of_getElem? hel)).symm
            subst hsz'
            obtain ⟨ad, rfl, hok, hcell⟩ := hmem i.toNat 0 (by omega) (by omega)
            refine ⟨rfl, _, hrun k i ad m cap h0 (by omega), ad.add (i.toNat * sz), f i.toNat, by rw [add_add]; rfl, ?_⟩
            intro j c hj
            have hj' : j < sz := by have := (List.getElem?_eq_some_iff.mp hj).1; omega
            obtain ⟨ad', ha, hok', hcell'⟩ := hmem i.toNat j (by omega) hj'
            cases ha
            exact ⟨by rw [add_block]; exact hok', by rw [add_add]; exact hcell', hf _ _ _ _ hel hj⟩
        · simp at h
      · simp at h
  case row j =>
    simp only [Option.bind_eq_some_iff] at h
    obtain ⟨q, hq, h⟩ := h
    split at h
    · rename_i hc
      obtain ⟨h0, h1, h2⟩ := hc
      simp only [Option.some.injEq, Prod.mk.injEq] at h
      obtain ⟨rfl, rfl⟩ := h
      obtain ⟨r, hr, rfl⟩ := hx
      have hR := M.row j r q hr hq
      obtain ⟨hl, hcap, _, hz⟩ := hR.len
      obtain ⟨ad, ha⟩ := row_addr hR (by omega)
      rw [ha]
      exact ⟨rfl, _, hrun k i ad _ _ h0 (by omega), r, ad, hr, ha, by omega, by rw [← hz, h2]; rfl⟩
    · simp at h
  case sl j lo hi' =>
    simp only [Option.bind_eq_some_iff] at h
    obtain ⟨q, hq, h⟩ := h
    split at h
    · rename_i hc
      obtain ⟨h0, h1, h2⟩ := hc
      simp only [Option.some.injEq, Prod.mk.injEq] at h
      obtain ⟨rfl, rfl⟩ := h
      obtain ⟨r, a', hr, hlo, hhi, rfl, ha⟩ := hx
      have hR := M.row j r q hr hq
      obtain ⟨hl, hcap, _, hz⟩ := hR.len
      obtain ⟨ad, had, rfl⟩ := ha (by omega)
      refine ⟨rfl, _, hrun k i _ _ _ h0 (by omega), r, ad, hr, had, by omega, ?_⟩
      rw [add_add, ← hz, h2, Nat.add_mul]; rfl
    · simp at h

theorem elems_len (M : Mem w0 B σ E ok w) {x : T} {v : Value} {l : List (List C)} (hx : TRel w ok E x v) (h : elems σ x = some l) : ∃ a cap, v = .slice a l.length cap ∧ l.length ≤ cap := by
  cases x <;> simp only [elems, Option.some.injEq, Option.map_eq_some_iff, reduceCtorEq] at h
  case c cx =>
    cases cx with
    | s _ => simp at h
    | r l' =>
      simp at h; subst h
      cases (hx : Holds w ok (.r _) v) with
      | r _ a m cap sz f hm hc hz hmem hf => subst hm; exact ⟨a, cap, rfl, hc⟩
  case nil => subst h; exact ⟨none, 0, hx, Nat.le_refl _⟩
  case row i =>
    obtain ⟨q, hq, rfl⟩ := h
    obtain ⟨r, hr, rfl⟩ := hx
    obtain ⟨hl, hcap, _⟩ := (M.row i r q hr hq).len
    exact ⟨r.a, r.cap, by rw [hl], by omega⟩
  case sl i lo hi =>
    obtain ⟨q, hq, rfl⟩ := h
    obtain ⟨r, a', hr, hlo, hhi, rfl, _⟩ := hx
    obtain ⟨hl, hcap, _⟩ := (M.row i r q hr hq).len
    have : (cut q.l lo hi).length = hi - lo := by simp [cut]; omega
    exact ⟨a', r.cap - lo, by rw [this], by rw [this]; omega⟩
end Go.SX
