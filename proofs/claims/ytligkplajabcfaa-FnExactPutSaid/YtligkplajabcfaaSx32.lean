import Derived.Test.YtligkplajabcfaaSx20
import Derived.Deep.Slices
import Derived.Test.YtligkplajabcfaaNt
set_option linter.unusedVariables false
set_option linter.unusedSimpArgs false
set_option linter.unusedSectionVars false
namespace Go.SX
variable {P : Program} {w : World}

/-! the arguments: data of whole numbers, strings, bools, slices and structs -/
def tiled (P : Program) : Nat → List Field → Nat → Bool
  | off, [], total => off == total
  | off, f :: fs, total => f.offset == off && tiled P (off + P.cellsOf f.type) fs total
def dataTy (P : Program) : Nat → TypeId → Bool
  | 0, _ => false
  | d + 1, t => match P.underlying t with
    | some .bool | some (.int _) | some .string => true
    | some (.slice e) => dataTy P d e
    | some (.struct fs) => tiled P 0 fs.toList (P.cellsOf t) && fs.toList.all fun f => dataTy P d f.type
    | _ => false
def WtF (g : TypeId → List C → Prop) : List Field → List C → Prop
  | [], l => l = []
  | f :: fs, l => ∃ a b, l = a ++ b ∧ g f.type a ∧ WtF g fs b
/-- cells of a type -/
def Wt (P : Program) : Nat → TypeId → List C → Prop
  | 0, _, _ => False
  | d + 1, t, l => match P.underlying t with
    | some .bool => ∃ b, l = [.s (.bool b)]
    | some (.int k) => ∃ n, l = [.s (.int k n)] ∧ (Lit.int k n).wf = true
    | some .string => ∃ s : ByteArray, l = [.s (.string s)] ∧ s.size ≤ maxLen
    | some (.slice e) => ∃ es : List (List C), l = [.r es] ∧ es.length ≤ maxLen ∧ ∀ el ∈ es, el.length = P.cellsOf e ∧ Wt P d e el
    | some (.struct fs) => WtF (Wt P d) fs.toList l
    | _ => False
theorem mapM_get {α : Type} (f : Nat → Option α) : ∀ (n k : Nat) (l : List α), ((List.range' k n).mapM f) = some l → l.length = n ∧ ∀ j, j < n → f (k + j) = l[j]?
  | 0, k, l, h => by simp at h; subst h; exact ⟨rfl, fun j hj => by omega⟩
  | n + 1, k, l, h => by
    rw [List.range'_succ] at h
    simp only [List.mapM_cons, bind, Option.bind_eq_some_iff, pure, Option.some.injEq] at h
    obtain ⟨x, h1, l', h2, rfl⟩ := h
    obtain ⟨h3, h4⟩ := mapM_get f n (k + 1) l' h2
    refine ⟨by simp [h3], fun j hj => ?_⟩
    cases j with
    | zero => simpa using h1
    | succ j => rw [show k + (j + 1) = k + 1 + j by omega, h4 j (by omega)]; simp
theorem cells_get {base : Nat} {a : Addr} {n : Nat} {cs : List Value} (h : w.cells? base a n = some cs) : cs.length = n ∧ ∀ j, j < n → w.cell? (a.add j) = cs[j]? := by
  unfold World.cells? at h
  split at h
  · rw [List.range_eq_range'] at h
    obtain ⟨h1, h2⟩ := mapM_get _ n 0 cs h
    exact ⟨h1, fun j hj => by simpa using h2 j hj⟩
  · simp at h
theorem opened_fields {H : Type} {total : Nat} {g : TypeId → List C → Prop} (cs0 : List Value) (ok : Nat → Prop) : ∀ (fs : List Field) (off : Nat), tiled P off fs total = true → cs0.length = total →
    (∀ f ∈ fs, ∃ l, All2 (Holds w ok) l ((cs0.drop f.offset).take (P.cellsOf f.type)) ∧ g f.type l) → ∃ l, All2 (Holds w ok) l (cs0.drop off) ∧ WtF g fs l
  | [], off, ht, hl, _ => by
    simp only [tiled, beq_iff_eq] at ht
    exact ⟨[], by rw [List.drop_eq_nil_of_le (by omega)]; exact .nil, rfl⟩
  | f :: fs, off, ht, hl, h => by
    simp only [tiled, Bool.and_eq_true, beq_iff_eq] at ht
    obtain ⟨rfl, ht⟩ := ht
    obtain ⟨a, ha, hga⟩ := h f (by simp)
    obtain ⟨b, hb, hgb⟩ := opened_fields (H := H) cs0 ok fs _ ht hl fun f' hf' => h f' (by simp [hf'])
    refine ⟨a ++ b, ?_, a, b, rfl, hga, hgb⟩
    have := ha.append hb
    rwa [← List.drop_drop, List.take_append_drop] at this
theorem opened {H : Type} {enc : TypeId × Value → H} {base : Nat} {spare : Nat → Bool} {held : Bool} : ∀ (d fuel : Nat) (t : TypeId) (cs : List Value) (x : DataW H × List MemPlace), dataTy P d t = true → DataW.trod enc P w base spare held fuel t cs = some x →
    ∃ l, All2 (Holds w (There w)) l cs ∧ Wt P d t l
  | 0, _, _, _, _, hd, _ => by simp [dataTy] at hd
  | d + 1, fuel, t, cs, x, hd, h => by
    have lit : ∀ v : Value, v.oneCell' = true → All2 (Holds w (There w)) [.s v] [v] := fun v hv => .cons (.s v hv) .nil
    simp only [dataTy] at hd
    simp only [Wt]
    split at hd
    · rename_i hu
      cases fuel with
      | zero => simp [DataW.trod] at h
      | succ fuel =>
        unfold DataW.trod at h
        rw [hu] at h
        split at h <;> try (simp_all; done)
        exact ⟨_, lit _ rfl, _, rfl⟩
    · rename_i k hu
      cases fuel with
      | zero => simp [DataW.trod] at h
      | succ fuel =>
        unfold DataW.trod at h
        rw [hu] at h
        split at h <;> simp_all
        exact ⟨_, lit _ rfl, _, rfl, by simp_all⟩
    · rename_i hu
      cases fuel with
      | zero => simp [DataW.trod] at h
      | succ fuel =>
        unfold DataW.trod at h
        rw [hu] at h
        split at h <;> simp_all
        exact ⟨_, lit _ rfl, _, rfl, by simp_all⟩
    · rename_i e hu
      rcases Go.Deep.open_slice hu h with ⟨rfl, rfl⟩ | ⟨a, len, cap, m, n, D, Pl, rfl, hb, hl, hm, hmd, rfl, hel⟩
      · exact ⟨[.r []], .cons (.r [] none 0 0 0 (fun _ _ => undef) rfl (Nat.le_refl _) (by simp) (by omega) (by simp)) .nil, [], rfl, by simp, by simp⟩
      · have hlm : len ≤ m := by rw [hmd]; split <;> omega
        have key : ∀ i, i < len → ∃ el cs', w.cells? base (a.add (i * P.cellsOf e)) (P.cellsOf e) = some cs' ∧ All2 (Holds w (There w)) el cs' ∧ Wt P d e el := by
          intro i hi
          obtain ⟨cs', h1, h2⟩ := hel i (by omega)
          obtain ⟨el, h3, h4⟩ := opened d n e cs' _ hd h2
          exact ⟨el, cs', h1, h3, h4⟩
        let EL : Nat → List C := fun i => if h : i < len then (key i h).choose else []
        let CS : Nat → List Value := fun i => if h : i < len then (key i h).choose_spec.choose else []
        have hEL : ∀ i, i < len → w.cells? base (a.add (i * P.cellsOf e)) (P.cellsOf e) = some (CS i) ∧ All2 (Holds w (There w)) (EL i) (CS i) ∧ Wt P d e (EL i) := by
          intro i hi
          simp only [EL, CS, hi, dif_pos]
          exact (key i hi).choose_spec.choose_spec
        have hlen : ∀ i, i < len → (CS i).length = P.cellsOf e ∧ (EL i).length = P.cellsOf e := fun i hi => by
          obtain ⟨h1, h2, _⟩ := hEL i hi
          have := (cells_get h1).1
          exact ⟨this, by rw [h2.len, this]⟩
        have hmem : ∀ el ∈ (List.range len).map EL, el.length = P.cellsOf e ∧ Wt P d e el := by
          intro el hel'
          obtain ⟨i, hi, rfl⟩ := List.mem_map.1 hel'
          have hi' := List.mem_range.1 hi
          exact ⟨(hlen i hi').2, (hEL i hi').2.2⟩
        refine ⟨[.r ((List.range len).map EL)], .cons ?_ .nil, _, rfl, by simp; omega, hmem⟩
        refine .r _ (some a) len cap (P.cellsOf e) (fun i j => ((CS i)[j]?).getD undef) (by simp) hl (fun el h => (hmem el h).1) (fun i j hi hj => ⟨a, rfl, ?_, ?_⟩) (fun i j el c hi hj => ?_)
        · obtain ⟨h1, _, _⟩ := hEL i hi
          have := (cells_get h1).2 j hj
          rw [add_add] at this
          have hlt : j < (CS i).length := by rw [(hlen i hi).1]; exact hj
          rw [List.getElem?_eq_getElem hlt] at this
          have := cell_lt this
          rwa [add_block] at this
        · obtain ⟨h1, _, _⟩ := hEL i hi
          have := (cells_get h1).2 j hj
          rw [add_add] at this
          have hlt : j < (CS i).length := by rw [(hlen i hi).1]; exact hj
          rw [this, List.getElem?_eq_getElem hlt]; rfl
        · rw [range_get] at hi
          split at hi
          · rename_i hil
            simp only [Option.some.injEq] at hi
            subst hi
            obtain ⟨_, h2, _⟩ := hEL i hil
            obtain ⟨u, h3, h4⟩ := h2.get j c hj
            simp only [h3, Option.getD_some]; exact h4
          · simp at hi
    · rename_i fs hu
      simp only [Bool.and_eq_true, List.all_eq_true] at hd
      obtain ⟨xs, n, rfl, rfl, hlen, hxl, hf⟩ := DataW.trod_struct hu h
      obtain ⟨l, h1, h2⟩ := opened_fields (P := P) (H := H) (g := Wt P d) (w := w) cs (There w) fs.toList 0 hd.1 hlen fun f hfm => by
        obtain ⟨i, hi⟩ := List.getElem?_of_mem hfm
        have hi' : fs[i]? = some f := by simpa using hi
        have := hf i f hi'
        have hlt : i < xs.length := by rw [hxl]; exact (Array.getElem?_eq_some_iff.1 hi').1
        rw [List.getElem?_eq_getElem hlt] at this
        exact opened d n f.type _ _ (hd.2 f hfm) this
      exact ⟨l, by simpa using h1, h2⟩
    · simp at hd
end Go.SX

set_option linter.unusedVariables false
set_option linter.unusedSimpArgs false
set_option linter.unusedSectionVars false
namespace Go.SX
variable {P : Program} {K : Cfg} {F : Fun} {n : Nat} {ops : Array Oper} {ρ : Operand → T} {σ : St}

/-! steps with data that is not spelt out -/
end Go.SX
namespace Go.SX
variable {P : Program} {K : Cfg} {F : Fun} {n : Nat} {ops : Array Oper} {σ : St}
end Go.SX

set_option linter.unusedVariables false
set_option linter.unusedSimpArgs false
set_option linter.unusedSectionVars false
set_option linter.unusedVariables false
set_option linter.unusedSimpArgs false
namespace Go.SX
variable {P : Program} {K : Cfg} {F : Fun}

/-! a state that knows less: boxes and rows under other names, slots left empty -/
structure Rn where
  b : Nat → Nat
  r : Nat → Nat
  nb : Nat
  nr : Nat

inductive TR (f : Rn) : T → T → Prop
  | no (x : T) : TR f .no x
  | c (x : C) : TR f (.c x) (.c x)
  | nil : TR f .nil .nil
  | row (i : Nat) (h : i < f.nr) : TR f (.row i) (.row (f.r i))
  | sl (i lo hi : Nat) (h : i < f.nr) : TR f (.sl i lo hi) (.sl (f.r i) lo hi)
  | bp (b o : Nat) (h : b < f.nb) : TR f (.bp b o) (.bp (f.b b) o)
  | rp (i k o : Nat) (h : i < f.nr) : TR f (.rp i k o) (.rp (f.r i) k o)
  | cp (l : List C) (o : Nat) : TR f (.cp l o) (.cp l o)
  | ag {l m : List T} (h : All2 (TR f) l m) : TR f (.ag l) (.ag m)
  | tu {l m : List T} (h : All2 (TR f) l m) : TR f (.tu l) (.tu m)
  | fn (g : FuncId) (bs : List Nat) (h : ∀ b, b ∈ bs → b < f.nb) : TR f (.fn g bs) (.fn g (bs.map f.b))

structure HR (f : Rn) (σ τ : St) : Prop where
  nb : f.nb = σ.bx.length
  nr : f.nr = σ.rw.length
  bi : ∀ i j, i < f.nb → j < f.nb → f.b i = f.b j → i = j
  ri : ∀ i j, i < f.nr → j < f.nr → f.r i = f.r j → i = j
  bl : ∀ i, i < f.nb → f.b i < τ.bx.length
  rl : ∀ i, i < f.nr → f.r i < τ.rw.length
  raw : ∀ i, i < f.nr → rawAt τ (f.r i) = rawAt σ i
  box : ∀ i l, boxAt σ i = some l → ∃ m, boxAt τ (f.b i) = some m ∧ All2 (TR f) l m

theorem HR.row {f : Rn} {σ τ : St} (H : HR f σ τ) (i : Nat) (hi : i < f.nr) : rowAt τ (f.r i) = rowAt σ i := by unfold rowAt; rw [H.raw i hi]
structure Wid (f g : Rn) : Prop where
  nb : f.nb ≤ g.nb
  nr : f.nr ≤ g.nr
  b : ∀ i, i < f.nb → g.b i = f.b i
  r : ∀ i, i < f.nr → g.r i = f.r i
theorem Wid.refl (f : Rn) : Wid f f := ⟨Nat.le_refl _, Nat.le_refl _, fun _ _ => rfl, fun _ _ => rfl⟩
theorem Wid.trans {f g h : Rn} (a : Wid f g) (b : Wid g h) : Wid f h :=
  ⟨Nat.le_trans a.nb b.nb, Nat.le_trans a.nr b.nr, fun i hi => by rw [b.b i (Nat.lt_of_lt_of_le hi a.nb), a.b i hi], fun i hi => by rw [b.r i (Nat.lt_of_lt_of_le hi a.nr), a.r i hi]⟩
mutual
theorem TR.ext {f g : Rn} (e : Wid f g) : ∀ (x : T) {y : T}, TR f x y → TR g x y
  | .no, _, .no x => .no x
  | .c x, _, .c _ => .c x
  | .nil, _, .nil => .nil
  | .row i, _, .row _ h => by rw [← e.r i h]; exact .row i (Nat.lt_of_lt_of_le h e.nr)
  | .sl i lo hi, _, .sl _ _ _ h => by rw [← e.r i h]; exact .sl i lo hi (Nat.lt_of_lt_of_le h e.nr)
  | .bp b o, _, .bp _ _ h => by rw [← e.b b h]; exact .bp b o (Nat.lt_of_lt_of_le h e.nb)
  | .rp i k o, _, .rp _ _ _ h => by rw [← e.r i h]; exact .rp i k o (Nat.lt_of_lt_of_le h e.nr)
  | .cp l o, _, .cp _ _ => .cp l o
  | .ag l, _, .ag h => .ag (TRs.ext e l h)
  | .tu l, _, .tu h => .tu (TRs.ext e l h)
  | .fn k bs, _, .fn _ _ h => by
    rw [← List.map_congr_left (fun b hb => e.b b (h b hb))]; exact .fn k bs fun b hb => Nat.lt_of_lt_of_le (h b hb) e.nb
theorem TRs.ext {f g : Rn} (e : Wid f g) : ∀ (l : List T) {m : List T}, All2 (TR f) l m → All2 (TR g) l m
  | [], _, .nil => .nil
  | x :: l, _, .cons h t => .cons (TR.ext e x h) (TRs.ext e l t)
end

variable {f : Rn} {σ τ : St}

theorem elems_sim (H : HR f σ τ) {x y : T} (h : TR f x y) {l} (hl : elems σ x = some l) : elems τ y = some l := by
  cases h with
  | c x => cases x <;> exact hl
  | row i hi => simp only [elems] at hl ⊢; rw [H.row i hi]; exact hl
  | sl i lo hi' hi => simp only [elems] at hl ⊢; rw [H.row i hi]; exact hl
  | no x => simp [elems] at hl
  | nil => exact hl
  | _ => simp [elems] at hl
theorem view_sim (H : HR f σ τ) {x y : T} (h : TR f x y) {c} (hl : view σ x = some c) : view τ y = some c := by
  have key : ∀ {x y : T}, TR f x y → (elems σ x).map C.r = some c → (elems τ y).map C.r = some c := by
    intro x y h h1
    obtain ⟨l, h1, h2⟩ := Option.map_eq_some_iff.1 h1
    rw [elems_sim H h h1]; exact congrArg some h2
  cases h with
  | c x => exact hl
  | no x => simp [view, elems] at hl
  | nil => exact key .nil hl
  | row i h => exact key (.row i h) hl
  | sl i lo hi h => exact key (.sl i lo hi h) hl
  | bp b o h => exact key (.bp b o h) hl
  | rp i k o h => exact key (.rp i k o h) hl
  | cp l o => exact key (.cp l o) hl
  | ag h => exact key (.ag h) hl
  | tu h => exact key (.tu h) hl
  | fn g bs h => exact key (.fn g bs h) hl
theorem views_sim (H : HR f σ τ) : ∀ {l m : List T}, All2 (TR f) l m → ∀ {cs}, views σ l = some cs → views τ m = some cs
  | _, _, .nil, cs, h => h
  | _, _, .cons hx t, cs, h => by
    simp only [views, Option.bind_eq_some_iff, Option.map_eq_some_iff] at h ⊢
    obtain ⟨c, h1, l, h2, h3⟩ := h
    exact ⟨c, view_sim H hx h1, l, views_sim H t h2, h3⟩
theorem setRow_len (i : Nat) (r : Option Row) : (setRow σ i r).rw.length = σ.rw.length := by simp [setRow]
theorem setBox_len (i : Nat) (r : Option (List T)) : (setBox σ i r).bx.length = σ.bx.length := by simp [setBox]
theorem setRow_sim (H : HR f σ τ) {i : Nat} (hi : i < f.nr) (r : Option Row) : HR f (setRow σ i r) (setRow τ (f.r i) r) where
  nb := H.nb
  nr := by rw [setRow_len]; exact H.nr
  bi := H.bi
  ri := H.ri
  bl := H.bl
  rl := fun j hj => by rw [setRow_len]; exact H.rl j hj
  raw := fun j hj => by
    rw [rawAt_set, rawAt_set]
    by_cases e : i = j
    · subst e
      rw [if_pos ⟨rfl, H.rl i hi⟩, if_pos ⟨rfl, by rw [← H.nr]; exact hi⟩]
    · rw [if_neg (fun h => e (H.ri _ _ hi hj h.1)), if_neg (fun h => e h.1)]
      exact H.raw j hj
  box := H.box
theorem setBox_sim (H : HR f σ τ) {i : Nat} (hi : i < f.nb) {l m : List T} (h : All2 (TR f) l m) : HR f (setBox σ i (some l)) (setBox τ (f.b i) (some m)) where
  nb := by rw [setBox_len]; exact H.nb
  nr := H.nr
  bi := H.bi
  ri := H.ri
  bl := fun j hj => by rw [setBox_len]; exact H.bl j hj
  rl := H.rl
  raw := H.raw
  box := fun j k hk => by
    rw [boxAt_set] at hk ⊢
    by_cases e : i = j
    · subst e
      rw [if_pos ⟨rfl, by rw [← H.nb]; exact hi⟩] at hk
      rw [if_pos ⟨rfl, H.bl i hi⟩]
      simp only [Option.some.injEq] at hk; subst hk
      exact ⟨m, rfl, h⟩
    · rw [if_neg (fun h => e h.1)] at hk
      have hj : j < f.nb := by rw [H.nb]; exact boxAt_lt hk
      rw [if_neg (fun h => e (H.bi _ _ hi hj h.1))]
      exact H.box j k hk
theorem setBoxN_sim (H : HR f σ τ) {i : Nat} (hi : i < f.nb) : HR f (setBox σ i none) (setBox τ (f.b i) none) where
  nb := by rw [setBox_len]; exact H.nb
  nr := H.nr
  bi := H.bi
  ri := H.ri
  bl := fun j hj => by rw [setBox_len]; exact H.bl j hj
  rl := H.rl
  raw := H.raw
  box := fun j k hk => by
    rw [boxAt_set] at hk ⊢
    by_cases e : i = j
    · subst e
      rw [if_pos ⟨rfl, by rw [← H.nb]; exact hi⟩] at hk
      simp at hk
    · rw [if_neg (fun h => e h.1)] at hk
      have hj : j < f.nb := by rw [H.nb]; exact boxAt_lt hk
      rw [if_neg (fun h => e (H.bi _ _ hi hj h.1))]
      exact H.box j k hk
theorem demote_sim (H : HR f σ τ) {x y : T} (h : TR f x y) (hx : x ≠ .no) : HR f (demote σ x) (demote τ y) := by
  cases h <;> simp only [demote] <;> try exact H
  · exact absurd rfl hx
  · rename_i i hi
    rw [H.row i hi]
    cases hr : rowAt σ i with
    | none => exact H
    | some r => exact setRow_sim H hi _
  · rename_i i lo hi' hi
    rw [H.row i hi]
    cases hr : rowAt σ i with
    | none => exact H
    | some r => exact setRow_sim H hi _
theorem demotes_sim : ∀ {l m : List T} {σ τ : St}, HR f σ τ → All2 (TR f) l m → (∀ x ∈ l, x ≠ .no) → HR f (demotes σ l) (demotes τ m)
  | _, _, _, _, H, .nil, _ => H
  | _, _, _, _, H, .cons h t, hn => by
    simp only [demotes, List.foldl_cons]
    exact demotes_sim (demote_sim H h (hn _ (by simp))) t fun x hx => hn x (by simp [hx])
theorem view_no {x : T} {c} (h : view σ x = some c) : x ≠ .no := by rintro rfl; simp [view, elems] at h
theorem views_no : ∀ {l : List T} {cs}, views σ l = some cs → ∀ x ∈ l, x ≠ .no
  | [], _, _, _, hx => by simp at hx
  | y :: l, cs, h, x, hx => by
    simp only [views, Option.bind_eq_some_iff, Option.map_eq_some_iff] at h
    obtain ⟨c, h1, m, h2, _⟩ := h
    rcases List.mem_cons.1 hx with rfl | hx
    · exact view_no h1
    · exact views_no h2 x hx
theorem deep_sim (H : HR f σ τ) {x y : T} (h : TR f x y) (hx : x ≠ .no) : deepT τ y = deepT σ x := by
  cases h with
  | row i hi => simp only [deepT, H.row i hi]
  | sl i lo hi' hi => simp only [deepT, H.row i hi]
  | no x => exact absurd rfl hx
  | _ => rfl
theorem give_sim (H : HR f σ τ) {x y : T} (h : TR f x y) {c σ'} (hg : give σ x = some (c, σ')) : ∃ τ', give τ y = some (c, τ') ∧ HR f σ' τ' := by
  cases h <;> simp only [give, reduceCtorEq, Option.some.injEq, Prod.mk.injEq, Option.map_eq_some_iff] at hg ⊢
  · obtain ⟨h1, rfl⟩ := hg; exact ⟨τ, ⟨h1, rfl⟩, H⟩
  · obtain ⟨h1, rfl⟩ := hg; exact ⟨τ, ⟨h1, rfl⟩, H⟩
  · rename_i i hi
    obtain ⟨r, hr, h1, rfl⟩ := hg
    rw [H.row i hi]
    cases ho : r.ow with
    | true => exact ⟨_, ⟨r, hr, h1, rfl⟩, by simp only [ho, if_true]; exact setRow_sim H hi none⟩
    | false => exact ⟨_, ⟨r, hr, h1, rfl⟩, by simp only [ho, Bool.false_eq_true, if_false]; exact H⟩
  · rename_i i lo hi' hi
    have hd := deep_sim H (.sl i lo hi' hi) (by simp)
    rw [hd]
    split at hg
    · simp at hg
    rename_i hdd
    rw [if_neg hdd]
    simp only [Option.map_eq_some_iff, Prod.mk.injEq] at hg ⊢
    obtain ⟨r, hr, h1, rfl⟩ := hg
    rw [H.row i hi]
    cases ho : r.ow with
    | true => exact ⟨_, ⟨r, hr, h1, rfl⟩, by simp only [ho, if_true]; exact setRow_sim H hi none⟩
    | false => exact ⟨_, ⟨r, hr, h1, rfl⟩, by simp only [ho, Bool.false_eq_true, if_false]; exact H⟩
theorem gives_sim : ∀ {l m : List T} {σ τ : St}, HR f σ τ → All2 (TR f) l m → ∀ {c σ'}, gives σ l = some (c, σ') → ∃ τ', gives τ m = some (c, τ') ∧ HR f σ' τ'
  | _, _, σ, τ, H, .nil, c, σ', h => by simp only [gives, Option.some.injEq, Prod.mk.injEq] at h; obtain ⟨rfl, rfl⟩ := h; exact ⟨τ, rfl, H⟩
  | _, _, σ, τ, H, .cons hx t, c, σ', h => by
    simp only [gives, Option.bind_eq_some_iff, Option.map_eq_some_iff] at h
    obtain ⟨⟨c1, σ1⟩, h1, ⟨cs, σ2⟩, h2, h3⟩ := h
    obtain ⟨τ1, g1, H1⟩ := give_sim H hx h1
    obtain ⟨τ2, g2, H2⟩ := gives_sim H1 t h2
    simp only [Prod.mk.injEq] at h3
    obtain ⟨rfl, rfl⟩ := h3
    exact ⟨τ2, by simp only [gives, g1, Option.bind_some, g2, Option.map_some], H2⟩
/-- one row more -/
def Rn.addR (f : Rn) (j : Nat) : Rn := { f with r := fun i => if i = f.nr then j else f.r i, nr := f.nr + 1 }
def Rn.addB (f : Rn) (j : Nat) : Rn := { f with b := fun i => if i = f.nb then j else f.b i, nb := f.nb + 1 }
theorem wid_addR (f : Rn) (j : Nat) : Wid f (f.addR j) := ⟨Nat.le_refl _, Nat.le_succ _, fun _ _ => rfl, fun i hi => by simp only [Rn.addR]; rw [if_neg (by omega)]⟩
theorem wid_addB (f : Rn) (j : Nat) : Wid f (f.addB j) := ⟨Nat.le_succ _, Nat.le_refl _, fun i hi => by simp only [Rn.addB]; rw [if_neg (by omega)], fun _ _ => rfl⟩
theorem newRow_sim (H : HR f σ τ) (r : Row) : ∃ f', HR f' (newRow σ r).2 (newRow τ r).2 ∧ Wid f f' ∧ TR f' (newRow σ r).1 (newRow τ r).1 := by
  refine ⟨f.addR τ.rw.length, ?_, wid_addR _ _, ?_⟩
  · have hr : ∀ i, i < f.nr → (f.addR τ.rw.length).r i = f.r i := (wid_addR f _).r
    have hn : (f.addR τ.rw.length).r f.nr = τ.rw.length := by simp [Rn.addR]
    refine ⟨H.nb, by simp [newRow, Rn.addR, H.nr], H.bi, ?_, H.bl, ?_, ?_, ?_⟩
    · intro i j hi hj e
      simp only [Rn.addR] at hi hj
      rcases Nat.lt_or_ge i f.nr with h1 | h1 <;> rcases Nat.lt_or_ge j f.nr with h2 | h2
      · rw [hr i h1, hr j h2] at e; exact H.ri i j h1 h2 e
      · obtain rfl : j = f.nr := by omega
        rw [hr i h1, hn] at e; have := H.rl i h1; omega
      · obtain rfl : i = f.nr := by omega
        rw [hr j h2, hn] at e; have := H.rl j h2; omega
      · omega
    · intro i hi
      simp only [Rn.addR] at hi
      simp only [newRow, List.length_append, List.length_cons, List.length_nil]
      rcases Nat.lt_or_ge i f.nr with h1 | h1
      · rw [hr i h1]; have := H.rl i h1; omega
      · obtain rfl : i = f.nr := by omega
        rw [hn]; omega
    · intro i hi
      simp only [Rn.addR] at hi
      rcases Nat.lt_or_ge i f.nr with h1 | h1
      · rw [hr i h1]
        have := H.raw i h1
        simp only [rawAt, newRow] at this ⊢
        rw [List.getElem?_append_left (H.rl i h1), List.getElem?_append_left (by rw [← H.nr]; exact h1)]
        exact this
      · obtain rfl : i = f.nr := by omega
        rw [hn]
        simp [rawAt, newRow, H.nr]
    · intro i l hl
      obtain ⟨m, h1, h2⟩ := H.box i l hl
      exact ⟨m, h1, TRs.ext (wid_addR _ _) _ h2⟩
  · simp only [newRow, ← H.nr]
    have := TR.row (f := f.addR τ.rw.length) f.nr (by simp [Rn.addR])
    simpa [Rn.addR] using this
theorem newBox_sim (H : HR f σ τ) {l m : List T} (hl : All2 (TR f) l m) : ∃ f', HR f' (newBox σ l).2 (newBox τ m).2 ∧ Wid f f' ∧ TR f' (newBox σ l).1 (newBox τ m).1 := by
  refine ⟨f.addB τ.bx.length, ?_, wid_addB _ _, ?_⟩
  · have hr : ∀ i, i < f.nb → (f.addB τ.bx.length).b i = f.b i := (wid_addB f _).b
    have hn : (f.addB τ.bx.length).b f.nb = τ.bx.length := by simp [Rn.addB]
    refine ⟨by simp [newBox, Rn.addB, H.nb], H.nr, ?_, H.ri, ?_, H.rl, H.raw, ?_⟩
    · intro i j hi hj e
      simp only [Rn.addB] at hi hj
      rcases Nat.lt_or_ge i f.nb with h1 | h1 <;> rcases Nat.lt_or_ge j f.nb with h2 | h2
      · rw [hr i h1, hr j h2] at e; exact H.bi i j h1 h2 e
      · obtain rfl : j = f.nb := by omega
        rw [hr i h1, hn] at e; have := H.bl i h1; omega
      · obtain rfl : i = f.nb := by omega
        rw [hr j h2, hn] at e; have := H.bl j h2; omega
      · omega
    · intro i hi
      simp only [Rn.addB] at hi
      simp only [newBox, List.length_append, List.length_cons, List.length_nil]
      rcases Nat.lt_or_ge i f.nb with h1 | h1
      · rw [hr i h1]; have := H.bl i h1; omega
      · obtain rfl : i = f.nb := by omega
        rw [hn]; omega
    · intro i k hk
      have hlt := boxAt_lt hk
      simp only [newBox, List.length_append, List.length_cons, List.length_nil] at hlt
      rcases Nat.lt_or_ge i f.nb with h1 | h1
      · rw [hr i h1]
        simp only [boxAt, newBox] at hk ⊢
        rw [List.getElem?_append_left (by rw [← H.nb]; exact h1)] at hk
        rw [List.getElem?_append_left (H.bl i h1)]
        obtain ⟨m', h1, h2⟩ := H.box i k hk
        exact ⟨m', h1, TRs.ext (wid_addB _ _) _ h2⟩
      · obtain rfl : i = f.nb := by rw [H.nb] at h1 ⊢; omega
        rw [hn]
        simp only [boxAt, newBox, H.nb] at hk ⊢
        simp at hk
        subst hk
        exact ⟨m, by simp, TRs.ext (wid_addB _ _) _ hl⟩
  · simp only [newBox, ← H.nb]
    have := TR.bp (f := f.addB τ.bx.length) f.nb 0 (by simp [Rn.addB])
    simpa [Rn.addB] using this
theorem tell_sim (H : HR f σ τ) (c : C × Option Sz) : ∃ f', HR f' (tell σ c).2 (tell τ c).2 ∧ Wid f f' ∧ TR f' (tell σ c).1 (tell τ c).1 := by
  obtain ⟨c, o⟩ := c
  cases o with
  | none => exact ⟨f, H, .refl f, .c _⟩
  | some s => cases c with
    | s v => exact ⟨f, H, .refl f, .c _⟩
    | r l => exact newRow_sim H _
theorem tells_sim : ∀ (l : Cs) {f : Rn} {σ τ : St}, HR f σ τ → ∃ f', HR f' (tells σ l).2 (tells τ l).2 ∧ Wid f f' ∧ All2 (TR f') (tells σ l).1 (tells τ l).1
  | [], f, σ, τ, H => ⟨f, H, .refl f, .nil⟩
  | c :: l, f, σ, τ, H => by
    obtain ⟨f1, H1, e1, t1⟩ := tell_sim H c
    obtain ⟨f2, H2, e2, t2⟩ := tells_sim l H1
    exact ⟨f2, H2, e1.trans e2, .cons (TR.ext e2 _ t1) t2⟩
theorem tellV_sim (H : HR f σ τ) (a : A) : ∃ f', HR f' (tellV σ a).2 (tellV τ a).2 ∧ Wid f f' ∧ TR f' (tellV σ a).1 (tellV τ a).1 := by
  cases a with
  | c x o => exact tell_sim H (x, o)
  | ag l => obtain ⟨f', h1, h2, h3⟩ := tells_sim l H; exact ⟨f', h1, h2, .ag h3⟩
  | tu l => exact ⟨f, H, .refl f, .no _⟩
  | p l =>
    obtain ⟨f1, h1, e1, t1⟩ := tells_sim l H
    obtain ⟨f2, h2, e2, t2⟩ := newBox_sim h1 t1
    exact ⟨f2, h2, e1.trans e2, t2⟩
  | f g l =>
    have key : ∀ (l : List Cs) {f : Rn} {σ τ : St} (bs : List Nat), HR f σ τ → (∀ b, b ∈ bs → b < f.nb) →
        ∃ f', HR f' (l.foldl (fun (p : List Nat × St) c => (p.1 ++ [p.2.bx.length], (newBox (tells p.2 c).2 (tells p.2 c).1).2)) (bs, σ)).2 (l.foldl (fun (p : List Nat × St) c => (p.1 ++ [p.2.bx.length], (newBox (tells p.2 c).2 (tells p.2 c).1).2)) (bs.map f.b, τ)).2 ∧ Wid f f' ∧
          (∀ b, b ∈ (l.foldl (fun (p : List Nat × St) c => (p.1 ++ [p.2.bx.length], (newBox (tells p.2 c).2 (tells p.2 c).1).2)) (bs, σ)).1 → b < f'.nb) ∧
          (l.foldl (fun (p : List Nat × St) c => (p.1 ++ [p.2.bx.length], (newBox (tells p.2 c).2 (tells p.2 c).1).2)) (bs.map f.b, τ)).1 = (l.foldl (fun (p : List Nat × St) c => (p.1 ++ [p.2.bx.length], (newBox (tells p.2 c).2 (tells p.2 c).1).2)) (bs, σ)).1.map f'.b := by
      intro l
      induction l with
      | nil => intro f σ τ bs H hb; exact ⟨f, H, .refl f, hb, rfl⟩
      | cons c l ih =>
        intro f σ τ bs H hb
        obtain ⟨f1, h1, e1, t1⟩ := tells_sim c H
        obtain ⟨f2, h2, e2, t2⟩ := newBox_sim h1 t1
        have e := e1.trans e2
        have hlen : ∀ (σ : St) (c : Cs), (tells σ c).2.bx.length = σ.bx.length := by
          intro σ c
          induction c generalizing σ with
          | nil => rfl
          | cons c cs ih =>
            simp only [tells]
            rw [ih]
            obtain ⟨c, o⟩ := c
            cases o with
            | none => rfl
            | some s => cases c <;> rfl
        have hb2 : ∀ b, b ∈ bs ++ [σ.bx.length] → b < f2.nb := by
          intro b hb'
          rcases List.mem_append.1 hb' with h | h
          · exact Nat.lt_of_lt_of_le (hb b h) e.nb
          · simp only [List.mem_singleton] at h
            subst h
            have := h2.nb
            simp only [newBox, List.length_append, List.length_cons, List.length_nil, hlen] at this
            omega
        obtain ⟨f3, h3, e3, hb3, hm3⟩ := ih (bs ++ [σ.bx.length]) h2 hb2
        have hmap : (bs ++ [σ.bx.length]).map f2.b = bs.map f.b ++ [τ.bx.length] := by
          rw [List.map_append, List.map_congr_left (fun b h => e.b b (hb b h))]
          congr 1
          simp only [List.map_cons, List.map_nil, List.cons.injEq, and_true]
          simp only [newBox] at t2
          rw [hlen, hlen] at t2
          generalize τ.bx.length = k at t2
          generalize σ.bx.length = j at t2
          cases t2
          rfl
        simp only [List.foldl_cons]
        rw [hmap] at h3 hm3
        exact ⟨f3, h3, e.trans e3, hb3, hm3⟩
    obtain ⟨f', h1, e, h2, h3⟩ := key l [] H (by simp)
    refine ⟨f', h1, e, ?_⟩
    simp only [tellV]
    simp only [List.map_nil] at h3
    rw [h3]
    exact .fn g _ h2
theorem span_sim {f : Rn} {σ τ : St} (H : HR f σ τ) {x y : T} (h : TR f x y) {k} (hk : spanT σ x = some k) : spanT τ y = some k := by
  have gen : ∀ {x y : T}, TR f x y → (elems σ x).map (·.length) = some k → (elems τ y).map (·.length) = some k := fun h hk => by
    obtain ⟨l, h1, h2⟩ := Option.map_eq_some_iff.1 hk
    rw [elems_sim H h h1]; exact congrArg some h2
  cases h with
  | row i hi => simp only [spanT] at hk ⊢; rw [H.raw i hi]; exact hk
  | sl i lo hi' hi => simp only [spanT] at hk ⊢; rw [H.raw i hi]; exact hk
  | no x => simp [spanT, elems] at hk
  | c x => exact gen (.c x) hk
  | nil => exact gen .nil hk
  | bp b o h => exact gen (.bp b o h) hk
  | rp i k o h => exact gen (.rp i k o h) hk
  | cp l o => exact gen (.cp l o) hk
  | ag h => exact gen (.ag h) hk
  | tu h => exact gen (.tu h) hk
  | fn g bs h => exact gen (.fn g bs h) hk
end Go.SX

set_option linter.unusedVariables false
set_option linter.unusedSimpArgs false
set_option linter.unusedSectionVars false
set_option linter.unusedVariables false
set_option linter.unusedSimpArgs false
namespace Go.SX
variable {P : Program} {K : Cfg} {F : Fun} {f : Rn} {σ τ : St}

def Rn.l (f : Rn) : Lend → Lend
  | .b b => .b (f.b b)
  | .r i => .r (f.r i)
def InL (f : Rn) : Lend → Prop
  | .b b => b < f.nb
  | .r i => i < f.nr
theorem l_inj {f : Rn} (H : HR f σ τ) {x y : Lend} (hx : InL f x) (hy : InL f y) (e : f.l x = f.l y) : x = y := by
  cases x <;> cases y <;> simp only [Rn.l, Lend.b.injEq, Lend.r.injEq, reduceCtorEq] at e
  · rw [H.bi _ _ hx hy e]
  · rw [H.ri _ _ hx hy e]
theorem wid_l {f g : Rn} (e : Wid f g) {x : Lend} (hx : InL f x) : g.l x = f.l x := by
  cases x
  · simp only [Rn.l, e.b _ hx]
  · simp only [Rn.l, e.r _ hx]
theorem wid_in {f g : Rn} (e : Wid f g) {x : Lend} (hx : InL f x) : InL g x := by
  cases x
  · exact Nat.lt_of_lt_of_le hx e.nb
  · exact Nat.lt_of_lt_of_le hx e.nr
theorem lendAll_sim : ∀ (ls : List Lend) {σ τ : St}, HR f σ τ → (∀ x ∈ ls, InL f x) → ∀ {cs σ'}, lendAll σ ls = some (cs, σ') → ∃ τ', lendAll τ (ls.map f.l) = some (cs, τ') ∧ HR f σ' τ'
  | [], σ, τ, H, _, cs, σ', h => by simp only [lendAll, Option.some.injEq, Prod.mk.injEq] at h; obtain ⟨rfl, rfl⟩ := h; exact ⟨τ, rfl, H⟩
  | .b b :: ls, σ, τ, H, hin, cs, σ', h => by
    simp only [lendAll, Option.bind_eq_some_iff, Option.map_eq_some_iff] at h
    obtain ⟨l, h1, ⟨x, σ1⟩, h2, ⟨xs, σ2⟩, h3, h4⟩ := h
    simp only [Prod.mk.injEq] at h4; obtain ⟨rfl, rfl⟩ := h4
    obtain ⟨m, g1, t1⟩ := H.box b l h1
    obtain ⟨τ1, g2, H1⟩ := gives_sim (setBoxN_sim H (hin (.b b) (by simp))) t1 h2
    obtain ⟨τ2, g3, H2⟩ := lendAll_sim ls H1 (fun x hx => hin x (by simp [hx])) h3
    exact ⟨τ2, by simp only [List.map_cons, Rn.l, lendAll, g1, Option.bind_some, g2, g3, Option.map_some], H2⟩
  | .r i :: ls, σ, τ, H, hin, cs, σ', h => by
    simp only [lendAll, Option.bind_eq_some_iff] at h
    obtain ⟨q, h1, h2⟩ := h
    have hi : i < f.nr := hin (.r i) (by simp)
    split at h2
    · rename_i ho
      simp only [Option.map_eq_some_iff] at h2
      obtain ⟨⟨xs, σ2⟩, h3, h4⟩ := h2
      simp only [Prod.mk.injEq] at h4; obtain ⟨rfl, rfl⟩ := h4
      obtain ⟨τ2, g3, H2⟩ := lendAll_sim ls (setRow_sim H hi none) (fun x hx => hin x (by simp [hx])) h3
      exact ⟨τ2, by simp only [List.map_cons, Rn.l, lendAll, H.row i hi, h1, Option.bind_some, ho, if_true, g3, Option.map_some], H2⟩
    · simp at h2
theorem takeAll_sim : ∀ (ls : List Lend) (cs : List (Option Cs)) {f : Rn} {σ τ : St}, HR f σ τ → (∀ x ∈ ls, InL f x) → ∀ {σ'}, takeAll σ ls cs = some σ' → ∃ f' τ', takeAll τ (ls.map f.l) cs = some τ' ∧ HR f' σ' τ' ∧ Wid f f'
  | [], [], f, σ, τ, H, _, σ', h => by simp only [takeAll, Option.some.injEq] at h; subst h; exact ⟨f, τ, rfl, H, .refl f⟩
  | .b b :: ls, some c :: cs, f, σ, τ, H, hin, σ', h => by
    simp only [takeAll] at h
    obtain ⟨f1, H1, e1, t1⟩ := tells_sim c H
    have hb : b < f.nb := hin (.b b) (by simp)
    have H2 := setBox_sim H1 (Nat.lt_of_lt_of_le hb e1.nb) t1
    rw [e1.b b hb] at H2
    obtain ⟨f3, τ3, g3, H3, e3⟩ := takeAll_sim ls cs H2 (fun x hx => wid_in e1 (hin x (by simp [hx]))) h
    refine ⟨f3, τ3, ?_, H3, e1.trans e3⟩
    rw [List.map_congr_left (fun x hx => wid_l e1 (hin x (by simp [hx])))] at g3
    exact g3
  | .r i :: ls, some [(.r x, some s)] :: cs, f, σ, τ, H, hin, σ', h => by
    simp only [takeAll] at h
    obtain ⟨f3, τ3, g3, H3, e3⟩ := takeAll_sim ls cs (setRow_sim H (hin (.r i) (by simp)) (some ⟨s.1, x, true, .of s.2⟩)) (fun x hx => hin x (by simp [hx])) h
    exact ⟨f3, τ3, g3, H3, e3⟩
  | .r i :: ls, none :: cs, f, σ, τ, H, hin, σ', h => by
    simp only [takeAll] at h
    obtain ⟨f3, τ3, g3, H3, e3⟩ := takeAll_sim ls cs H (fun x hx => hin x (by simp [hx])) h
    exact ⟨f3, τ3, g3, H3, e3⟩
  | [], _ :: _, _, _, _, _, _, _, h => by simp [takeAll] at h
  | .b _ :: _, [], _, _, _, _, _, _, h => by simp [takeAll] at h
  | .b _ :: _, none :: _, _, _, _, _, _, _, h => by simp [takeAll] at h
  | .r _ :: _, [], _, _, _, _, _, _, h => by simp [takeAll] at h
  | .r _ :: _, some [] :: _, _, _, _, _, _, _, h => by simp [takeAll] at h
  | .r _ :: _, some [(.s _, _)] :: _, _, _, _, _, _, _, h => by simp [takeAll] at h
  | .r _ :: _, some [(.r _, none)] :: _, _, _, _, _, _, _, h => by simp [takeAll] at h
  | .r _ :: _, some (_ :: _ :: _) :: _, _, _, _, _, _, _, h => by simp [takeAll] at h
theorem seenC_sim (H : HR f σ τ) {x y : T} (h : TR f x y) : TR f (seenC σ x) (seenC τ y) := by
  cases h <;> simp only [seenC]
  · exact .no _
  · exact .c _
  · exact .nil
  · rename_i i hi
    rw [H.row i hi]
    split
    · split
      · exact .row i hi
      · exact .c _
    · exact .row i hi
  · exact .sl _ _ _ (by assumption)
  · exact .bp _ _ (by assumption)
  · exact .rp _ _ _ (by assumption)
  · exact .cp _ _
  · exact .ag (by assumption)
  · exact .tu (by assumption)
  · exact .fn _ _ (by assumption)
theorem seenCs_sim (H : HR f σ τ) : ∀ {l m : List T}, All2 (TR f) l m → All2 (TR f) (l.map (seenC σ)) (m.map (seenC τ))
  | _, _, .nil => .nil
  | _, _, .cons h t => .cons (seenC_sim H h) (seenCs_sim H t)
theorem seen1_sim (H : HR f σ τ) (md : Bool) {x y : T} (h : TR f x y) : TR f (seen1 md σ x) (seen1 md τ y) := by
  cases h <;> simp only [seen1]
  · exact .no _
  · exact .c _
  · exact .nil
  · rename_i i hi
    rw [H.row i hi]
    split
    · split
      · exact .c _
      · exact .row i hi
    · exact .row i hi
  · exact .sl _ _ _ (by assumption)
  · exact .bp _ _ (by assumption)
  · exact .rp _ _ _ (by assumption)
  · exact .cp _ _
  · rename_i hl
    split
    · exact .ag (seenCs_sim H hl)
    · exact .ag hl
  · exact .tu (by assumption)
  · exact .fn _ _ (by assumption)
theorem agA_sim (H : HR f σ τ) : ∀ {l m : List T}, All2 (TR f) l m → ∀ {cs p}, agA σ l cs = some p → agA τ m cs = some p ∧ ∀ x ∈ l, x ≠ .no
  | _, _, .nil, cs, p, h => ⟨h, by simp⟩
  | x :: l, _ :: m, .cons hx t, cs, p, h => by
    have plain : ∀ {y : T}, TR f x y → ((view σ x).bind fun c => (agA σ l cs).map fun p => ((c, none) :: p.1, p.2)) = some p → ((view τ y).bind fun c => (agA τ m cs).map fun p => ((c, none) :: p.1, p.2)) = some p ∧ ∀ y ∈ x :: l, y ≠ .no := by
      intro y hx h
      simp only [Option.bind_eq_some_iff, Option.map_eq_some_iff] at h ⊢
      obtain ⟨c, h1, l1, h2, h3⟩ := h
      obtain ⟨g1, g2⟩ := agA_sim H t h2
      refine ⟨⟨c, view_sim H hx h1, l1, g1, h3⟩, fun z hz => ?_⟩
      rcases List.mem_cons.1 hz with rfl | hz
      · exact view_no h1
      · exact g2 z hz
    cases hx with
    | no y => simp [agA, view, elems] at h
    | row i hi =>
      simp only [agA] at h ⊢
      split at h
      · simp only [Option.map_eq_some_iff] at h ⊢
        obtain ⟨l1, h2, h3⟩ := h
        obtain ⟨g1, g2⟩ := agA_sim H t h2
        refine ⟨⟨l1, g1, h3⟩, fun z hz => ?_⟩
        rcases List.mem_cons.1 hz with rfl | hz
        · simp
        · exact g2 z hz
      · simp at h
    | c x => exact plain (.c x) (by simpa [agA] using h)
    | nil => exact plain .nil (by simpa [agA] using h)
    | sl i lo hi hh => exact plain (.sl i lo hi hh) (by simpa [agA] using h)
    | rp i k o hh => exact plain (.rp i k o hh) (by simpa [agA] using h)
    | cp l o => exact plain (.cp l o) (by simpa [agA] using h)
    | bp b o hh => exact plain (.bp b o hh) (by simpa [agA] using h)
    | ag hh => exact plain (.ag hh) (by simpa [agA] using h)
    | tu hh => exact plain (.tu hh) (by simpa [agA] using h)
    | fn g bs hh => exact plain (.fn g bs hh) (by simpa [agA] using h)
theorem seens_sim (H : HR f σ τ) (md : Bool) {l m : List T} (h : All2 (TR f) l m) : All2 (TR f) (l.map (seen1 md σ)) (m.map (seen1 md τ)) := by
  induction h with
  | nil => exact .nil
  | cons h _ ih => exact .cons (seen1_sim H md h) ih
theorem argsA_sim (H : HR f σ τ) (md : Bool) : ∀ {l m : List T}, All2 (TR f) l m → ∀ {cs xs}, argsA md σ l cs = some xs → argsA md τ m cs = some xs ∧ (∀ x ∈ l, x ≠ .no) ∧ (∀ x l', x = .ag l' → x ∈ l → ∀ y ∈ l', y ≠ .no)
  | _, _, .nil, cs, xs, h => ⟨by cases cs with | nil => exact h | cons _ _ => simp [argsA] at h, by simp, by simp⟩
  | x :: l, _ :: m, .cons hx t, cs, xs, h => by
    have done : ∀ {a : List T} {cs' : List Cs} {xs'}, argsA md σ l cs' = some xs' → argsA md τ m cs' = some xs' ∧ (∀ x ∈ l, x ≠ .no) ∧ (∀ x l', x = .ag l' → x ∈ l → ∀ y ∈ l', y ≠ .no) := fun h => argsA_sim H md t h
    have plain : ∀ {y : T}, TR f x y → (∀ l', x ≠ .ag l') → ((view σ x).bind fun c => (argsA md σ l cs).map (A.c c none :: ·)) = some xs → ((view τ y).bind fun c => (argsA md τ m cs).map (A.c c none :: ·)) = some xs ∧ (∀ y ∈ x :: l, y ≠ .no) ∧ (∀ y l', y = .ag l' → y ∈ x :: l → ∀ z ∈ l', z ≠ .no) := by
      intro y hx hag h
      simp only [Option.bind_eq_some_iff, Option.map_eq_some_iff] at h ⊢
      obtain ⟨c, h1, l1, h2, h3⟩ := h
      obtain ⟨g1, g2, g3⟩ := done (a := []) h2
      refine ⟨⟨c, view_sim H hx h1, l1, g1, h3⟩, fun z hz => ?_, fun z l' e hz => ?_⟩
      · rcases List.mem_cons.1 hz with rfl | hz
        · exact view_no h1
        · exact g2 z hz
      · rcases List.mem_cons.1 hz with rfl | hz
        · exact absurd e (hag l')
        · exact g3 z l' e hz
    cases hx with
    | no y => simp [argsA, view, elems] at h
    | c x => exact plain (.c x) (by simp) (by simpa [argsA] using h)
    | nil => exact plain .nil (by simp) (by simpa [argsA] using h)
    | sl i lo hi hh => exact plain (.sl i lo hi hh) (by simp) (by simpa [argsA] using h)
    | rp i k o hh => exact plain (.rp i k o hh) (by simp) (by simpa [argsA] using h)
    | cp l o => exact plain (.cp l o) (by simp) (by simpa [argsA] using h)
    | tu hh => exact plain (.tu hh) (by simp) (by simpa [argsA] using h)
    | row i hi =>
      simp only [argsA] at h ⊢
      split at h
      · rename_i hm
        rw [if_pos hm]
        split at h
        · simp only [Option.map_eq_some_iff] at h ⊢
          obtain ⟨l1, h2, h3⟩ := h
          obtain ⟨g1, g2, g3⟩ := done (a := []) h2
          refine ⟨⟨l1, g1, h3⟩, fun z hz => ?_, fun z l' e hz => ?_⟩
          · rcases List.mem_cons.1 hz with rfl | hz
            · simp
            · exact g2 z hz
          · rcases List.mem_cons.1 hz with rfl | hz
            · simp at e
            · exact g3 z l' e hz
        · simp at h
      · rename_i hm
        rw [if_neg hm]
        exact plain (.row i hi) (by simp) h
    | bp b o hb =>
      cases cs with
      | nil => simp [argsA, view, elems] at h
      | cons c cs =>
        simp only [argsA] at h ⊢
        split at h
        · rename_i ho
          rw [if_pos ho]
          simp only [Option.map_eq_some_iff] at h ⊢
          obtain ⟨l1, h2, h3⟩ := h
          obtain ⟨g1, g2, g3⟩ := done (a := []) h2
          refine ⟨⟨l1, g1, h3⟩, fun z hz => ?_, fun z l' e hz => ?_⟩
          · rcases List.mem_cons.1 hz with rfl | hz
            · simp
            · exact g2 z hz
          · rcases List.mem_cons.1 hz with rfl | hz
            · simp at e
            · exact g3 z l' e hz
        · simp at h
    | fn g bs hb =>
      simp only [argsA, List.length_map] at h ⊢
      split at h
      · rename_i ho
        rw [if_pos ho]
        simp only [Option.map_eq_some_iff] at h ⊢
        obtain ⟨l1, h2, h3⟩ := h
        obtain ⟨g1, g2, g3⟩ := done (a := []) h2
        refine ⟨⟨l1, g1, h3⟩, fun z hz => ?_, fun z l' e hz => ?_⟩
        · rcases List.mem_cons.1 hz with rfl | hz
          · simp
          · exact g2 z hz
        · rcases List.mem_cons.1 hz with rfl | hz
          · simp at e
          · exact g3 z l' e hz
      · simp at h
    | ag hl =>
      cases md with
      | true =>
        simp only [argsA, if_true, Option.bind_eq_some_iff, Option.map_eq_some_iff] at h ⊢
        obtain ⟨p, h1, l1, h2, h3⟩ := h
        obtain ⟨k1, k2⟩ := agA_sim H hl h1
        obtain ⟨g1, g2, g3⟩ := done (a := []) h2
        refine ⟨⟨p, k1, l1, g1, h3⟩, fun z hz => ?_, fun z l' e hz => ?_⟩
        · rcases List.mem_cons.1 hz with rfl | hz
          · simp
          · exact g2 z hz
        · rcases List.mem_cons.1 hz with rfl | hz
          · simp only [T.ag.injEq] at e
            subst e
            exact k2
          · exact g3 z l' e hz
      | false =>
      simp only [argsA, Bool.false_eq_true, if_false, Option.bind_eq_some_iff, Option.map_eq_some_iff] at h ⊢
      obtain ⟨c, h1, l1, h2, h3⟩ := h
      obtain ⟨g1, g2, g3⟩ := done (a := []) h2
      refine ⟨⟨c, views_sim H hl h1, l1, g1, h3⟩, fun z hz => ?_, fun z l' e hz => ?_⟩
      · rcases List.mem_cons.1 hz with rfl | hz
        · simp
        · exact g2 z hz
      · rcases List.mem_cons.1 hz with rfl | hz
        · simp only [T.ag.injEq] at e
          subst e
          exact views_no h1
        · exact g3 z l' e hz
theorem agLent_sim : ∀ {l m : List T}, All2 (TR f) l m → (∀ x ∈ l, x ≠ .no) → agLent m = (agLent l).map f.l ∧ ∀ x ∈ agLent l, InL f x
  | _, _, .nil, _ => ⟨rfl, by simp [agLent]⟩
  | x :: l, _ :: m, .cons hx t, hn => by
    obtain ⟨ih, ih2⟩ := agLent_sim t fun x hx => hn x (by simp [hx])
    cases hx with
    | no y => exact absurd rfl (hn .no (by simp))
    | row i hi =>
      simp only [agLent, ih, List.map_cons, Rn.l, true_and]
      intro x hx
      rcases List.mem_cons.1 hx with rfl | hx
      · exact hi
      · exact ih2 x hx
    | _ => simp only [agLent]; exact ⟨ih, ih2⟩
theorem lentOf_sim (md : Bool) : ∀ {l m : List T}, All2 (TR f) l m → (∀ x ∈ l, x ≠ .no) → (md = true → ∀ x l', x = .ag l' → x ∈ l → ∀ y ∈ l', y ≠ .no) → lentOf md m = (lentOf md l).map f.l ∧ ∀ x ∈ lentOf md l, InL f x
  | _, _, .nil, _, _ => ⟨rfl, by simp [lentOf]⟩
  | x :: l, _ :: m, .cons hx t, hn, ha => by
    obtain ⟨ih, ih2⟩ := lentOf_sim md t (fun x hx => hn x (by simp [hx])) fun hm x l' e hx => ha hm x l' e (by simp [hx])
    cases hx with
    | no y => exact absurd rfl (hn .no (by simp))
    | bp b o hb =>
      simp only [lentOf, ih, List.map_cons, Rn.l, true_and]
      intro x hx
      rcases List.mem_cons.1 hx with rfl | hx
      · exact hb
      · exact ih2 x hx
    | fn g bs hb =>
      simp only [lentOf, ih, List.map_append, List.map_map]
      refine ⟨by congr 1, fun x hx => ?_⟩
      rcases List.mem_append.1 hx with hx | hx
      · obtain ⟨b, h1, rfl⟩ := List.mem_map.1 hx
        exact hb b h1
      · exact ih2 x hx
    | row i hi =>
      cases md with
      | true =>
        simp only [lentOf, ih, if_true, List.map_cons, Rn.l, true_and]
        intro x hx
        rcases List.mem_cons.1 hx with rfl | hx
        · exact hi
        · exact ih2 x hx
      | false => simp only [lentOf, Bool.false_eq_true, if_false]; exact ⟨ih, ih2⟩
    | ag hl =>
      cases md with
      | true =>
        obtain ⟨k1, k2⟩ := agLent_sim hl (ha rfl _ _ rfl (by simp))
        simp only [lentOf, ih, if_true, k1, List.map_append, true_and]
        intro x hx
        rcases List.mem_append.1 hx with hx | hx
        · exact k2 x hx
        · exact ih2 x hx
      | false => simp only [lentOf, Bool.false_eq_true, if_false]; exact ⟨ih, ih2⟩
    | _ => simp only [lentOf]; exact ⟨ih, ih2⟩
theorem seenRows_sim : ∀ {l m : List T}, All2 (TR f) l m → (∀ x ∈ l, x ≠ .no) → (∀ x l', x = .ag l' → x ∈ l → ∀ y ∈ l', y ≠ .no) → All2 (TR f) (seenRows l) (seenRows m) ∧ ∀ x ∈ seenRows l, x ≠ .no
  | _, _, .nil, _, _ => ⟨.nil, by simp [seenRows]⟩
  | x :: l, _ :: m, .cons hx t, hn, ha => by
    obtain ⟨ih, ih2⟩ := seenRows_sim t (fun x hx => hn x (by simp [hx])) fun x l' e hx => ha x l' e (by simp [hx])
    have one : ∀ {y : T}, TR f x y → All2 (TR f) (x :: seenRows l) (y :: seenRows m) ∧ ∀ z ∈ x :: seenRows l, z ≠ .no := fun h => ⟨.cons h ih, fun z hz => by
      rcases List.mem_cons.1 hz with rfl | hz
      · exact hn _ (by simp)
      · exact ih2 z hz⟩
    cases hx with
    | no y => exact absurd rfl (hn .no (by simp))
    | ag h =>
      refine ⟨h.append ih, fun z hz => ?_⟩
      simp only [seenRows] at hz
      rcases List.mem_append.1 hz with hz | hz
      · exact ha _ _ rfl (by simp) z hz
      · exact ih2 z hz
    | c x => exact one (.c x)
    | nil => exact one .nil
    | row i h => exact one (.row i h)
    | sl i lo hi h => exact one (.sl i lo hi h)
    | bp b o h => exact one (.bp b o h)
    | rp i k o h => exact one (.rp i k o h)
    | cp l o => exact one (.cp l o)
    | tu h => exact one (.tu h)
    | fn g bs h => exact one (.fn g bs h)
theorem tellVs_sim : ∀ (l : List A) {f : Rn} {σ τ : St}, HR f σ τ → ∃ f', HR f' (tellVs σ l).2 (tellVs τ l).2 ∧ Wid f f' ∧ All2 (TR f') (tellVs σ l).1 (tellVs τ l).1
  | [], f, σ, τ, H => ⟨f, H, .refl f, .nil⟩
  | a :: l, f, σ, τ, H => by
    obtain ⟨f1, H1, e1, t1⟩ := tellV_sim H a
    obtain ⟨f2, H2, e2, t2⟩ := tellVs_sim l H1
    exact ⟨f2, H2, e1.trans e2, .cons (TR.ext e2 _ t1) t2⟩
theorem tellA_sim (H : HR f σ τ) (a : A) : ∃ f', HR f' (tellA σ a).2 (tellA τ a).2 ∧ Wid f f' ∧ TR f' (tellA σ a).1 (tellA τ a).1 := by
  cases a with
  | tu l => obtain ⟨f', h1, h2, h3⟩ := tellVs_sim l H; exact ⟨f', h1, h2, .tu h3⟩
  | c x o => exact tellV_sim H _
  | ag l => exact tellV_sim H _
  | p l => exact tellV_sim H _
  | f g l => exact tellV_sim H _
theorem argsA_no {md : Bool} {σ' : St} : ∀ (l : List T) {cs xs}, argsA md σ' l cs = some xs → ∀ x ∈ l, x ≠ .no := by
  intro l
  induction l with
  | nil => intro _ _ _ x hx; simp at hx
  | cons y l ih =>
    intro cs xs h x hx
    rcases List.mem_cons.1 hx with rfl | hx2
    · rintro rfl; simp [argsA, view, elems] at h
    · cases y <;> try simp only [argsA] at h
      case bp b o =>
        cases cs with
        | nil => simp [argsA, view, elems] at h
        | cons c cs =>
          simp only [argsA] at h
          split at h
          · obtain ⟨_, h, _⟩ := Option.map_eq_some_iff.1 h; exact ih h x hx2
          · simp at h
      case fn g bs =>
        split at h
        · obtain ⟨_, h, _⟩ := Option.map_eq_some_iff.1 h; exact ih h x hx2
        · simp at h
      case ag l =>
        split at h
        · obtain ⟨_, _, h⟩ := Option.bind_eq_some_iff.1 h
          obtain ⟨_, h, _⟩ := Option.map_eq_some_iff.1 h; exact ih h x hx2
        · obtain ⟨_, _, h⟩ := Option.bind_eq_some_iff.1 h
          obtain ⟨_, h, _⟩ := Option.map_eq_some_iff.1 h; exact ih h x hx2
      case row i =>
        split at h
        · split at h
          · obtain ⟨_, h, _⟩ := Option.map_eq_some_iff.1 h; exact ih h x hx2
          · simp at h
        · obtain ⟨_, _, h⟩ := Option.bind_eq_some_iff.1 h
          obtain ⟨_, h, _⟩ := Option.map_eq_some_iff.1 h; exact ih h x hx2
      all_goals
        obtain ⟨_, _, h⟩ := Option.bind_eq_some_iff.1 h
        obtain ⟨_, h, _⟩ := Option.map_eq_some_iff.1 h; exact ih h x hx2
/-- an operation's answer, told on the other side -/
def Out (f : Rn) (r : T × St) (r' : Option (T × St)) : Prop := ∃ f' q, r' = some q ∧ HR f' r.2 q.2 ∧ Wid f f' ∧ TR f' r.1 q.1
theorem agA_no {σ' : St} : ∀ (l : List T) {cs p}, agA σ' l cs = some p → ∀ x ∈ l, x ≠ .no
  | [], _, _, _, x, hx => by simp at hx
  | y :: l, cs, p, h, x, hx => by
    cases y <;> simp only [agA] at h
    case row i =>
      split at h
      · obtain ⟨_, h, _⟩ := Option.map_eq_some_iff.1 h
        rcases List.mem_cons.1 hx with rfl | hx2
        · simp
        · exact agA_no l h x hx2
      · simp at h
    all_goals
      obtain ⟨_, h1, h⟩ := Option.bind_eq_some_iff.1 h
      obtain ⟨_, h, _⟩ := Option.map_eq_some_iff.1 h
      rcases List.mem_cons.1 hx with rfl | hx2
      · exact view_no h1
      · exact agA_no l h x hx2
theorem argsA_noI {md : Bool} {σ' : St} : ∀ (l : List T) {cs xs}, argsA md σ' l cs = some xs → ∀ x l', x = .ag l' → x ∈ l → ∀ y ∈ l', y ≠ .no := by
  intro l
  induction l with
  | nil => intro _ _ _ x l' _ hx; simp at hx
  | cons y l ih =>
    intro cs xs h x l' e hx
    cases y <;> try simp only [argsA] at h
    case bp b o =>
      cases cs with
      | nil => simp [argsA, view, elems] at h
      | cons c cs =>
        simp only [argsA] at h
        split at h
        · obtain ⟨_, h, _⟩ := Option.map_eq_some_iff.1 h
          rcases List.mem_cons.1 hx with rfl | hx2
          · cases e
          · exact ih h x l' e hx2
        · simp at h
    case fn g bs =>
      split at h
      · obtain ⟨_, h, _⟩ := Option.map_eq_some_iff.1 h
        rcases List.mem_cons.1 hx with rfl | hx2
        · cases e
        · exact ih h x l' e hx2
      · simp at h
    case ag z =>
      split at h
      · obtain ⟨_, h1, h⟩ := Option.bind_eq_some_iff.1 h
        obtain ⟨_, h, _⟩ := Option.map_eq_some_iff.1 h
        rcases List.mem_cons.1 hx with rfl | hx2
        · cases e; exact agA_no _ h1
        · exact ih h x l' e hx2
      · obtain ⟨_, h1, h⟩ := Option.bind_eq_some_iff.1 h
        obtain ⟨_, h, _⟩ := Option.map_eq_some_iff.1 h
        rcases List.mem_cons.1 hx with rfl | hx2
        · cases e; exact views_no h1
        · exact ih h x l' e hx2
    case row i =>
      split at h
      · split at h
        · obtain ⟨_, h, _⟩ := Option.map_eq_some_iff.1 h
          rcases List.mem_cons.1 hx with rfl | hx2
          · cases e
          · exact ih h x l' e hx2
        · simp at h
      · obtain ⟨_, _, h⟩ := Option.bind_eq_some_iff.1 h
        obtain ⟨_, h, _⟩ := Option.map_eq_some_iff.1 h
        rcases List.mem_cons.1 hx with rfl | hx2
        · cases e
        · exact ih h x l' e hx2
    all_goals
      obtain ⟨_, _, h⟩ := Option.bind_eq_some_iff.1 h
      obtain ⟨_, h, _⟩ := Option.map_eq_some_iff.1 h
      rcases List.mem_cons.1 hx with rfl | hx2
      · cases e
      · exact ih h x l' e hx2
theorem out_same (H : HR f σ τ) {x y : T} (h : TR f x y) : Out f (x, σ) (some (y, τ)) := ⟨f, _, rfl, H, .refl f, h⟩
theorem apply_sim (H : HR f σ τ) {x y : T} (h : TR f x y) {l m : List T} (hl : All2 (TR f) l m) {r : T × St} (ha : apply K F σ x l = some r) : Out f r (apply K F τ y m) := by
  cases h <;> simp only [apply, reduceCtorEq] at ha
  rename_i g bs hbs
  simp only [apply]
  have hall : All2 (TR f) (l.map (seen1 (K.md g) σ) ++ bs.map (T.bp · 0)) (m.map (seen1 (K.md g) τ) ++ (bs.map f.b).map (T.bp · 0)) := by
    refine (seens_sim H _ hl).append ?_
    clear ha
    induction bs with
    | nil => exact .nil
    | cons b bs ih => exact .cons (.bp b 0 (hbs b (by simp))) (ih fun b hb => hbs b (by simp [hb]))
  split at ha
  · rename_i hnd
    simp only [Option.bind_eq_some_iff] at ha
    obtain ⟨⟨cs, σ1⟩, h1, xs, h2, ⟨ra, back⟩, h3, h4⟩ := ha
    simp only at h2 h3 h4
    -- the arguments' shapes do not hang on the state after the lending
    have hno : ∀ {σ' : St} {l : List T} {cs}, argsA (K.md g) σ' l cs = some xs → ∀ x ∈ l, x ≠ .no := fun h => argsA_no _ h
    obtain ⟨el, hin⟩ := lentOf_sim (K.md g) hall (hno h2) (fun _ => argsA_noI _ h2)
    obtain ⟨τ1, g1, H1⟩ := lendAll_sim _ H hin h1
    obtain ⟨g2, _, n2⟩ := argsA_sim H1 (K.md g) hall h2
    have hnd' : (List.map f.l (lentOf (K.md g) (l.map (seen1 (K.md g) σ) ++ bs.map (T.bp · 0)))).Nodup := by
      unfold List.Nodup at hnd ⊢
      rw [List.pairwise_map]
      exact hnd.imp_of_mem fun {a b} ha hb hne e => hne (l_inj H (hin a ha) (hin b hb) e)
    split at h4
    · rename_i hk
      simp only [Option.map_eq_some_iff] at h4
      obtain ⟨σ3, h5, rfl⟩ := h4
      have H2 : HR f (if K.nest g then demotes σ1 (seenRows (l.map (seen1 (K.md g) σ) ++ bs.map (T.bp · 0))) else σ1) (if K.nest g then demotes τ1 (seenRows (m.map (seen1 (K.md g) τ) ++ (bs.map f.b).map (T.bp · 0))) else τ1) := by
        split
        · obtain ⟨t, n⟩ := seenRows_sim hall (hno h2) n2
          exact demotes_sim H1 t n
        · exact H1
      obtain ⟨f3, H3, e3, t3⟩ := tellA_sim H2 ra
      obtain ⟨f4, τ4, g4, H4, e4⟩ := takeAll_sim _ _ H3 (fun x hx => wid_in e3 (hin x hx)) h5
      rw [List.map_congr_left (fun x hx => wid_l e3 (hin x hx))] at g4
      refine ⟨f4, (_, τ4), ?_, H4, e3.trans e4, TR.ext e4 _ t3⟩
      rw [el, if_pos hnd', g1]
      simp only [Option.bind_some, g2, h3, hk, if_true, g4, Option.map_some]
    · simp at h4
  · simp at ha
end Go.SX

set_option linter.unusedVariables false
set_option linter.unusedSimpArgs false
set_option linter.unusedSectionVars false
set_option linter.unusedVariables false
set_option linter.unusedSimpArgs false
namespace Go.SX
variable {P : Program} {K : Cfg} {F : Fun} {f : Rn} {σ τ : St}

theorem ofV_refl (v : Value) : TR f (ofV v) (ofV v) := by
  unfold ofV; split
  · exact .no _
  · exact .no _
  · exact .nil
  · exact .c _
theorem constT_refl (v : Value) : TR f (constT v) (constT v) := by
  unfold constT
  split
  · split
    · refine .ag ?_
      rename_i cs _
      generalize cs.toList = l
      induction l with
      | nil => exact .nil
      | cons v l ih => exact .cons (ofV_refl v) ih
    · exact .no _
  · exact ofV_refl _
theorem flat_sim {x y : T} (h : TR f x y) {l} (hl : flat x = some l) : ∃ m, flat y = some m ∧ All2 (TR f) l m := by
  cases h with
  | no x => simp [flat] at hl
  | tu h => simp [flat] at hl
  | ag h => simp only [flat, Option.some.injEq] at hl; subst hl; exact ⟨_, rfl, h⟩
  | c x => simp only [flat, Option.some.injEq] at hl; subst hl; exact ⟨_, rfl, .cons (.c x) .nil⟩
  | nil => simp only [flat, Option.some.injEq] at hl; subst hl; exact ⟨_, rfl, .cons .nil .nil⟩
  | row i h => simp only [flat, Option.some.injEq] at hl; subst hl; exact ⟨_, rfl, .cons (.row i h) .nil⟩
  | sl i lo hi h => simp only [flat, Option.some.injEq] at hl; subst hl; exact ⟨_, rfl, .cons (.sl i lo hi h) .nil⟩
  | bp b o h => simp only [flat, Option.some.injEq] at hl; subst hl; exact ⟨_, rfl, .cons (.bp b o h) .nil⟩
  | rp i k o h => simp only [flat, Option.some.injEq] at hl; subst hl; exact ⟨_, rfl, .cons (.rp i k o h) .nil⟩
  | cp l o => simp only [flat, Option.some.injEq] at hl; subst hl; exact ⟨_, rfl, .cons (.cp l o) .nil⟩
  | fn g bs h => simp only [flat, Option.some.injEq] at hl; subst hl; exact ⟨_, rfl, .cons (.fn g bs h) .nil⟩
theorem consts_sim {z : Value} {l} (hl : flat (constT z) = some l) : All2 (TR f) l l := by
  obtain ⟨m, h1, h2⟩ := flat_sim (f := f) (constT_refl z) hl
  rw [hl] at h1
  simp only [Option.some.injEq] at h1
  subst h1; exact h2
theorem cs_refl (l : List C) : All2 (TR f) (l.map T.c) (l.map T.c) := by
  induction l with
  | nil => exact .nil
  | cons x l ih => exact .cons (.c x) ih
theorem cells_sim (H : HR f σ τ) {x y : T} (h : TR f x y) {l} (hl : cells σ x = some l) : ∃ m, cells τ y = some m ∧ All2 (TR f) l m := by
  cases h <;> simp only [cells, reduceCtorEq] at hl ⊢
  · obtain ⟨k, h1, rfl⟩ := Option.map_eq_some_iff.1 hl
    obtain ⟨m, h2, h3⟩ := H.box _ _ h1
    exact ⟨_, by rw [h2]; rfl, h3.drop _⟩
  · rename_i i k o hi
    rw [H.row i hi, hl]
    refine ⟨l, rfl, ?_⟩
    obtain ⟨q, _, h2⟩ := Option.bind_eq_some_iff.1 hl
    split at h2
    · simp at h2
    obtain ⟨el, _, rfl⟩ := Option.map_eq_some_iff.1 h2
    exact cs_refl _
  · simp only [Option.some.injEq] at hl; subst hl; exact ⟨_, rfl, cs_refl _⟩
def okT : T → Bool
  | .no => false
  | _ => true
theorem seen_ag (l : List T) : seenQ (.ag l) = l.all okT := by
  simp only [seenQ]
  congr 1
theorem no_sim {x y : T} (h : TR f x y) (hx : okT x = true) : okT y = true := by
  cases h <;> first | rfl | simp [okT] at hx
theorem seenQ_sim {x y : T} (h : TR f x y) (hx : seenQ x = true) : seenQ y = true := by
  cases h with
  | ag h =>
    rw [seen_ag] at hx ⊢
    induction h with
    | nil => rfl
    | cons h _ ih =>
      simp only [List.all_cons, Bool.and_eq_true] at hx ⊢
      exact ⟨no_sim h hx.1, ih hx.2⟩
  | no x => simp [seenQ] at hx
  | _ => rfl
theorem dig_sim (H : HR f σ τ) {x y : T} (h : TR f x y) {p} (hd : dig σ x = some p) : ∃ τ', dig τ y = some (p.1, τ') ∧ HR f p.2 τ' := by
  cases h <;> simp only [dig, reduceCtorEq] at hd ⊢
  · rename_i c
    cases c with
    | s v => simp only [dig, Option.some.injEq] at hd ⊢; subst hd; exact ⟨τ, rfl, H⟩
    | r l => simp [dig] at hd
  · simp only [Option.some.injEq] at hd ⊢; subst hd; exact ⟨τ, rfl, H⟩
  · rename_i i hi
    rw [H.row i hi]
    obtain ⟨q, h1, hd⟩ := Option.bind_eq_some_iff.1 hd
    rw [h1]; simp only [Option.bind_some]
    split at hd
    · rename_i hc
      rw [if_pos hc]
      simp only [Option.some.injEq] at hd; subst hd
      exact ⟨_, rfl, setRow_sim H hi none⟩
    · simp at hd
theorem digs_sim : ∀ {l m : List T} {σ τ : St}, HR f σ τ → All2 (TR f) l m → ∀ {p}, digs σ l = some p → ∃ τ', digs τ m = some (p.1, τ') ∧ HR f p.2 τ'
  | _, _, σ, τ, H, .nil, p, h => by simp only [digs, Option.some.injEq] at h ⊢; subst h; exact ⟨τ, rfl, H⟩
  | _, _, σ, τ, H, .cons hx t, p, h => by
    simp only [digs] at h ⊢
    obtain ⟨p1, h1, h⟩ := Option.bind_eq_some_iff.1 h
    obtain ⟨p2, h2, rfl⟩ := Option.map_eq_some_iff.1 h
    obtain ⟨τ1, g1, H1⟩ := dig_sim H hx h1
    obtain ⟨τ2, g2, H2⟩ := digs_sim H1 t h2
    exact ⟨τ2, by rw [g1]; simp only [Option.bind_some, g2, Option.map_some], H2⟩
theorem digs_no : ∀ (l : List T) {σ : St} {p}, digs σ l = some p → ∀ z ∈ l, z ≠ .no
  | [], _, _, _, z, hz => by simp at hz
  | y :: l, σ, p, h, z, hz => by
    simp only [digs] at h
    obtain ⟨p1, h1, h⟩ := Option.bind_eq_some_iff.1 h
    obtain ⟨p2, h2, _⟩ := Option.map_eq_some_iff.1 h
    rcases List.mem_cons.1 hz with rfl | hz
    · rintro rfl; simp [dig] at h1
    · exact digs_no l h2 z hz
theorem cols_sim (H : HR f σ τ) {n : Nat} : ∀ {l m : List T} {o : Nat}, All2 (TR f) l m → (∀ z ∈ l, z ≠ .no) → colsQ τ n o m = colsQ σ n o l
  | _, _, _, .nil, _ => rfl
  | _, _, o, .cons hx t, hn => by
    simp only [colsQ, cols_sim H t fun z hz => hn z (List.mem_cons_of_mem _ hz)]
    congr 1
    have h0 := hn _ List.mem_cons_self
    cases hx with
    | row i hi => simp only [colQ, H.raw i hi]
    | no => exact absurd rfl h0
    | _ => rfl
theorem thaw_sim (H : HR f σ τ) {x y : T} (h : TR f x y) (hn : x ≠ .no) : HR f (thaw σ x) (thaw τ y) := by
  have key : ∀ {i : Nat}, i < f.nr → HR f (match rowAt σ i with | some r => setRow σ i (some { r with dp := .f }) | none => σ) (match rowAt τ (f.r i) with | some r => setRow τ (f.r i) (some { r with dp := .f }) | none => τ) := by
    intro i hi
    rw [H.row i hi]
    split
    · exact setRow_sim H hi _
    · exact H
  cases h <;> simp only [thaw] <;> first | exact H | exact absurd rfl hn | exact key (by assumption)
theorem splice_sim {l l' n n' : List T} (h1 : All2 (TR f) l l') (h2 : All2 (TR f) n n') {o : Nat} {r} (h : splice l o n = some r) : ∃ r', splice l' o n' = some r' ∧ All2 (TR f) r r' := by
  unfold splice at h ⊢
  rw [h1.len, h2.len] at h
  split at h
  · rename_i hc
    simp only [Option.some.injEq] at h; subst h
    exact ⟨_, if_pos hc, ((h1.take o).append h2).append (h1.drop _)⟩
  · simp at h
theorem fillT_sim {place : Nat → Option (Nat × Nat)} : ∀ {ps qs : List (Nat × T)}, All2 (fun p q => p.1 = q.1 ∧ TR f p.2 q.2) ps qs → ∀ {cs cs' : List T}, All2 (TR f) cs cs' → ∀ {r}, fillT place cs ps = some r → ∃ r', fillT place cs' qs = some r' ∧ All2 (TR f) r r'
  | _, _, .nil, cs, cs', hc, r, h => by simp only [fillT, Option.some.injEq] at h; subst h; exact ⟨_, rfl, hc⟩
  | (i, x) :: _, (j, y) :: _, .cons hx t, cs, cs', hc, r, h => by
    obtain ⟨e, hx⟩ := hx
    simp only at e hx; subst e
    simp only [fillT, Option.bind_eq_some_iff] at h
    obtain ⟨⟨off, size⟩, h1, fl, h2, h3⟩ := h
    obtain ⟨m, h4, h5⟩ := flat_sim hx h2
    simp only at h3
    split at h3
    · rename_i hs
      obtain ⟨cs1, h6, h7⟩ := Option.bind_eq_some_iff.1 h3
      obtain ⟨cs2, h8, h9⟩ := splice_sim hc h5 h6
      obtain ⟨r', h10, h11⟩ := fillT_sim t h9 h7
      refine ⟨r', ?_, h11⟩
      simp only [fillT, h1, Option.bind_some, h4]
      rw [if_pos (by rw [← h5.len]; exact hs), h8]; exact h10
    · simp at h3
theorem eqFs_sim {g : TypeId → List T → List T → Option Bool} (hg : ∀ t {l l' m m' : List T} {b}, All2 (TR f) l l' → All2 (TR f) m m' → g t l m = some b → g t l' m' = some b) {l l' m m' : List T} (h1 : All2 (TR f) l l') (h2 : All2 (TR f) m m') : ∀ (fs : List Field) {b}, eqFs P g l m fs = some b → eqFs P g l' m' fs = some b
  | [], b, h => h
  | fd :: fs, b, h => by
    simp only [eqFs] at h ⊢
    split at h
    · simp at h
    · rename_i hn
      rw [if_neg hn]
      obtain ⟨a, ha, h⟩ := Option.bind_eq_some_iff.1 h
      rw [ha]
      simp only [Option.bind_some] at h ⊢
      obtain ⟨r, hr, h⟩ := Option.bind_eq_some_iff.1 h
      obtain ⟨b', hb, h⟩ := Option.map_eq_some_iff.1 h
      have : (if a = true then (szOf P fd.type).bind fun n => g fd.type (List.take n (List.drop fd.offset l')) (List.take n (List.drop fd.offset m')) else l'[fd.offset]?.bind fun x => m'[fd.offset]?.bind fun y => g fd.type [x] [y]) = some r := by
        split at hr
        · rename_i h0
          rw [if_pos h0]
          obtain ⟨n, hn, hr⟩ := Option.bind_eq_some_iff.1 hr
          rw [hn]; exact hg _ ((h1.drop _).take n) ((h2.drop _).take n) hr
        · rename_i h0
          rw [if_neg h0]
          obtain ⟨x, hx, hr⟩ := Option.bind_eq_some_iff.1 hr
          obtain ⟨y, hy, hr⟩ := Option.bind_eq_some_iff.1 hr
          obtain ⟨x', hx', tx⟩ := h1.get _ _ hx
          obtain ⟨y', hy', ty⟩ := h2.get _ _ hy
          rw [hx', hy']; exact hg _ (.cons tx .nil) (.cons ty .nil) hr
      rw [this]
      simp only [Option.bind_some]
      rw [eqFs_sim hg h1 h2 fs hb]; exact congrArg some h
theorem eqT_sim : ∀ (d : Nat) (t : TypeId) {l l' m m' : List T} {b}, All2 (TR f) l l' → All2 (TR f) m m' → eqT P d t l m = some b → eqT P d t l' m' = some b
  | 0, _, _, _, _, _, _, _, _, h => by simp [eqT] at h
  | d + 1, t, l, l', m, m', b, h1, h2, h => by
    simp only [eqT] at h ⊢
    split at h
    · split at h
      · cases h1 with | cons a a' => cases a' with | nil => cases a with | c x => cases h2 with | cons c c' => cases c' with | nil => cases c with | c y => exact h
      · simp at h
    · split at h
      · cases h1 with | cons a a' => cases a' with | nil => cases a with | c x => cases h2 with | cons c c' => cases c' with | nil => cases c with | c y => exact h
      · simp at h
    · split at h
      · cases h1 with | cons a a' => cases a' with | nil => cases a with | c x => cases h2 with | cons c c' => cases c' with | nil => cases c with | c y => exact h
      · simp at h
    · split at h
      · simp at h
      · rename_i hs
        rw [if_neg hs]
        exact eqFs_sim (fun t _ _ _ _ _ a b c => eqT_sim d t a b c) h1 h2 _ h
    · simp at h
theorem sc_sim {x y : T} {v : Value} (h : TR f x y) (e : x = .c (.s v)) : y = .c (.s v) := by subst e; cases h; rfl
theorem cc_sim {x y : T} {v : C} (h : TR f x y) (e : x = .c v) : y = .c v := by subst e; cases h; rfl
theorem scals_sim {ρ ρ' : Operand → T} (hρ : ∀ x, TR f (ρ x) (ρ' x)) : ∀ (l : List Operand) {vs}, scals ρ l = some vs → scals ρ' l = some vs
  | [], _, h => h
  | x :: l, vs, h => by
    simp only [scals] at h ⊢
    split at h
    · rename_i v e
      rw [sc_sim (hρ x) e]
      obtain ⟨w, h1, h2⟩ := Option.map_eq_some_iff.1 h
      simp only [scals_sim hρ l h1]; exact congrArg some h2
    · simp at h
theorem bound_sim {ρ ρ' : Operand → T} (hρ : ∀ x, TR f (ρ x) (ρ' x)) (x : Option Operand) (d : Nat) {n} (h : bound ρ x d = some n) : bound ρ' x d = some n := by
  cases x with
  | none => exact h
  | some x =>
    simp only [bound] at h ⊢
    split at h
    · rename_i k i e
      rw [sc_sim (hρ x) e]; exact h
    · simp at h
section
variable {ρ ρ' : Operand → T} (hρ : ∀ x, TR f (ρ x) (ρ' x)) (H : HR f σ τ)
include hρ H
set_option linter.unusedSectionVars false
theorem parts_sim (l : List (Nat × Operand)) : All2 (fun p q => p.1 = q.1 ∧ TR f p.2 q.2) (l.map fun p => (p.1, ρ p.2)) (l.map fun p => (p.1, ρ' p.2)) := by
  induction l with
  | nil => exact .nil
  | cons p l ih => exact .cons ⟨rfl, hρ _⟩ ih
theorem opBuildSlice_sim {t : TypeId} {len : Nat} {l : List (Nat × Operand)} {r} {dp : Bool} (h : opBuildSlice P dp σ t len (l.map fun p => (p.1, ρ p.2)) = some r) : Out f r (opBuildSlice P dp τ t len (l.map fun p => (p.1, ρ' p.2))) := by
  unfold opBuildSlice at h ⊢
  obtain ⟨e, he, h⟩ := Option.bind_eq_some_iff.1 h
  obtain ⟨i, hi, h⟩ := Option.bind_eq_some_iff.1 h
  obtain ⟨z, hz, h⟩ := Option.bind_eq_some_iff.1 h
  obtain ⟨zl, hzl, h⟩ := Option.bind_eq_some_iff.1 h
  simp only [he, Option.bind_some, hi, hz, hzl]
  split at h
  · rename_i hc
    have hc' : 0 < i.size ∧ zl.length = i.size ∧ len * i.size ≤ 2 ^ 24 ∧ ((l.map fun p => (p.1, ρ' p.2)).all fun p => seenQ p.2) = true := by
      refine ⟨hc.1, hc.2.1, hc.2.2.1, ?_⟩
      have h4 := hc.2.2.2
      simp only [List.all_eq_true, List.mem_map] at h4 ⊢
      rintro _ ⟨p, hp, rfl⟩
      exact seenQ_sim (hρ p.2) (h4 _ ⟨p, hp, rfl⟩)
    rw [if_pos hc']
    obtain ⟨fl, hf, h⟩ := Option.bind_eq_some_iff.1 h
    have hz2 : ∀ n : Nat, All2 (TR f) (List.replicate n zl).flatten (List.replicate n zl).flatten := by
      intro n
      induction n with
      | zero => exact .nil
      | succ n ih => simp only [List.replicate_succ, List.flatten_cons]; exact (consts_sim hzl).append ih
    obtain ⟨fl', hf', t'⟩ := fillT_sim (parts_sim hρ H l) (hz2 len) hf
    rw [hf']
    split at h
    · rename_i hdp
      split at h
      case isFalse => simp at h
      rename_i hcq
      obtain ⟨p, hp, h⟩ := Option.map_eq_some_iff.1 h
      obtain ⟨τ1, g1, H1⟩ := digs_sim H t' hp
      have hcq' := (cols_sim H t' (digs_no _ hp)).trans hcq
      simp only [Option.bind_some, hdp, if_true, hcq', g1, Option.map_some]
      subst h
      obtain ⟨f', a, b, c⟩ := newRow_sim H1 ⟨i.size, chunk i.size len p.1, true, .d⟩
      exact ⟨f', _, rfl, a, b, c⟩
    rename_i hdp
    obtain ⟨cs, hcs, h⟩ := Option.map_eq_some_iff.1 h
    simp only [Option.bind_some, hdp, if_false, Bool.false_eq_true, views_sim H t' hcs, Option.map_some]
    subst h
    obtain ⟨f', a, b, c⟩ := newRow_sim (demotes_sim H t' (views_no hcs)) ⟨i.size, chunk i.size len cs, true, .f⟩
    exact ⟨f', _, rfl, a, b, c⟩
  · simp at h
theorem opStore_sim {t : TypeId} {a x : Operand} {r} (h : opStore P σ t (ρ a) (ρ x) = some r) : Out f r (opStore P τ t (ρ' a) (ρ' x)) := by
  unfold opStore at h ⊢
  obtain ⟨l, hl, h⟩ := Option.bind_eq_some_iff.1 h
  obtain ⟨m, hm, t1⟩ := flat_sim (hρ x) hl
  simp only [hm, Option.bind_some]
  split at h
  · rename_i hs
    rw [if_pos (by rw [← t1.len]; exact hs)]
    have ha := hρ a
    generalize ρ a = u at ha h
    generalize ρ' a = v at ha
    cases ha <;> simp only [reduceCtorEq] at h ⊢
    · rename_i b o hb
      obtain ⟨cs, h1, h⟩ := Option.bind_eq_some_iff.1 h
      obtain ⟨cs', h2, h⟩ := Option.map_eq_some_iff.1 h
      obtain ⟨ds, g1, t2⟩ := H.box _ _ h1
      obtain ⟨ds', g2, t3⟩ := splice_sim t2 t1 h2
      rw [g1]
      simp only [Option.bind_some, g2, Option.map_some]
      subst h
      exact ⟨f, _, rfl, setBox_sim H hb t3, .refl f, .no _⟩
    · rename_i i k o hi
      rw [deep_sim H (.row i hi) (by simp)]
      split at h
      · rename_i hdd
        rw [if_pos hdd]
        obtain ⟨p, hp, h⟩ := Option.bind_eq_some_iff.1 h
        obtain ⟨τ1, g1, H1⟩ := digs_sim H t1 hp
        rw [g1]; simp only [Option.bind_some]
        obtain ⟨q, h2, h⟩ := Option.bind_eq_some_iff.1 h
        simp only [H1.row i hi, h2, Option.bind_some]
        split at h
        · rename_i ho
          rw [if_pos ⟨ho.1, ho.2.1, (cols_sim H t1 (digs_no _ hp)).trans ho.2.2⟩]
          obtain ⟨el, h3, h⟩ := Option.bind_eq_some_iff.1 h
          obtain ⟨el', h4, h⟩ := Option.map_eq_some_iff.1 h
          simp only [h3, Option.bind_some, h4, Option.map_some]
          subst h
          exact ⟨f, _, rfl, setRow_sim H1 hi _, .refl f, .no _⟩
        · simp at h
      rename_i hdd
      rw [if_neg hdd]
      obtain ⟨vs, h1, h⟩ := Option.bind_eq_some_iff.1 h
      obtain ⟨q, h2, h⟩ := Option.bind_eq_some_iff.1 h
      have H1 := demotes_sim H t1 (views_no h1)
      simp only [views_sim H t1 h1, Option.bind_some, H1.row i hi, h2]
      split at h
      · rename_i ho
        rw [if_pos ho]
        obtain ⟨el, h3, h⟩ := Option.bind_eq_some_iff.1 h
        obtain ⟨el', h4, h⟩ := Option.map_eq_some_iff.1 h
        simp only [h3, Option.bind_some, h4, Option.map_some]
        subst h
        exact ⟨f, _, rfl, setRow_sim H1 hi _, .refl f, .no _⟩
      · simp at h
  · simp at h
theorem opSlice_sim {t : TypeId} {x : Operand} {lo hi : Option Operand} {r} (h : opSlice P ρ σ t (ρ x) lo hi = some r) : Out f r (opSlice P ρ' τ t (ρ' x) lo hi) := by
  have hx := hρ x
  generalize ρ x = u at hx h
  generalize ρ' x = v at hx
  have hopt : ∀ (lo : Option Operand) {w : Option Value}, (match (motive := Option Operand → Option (Option Value)) lo with | none => some none | some y => (match ρ y with | .c (.s v) => some (some v) | _ => none)) = some w → (match (motive := Option Operand → Option (Option Value)) lo with | none => some none | some y => (match ρ' y with | .c (.s v) => some (some v) | _ => none)) = some w := by
    intro lo w h
    cases lo with
    | none => exact h
    | some y =>
      simp only at h ⊢
      split at h
      · rename_i v e; rw [sc_sim (hρ y) e]; exact h
      · simp at h
  have row : ∀ {u v : T}, TR f u v → (∀ s, u ≠ .c (.s s)) → ((elOf P t).bind fun e => (szOf P e).bind fun n => (spanT σ u).bind fun l => (bound ρ hi l).bind fun h => (bound ρ lo 0).bind fun lo =>
    if lo ≤ h ∧ h ≤ l then (match u with
      | .c (.r xs) => if wide n xs then some (.c (.r (cut xs lo h)), σ) else none
      | .nil => some (.nil, σ)
      | .row i => (rawAt σ i).bind fun r => if r.sz = n then some (.sl i lo h, σ) else none
      | .sl i a _ => (rawAt σ i).bind fun r => if r.sz = n then some (.sl i (a + lo) (a + h), σ) else none
      | _ => none)
    else none) = some r → Out f r ((elOf P t).bind fun e => (szOf P e).bind fun n => (spanT τ v).bind fun l => (bound ρ' hi l).bind fun h => (bound ρ' lo 0).bind fun lo =>
    if lo ≤ h ∧ h ≤ l then (match v with
      | .c (.r xs) => if wide n xs then some (.c (.r (cut xs lo h)), τ) else none
      | .nil => some (.nil, τ)
      | .row i => (rawAt τ i).bind fun r => if r.sz = n then some (.sl i lo h, τ) else none
      | .sl i a _ => (rawAt τ i).bind fun r => if r.sz = n then some (.sl i (a + lo) (a + h), τ) else none
      | _ => none)
    else none) := by
    intro u v huv hns h
    obtain ⟨e, he, h⟩ := Option.bind_eq_some_iff.1 h
    obtain ⟨n, hn, h⟩ := Option.bind_eq_some_iff.1 h
    obtain ⟨l, hl, h⟩ := Option.bind_eq_some_iff.1 h
    obtain ⟨b, hb, h⟩ := Option.bind_eq_some_iff.1 h
    obtain ⟨a, ha, h⟩ := Option.bind_eq_some_iff.1 h
    simp only [he, hn, span_sim H huv hl, bound_sim hρ hi _ hb, bound_sim hρ lo _ ha, Option.bind_some]
    split at h
    · rename_i hc
      rw [if_pos hc]
      cases huv with
      | c x => cases x with
        | s v => exact absurd rfl (hns v)
        | r xs =>
          simp only at h ⊢
          split at h
          · rename_i hw; rw [if_pos hw]; simp only [Option.some.injEq] at h; subst h; exact out_same H (.c _)
          · simp at h
      | nil => simp only [Option.some.injEq] at h; subst h; exact out_same H .nil
      | row i hi =>
        simp only at h ⊢
        rw [H.raw i hi]
        obtain ⟨q, h1, h⟩ := Option.bind_eq_some_iff.1 h
        rw [h1]; simp only [Option.bind_some]
        split at h
        · rename_i hw; rw [if_pos hw]; simp only [Option.some.injEq] at h; subst h; exact out_same H (.sl _ _ _ hi)
        · simp at h
      | sl i lo' hi' hi =>
        simp only at h ⊢
        rw [H.raw i hi]
        obtain ⟨q, h1, h⟩ := Option.bind_eq_some_iff.1 h
        rw [h1]; simp only [Option.bind_some]
        split at h
        · rename_i hw; rw [if_pos hw]; simp only [Option.some.injEq] at h; subst h; exact out_same H (.sl _ _ _ hi)
        · simp at h
      | no x => simp [spanT, elems] at hl
      | _ => simp at h
    · simp at h
  cases hx with
  | c x => cases x with
    | s v =>
      simp only [opSlice] at h ⊢
      obtain ⟨a, ha, h⟩ := Option.bind_eq_some_iff.1 h
      obtain ⟨b, hb, h⟩ := Option.bind_eq_some_iff.1 h
      obtain ⟨w, hw, h⟩ := Option.map_eq_some_iff.1 h
      subst h
      exact ⟨f, (ofV w, τ), Option.bind_eq_some_iff.2 ⟨a, hopt lo ha, Option.bind_eq_some_iff.2 ⟨b, hopt hi hb, by rw [hw]; rfl⟩⟩, H, .refl f, ofV_refl w⟩
    | r l => exact row (.c _) (by simp) h
  | no _ =>
    simp only [opSlice] at h
    obtain ⟨e, he, h⟩ := Option.bind_eq_some_iff.1 h
    obtain ⟨n, hn, h⟩ := Option.bind_eq_some_iff.1 h
    simp [spanT, elems] at h
  | nil => exact row .nil (by simp) h
  | row i hh => exact row (.row i hh) (by simp) h
  | sl i lo hi hh => exact row (.sl i lo hi hh) (by simp) h
  | bp b o hh => exact row (.bp b o hh) (by simp) h
  | rp i k o hh => exact row (.rp i k o hh) (by simp) h
  | cp l o => exact row (.cp l o) (by simp) h
  | ag hh => exact row (.ag hh) (by simp) h
  | tu hh => exact row (.tu hh) (by simp) h
  | fn g bs hh => exact row (.fn g bs hh) (by simp) h
end
theorem opAppend0_sim {f : Rn} {σ τ : St} (H : HR f σ τ) {t : TypeId} {s s' x x' : T} (hs : TR f s s') (hx : TR f x x') {r} (h : opAppend0 P σ t s x = some r) : Out f r (opAppend0 P τ t s' x') := by
  unfold opAppend0 at h ⊢
  obtain ⟨e, he, h⟩ := Option.bind_eq_some_iff.1 h
  obtain ⟨i, hi, h⟩ := Option.bind_eq_some_iff.1 h
  obtain ⟨z, hz, h⟩ := Option.bind_eq_some_iff.1 h
  obtain ⟨xs, hxs, h⟩ := Option.bind_eq_some_iff.1 h
  obtain ⟨old, ho, h⟩ := Option.bind_eq_some_iff.1 h
  simp only [he, hi, hz, elems_sim H hx hxs, elems_sim H hs ho, Option.bind_some]
  split at h
  · rename_i hc
    rw [if_pos hc]
    have one : ∀ {j : Nat}, j < f.nr → ((rowAt σ j).bind fun r => if r.ow ∧ (r.sz = 0 ∨ r.sz = i.size) then some (newRow (setRow σ j none) ⟨i.size, old ++ xs, true, .f⟩) else none) = some r → Out f r ((rowAt τ (f.r j)).bind fun r => if r.ow ∧ (r.sz = 0 ∨ r.sz = i.size) then some (newRow (setRow τ (f.r j) none) ⟨i.size, old ++ xs, true, .f⟩) else none) := by
      intro j hj h
      rw [H.row j hj]
      obtain ⟨q, h1, h⟩ := Option.bind_eq_some_iff.1 h
      rw [h1]; simp only [Option.bind_some]
      split at h
      · rename_i hw
        rw [if_pos hw]
        simp only [Option.some.injEq] at h; subst h
        obtain ⟨f', a, b, c⟩ := newRow_sim (setRow_sim H hj none) ⟨i.size, old ++ xs, true, .f⟩
        exact ⟨f', _, rfl, a, b, c⟩
      · simp at h
    cases hs <;> simp only [reduceCtorEq] at h ⊢
    · simp only [Option.some.injEq] at h; subst h
      obtain ⟨f', a, b, c⟩ := newRow_sim H ⟨i.size, xs, true, .f⟩
      exact ⟨f', _, rfl, a, b, c⟩
    · exact one (by assumption) h
    · exact one (by assumption) h
  · simp at h
theorem appTo_sim {f : Rn} {σ τ : St} (H : HR f σ τ) {i : TypeInfo} {s s' : T} {lx : List (List C)} (hs : TR f s s') {r} (h : appTo σ i s lx = some r) : Out f r (appTo τ i s' lx) := by
  unfold appTo at h ⊢
  cases hs with
  | nil =>
    simp only at h ⊢
    split at h
    · rename_i hb
      rw [if_pos hb]
      simp only [Option.some.injEq] at h; subst h
      obtain ⟨f', a, b, c⟩ := newRow_sim H ⟨i.size, lx, true, .d⟩
      exact ⟨f', _, rfl, a, b, c⟩
    · simp at h
  | row j hj' =>
    simp only at h ⊢
    rw [H.row j hj']
    obtain ⟨q, hq, h⟩ := Option.bind_eq_some_iff.1 h
    rw [hq]; simp only [Option.bind_some]
    split at h
    · rename_i hb
      rw [if_pos hb]
      simp only [Option.some.injEq] at h; subst h
      obtain ⟨f', a, b, c⟩ := newRow_sim (setRow_sim H hj' none) ⟨i.size, q.l ++ lx, true, .d⟩
      exact ⟨f', _, rfl, a, b, c⟩
    · simp at h
  | _ => simp at h
theorem opAppendD_sim {f : Rn} {σ τ : St} (H : HR f σ τ) {t : TypeId} {s s' : T} {jx : Nat} (hs : TR f s s') (hj : jx < f.nr) {r} (h : opAppendD P σ t s jx = some r) : Out f r (opAppendD P τ t s' (f.r jx)) := by
  unfold opAppendD at h ⊢
  obtain ⟨e, he, h⟩ := Option.bind_eq_some_iff.1 h
  obtain ⟨i, hi, h⟩ := Option.bind_eq_some_iff.1 h
  obtain ⟨z, hz, h⟩ := Option.bind_eq_some_iff.1 h
  obtain ⟨qx, hqx, h⟩ := Option.bind_eq_some_iff.1 h
  simp only [he, hi, hz, H.row jx hj, hqx, Option.bind_some]
  split at h
  · rename_i hc
    rw [if_pos hc]
    exact appTo_sim (setRow_sim H hj none) hs h
  · simp at h
theorem opAppendP_sim {f : Rn} {σ τ : St} (H : HR f σ τ) {t : TypeId} {s s' : T} {jx lo hi : Nat} (hs : TR f s s') (hj : jx < f.nr) {r} (h : opAppendP P σ t s jx lo hi = some r) : Out f r (opAppendP P τ t s' (f.r jx) lo hi) := by
  unfold opAppendP at h ⊢
  obtain ⟨e, he, h⟩ := Option.bind_eq_some_iff.1 h
  obtain ⟨i, hii, h⟩ := Option.bind_eq_some_iff.1 h
  obtain ⟨z, hz, h⟩ := Option.bind_eq_some_iff.1 h
  obtain ⟨qx, hqx, h⟩ := Option.bind_eq_some_iff.1 h
  simp only [he, hii, hz, H.raw jx hj, hqx, Option.bind_some]
  split at h
  · rename_i hc
    rw [if_pos hc]
    obtain ⟨p, h1, h2⟩ := Option.map_eq_some_iff.1 h
    obtain ⟨f', p', e1, H1, w1, t1⟩ := appTo_sim (setRow_sim H hj none) hs h1
    rw [e1]
    subst h2
    have H2 := setRow_sim H1 (Nat.lt_of_lt_of_le hj w1.nr) (some { qx with dp := .p hi })
    rw [w1.r jx hj] at H2
    exact ⟨f', _, rfl, H2, w1, t1⟩
  · simp at h
theorem isWhole_sim {f : Rn} {x x' : T} (hx : TR f x x') (hn : x ≠ .no) : isWhole x' = (isWhole x).map f.r ∧ ∀ j, isWhole x = some j → j < f.nr := by
  cases hx <;> simp_all [isWhole]
theorem isPart_sim {f : Rn} {x x' : T} (hx : TR f x x') (hn : x ≠ .no) : isPart x' = (isPart x).map (fun p => (f.r p.1, p.2)) ∧ ∀ p, isPart x = some p → p.1 < f.nr := by
  cases hx <;> simp_all [isPart]
theorem part_sim {f : Rn} {σ τ : St} (H : HR f σ τ) {x y : T} (h : TR f x y) (hx : x ≠ .no) : partQ τ y = partQ σ x := by
  cases h with
  | sl i lo hi' hi => simp only [partQ, H.raw i hi]
  | no x => exact absurd rfl hx
  | _ => rfl
theorem mov_sim {f : Rn} {σ τ : St} (H : HR f σ τ) {x y : T} (h : TR f x y) (hx : x ≠ .no) : movQ τ y = movQ σ x := by
  cases h with
  | sl i lo hi' hi => simp only [movQ, H.raw i hi]
  | no x => exact absurd rfl hx
  | _ => rfl
theorem opAppend_sim {f : Rn} {σ τ : St} (H : HR f σ τ) {t : TypeId} {s s' x x' : T} (hs : TR f s s') (hx : TR f x x') {r} (h : opAppend P σ t s x = some r) : Out f r (opAppend P τ t s' x') := by
  by_cases hsn : s = .no
  · subst hsn
    exfalso
    unfold opAppend at h
    split at h
    · simp [opAppendP, appTo] at h
    split at h
    · simp [opAppendD, appTo] at h
    · simp [opAppend0, elems] at h
  by_cases hxn : x = .no
  · subst hxn
    exfalso
    unfold opAppend at h
    rw [show movQ σ T.no = false from rfl, show deepT σ T.no = false from rfl, Bool.false_and] at h
    simp [opAppend0, elems] at h
  have d1 := deep_sim H hs hsn
  have d2 := deep_sim H hx hxn
  have hnil : isNil s' = isNil s := by
    cases hs <;> first | rfl | exact absurd rfl hsn
  obtain ⟨w1, w2⟩ := isWhole_sim hx hxn
  have HS : HR f (meltS σ s) (meltS τ s') := by
    unfold meltS
    rw [d1]
    split
    · exact thaw_sim H hs hsn
    · exact H
  have HX : HR f (meltX (meltS σ s) x) (meltX (meltS τ s') x') := by
    unfold meltX
    rw [deep_sim HS hx hxn]
    split
    · exact demote_sim HS hx hxn
    · exact HS
  have d3 := mov_sim H hx hxn
  obtain ⟨v1, v2⟩ := isPart_sim hx hxn
  unfold opAppend at h ⊢
  rw [d1, d2, d3, hnil, w1, v1]
  split at h
  · rename_i p hj
    have hw : isPart x = some p ∧ (movQ σ x && (deepT σ s || isNil s)) = true := by
      generalize (movQ σ x && (deepT σ s || isNil s)) = b at hj
      cases b <;> simp_all
    rw [hw.2, hw.1]
    exact opAppendP_sim H hs (v2 _ hw.1) h
  rename_i hj0
  have hz0 : (if (movQ σ x && (deepT σ s || isNil s)) = true then Option.map (fun p => (f.r p.1, p.2)) (isPart x) else none) = none := by
    generalize (movQ σ x && (deepT σ s || isNil s)) = b at hj0
    cases b <;> simp_all
  rw [hz0]
  simp only
  split at h
  · rename_i jx hj
    have hw : isWhole x = some jx ∧ (deepT σ x && (deepT σ s || isNil s)) = true := by
      generalize (deepT σ x && (deepT σ s || isNil s)) = b at hj
      cases b <;> simp_all
    rw [hw.2, hw.1]
    exact opAppendD_sim H hs (w2 _ hw.1) h
  · rename_i hj
    have hz : (if (deepT σ x && (deepT σ s || isNil s)) = true then Option.map f.r (isWhole x) else none) = none := by
      generalize (deepT σ x && (deepT σ s || isNil s)) = b at hj
      cases b <;> simp_all
    rw [hz]
    exact opAppend0_sim HX hs hx h
theorem opClear_sim {f : Rn} {σ τ : St} (H : HR f σ τ) {t : TypeId} {x x' : T} (hx : TR f x x') {r} (h : opClear P σ t x = some r) : Out f r (opClear P τ t x') := by
  unfold opClear at h ⊢
  obtain ⟨e, he, h⟩ := Option.bind_eq_some_iff.1 h
  obtain ⟨i, hi, h⟩ := Option.bind_eq_some_iff.1 h
  obtain ⟨z, hz, h⟩ := Option.bind_eq_some_iff.1 h
  obtain ⟨zl, hzl, h⟩ := Option.bind_eq_some_iff.1 h
  obtain ⟨cs, hcs, h⟩ := Option.bind_eq_some_iff.1 h
  simp only [he, hi, hz, hzl, views_sim H (consts_sim hzl) hcs, Option.bind_some]
  split at h
  · rename_i hc
    rw [if_pos hc]
    cases hx with
    | nil => simp at h
    | no y => simp at h
    | c y => simp at h
    | row => simp at h
    | bp => simp at h
    | rp => simp at h
    | cp => simp at h
    | ag => simp at h
    | tu => simp at h
    | fn => simp at h
    | sl j lo hi' hj =>
    simp only at h ⊢
    have H1 := demotes_sim H (consts_sim (f := f) hzl) (views_no hcs)
    rw [H1.row j hj]
    obtain ⟨q, hq, h⟩ := Option.bind_eq_some_iff.1 h
    rw [hq]; simp only [Option.bind_some]
    split at h
    · rename_i hb
      rw [if_pos hb]
      simp only [Option.some.injEq] at h; subst h
      exact ⟨f, _, rfl, setRow_sim H1 hj _, .refl f, .tu .nil⟩
    · simp at h
  · simp at h
theorem evOp_sim {ρ ρ' : Operand → T} (hρ : ∀ x, TR f (ρ x) (ρ' x)) (H : HR f σ τ) (o : Oper) {r : T × St} (h : evOp P K F ρ σ o = some r) : Out f r (evOp P K F ρ' τ o) := by
  obtain ⟨dst, op, type, pos, after, guard⟩ := o
  cases op <;> simp only [evOp, reduceCtorEq] at h ⊢
  case move x => simp only [Option.some.injEq] at h; subst h; exact out_same H (hρ x)
  case assign x => simp only [Option.some.injEq] at h; subst h; exact out_same H (hρ x)
  case pick c a b =>
    split at h
    · rename_i t e
      rw [sc_sim (hρ c) e]
      simp only [Option.some.injEq] at h ⊢; subst h
      cases t
      · exact out_same H (hρ b)
      · exact out_same H (hρ a)
    · simp at h
  case alloc t =>
    unfold opAlloc at h ⊢
    obtain ⟨i, hi, h⟩ := Option.bind_eq_some_iff.1 h
    obtain ⟨z, hz, h⟩ := Option.bind_eq_some_iff.1 h
    obtain ⟨l, hl, h⟩ := Option.map_eq_some_iff.1 h
    simp only [hi, hz, hl, Option.bind_some, Option.map_some]
    subst h
    obtain ⟨f', a, b, c⟩ := newBox_sim H (consts_sim hl)
    exact ⟨f', _, rfl, a, b, c⟩
  case box t x =>
    unfold opBox at h ⊢
    obtain ⟨l, hl, h⟩ := Option.bind_eq_some_iff.1 h
    obtain ⟨m, hm, t1⟩ := flat_sim (hρ x) hl
    rw [hm]; simp only [Option.bind_some]
    split at h
    · rename_i hc
      rw [if_pos (by rw [← t1.len]; exact hc)]
      simp only [Option.some.injEq] at h; subst h
      obtain ⟨f', a, b, c⟩ := newBox_sim H t1
      exact ⟨f', _, rfl, a, b, c⟩
    · simp at h
  case build t parts =>
    unfold opBuild at h ⊢
    obtain ⟨i, hi, h⟩ := Option.bind_eq_some_iff.1 h
    obtain ⟨z, hz, h⟩ := Option.bind_eq_some_iff.1 h
    simp only [hi, hz, Option.bind_some]
    split at h
    · rename_i cs e
      obtain ⟨ps, hps, h⟩ := Option.bind_eq_some_iff.1 h
      obtain ⟨l, hl, h⟩ := Option.map_eq_some_iff.1 h
      have hc : All2 (TR f) cs cs := by
        have := constT_refl (f := f) z
        rw [e] at this
        cases this; assumption
      obtain ⟨l', h1, t1⟩ := fillT_sim (parts_sim hρ H parts.toList) hc hl
      simp only [hps, Option.bind_some, h1, Option.map_some]
      subst h
      exact out_same H (.ag t1)
    · simp at h
  case buildSlice t len parts => exact opBuildSlice_sim hρ H h
  case load t a =>
    unfold opLoad at h ⊢
    obtain ⟨cs, h1, h⟩ := Option.bind_eq_some_iff.1 h
    obtain ⟨n, hn, h⟩ := Option.bind_eq_some_iff.1 h
    obtain ⟨g, hg, h⟩ := Option.bind_eq_some_iff.1 h
    obtain ⟨ds, g1, t1⟩ := cells_sim H (hρ a) h1
    simp only [g1, hn, hg, Option.bind_some]
    split at h
    · rename_i h0
      rw [if_pos h0]
      split at h
      · rename_i hl
        rw [if_pos (by rw [← t1.len]; exact hl)]
        simp only [Option.some.injEq] at h; subst h
        exact out_same H (.ag (t1.take n))
      · simp at h
    · rename_i h0
      rw [if_neg h0]
      cases t1 with
      | nil => simp at h
      | cons a t => simp only [List.head?_cons, Option.map_some, Option.some.injEq] at h ⊢; subst h; exact out_same H a
  case store t a x => exact opStore_sim hρ H h
  case nilCheck x =>
    have hx := hρ x
    generalize ρ x = u at hx h
    generalize ρ' x = v at hx
    cases hx <;> simp only [Option.some.injEq, reduceCtorEq] at h ⊢ <;> subst h
    · exact out_same H (.bp _ _ (by assumption))
    · exact out_same H (.rp _ _ _ (by assumption))
    · exact out_same H (.cp _ _)
    · exact out_same H (.fn _ _ (by assumption))
  case binOp op t x y u =>
    split at h
    · rename_i l m e1 e2
      have hx := hρ x
      have hy := hρ y
      rw [e1] at hx
      rw [e2] at hy
      generalize ρ' x = v at hx
      generalize ρ' y = w at hy
      cases hx with
      | ag t1 => cases hy with
        | ag t2 =>
          simp only [opEq] at h ⊢
          split at h
          · rename_i hc
            rw [if_pos hc]
            split at h
            · obtain ⟨b, hb, h⟩ := Option.map_eq_some_iff.1 h
              simp only [eqT_sim 8 t t1 t2 hb, Option.map_some]
              subst h; exact out_same H (.c _)
            · obtain ⟨b, hb, h⟩ := Option.map_eq_some_iff.1 h
              simp only [eqT_sim 8 t t1 t2 hb, Option.map_some]
              subst h; exact out_same H (.c _)
            · simp at h
          · simp at h
    · rename_i a b e1 e2
      rw [sc_sim (hρ x) e1, sc_sim (hρ y) e2]
      obtain ⟨v, hv, h⟩ := Option.map_eq_some_iff.1 h
      simp only [hv, Option.map_some]
      subst h; exact out_same H (ofV_refl v)
    · simp at h
  case unOp op t x =>
    split at h
    · rename_i a e1
      rw [sc_sim (hρ x) e1]
      obtain ⟨v, hv, h⟩ := Option.map_eq_some_iff.1 h
      simp only [hv, Option.map_some]
      subst h; exact out_same H (ofV_refl v)
    · simp at h
  case convert src dst x =>
    have hx := hρ x
    have two : ∀ {u v : T}, TR f u v → ((match P.underlying dst, (elOf P src).bind (P.underlying ·) with
      | some .string, some (.int .u8) => (elems σ u).bind fun l => (bytesOf l).map fun b => ((.c (.s (.string ⟨b.toArray⟩)) : T), σ)
      | _, _ => none) = some r) → Out f r (match P.underlying dst, (elOf P src).bind (P.underlying ·) with
      | some .string, some (.int .u8) => (elems τ v).bind fun l => (bytesOf l).map fun b => (.c (.s (.string ⟨b.toArray⟩)), τ)
      | _, _ => none) := by
      intro u v hx h
      split at h
      · rename_i h1 h2
        obtain ⟨l, hl, h⟩ := Option.bind_eq_some_iff.1 h
        obtain ⟨b, hb, h⟩ := Option.map_eq_some_iff.1 h
        simp only [elems_sim H hx hl, Option.bind_some, hb, Option.map_some]
        subst h; exact out_same H (.c _)
      · simp at h
    generalize ρ x = u at hx h
    generalize ρ' x = v at hx
    cases hx with
    | c x => cases x with
      | s a =>
        simp only [opConv] at h ⊢
        obtain ⟨v, hv, h⟩ := Option.map_eq_some_iff.1 h
        simp only [hv, Option.map_some]
        subst h; exact out_same H (ofV_refl v)
      | r l => exact two (.c _) h
    | no v =>
      have : ((elems σ T.no).bind fun l => (bytesOf l).map fun b => ((.c (.s (.string ⟨b.toArray⟩)) : T), σ)) = none := rfl
      simp only [opConv, this, show deepT σ T.no = false from rfl, Bool.false_eq_true, if_false] at h
      split at h <;> simp at h
    | nil => exact two .nil h
    | row i hh =>
      have hd := deep_sim H (.row i hh) (by simp)
      simp only [opConv, hd] at h ⊢
      split at h
      · simp at h
      · rename_i hdd; rw [if_neg hdd]; exact two (.row i hh) h
    | sl i lo hi hh =>
      have hd := deep_sim H (.sl i lo hi hh) (by simp)
      simp only [opConv, hd] at h ⊢
      split at h
      · simp at h
      · rename_i hdd; rw [if_neg hdd]; exact two (.sl i lo hi hh) h
    | bp b o hh => exact two (.bp b o hh) h
    | rp i k o hh => exact two (.rp i k o hh) h
    | cp l o => exact two (.cp l o) h
    | ag hh => exact two (.ag hh) h
    | tu hh => exact two (.tu hh) h
    | fn g bs hh => exact two (.fn g bs hh) h
  case makeFunc fn first cap =>
    cases fn <;> simp only [reduceCtorEq] at h ⊢
    split at h
    · rename_i g hf
      obtain ⟨bs, hb, h⟩ := Option.map_eq_some_iff.1 h
      have key : ∀ (l : List Operand) {bs}, (l.mapM fun x => bp0 (ρ x)) = some bs → (l.mapM fun x => bp0 (ρ' x)) = some (bs.map f.b) ∧ ∀ b ∈ bs, b < f.nb := by
        intro l
        induction l with
        | nil => intro bs h; simp at h; subst h; exact ⟨rfl, by simp⟩
        | cons x l ih =>
          intro bs h
          simp only [List.mapM_cons, bind, Option.bind_eq_some_iff, pure, Option.some.injEq] at h
          obtain ⟨b, h1, bs', h2, rfl⟩ := h
          obtain ⟨g1, g2⟩ := ih h2
          have one : ∀ {u v : T}, TR f u v → bp0 u = some b → bp0 v = some (f.b b) ∧ b < f.nb := by
            intro u v hx h1
            cases hx <;> simp only [bp0, reduceCtorEq] at h1
            rename_i b' o hb
            cases o with
            | zero => simp only [Option.some.injEq] at h1; subst h1; exact ⟨rfl, hb⟩
            | succ o => simp at h1
          obtain ⟨k1, k2⟩ := one (hρ x) h1
          refine ⟨?_, fun c hc => ?_⟩
          · simp only [List.mapM_cons, k1, g1, bind, Option.bind_some, pure, List.map_cons]
          · rcases List.mem_cons.1 hc with rfl | hc
            · exact k2
            · exact g2 c hc
      obtain ⟨g1, g2⟩ := key _ hb
      rw [if_pos hf]
      simp only [g1, Option.map_some]
      subst h
      exact out_same H (.fn _ _ g2)
    · simp at h
  case makeSlice t l c =>
    unfold opMake at h ⊢
    obtain ⟨e, he, h⟩ := Option.bind_eq_some_iff.1 h
    obtain ⟨i, hi, h⟩ := Option.bind_eq_some_iff.1 h
    obtain ⟨z, hz, h⟩ := Option.bind_eq_some_iff.1 h
    obtain ⟨zl, hzl, h⟩ := Option.bind_eq_some_iff.1 h
    obtain ⟨cs, hcs, h⟩ := Option.bind_eq_some_iff.1 h
    simp only [he, hi, hz, hzl, views_sim H (consts_sim hzl) hcs, Option.bind_some]
    split at h
    · rename_i n m e1 e2
      rw [sc_sim (hρ l) e1, sc_sim (hρ c) e2]
      simp only
      split at h
      · rename_i hc
        rw [if_pos hc]
        simp only [Option.some.injEq] at h; subst h
        obtain ⟨f', a, b, c⟩ := newRow_sim (demotes_sim H (consts_sim hzl) (views_no hcs)) ⟨i.size, List.replicate n.toNat cs, true, .of (K.dp t)⟩
        exact ⟨f', _, rfl, a, b, c⟩
      · simp at h
    · simp at h
  case slice t x lo hi mx =>
    split at h
    · rename_i hm
      rw [if_pos hm]
      exact opSlice_sim hρ H h
    · simp at h
  case fieldAddr s x fi =>
    unfold opFieldAddr at h ⊢
    obtain ⟨fd, hfd, h⟩ := Option.bind_eq_some_iff.1 h
    obtain ⟨n, hn, h⟩ := Option.bind_eq_some_iff.1 h
    simp only [hfd, hn, Option.bind_some]
    split at h
    · simp at h
    · rename_i h0
      rw [if_neg h0]
      have hx := hρ x
      generalize ρ x = u at hx h
      generalize ρ' x = v at hx
      cases hx <;> simp only [Option.some.injEq, reduceCtorEq] at h ⊢ <;> subst h
      · exact out_same H (.bp _ _ (by assumption))
      · exact out_same H (.rp _ _ _ (by assumption))
      · exact out_same H (.cp _ _)
  case field s x fi =>
    unfold opField at h ⊢
    obtain ⟨fd, hfd, h⟩ := Option.bind_eq_some_iff.1 h
    obtain ⟨n, hn, h⟩ := Option.bind_eq_some_iff.1 h
    obtain ⟨g, hg, h⟩ := Option.bind_eq_some_iff.1 h
    simp only [hfd, hn, hg, Option.bind_some]
    have hx := hρ x
    generalize ρ x = u at hx h
    generalize ρ' x = v at hx
    cases hx <;> simp only [reduceCtorEq] at h ⊢
    rename_i l m t1
    split at h
    · rename_i hc
      rw [if_pos (by rw [← t1.len]; exact hc)]
      split at h
      · rename_i h0
        rw [if_pos h0]
        simp only [Option.some.injEq] at h; subst h
        exact out_same H (.ag ((t1.drop _).take _))
      · rename_i h0
        rw [if_neg h0]
        obtain ⟨y, hy, h⟩ := Option.map_eq_some_iff.1 h
        obtain ⟨y', hy', ty⟩ := t1.get _ _ hy
        simp only [hy', Option.map_some]
        subst h; exact out_same H ty
    · simp at h
  case indexAddr t x ix =>
    unfold opIndexAddr at h ⊢
    obtain ⟨e, he, h⟩ := Option.bind_eq_some_iff.1 h
    obtain ⟨n, hn, h⟩ := Option.bind_eq_some_iff.1 h
    simp only [he, hn, Option.bind_some]
    split at h
    · simp at h
    · rename_i h0
      rw [if_neg h0]
      have hx := hρ x
      have hi := hρ ix
      split at h
      · rename_i k i l e1 e2
        rw [sc_sim hi e1]
        have hx2 : ρ' x = .c (.r l) := cc_sim hx e2
        rw [hx2]
        simp only
        split at h
        · rename_i h1
          rw [if_pos h1]
          obtain ⟨el, hel, h⟩ := Option.bind_eq_some_iff.1 h
          simp only [hel, Option.bind_some]
          split at h
          · rename_i h2
            rw [if_pos h2]
            simp only [Option.some.injEq] at h; subst h
            exact out_same H (.cp _ _)
          · simp at h
        · simp at h
      · rename_i k i v e1 e2
        rw [sc_sim hi e1, sc_sim hx e2]
        simp only
        obtain ⟨z, hz, h⟩ := Option.map_eq_some_iff.1 h
        simp only [hz, Option.map_some]
        have hz2 : ∃ c, z = .c c := by
          unfold rawIx at hz
          split at hz
          · split at hz
            · simp only [Option.some.injEq] at hz; exact ⟨_, hz.symm⟩
            · simp at hz
          · simp at hz
        obtain ⟨c, rfl⟩ := hz2
        subst h; exact out_same H (.c _)
      · rename_i k i j e1 e2
        rw [sc_sim hi e1]
        rw [e2] at hx
        generalize ρ' x = v at hx
        cases hx with
        | row _ hj =>
          simp only [H.row j hj]
          obtain ⟨q, hq, h⟩ := Option.bind_eq_some_iff.1 h
          simp only [hq, Option.bind_some]
          split at h
          · rename_i h2
            rw [if_pos h2]
            simp only [Option.some.injEq] at h; subst h
            exact out_same H (.rp _ _ _ hj)
          · simp at h
      · rename_i k i j lo hi' e1 e2
        rw [sc_sim hi e1]
        rw [e2] at hx
        generalize ρ' x = v at hx
        cases hx with
        | sl _ _ _ hj =>
          simp only [H.row j hj]
          obtain ⟨q, hq, h⟩ := Option.bind_eq_some_iff.1 h
          simp only [hq, Option.bind_some]
          split at h
          · rename_i h2
            rw [if_pos h2]
            simp only [Option.some.injEq] at h; subst h
            exact out_same H (.rp _ _ _ hj)
          · simp at h
      · simp at h
  case index t x ix =>
    split at h
    · rename_i a b e1 e2
      rw [sc_sim (hρ x) e1, sc_sim (hρ ix) e2]
      obtain ⟨v, hv, h⟩ := Option.map_eq_some_iff.1 h
      simp only [hv, Option.map_some]
      subst h; exact out_same H (ofV_refl v)
    · simp at h
  case extract x i =>
    have hx := hρ x
    generalize ρ x = u at hx h
    generalize ρ' x = v at hx
    cases hx <;> simp only [reduceCtorEq] at h ⊢
    rename_i l m t1
    obtain ⟨y, hy, h⟩ := Option.map_eq_some_iff.1 h
    obtain ⟨y', hy', ty⟩ := t1.get _ _ hy
    simp only [hy', Option.map_some]
    subst h; exact out_same H ty
  case call c =>
    obtain ⟨callee, args, ats⟩ := c
    cases callee with
    | value fo =>
      simp only at h ⊢
      refine apply_sim H (hρ fo) ?_ h
      generalize args.toList = l
      induction l with
      | nil => exact .nil
      | cons x l ih => exact .cons (hρ x) ih
    | invoke => simp at h
    | builtin b =>
      cases b <;> simp only [isBuiltin2, Bool.false_eq_true, if_false, if_true, reduceCtorEq] at h ⊢
      case append =>
        split at h
        · rename_i s x t u e1 e2
          split at h
          · rename_i hc
            rw [if_pos hc]
            exact opAppend_sim H (hρ s) (hρ x) h
          · simp at h
        · simp at h
      case clear =>
        split at h
        · rename_i x t e1 e2
          exact opClear_sim H (hρ x) h
        · simp at h
      case len =>
        split at h
        · rename_i x t e1 e2
          have hx := hρ x
          generalize ρ x = u at hx h
          generalize ρ' x = v at hx
          have two : ∀ {u v : T}, TR f u v → ((elOf P t).bind fun _ => (elems σ u).map fun l => (intT l.length, σ)) = some r → Out f r ((elOf P t).bind fun _ => (elems τ v).map fun l => (intT l.length, τ)) := by
            intro u v hx h
            obtain ⟨e, he, h⟩ := Option.bind_eq_some_iff.1 h
            obtain ⟨l, hl, h⟩ := Option.map_eq_some_iff.1 h
            simp only [he, Option.bind_some, elems_sim H hx hl, Option.map_some]
            subst h; exact out_same H (.c _)
          cases hx with
          | c x => cases x with
            | s a =>
              cases a
              case string s =>
                simp only at h ⊢
                split at h
                · simp only [if_true, Option.some.injEq] at h ⊢; subst h; exact out_same H (.c _)
                · simp at h
              all_goals
                simp only at h ⊢
                obtain ⟨e, he, h⟩ := Option.bind_eq_some_iff.1 h
                obtain ⟨z, hz, h⟩ := Option.map_eq_some_iff.1 h
                simp only [he, Option.bind_some, hz, Option.map_some]
                have hz2 : ∃ c, z = .c c := by
                  first
                  | (simp [rawLen] at hz; done)
                  | (simp only [rawLen, Option.some.injEq] at hz; exact ⟨_, hz.symm⟩)
                obtain ⟨c, rfl⟩ := hz2
                subst h; exact out_same H (.c _)
            | r l => exact two (.c _) h
          | no v =>
            have : ((elOf P t).bind fun _ => (elems σ T.no).map fun l => (intT l.length, σ)) = none := by cases elOf P t <;> rfl
            simp only [this, reduceCtorEq] at h
          | nil => exact two .nil h
          | row i hh => exact two (.row i hh) h
          | sl i lo hi hh => exact two (.sl i lo hi hh) h
          | bp b o hh => exact two (.bp b o hh) h
          | rp i k o hh => exact two (.rp i k o hh) h
          | cp l o => exact two (.cp l o) h
          | ag hh => exact two (.ag hh) h
          | tu hh => exact two (.tu hh) h
          | fn g bs hh => exact two (.fn g bs hh) h
        · simp at h
      case max =>
        obtain ⟨vs, hvs, h⟩ := Option.bind_eq_some_iff.1 h
        obtain ⟨v, hv, h⟩ := Option.map_eq_some_iff.1 h
        simp only [scals_sim hρ _ hvs, Option.bind_some, hv, Option.map_some]
        subst h; exact out_same H (ofV_refl v)
      case min =>
        obtain ⟨vs, hvs, h⟩ := Option.bind_eq_some_iff.1 h
        obtain ⟨v, hv, h⟩ := Option.map_eq_some_iff.1 h
        simp only [scals_sim hρ _ hvs, Option.bind_some, hv, Option.map_some]
        subst h; exact out_same H (ofV_refl v)
end Go.SX

set_option linter.unusedVariables false
set_option linter.unusedSimpArgs false
set_option linter.unusedSectionVars false
set_option linter.unusedVariables false
set_option linter.unusedSimpArgs false
namespace Go.SX
variable {P : Program} {K : Cfg} {F : Fun} {n : Nat} {ops : Array Oper}

structure Sim (f : Rn) (σ τ : St) : Prop where
  h : HR f σ τ
  t : ∀ i, TR f (gt σ.ts i) (gt τ.ts i)
theorem HR.hp {f : Rn} {σ τ : St} (H : HR f σ τ) : HR f (hp σ) (hp τ) := ⟨H.nb, H.nr, H.bi, H.ri, H.bl, H.rl, H.raw, H.box⟩
theorem ev_sim {f : Rn} {σ τ : St} (H : Sim f σ τ) (x : Operand) : TR f (ev σ x) (ev τ x) := by
  cases x with
  | tmp t => exact H.t t
  | const v => exact constT_refl v
  | global g => exact .no _
  | func g => exact .fn g [] (by simp)
theorem put_sim {f f' : Rn} {σ τ σ1 τ1 : St} (e : Wid f f') (H : Sim f σ τ) (H1 : HR f' σ1 τ1) (d : Option Tmp) {x y : T} (h : TR f' x y) : Sim f' (putT σ.ts σ1 d x) (putT τ.ts τ1 d y) := by
  refine ⟨⟨H1.nb, H1.nr, H1.bi, H1.ri, H1.bl, H1.rl, H1.raw, H1.box⟩, fun i => ?_⟩
  cases d with
  | none => exact TR.ext e _ (H.t i)
  | some d =>
    simp only [putT]
    by_cases hd : d = i
    · subst hd; rw [gt_st_eq, gt_st_eq]; exact h
    · rw [gt_st_ne _ _ _ _ hd, gt_st_ne _ _ _ _ hd]; exact TR.ext e _ (H.t i)
theorem wanted_sim {f : Rn} {σ τ : St} (H : Sim f σ τ) (o : Oper) {b} (h : wantedT ops σ o = some b) : wantedT ops τ o = some b := by
  unfold wantedT at h ⊢
  split at h
  · exact h
  · split at h
    · rename_i d hd
      have ht := H.t d
      generalize gt σ.ts d = u at ht h
      generalize gt τ.ts d = v at ht
      cases ht with
      | c x => exact h
      | tu t => cases t with
        | nil => exact h
        | cons a t => simp at h
      | _ => simp at h
    · rename_i hd
      simp at h
theorem evStep_sim {f : Rn} {σ τ : St} (H : Sim f σ τ) (o : Oper) {σ'} (h : evStep P K F n ops o σ = some σ') : ∃ f' τ', evStep P K F n ops o τ = some τ' ∧ Sim f' σ' τ' ∧ Wid f f' := by
  unfold evStep at h ⊢
  split at h
  · rename_i hq
    rw [if_pos hq]
    obtain ⟨b, hb, h⟩ := Option.bind_eq_some_iff.1 h
    rw [wanted_sim H o hb]
    simp only [Option.bind_some]
    cases b with
    | true =>
      obtain ⟨⟨x, σ1⟩, h1, h⟩ := Option.map_eq_some_iff.1 h
      obtain ⟨f', ⟨y, τ1⟩, g1, H1, e, t1⟩ := evOp_sim (ev_sim H) H.h.hp o h1
      simp only [g1, Option.map_some]
      subst h
      exact ⟨f', _, rfl, put_sim e H H1 _ t1, e⟩
    | false =>
      simp only [Option.some.injEq] at h
      subst h
      exact ⟨f, _, rfl, put_sim (.refl f) H H.h _ (.tu .nil), .refl f⟩
  · simp at h
theorem evOps_sim : ∀ (l : List Oper) {f : Rn} {σ τ : St}, Sim f σ τ → ∀ {σ'}, evOps P K F n ops l σ = some σ' → ∃ f' τ', evOps P K F n ops l τ = some τ' ∧ Sim f' σ' τ' ∧ Wid f f'
  | [], f, σ, τ, H, σ', h => by simp only [evOps, Option.some.injEq] at h; subst h; exact ⟨f, τ, rfl, H, .refl f⟩
  | o :: l, f, σ, τ, H, σ', h => by
    rw [evOps_cons] at h
    obtain ⟨σ1, h1, h2⟩ := Option.bind_eq_some_iff.1 h
    obtain ⟨f1, τ1, g1, H1, e1⟩ := evStep_sim H o h1
    obtain ⟨f2, τ2, g2, H2, e2⟩ := evOps_sim l H1 h2
    exact ⟨f2, τ2, by rw [evOps_cons, g1]; exact g2, H2, e1.trans e2⟩

theorem noRow_sim {f : Rn} {σ τ : St} (H : HR f σ τ) : ∃ f', HR f' { σ with rw := σ.rw ++ [none] } { τ with rw := τ.rw ++ [none] } ∧ Wid f f' := by
  obtain ⟨f', H', w, t⟩ := newRow_sim H ⟨0, [], false, .f⟩
  have hk : σ.rw.length < f'.nr ∧ f'.r σ.rw.length = τ.rw.length := by
    have : TR f' (.row σ.rw.length) (.row τ.rw.length) := t
    generalize hx : T.row σ.rw.length = x at this
    generalize hy : T.row τ.rw.length = y at this
    cases this <;> simp only [T.row.injEq, reduceCtorEq] at hx hy
    rename_i i hi
    subst hx; exact ⟨hi, hy.symm⟩
  have H2 := setRow_sim H' hk.1 none
  rw [hk.2] at H2
  refine ⟨f', ?_, w⟩
  have e : ∀ σ : St, setRow (newRow σ ⟨0, [], false, .f⟩).2 σ.rw.length none = { σ with rw := σ.rw ++ [none] } := fun σ => by
    simp [setRow, newRow]
  rw [e, e] at H2; exact H2
theorem st_no_sim {f : Rn} {σ τ : St} (H : Sim f σ τ) (d : Nat) : Sim f ⟨st σ.ts d .no, σ.bx, σ.rw⟩ ⟨st τ.ts d .no, τ.bx, τ.rw⟩ :=
  put_sim (.refl f) H H.h (some d) (.no _)
theorem cellAt_sim {f : Rn} {σ τ : St} (H : HR f σ τ) {x y : T} (h : TR f x y) {j i c q el z} (hc : cellAt σ x = some (j, i, c, q, el, z)) : j < f.nr ∧ cellAt τ y = some (f.r j, i, c, q, el, z) := by
  unfold cellAt at hc
  split at hc
  · rename_i j0 i0 c0
    cases h with
    | rp _ _ _ hj =>
      simp only [Option.bind_eq_some_iff] at hc
      obtain ⟨q0, hq, hc⟩ := hc
      split at hc
      · rename_i hh
        simp only [Option.bind_eq_some_iff] at hc
        obtain ⟨el0, hel, hc⟩ := hc
        split at hc
        · rename_i z0 hz
          simp only [Option.some.injEq, Prod.mk.injEq] at hc
          obtain ⟨rfl, rfl, rfl, rfl, rfl, rfl⟩ := hc
          refine ⟨hj, ?_⟩
          simp only [cellAt, H.row _ hj, hq, Option.bind_some, if_pos hh, hel, hz]
        · simp at hc
      · simp at hc
  · simp at hc
theorem evNest_sim {f : Rn} {σ τ : St} (H : Sim f σ τ) {o : Oper} {m : List Oper} {σ'} (h : evNest P K F n ops o m σ = some σ') : ∃ f' τ', evNest P K F n ops o m τ = some τ' ∧ Sim f' σ' τ' ∧ Wid f f' := by
  unfold evNest at h ⊢
  split at h
  · rename_i t a d h1 h2 h3
    simp only [Option.bind_eq_some_iff] at h
    obtain ⟨⟨j, i, c, q, el, x⟩, h4, s, h5, h⟩ := h
    simp only at h
    split at h
    case isFalse => simp at h
    rename_i hc
    obtain ⟨hj, h6⟩ := cellAt_sim H.h (ev_sim H a) h4
    simp only [h1, h2, h3, h6, Option.bind_some, Option.bind_eq_some_iff.2 h5, if_pos hc]
    cases x with
    | nil =>
      simp only at h ⊢
      obtain ⟨σ2, h7, rfl⟩ := Option.map_eq_some_iff.1 h
      obtain ⟨f1, H1, w1⟩ := noRow_sim H.h
      obtain ⟨f2, τ2, g2, H2, w2⟩ := evOps_sim m (put_sim w1 H H1 (some d) (.c (.r []))) h7
      exact ⟨f2, _, by rw [show (⟨st τ.ts d (.c (.r [])), τ.bx, τ.rw ++ [none]⟩ : St) = putT τ.ts { τ with rw := τ.rw ++ [none] } (some d) (.c (.r [])) from rfl, g2]; rfl, st_no_sim H2 d, w1.trans w2⟩
    | cons e0 x1 =>
      simp only at h ⊢
      split at h
      case isFalse => simp at h
      rename_i hf
      rw [if_pos hf]
      obtain ⟨σ2, h7, h8⟩ := Option.bind_eq_some_iff.1 h
      have H0 := setRow_sim H.h hj none
      obtain ⟨f1, H1, w1, t1⟩ := newRow_sim H0 ⟨s, e0 :: x1, true, .of (K.dp t)⟩
      have hl : ∀ (σ : St) (j : Nat), (setRow σ j none).rw.length = σ.rw.length := fun σ j => by simp [setRow]
      have t2 : TR f1 (.row σ.rw.length) (.row τ.rw.length) := by
        have : TR f1 (.row (setRow σ j none).rw.length) (.row (setRow τ (f.r j) none).rw.length) := t1
        rwa [hl, hl] at this
      have hk : σ.rw.length < f1.nr ∧ f1.r σ.rw.length = τ.rw.length := by
        generalize hx : T.row σ.rw.length = x at t2
        generalize hy : T.row τ.rw.length = y at t2
        cases t2 <;> simp only [T.row.injEq, reduceCtorEq] at hx hy
        rename_i i hi
        subst hx; exact ⟨hi, hy.symm⟩
      obtain ⟨f2, τ2, g2, H2, w2⟩ := evOps_sim m (put_sim (σ1 := (newRow (setRow σ j none) ⟨s, e0 :: x1, true, .of (K.dp t)⟩).2) (τ1 := (newRow (setRow τ (f.r j) none) ⟨s, e0 :: x1, true, .of (K.dp t)⟩).2) w1 H H1 (some d) t2) h7
      have g2' : evOps P K F n ops m ⟨st τ.ts d (.row τ.rw.length), τ.bx, (setRow τ (f.r j) none).rw ++ [some ⟨s, e0 :: x1, true, .of (K.dp t)⟩]⟩ = some τ2 := g2
      rw [g2']
      simp only [Option.bind_some]
      unfold joinS at h8 ⊢
      obtain ⟨r, h9, h8⟩ := Option.bind_eq_some_iff.1 h8
      split at h8
      case isFalse => simp at h8
      rename_i hr
      simp only [Option.some.injEq] at h8
      subst h8
      have hk2 : σ.rw.length < f2.nr := Nat.lt_of_lt_of_le hk.1 w2.nr
      have ek : f2.r σ.rw.length = τ.rw.length := (w2.r _ hk.1).trans hk.2
      have hj2 : j < f2.nr := Nat.lt_of_lt_of_le hj (Nat.le_trans w1.nr w2.nr)
      have ej : f2.r j = f.r j := (w2.r _ (Nat.lt_of_lt_of_le hj w1.nr)).trans (w1.r _ hj)
      have h10 := H2.h.row _ hk2
      rw [ek, h9] at h10
      rw [h10]
      simp only [Option.bind_some, if_pos hr]
      refine ⟨f2, _, rfl, ?_, w1.trans w2⟩
      have H3 := setRow_sim (setRow_sim H2.h hk2 none) hj2 (some { q with l := q.l.set i (el.set c (.r r.l)) })
      rw [ek, ej] at H3
      exact put_sim (.refl f2) H2 H3 (some d) (.no _)
  · simp at h
theorem evSeq_sim : ∀ (l : List Oper) {f : Rn} {σ τ : St}, Sim f σ τ → ∀ {σ'}, evSeq P K F n ops l σ = some σ' → ∃ f' τ', evSeq P K F n ops l τ = some τ' ∧ Sim f' σ' τ' ∧ Wid f f'
  | [], f, σ, τ, H, σ', h => by simp only [evSeq, Option.some.injEq] at h; subst h; exact ⟨f, τ, rfl, H, .refl f⟩
  | o :: l, f, σ, τ, H, σ', h => by
    rw [evSeq] at h ⊢
    split at h
    · rename_i σ1 h1
      obtain ⟨f1, τ1, g1, H1, e1⟩ := evOps_sim _ H h1
      obtain ⟨f2, τ2, g2, H2, e2⟩ := evSeq_sim l H1 h
      exact ⟨f2, τ2, by rw [g1]; exact g2, H2, e1.trans e2⟩
    · obtain ⟨σ1, h1, h2⟩ := Option.bind_eq_some_iff.1 h
      obtain ⟨f1, τ1, g1, H1, e1⟩ := evNest_sim H h1
      obtain ⟨f2, τ2, g2, H2, e2⟩ := evOps_sim _ H1 h2
      obtain ⟨t, x, d, ho, hg, hd, p, hp⟩ := evNest_load g1
      exact ⟨f2, τ2, by rw [nest_stuck ho hg hp]; simp only [g1, Option.bind_some]; exact g2, H2, e1.trans e2⟩

/-! logs -/
def EnR (f : Rn) (o : Oper) : Entry → Entry → Prop
  | none, none => True
  | some (rd, wr, nb, nr), some (rd', wr', nb', nr') => (hangs o.op = true → rd' = rd.map f.l ∧ ∀ x ∈ rd, InL f x) ∧ (still o.op = false → wr' = wr.map f.l ∧ ∀ x ∈ wr, InL f x) ∧ ∀ x, inRange x nb nr = true → InL f x ∧ inRange (f.l x) nb' nr' = true
  | _, _ => False
theorem EnR.ext {f g : Rn} (e : Wid f g) {o : Oper} {a b : Entry} (h : EnR f o a b) : EnR g o a b := by
  cases a with
  | none => cases b with
    | none => trivial
    | some b => exact h.elim
  | some a => cases b with
    | none => exact h.elim
    | some b =>
      obtain ⟨rd, wr, nb, nr⟩ := a
      obtain ⟨rd', wr', nb', nr'⟩ := b
      obtain ⟨h1, h2, h3⟩ := h
      refine ⟨fun h => ?_, fun h => ?_, fun x hx => ?_⟩
      · obtain ⟨a, b⟩ := h1 h
        exact ⟨by rw [a, List.map_congr_left fun x hx => (wid_l e (b x hx)).symm], fun x hx => wid_in e (b x hx)⟩
      · obtain ⟨a, b⟩ := h2 h
        exact ⟨by rw [a, List.map_congr_left fun x hx => (wid_l e (b x hx)).symm], fun x hx => wid_in e (b x hx)⟩
      · obtain ⟨a, b⟩ := h3 x hx
        exact ⟨wid_in e a, by rw [wid_l e a]; exact b⟩
theorem refs_sim {f : Rn} {x y : T} (h : TR f x y) (hn : x ≠ .no) : refs y = (refs x).map f.l ∧ ∀ z ∈ refs x, InL f z := by
  cases h with
  | no y => exact absurd rfl hn
  | row i h => exact ⟨rfl, by simp [refs, InL, h]⟩
  | sl i lo hi h => exact ⟨rfl, by simp [refs, InL, h]⟩
  | bp b o h => exact ⟨rfl, by simp [refs, InL, h]⟩
  | rp i k o h => exact ⟨rfl, by simp [refs, InL, h]⟩
  | _ => exact ⟨rfl, by simp [refs]⟩
def Seen (x : T) : Prop := x ≠ .no ∧ ∀ l, x = .ag l → ∀ z ∈ l, z ≠ .no
theorem rowRefs_sim {f : Rn} {x y : T} (h : TR f x y) (hn : x ≠ .no) : rowRefs y = (rowRefs x).map f.l ∧ ∀ z ∈ rowRefs x, InL f z := by
  cases h with
  | no x => exact absurd rfl hn
  | row i hi => exact ⟨rfl, fun z hz => by simp [rowRefs] at hz; subst hz; exact hi⟩
  | sl i lo hi' hi => exact ⟨rfl, fun z hz => by simp [rowRefs] at hz; subst hz; exact hi⟩
  | _ => exact ⟨rfl, by simp [rowRefs]⟩
theorem agR_sim {f : Rn} {l m : List T} (h : All2 (TR f) l m) (hn : ∀ x ∈ l, x ≠ .no) : agR m = (agR l).map f.l ∧ ∀ z ∈ agR l, InL f z := by
  induction h with
  | nil => exact ⟨rfl, by simp [agR]⟩
  | cons h _ ih =>
    obtain ⟨a1, a2⟩ := rowRefs_sim h (hn _ (by simp))
    obtain ⟨b1, b2⟩ := ih fun x hx => hn x (by simp [hx])
    simp only [agR] at b1 b2 ⊢
    simp only [List.flatMap_cons, List.map_append, List.mem_append]
    exact ⟨by rw [a1, b1], fun z hz => hz.elim (a2 z) (b2 z)⟩
theorem refsW_sim {f : Rn} {x y : T} (h : TR f x y) (hn : x ≠ .no) (hl : ∀ l, x = .ag l → ∀ z ∈ l, z ≠ .no) : refsW y = (refsW x).map f.l ∧ ∀ z ∈ refsW x, InL f z := by
  cases h with
  | ag h => exact agR_sim h (hl _ rfl)
  | no x => exact absurd rfl hn
  | c x => exact refs_sim (.c x) hn
  | nil => exact refs_sim .nil hn
  | row i hi => exact refs_sim (.row i hi) hn
  | sl i lo hi' hi => exact refs_sim (.sl i lo hi' hi) hn
  | bp b o hb => exact refs_sim (.bp b o hb) hn
  | rp i k o hi => exact refs_sim (.rp i k o hi) hn
  | cp l o => exact refs_sim (.cp l o) hn
  | tu h => exact refs_sim (.tu h) hn
  | fn g bs hb => exact refs_sim (.fn g bs hb) hn
theorem agR_b : ∀ (l : List T) (b : Nat), Lend.b b ∉ agR l := by
  intro l b h
  obtain ⟨x, _, h2⟩ := List.mem_flatMap.1 h
  cases x <;> simp [rowRefs] at h2
theorem argRefs_sim {f : Rn} {x y : T} (h : TR f x y) (hn : Seen x) : argRefs y = (argRefs x).map f.l ∧ ∀ z ∈ argRefs x, InL f z := by
  cases h with
  | fn g bs h =>
    refine ⟨by simp only [argRefs, List.map_map]; rfl, fun z hz => ?_⟩
    simp only [argRefs, List.mem_map] at hz
    obtain ⟨b, hb, rfl⟩ := hz
    exact h b hb
  | no y => exact absurd rfl hn.1
  | c x => exact refs_sim (.c x) (by simp)
  | nil => exact refs_sim .nil (by simp)
  | row i h => exact refs_sim (.row i h) (by simp)
  | sl i lo hi h => exact refs_sim (.sl i lo hi h) (by simp)
  | bp b o h => exact refs_sim (.bp b o h) (by simp)
  | rp i k o h => exact refs_sim (.rp i k o h) (by simp)
  | cp l o => exact refs_sim (.cp l o) (by simp)
  | ag h => exact agR_sim h (hn.2 _ rfl)
  | tu h => exact refs_sim (.tu h) (by simp)
theorem flatMap_sim {α : Type} {f : Rn} {g g' : α → List Lend} : ∀ (l : List α), (∀ x ∈ l, g' x = (g x).map f.l ∧ ∀ z ∈ g x, InL f z) → l.flatMap g' = (l.flatMap g).map f.l ∧ ∀ z ∈ l.flatMap g, InL f z
  | [], _ => ⟨rfl, by simp⟩
  | x :: l, h => by
    obtain ⟨h1, h2⟩ := h x (by simp)
    obtain ⟨h3, h4⟩ := flatMap_sim l fun y hy => h y (by simp [hy])
    refine ⟨by simp only [List.flatMap_cons, h1, h3, List.map_append], fun z hz => ?_⟩
    simp only [List.flatMap_cons, List.mem_append] at hz
    rcases hz with hz | hz
    · exact h2 z hz
    · exact h4 z hz
theorem give_no {σ : St} {x : T} {r} (h : give σ x = some r) : x ≠ .no := by rintro rfl; simp [give] at h
theorem give_bx {σ : St} {x : T} {c σ'} (h : give σ x = some (c, σ')) : σ'.bx = σ.bx := by
  cases x <;> simp only [give, reduceCtorEq, Option.some.injEq, Prod.mk.injEq, Option.map_eq_some_iff] at h
  · rw [← h.2]
  · rw [← h.2]
  · obtain ⟨r, _, _, rfl⟩ := h; split <;> rfl
  · split at h
    · simp at h
    simp only [Option.map_eq_some_iff, Prod.mk.injEq] at h
    obtain ⟨r, _, _, rfl⟩ := h; split <;> rfl
theorem gives_no : ∀ {l : List T} {σ : St} {c σ'}, gives σ l = some (c, σ') → (∀ x ∈ l, x ≠ .no) ∧ σ'.bx = σ.bx
  | [], σ, c, σ', h => by simp only [gives, Option.some.injEq, Prod.mk.injEq] at h; exact ⟨by simp, by rw [← h.2]⟩
  | x :: l, σ, c, σ', h => by
    simp only [gives, Option.bind_eq_some_iff, Option.map_eq_some_iff] at h
    obtain ⟨⟨c1, σ1⟩, h1, ⟨cs, σ2⟩, h2, h3⟩ := h
    simp only [Prod.mk.injEq] at h3
    obtain ⟨rfl, rfl⟩ := h3
    obtain ⟨a, b⟩ := gives_no h2
    refine ⟨fun y hy => ?_, by rw [b, give_bx h1]⟩
    rcases List.mem_cons.1 hy with rfl | hy
    · exact give_no h1
    · exact a y hy
theorem lendAll_no : ∀ {ls : List Lend} {σ : St} {cs σ'}, lendAll σ ls = some (cs, σ') → ∀ b, .b b ∈ ls → ∃ l, boxAt σ b = some l ∧ ∀ x ∈ l, x ≠ .no
  | [], _, _, _, _, _, hb => by simp at hb
  | .b b0 :: ls, σ, cs, σ', h, b, hb => by
    simp only [lendAll, Option.bind_eq_some_iff, Option.map_eq_some_iff] at h
    obtain ⟨l, h1, ⟨x, σ1⟩, h2, ⟨xs, σ2⟩, h3, h4⟩ := h
    obtain ⟨g1, g2⟩ := gives_no h2
    by_cases e : b0 = b
    · subst e; exact ⟨l, h1, g1⟩
    · have hb' : Lend.b b ∈ ls := by
        rcases List.mem_cons.1 hb with h | h
        · simp only [Lend.b.injEq] at h; exact absurd h.symm e
        · exact h
      obtain ⟨m, h5, h6⟩ := lendAll_no h3 b hb'
      refine ⟨m, ?_, h6⟩
      have : boxAt σ1 b = boxAt (setBox σ b0 none) b := by simp only [boxAt, g2]
      rw [this, boxAt_set, if_neg (fun h => e h.1)] at h5
      exact h5
  | .r i :: ls, σ, cs, σ', h, b, hb => by
    simp only [lendAll, Option.bind_eq_some_iff] at h
    obtain ⟨q, h1, h2⟩ := h
    split at h2
    · obtain ⟨⟨xs, σ2⟩, h3, h4⟩ := Option.map_eq_some_iff.1 h2
      exact lendAll_no (σ := setRow σ i none) h3 b (by simpa using hb)
    · simp at h2
theorem lent_bp (md : Bool) {b : Nat} : ∀ {bs : List Nat}, b ∈ bs → Lend.b b ∈ lentOf md (bs.map (T.bp · 0))
  | c :: bs, h => by
    simp only [List.map_cons, lentOf]
    rcases List.mem_cons.1 h with rfl | h
    · simp
    · exact List.mem_cons_of_mem _ (lent_bp md h)
theorem seen1_no {md : Bool} {σ : St} {y : T} (h : Seen (seen1 md σ y)) : Seen y := by
  cases y <;> try exact h
  case row i => exact ⟨by simp, by simp⟩
  case ag l =>
    cases md with
    | false => exact h
    | true =>
      refine ⟨by simp, fun l' e z hz => ?_⟩
      cases e
      rintro rfl
      exact h.2 _ rfl (seenC σ .no) (List.mem_map.2 ⟨_, hz, rfl⟩) rfl
/-- what a call looks at -/
theorem apply_no {σ : St} {x : T} {args : List T} {r} (h : apply K F σ x args = some r) : (∀ y ∈ x :: args, Seen y) ∧ ∀ y ∈ x :: args, ∀ b, Lend.b b ∈ argRefs y → ∃ l, boxAt σ b = some l ∧ ∀ z ∈ l, z ≠ .no := by
  cases x <;> simp only [apply, reduceCtorEq] at h
  rename_i g bs
  split at h
  · simp only [Option.bind_eq_some_iff] at h
    obtain ⟨⟨cs, σ1⟩, h1, xs, h2, _⟩ := h
    simp only at h2
    have hn := argsA_no _ h2
    have hmem : ∀ {y : T} {b : Nat} {l : List T}, y ∈ l → Lend.b b ∈ argRefs y → Lend.b b ∈ lentOf (K.md g) (l.map (seen1 (K.md g) σ)) := by
      intro y b l
      induction l with
      | nil => intro h; simp at h
      | cons z l ih =>
        intro hy hb
        rcases List.mem_cons.1 hy with rfl | hy
        · cases y with
          | bp b' o => simp only [argRefs, refs, List.mem_singleton] at hb; simp only [List.map_cons, seen1, lentOf]; rw [← hb]; simp
          | fn g' bs' => simp only [argRefs] at hb; simp only [List.map_cons, seen1, lentOf]; exact List.mem_append_left _ hb
          | ag z =>
            simp only [argRefs] at hb
            exact absurd hb (agR_b z b)
          | _ => simp [argRefs, refs] at hb
        · have := ih hy hb
          simp only [List.map_cons]
          generalize seen1 (K.md g) σ z = u
          cases u <;> simp only [lentOf] <;> first | exact this | (split <;> first | exact List.mem_cons_of_mem _ this | exact List.mem_append_right _ this | exact this) | exact List.mem_cons_of_mem _ this | exact List.mem_append_right _ this
    have happ : ∀ (l m : List T), lentOf (K.md g) (l ++ m) = lentOf (K.md g) l ++ lentOf (K.md g) m := by
      intro l m
      induction l with
      | nil => rfl
      | cons z l ih => cases z <;> simp only [List.cons_append, lentOf, ih, List.append_assoc] <;> split <;> simp [ih]
    refine ⟨fun y hy => ?_, fun y hy b hb => ?_⟩
    · rcases List.mem_cons.1 hy with rfl | hy
      · exact ⟨by simp, by simp⟩
      · have hm := List.mem_append_left (bs.map (T.bp · 0)) (List.mem_map.2 ⟨y, hy, rfl⟩ : seen1 (K.md g) σ y ∈ args.map (seen1 (K.md g) σ))
        exact seen1_no ⟨hn _ hm, fun l e => argsA_noI _ h2 _ l e hm⟩
    · refine lendAll_no h1 b ?_
      rw [happ]
      rcases List.mem_cons.1 hy with rfl | hy
      · refine List.mem_append_right _ ?_
        simp only [argRefs, List.mem_map] at hb
        obtain ⟨b', hb', e⟩ := hb
        simp only [Lend.b.injEq] at e; subst e
        exact lent_bp _ hb'
      · exact List.mem_append_left _ (hmem hy hb)
  · simp at h
end Go.SX

set_option linter.unusedVariables false
set_option linter.unusedSimpArgs false
set_option linter.unusedSectionVars false
set_option linter.unusedVariables false
set_option linter.unusedSimpArgs false
namespace Go.SX
variable {P : Program} {K : Cfg} {F : Fun} {n : Nat} {ops : Array Oper} {σ : St}

theorem flat_no {x : T} {l} (h : flat x = some l) : x ≠ .no := by rintro rfl; simp [flat] at h
theorem span_no {σ : St} {x : T} {l} (h : spanT σ x = some l) : x ≠ .no := by rintro rfl; simp [spanT, elems] at h
theorem hang_no {ρ : Operand → T} {σ : St} (o : Oper) {r} (h : evOp P K F ρ σ o = some r) (hh : hangs o.op = true) : ∀ x ∈ o.op.operands.toList, ρ x ≠ .no := by
  obtain ⟨dst, op, type, pos, after, guard⟩ := o
  cases op <;> try (simp only [hangs, reduceCtorEq, Bool.false_eq_true] at hh; done)
  case load t a =>
    simp only [Op.operands, List.mem_singleton]
    rintro x rfl e
    simp [evOp, opLoad, e, cells] at h
  case convert s d a =>
    simp only [Op.operands, List.mem_singleton]
    rintro x rfl e
    simp only [evOp, e, opConv, show deepT σ T.no = false from rfl, Bool.false_eq_true, if_false] at h
    split at h
    · simp [elems] at h
    · simp at h
  case slice t x lo hi mx =>
    simp only [evOp] at h
    split at h
    · rename_i hm
      have hm' : mx = none := by cases mx <;> simp_all
      subst hm'
      intro y hy
      simp only [Op.operands, Option.toArray, Array.append_empty, Array.toList_append, List.mem_append] at hy
      have hopt : ∀ (lo : Option Operand) {w : Option Value}, (match (motive := Option Operand → Option (Option Value)) lo with | none => some none | some y => (match ρ y with | .c (.s v) => some (some v) | _ => none)) = some w → ∀ y, lo = some y → ρ y ≠ .no := by
        rintro _ w h y rfl e
        simp [e] at h
      have hb : ∀ (lo : Option Operand) (d : Nat) {w}, bound ρ lo d = some w → ∀ y, lo = some y → ρ y ≠ .no := by
        rintro _ d w h y rfl e
        simp [bound, e] at h
      have hx : ρ x ≠ .no ∧ (∀ y, lo = some y → ρ y ≠ .no) ∧ (∀ y, hi = some y → ρ y ≠ .no) := by
        generalize hu : ρ x = u at h
        have row : ((elOf P t).bind fun e => (szOf P e).bind fun n => (spanT σ u).bind fun l => (bound ρ hi l).bind fun h => (bound ρ lo 0).bind fun lo =>
          if lo ≤ h ∧ h ≤ l then (match u with
            | .c (.r xs) => if wide n xs then some (.c (.r (cut xs lo h)), σ) else none
            | .nil => some (.nil, σ)
            | .row i => (rawAt σ i).bind fun r => if r.sz = n then some (.sl i lo h, σ) else none
            | .sl i a _ => (rawAt σ i).bind fun r => if r.sz = n then some (.sl i (a + lo) (a + h), σ) else none
            | _ => none)
          else none) = some r → u ≠ .no ∧ (∀ y, lo = some y → ρ y ≠ .no) ∧ (∀ y, hi = some y → ρ y ≠ .no) := by
          intro h
          obtain ⟨e, he, h⟩ := Option.bind_eq_some_iff.1 h
          obtain ⟨n, hn, h⟩ := Option.bind_eq_some_iff.1 h
          obtain ⟨l, hl, h⟩ := Option.bind_eq_some_iff.1 h
          obtain ⟨b, hb', h⟩ := Option.bind_eq_some_iff.1 h
          obtain ⟨a, ha', h⟩ := Option.bind_eq_some_iff.1 h
          exact ⟨span_no hl, hb lo _ ha', hb hi _ hb'⟩
        cases u with
        | c c => cases c with
          | s v =>
            simp only [opSlice] at h
            obtain ⟨a, ha, h⟩ := Option.bind_eq_some_iff.1 h
            obtain ⟨b, hb, h⟩ := Option.bind_eq_some_iff.1 h
            exact ⟨by simp, hopt lo ha, hopt hi hb⟩
          | r l => exact row h
        | _ => exact row h
      rcases hy with (hy | hy) | hy
      · simp only [List.mem_singleton] at hy; subst hy; exact hx.1
      · cases lo with
        | none => simp at hy
        | some z => simp at hy; subst hy; exact hx.2.1 _ rfl
      · cases hi with
        | none => simp at hy
        | some z => simp at hy; subst hy; exact hx.2.2 _ rfl
    · simp at h
  case indexAddr t x ix =>
    simp only [evOp, opIndexAddr] at h
    obtain ⟨e, he, h⟩ := Option.bind_eq_some_iff.1 h
    obtain ⟨n, hn, h⟩ := Option.bind_eq_some_iff.1 h
    intro y hy
    simp only [Op.operands, List.mem_cons, List.not_mem_nil, or_false] at hy
    split at h
    · simp at h
    · rcases hy with rfl | rfl
      · intro e; rw [e] at h; split at h <;> simp_all
      · intro e; rw [e] at h; simp at h
  case call c =>
    obtain ⟨callee, args, ats⟩ := c
    cases callee with
    | value fo => simp [hangs] at hh
    | invoke => simp [hangs] at hh
    | builtin b =>
    cases b <;> simp only [hangs, Bool.false_eq_true, reduceCtorEq] at hh
    intro y hy
    simp only [Op.operands, Call.operands, Array.empty_append] at hy
    simp only [evOp] at h
    split at h
    · rename_i x t e1 e2
      rw [e1] at hy
      simp only [List.mem_singleton] at hy
      subst hy
      intro e
      rw [e] at h
      simp only [elems, Option.map_none] at h
      cases hq : elOf P t <;> simp [hq] at h
    · simp at h

theorem elems_thaw (x y : T) : elems (thaw σ x) y = elems σ y := by
  have h : ∀ j q i, rowAt σ j = some q → (rowAt (setRow σ j (some { q with dp := .f })) i).map (·.l) = (rowAt σ i).map (·.l) := by
    intro j q i hq
    rw [rowAt_set (show here (some { q with dp := .f }) = _ from rfl)]
    by_cases hij : j = i
    · subst hij; simp [rowAt_lt hq, hq]
    · simp [hij]
  have key : ∀ i, (rowAt (thaw σ x) i).map (·.l) = (rowAt σ i).map (·.l) := by
    intro i
    unfold thaw
    split
    · split
      · rename_i hq; exact h _ _ _ hq
      · rfl
    · split
      · rename_i hq; exact h _ _ _ hq
      · rfl
    · rfl
  have key2 : ∀ i lo hi, (rowAt (thaw σ x) i).map (fun r => cut r.l lo hi) = (rowAt σ i).map (fun r => cut r.l lo hi) := by
    intro i lo hi
    have := congrArg (Option.map fun l => cut l lo hi) (key i)
    simpa [Option.map_map, Function.comp_def] using this
  cases y
  case row i => exact key _
  case sl i lo hi => exact key2 _ _ _
  case c y => cases y <;> rfl
  all_goals rfl
theorem el_span {x : T} {l} (h : elems σ x = some l) : ∃ k, spanT σ x = some k := by
  cases x
  case row i =>
    simp only [elems, Option.map_eq_some_iff] at h
    obtain ⟨q, hq, _⟩ := h
    exact ⟨_, by simp only [spanT, row_raw hq, Option.map_some]; rfl⟩
  case sl i lo hi =>
    simp only [elems, Option.map_eq_some_iff] at h
    obtain ⟨q, hq, _⟩ := h
    exact ⟨_, by simp only [spanT, row_raw hq, Option.map_some]; rfl⟩
  all_goals exact ⟨l.length, by simp only [spanT, h, Option.map_some]⟩
theorem appTo_span {σ τ : St} {i : TypeInfo} {s : T} {lx : List (List C)} {r} (h : appTo σ i s lx = some r) (hτ : ∀ j q, rowAt σ j = some q → rawAt τ j = some q) : ∃ l, spanT τ s = some l := by
  unfold appTo at h
  split at h
  · exact ⟨0, rfl⟩
  · obtain ⟨q, hq, _⟩ := Option.bind_eq_some_iff.1 h
    exact ⟨_, by simp only [spanT, hτ _ _ hq, Option.map_some]; rfl⟩
  · simp at h
theorem kill_raw {j i : Nat} {q : Row} (h : rowAt (setRow σ j none) i = some q) : rawAt σ i = some q := by
  rw [rowAt_setH] at h
  split at h
  · simp [here] at h
  · exact row_raw h
theorem append_elems {t : TypeId} {s x : T} {r} (h : opAppend P σ t s x = some r) : (∃ l, spanT σ s = some l) ∧ ∃ l, spanT σ x = some l := by
  unfold opAppend at h
  split at h
  · rename_i p hj
    have hw : isPart x = some p := by
      generalize (movQ σ x && (deepT σ s || isNil s)) = b at hj
      cases b <;> simp_all
    cases x <;> simp [isPart] at hw
    subst hw
    simp only [opAppendP, Option.bind_eq_some_iff] at h
    obtain ⟨_, _, _, _, _, _, qx, hqx, h⟩ := h
    refine ⟨?_, _, by simp only [spanT, hqx, Option.map_some]; rfl⟩
    split at h
    · obtain ⟨p', h1, _⟩ := Option.map_eq_some_iff.1 h
      exact appTo_span h1 fun j q hq => kill_raw hq
    · simp at h
  split at h
  · rename_i jx hj
    have hw : isWhole x = some jx := by
      generalize (deepT σ x && (deepT σ s || isNil s)) = b at hj
      cases b <;> simp_all
    cases x <;> simp [isWhole] at hw
    subst hw
    simp only [opAppendD, Option.bind_eq_some_iff] at h
    obtain ⟨_, _, _, _, _, _, qx, hqx, h⟩ := h
    refine ⟨?_, _, by simp only [spanT, row_raw hqx, Option.map_some]; rfl⟩
    split at h
    · exact appTo_span h fun j q hq => kill_raw hq
    · simp at h
  · have e : ∀ y, elems (meltX (meltS σ s) x) y = elems σ y := by
      intro y
      unfold meltX meltS
      split <;> split <;> simp only [elems_demote, elems_thaw]
    simp only [opAppend0, Option.bind_eq_some_iff] at h
    obtain ⟨_, _, _, _, _, _, xs, hxs, old, hold, _⟩ := h
    rw [e] at hxs hold
    exact ⟨el_span hold, el_span hxs⟩
def rpW (a x : T) : List Lend := match a with
  | .rp _ _ _ => refsW x
  | _ => refs x
theorem wr_store {ρ : Operand → T} {σ : St} {dst : Option Tmp} {t : TypeId} {a x : Operand} {type : TypeId} {pos : String} {after : Array Edge} {guard : Option (Nat × Bool)} : wrOf ρ σ ⟨dst, .store t a x, type, pos, after, guard⟩ = refs (ρ a) ++ rpW (ρ a) (ρ x) := rfl
theorem act_sim {f : Rn} {ρ ρ' : Operand → T} {σ τ : St} (hρ : ∀ x, TR f (ρ x) (ρ' x)) (H : HR f σ τ) (o : Oper) {r} (h : evOp P K F ρ σ o = some r) (hh : still o.op = false) : wrOf ρ' τ o = (wrOf ρ σ o).map f.l ∧ ∀ z ∈ wrOf ρ σ o, InL f z := by
  have plain : (∀ c, o.op ≠ .call c) → (∀ t l p, o.op ≠ .buildSlice t l p) → (∀ t a x, o.op ≠ .store t a x) → (∀ x ∈ o.op.operands.toList, ρ x ≠ .no) → wrOf ρ' τ o = (wrOf ρ σ o).map f.l ∧ ∀ z ∈ wrOf ρ σ o, InL f z := by
    intro hc hcb hcs hn
    have e1 : wrOf ρ σ o = o.op.operands.toList.flatMap fun x => refs (ρ x) := by
      unfold wrOf; split
      · rename_i c e; exact absurd e (hc c)
      · rename_i e; exact absurd e (hcb _ _ _)
      · rename_i e; exact absurd e (hcs _ _ _)
      · rfl
    have e2 : wrOf ρ' τ o = o.op.operands.toList.flatMap fun x => refs (ρ' x) := by
      unfold wrOf; split
      · rename_i c e; exact absurd e (hc c)
      · rename_i e; exact absurd e (hcb _ _ _)
      · rename_i e; exact absurd e (hcs _ _ _)
      · rfl
    rw [e1, e2]
    exact flatMap_sim _ fun x hx => refs_sim (hρ x) (hn x hx)
  have call : ∀ c, o.op = .call c → (∀ x ∈ o.op.operands.toList, Seen (ρ x)) → (∀ x ∈ o.op.operands.toList, ∀ b, Lend.b b ∈ argRefs (ρ x) → ∃ l, boxAt σ b = some l ∧ ∀ z ∈ l, z ≠ .no) → wrOf ρ' τ o = (wrOf ρ σ o).map f.l ∧ ∀ z ∈ wrOf ρ σ o, InL f z := by
    intro c hc hn hb
    have hm : ∀ x ∈ turns ρ σ c, x ∈ o.op.operands.toList := fun x hx => by rw [hc]; simpa using turns_mem x hx
    have ht : turns ρ' τ c = turns ρ σ c := by
      unfold turns
      split
      · rename_i h1 h2
        rw [deep_sim H (hρ _) (hn _ (by rw [hc]; simp only [Op.operands, Call.operands, h1]; simp [h2])).1, part_sim H (hρ _) (hn _ (by rw [hc]; simp only [Op.operands, Call.operands, h1]; simp [h2])).1]
      · rfl
    have e1 : wrOf ρ σ o = ((turns ρ σ c).flatMap fun x => argRefs (ρ x)).flatMap (inBox σ) := by
      unfold wrOf; rw [hc]
    have e2 : wrOf ρ' τ o = ((turns ρ σ c).flatMap fun x => argRefs (ρ' x)).flatMap (inBox τ) := by
      unfold wrOf; rw [hc]; simp only [ht]
    obtain ⟨g1, g2⟩ := flatMap_sim (f := f) (g := fun x => argRefs (ρ x)) (g' := fun x => argRefs (ρ' x)) (turns ρ σ c) fun x hx => argRefs_sim (hρ x) (hn x (hm x hx))
    rw [e1, e2, g1]
    have hb' : ∀ b, Lend.b b ∈ ((turns ρ σ c).flatMap fun x => argRefs (ρ x)) → ∃ l, boxAt σ b = some l ∧ ∀ z ∈ l, z ≠ .no := by
      intro b hmm
      obtain ⟨x, hx, hmm⟩ := List.mem_flatMap.1 hmm
      exact hb x (hm x hx) b hmm
    generalize ((turns ρ σ c).flatMap fun x => argRefs (ρ x)) = L at g2 hb'
    have key : ∀ x ∈ L, inBox τ (f.l x) = (inBox σ x).map f.l ∧ ∀ z ∈ inBox σ x, InL f z := by
      intro x hx
      cases x with
      | r i => exact ⟨rfl, fun z hz => by simp only [inBox, List.mem_singleton] at hz; subst hz; exact g2 _ hx⟩
      | b b =>
        obtain ⟨l, h1, h2⟩ := hb' b hx
        obtain ⟨m, h3, h4⟩ := H.box b l h1
        have : ∀ {l m : List T}, All2 (TR f) l m → (∀ z ∈ l, z ≠ .no) → m.flatMap refs = (l.flatMap refs).map f.l ∧ ∀ z ∈ l.flatMap refs, InL f z := by
          intro l m h hn
          induction h with
          | nil => exact ⟨rfl, by simp⟩
          | cons h _ ih =>
            obtain ⟨a1, a2⟩ := refs_sim h (hn _ (by simp))
            obtain ⟨b1, b2⟩ := ih fun z hz => hn z (by simp [hz])
            refine ⟨by simp only [List.flatMap_cons, a1, b1, List.map_append], fun z hz => ?_⟩
            simp only [List.flatMap_cons, List.mem_append] at hz
            rcases hz with hz | hz
            · exact a2 z hz
            · exact b2 z hz
        obtain ⟨a1, a2⟩ := this h4 h2
        simp only [inBox, Rn.l, h1, h3, Option.getD_some, List.map_cons, a1, true_and]
        intro z hz
        rcases List.mem_cons.1 hz with rfl | hz
        · exact g2 _ hx
        · exact a2 z hz
    rw [List.flatMap_map]
    exact flatMap_sim L key
  obtain ⟨dst, op, type, pos, after, guard⟩ := o
  cases op <;> try (simp only [still, reduceCtorEq, Bool.true_eq_false] at hh; done)
  case alloc t => exact plain (by simp) (by simp) (by simp) (by simp [Op.operands])
  case box t x =>
    refine plain (by simp) (by simp) (by simp) ?_
    simp only [Op.operands, List.mem_singleton]
    rintro y rfl
    simp only [evOp, opBox] at h
    obtain ⟨l, hl, _⟩ := Option.bind_eq_some_iff.1 h
    exact flat_no hl
  case buildSlice t len parts =>
    have hall : ∀ p ∈ parts.toList, seenQ (ρ p.2) = true := by
      simp only [evOp, opBuildSlice] at h
      obtain ⟨e, he, h⟩ := Option.bind_eq_some_iff.1 h
      obtain ⟨i, hi, h⟩ := Option.bind_eq_some_iff.1 h
      obtain ⟨z, hz, h⟩ := Option.bind_eq_some_iff.1 h
      obtain ⟨zl, hzl, h⟩ := Option.bind_eq_some_iff.1 h
      split at h
      · rename_i hc
        intro p hp
        exact List.all_eq_true.mp hc.2.2.2 (p.1, ρ p.2) (List.mem_map.2 ⟨p, hp, rfl⟩)
      · simp at h
    simp only [wrOf]
    refine flatMap_sim _ fun x hx => ?_
    simp only [Op.operands, List.mem_map] at hx
    obtain ⟨p, hp, rfl⟩ := hx
    have hs := hall p hp
    refine refsW_sim (hρ p.2) (fun e => by rw [e] at hs; simp [seenQ] at hs) fun l e z hz hn => ?_
    rw [e] at hs
    simp only [seenQ, List.all_eq_true] at hs
    have := hs z hz
    rw [hn] at this; simp at this
  case store t a x =>
    simp only [evOp, opStore] at h
    obtain ⟨l, hl, h⟩ := Option.bind_eq_some_iff.1 h
    have hna : ρ a ≠ .no := by intro e; rw [e] at h; simp at h
    have hnx : ρ x ≠ .no := flat_no hl
    obtain ⟨a1, a2⟩ := refs_sim (hρ a) hna
    have hrp : ∀ i n o, ρ a = .rp i n o → ∀ z ∈ l, z ≠ .no := by
      intro i n o e
      rw [e] at h
      simp only at h
      split at h
      · split at h
        · obtain ⟨p, hp, _⟩ := Option.bind_eq_some_iff.1 h
          have dno : ∀ (l : List T) {σ : St} {p}, digs σ l = some p → ∀ z ∈ l, z ≠ .no := by
            intro l
            induction l with
            | nil => intro σ p _ z hz; simp at hz
            | cons y l ih =>
              intro σ p h z hz
              simp only [digs] at h
              obtain ⟨p1, h1, h⟩ := Option.bind_eq_some_iff.1 h
              obtain ⟨p2, h2, _⟩ := Option.map_eq_some_iff.1 h
              rcases List.mem_cons.1 hz with rfl | hz
              · rintro rfl; simp [dig] at h1
              · exact ih h2 z hz
          exact dno l hp
        · obtain ⟨vs, h1, _⟩ := Option.bind_eq_some_iff.1 h
          exact views_no h1
      · simp at h
    rw [wr_store, wr_store]
    have hx : rpW (ρ' a) (ρ' x) = (rpW (ρ a) (ρ x)).map f.l ∧ ∀ z ∈ rpW (ρ a) (ρ x), InL f z := by
      have ha := hρ a
      generalize ρ a = u at ha hna hrp
      generalize ρ' a = v at ha
      cases ha with
      | rp i k o hi =>
        refine refsW_sim (hρ x) hnx fun l' e z hz => ?_
        rw [e] at hl
        simp only [flat, Option.some.injEq] at hl
        subst hl
        exact hrp _ _ _ rfl z hz
      | no y => exact absurd rfl hna
      | _ => exact refs_sim (hρ x) hnx
    refine ⟨by rw [a1, hx.1, List.map_append], fun z hz => ?_⟩
    rcases List.mem_append.1 hz with hz | hz
    · exact a2 z hz
    · exact hx.2 z hz
  case makeSlice t l c =>
    refine plain (by simp) (by simp) (by simp) ?_
    simp only [evOp, opMake] at h
    obtain ⟨e, he, h⟩ := Option.bind_eq_some_iff.1 h
    obtain ⟨i, hi, h⟩ := Option.bind_eq_some_iff.1 h
    obtain ⟨z, hz, h⟩ := Option.bind_eq_some_iff.1 h
    obtain ⟨zl, hzl, h⟩ := Option.bind_eq_some_iff.1 h
    obtain ⟨cs, hcs, h⟩ := Option.bind_eq_some_iff.1 h
    intro y hy
    simp only [Op.operands, List.mem_cons, List.not_mem_nil, or_false] at hy
    split at h
    · rename_i e1 e2
      rcases hy with rfl | rfl
      · rw [e1]; simp
      · rw [e2]; simp
    · simp at h
  case call c =>
    obtain ⟨callee, args, ats⟩ := c
    cases callee with
    | value fo =>
      simp only [evOp] at h
      obtain ⟨n1, n2⟩ := apply_no h
      have hmem : ∀ x ∈ (Op.call ⟨.value fo, args, ats⟩).operands.toList, ρ x ∈ ρ fo :: args.toList.map ρ := by
        intro x hx
        simp only [Op.operands, Call.operands, Array.toList_append, List.mem_append] at hx
        rcases hx with hx | hx
        · simp at hx; subst hx; simp
        · exact List.mem_cons_of_mem _ (List.mem_map.2 ⟨x, hx, rfl⟩)
      exact call _ rfl (fun x hx => n1 _ (hmem x hx)) (fun x hx b hb => n2 _ (hmem x hx) b hb)
    | invoke => simp [evOp] at h
    | builtin b =>
      cases b <;> simp only [still, Bool.true_eq_false] at hh <;> simp only [evOp, isBuiltin2, Bool.false_eq_true, if_false, reduceCtorEq] at h
      case append =>
        split at h
        · rename_i s x t u e1 e2
          split at h
          · have hops : ∀ y ∈ (Op.call ⟨.builtin .append, args, ats⟩).operands.toList, y = s ∨ y = x := by
              intro y hy
              simp only [Op.operands, Call.operands, Array.empty_append, e1] at hy
              simpa using hy
            have ni : ∀ {u : T} {l}, spanT σ u = some l → Seen u ∧ ∀ b, Lend.b b ∈ argRefs u → False := fun {u l} h => ⟨⟨span_no h, fun l' e => by subst e; simp [spanT, elems] at h⟩, fun b hb => by cases u <;> simp [argRefs, refs, spanT, elems] at h hb⟩
            have both : (∃ l, spanT σ (ρ s) = some l) ∧ ∃ l, spanT σ (ρ x) = some l := append_elems h
            obtain ⟨⟨ls, h1⟩, lx, h2⟩ := both
            refine call _ rfl ?_ ?_
            · intro y hy
              rcases hops y hy with rfl | rfl
              · exact (ni h1).1
              · exact (ni h2).1
            · intro y hy b hb
              rcases hops y hy with rfl | rfl
              · exact ((ni h1).2 b hb).elim
              · exact ((ni h2).2 b hb).elim
          · simp at h
        · simp at h
      case clear =>
        split at h
        · rename_i x t e1 e2
          have hops : ∀ y ∈ (Op.call ⟨.builtin .clear, args, ats⟩).operands.toList, y = x := by
            intro y hy
            simp only [Op.operands, Call.operands, Array.empty_append, e1] at hy
            simpa using hy
          simp only [opClear] at h
          obtain ⟨e, he, h⟩ := Option.bind_eq_some_iff.1 h
          obtain ⟨i, hi, h⟩ := Option.bind_eq_some_iff.1 h
          obtain ⟨z, hz, h⟩ := Option.bind_eq_some_iff.1 h
          obtain ⟨zl, hzl, h⟩ := Option.bind_eq_some_iff.1 h
          obtain ⟨cs, hcs, h⟩ := Option.bind_eq_some_iff.1 h
          split at h
          · split at h
            · rename_i j lo hi' hj
              refine call _ rfl ?_ ?_
              · intro y hy
                rw [hops y hy, hj]
                exact ⟨by simp, by simp⟩
              · intro y hy b hb
                rw [hops y hy, hj] at hb
                simp [argRefs, refs] at hb
            · simp at h
          · simp at h
        · simp at h
  all_goals simp [evOp] at h
end Go.SX

set_option linter.unusedVariables false
set_option linter.unusedSimpArgs false
set_option linter.unusedSectionVars false
set_option linter.unusedVariables false
set_option linter.unusedSimpArgs false
namespace Go.SX
variable {P : Program} {K : Cfg} {F : Fun} {n : Nat} {ops : Array Oper}

theorem entry_sim {f : Rn} {σ τ : St} (H : Sim f σ τ) (o : Oper) {r} (h : evOp P K F (ev σ) (hp σ) o = some r) : EnR f o (entry σ o) (entry τ o) := by
  refine ⟨fun hh => ?_, fun hh => act_sim (ev_sim H) H.h.hp o h hh, fun x hx => ?_⟩
  · exact flatMap_sim _ fun x hx => refs_sim (ev_sim H x) (hang_no o h hh x hx)
  · cases x with
    | b b =>
      simp only [inRange, decide_eq_true_eq] at hx
      have : b < f.nb := by rw [H.h.nb]; exact hx
      exact ⟨this, by simpa [Rn.l, inRange] using H.h.bl b this⟩
    | r i =>
      simp only [inRange, decide_eq_true_eq] at hx
      have : i < f.nr := by rw [H.h.nr]; exact hx
      exact ⟨this, by simpa [Rn.l, inRange] using H.h.rl i this⟩
def LogR (f : Rn) (l : List Oper) (g g' : List Entry) : Prop := ∀ i, EnR f (l.getD i default) (g.getD i none) (g'.getD i none)
theorem evLog_sim : ∀ (l done : List Oper) {f : Rn} {σ τ : St} {g g' : List Entry}, Sim f σ τ → g.length = done.length → g'.length = done.length → LogR f (done ++ l) g g' → ∀ {e σ'}, evLog P K F n ops l σ g = some (e, σ') → ∃ f' e' τ', evLog P K F n ops l τ g' = some (e', τ') ∧ Sim f' σ' τ' ∧ Wid f f' ∧ LogR f' (done ++ l) e e'
  | [], done, f, σ, τ, g, g', H, _, _, hl, e, σ', h => by
    simp only [evLog, Option.some.injEq, Prod.mk.injEq] at h
    obtain ⟨rfl, rfl⟩ := h
    exact ⟨f, g', τ, rfl, H, .refl f, hl⟩
  | o :: l, done, f, σ, τ, g, g', H, h1, h2, hl, e, σ', h => by
    rw [evLog_cons] at h
    obtain ⟨b, hb, h⟩ := Option.bind_eq_some_iff.1 h
    obtain ⟨σ1, h3, h4⟩ := Option.bind_eq_some_iff.1 h
    obtain ⟨f1, τ1, g1, H1, e1⟩ := evStep_sim H o h3
    have hen : EnR f1 o (if b then entry σ o else none) (if b then entry τ o else none) := by
      cases b with
      | false => trivial
      | true =>
        simp only [if_true]
        unfold evStep at h3
        split at h3
        · rw [hb] at h3
          simp only [Option.bind_some] at h3
          obtain ⟨p, hp, _⟩ := Option.map_eq_some_iff.1 h3
          exact (entry_sim H o hp).ext e1
        · simp at h3
    have hl1 : LogR f1 ((done ++ [o]) ++ l) (g ++ [if b then entry σ o else none]) (g' ++ [if b then entry τ o else none]) := by
      intro i
      rw [List.append_assoc, List.singleton_append]
      by_cases hi : i < done.length
      · have := hl i
        rw [List.getD_eq_getElem?_getD (l := g ++ _), List.getD_eq_getElem?_getD (l := g' ++ _), List.getElem?_append_left (by omega), List.getElem?_append_left (by omega), ← List.getD_eq_getElem?_getD, ← List.getD_eq_getElem?_getD]
        exact this.ext e1
      · by_cases hi2 : i = done.length
        · subst hi2
          have ha : (done ++ o :: l).getD done.length default = o := by simp
          have hb2 : (g ++ [if b then entry σ o else none]).getD done.length none = if b then entry σ o else none := by rw [← h1]; simp
          have hc2 : (g' ++ [if b then entry τ o else none]).getD done.length none = if b then entry τ o else none := by rw [← h2]; simp
          rw [ha, hb2, hc2]; exact hen
        · have hb2 : (g ++ [if b then entry σ o else none]).getD i none = none := by
            simp only [List.getD_eq_getElem?_getD]
            rw [List.getElem?_eq_none (by simp; omega)]; rfl
          have hc2 : (g' ++ [if b then entry τ o else none]).getD i none = none := by
            simp only [List.getD_eq_getElem?_getD]
            rw [List.getElem?_eq_none (by simp; omega)]; rfl
          rw [hb2, hc2]; trivial
    obtain ⟨f2, e', τ', g2, H2, e2, hl2⟩ := evLog_sim l (done ++ [o]) H1 (by simp [h1]) (by simp [h2]) hl1 h4
    refine ⟨f2, e', τ', ?_, H2, e1.trans e2, ?_⟩
    · rw [evLog_cons, wanted_sim H o hb]
      simp only [Option.bind_some, g1]; exact g2
    · rw [List.append_assoc] at hl2; exact hl2
theorem clear_sim {f : Rn} {σ τ : St} (H : HR f σ τ) {o o2 : Oper} (h1 : hangs o.op = true) (h2 : still o2.op = false) {x x' y y' : Entry} (hx : EnR f o x x') (hy : EnR f o2 y y') (h : clearQ x y = true) : clearQ x' y' = true := by
  cases x with
  | none => cases x' with
    | none => rfl
    | some x' => exact hx.elim
  | some x => cases x' with
    | none => exact hx.elim
    | some x' => cases y with
      | none => cases y' with
        | none => rfl
        | some y' => exact hy.elim
      | some y => cases y' with
        | none => exact hy.elim
        | some y' =>
          obtain ⟨rd, wr, nb, nr⟩ := x
          obtain ⟨rd', wr', nb', nr'⟩ := x'
          obtain ⟨rd2, wr2, nb2, nr2⟩ := y
          obtain ⟨rd2', wr2', nb2', nr2'⟩ := y'
          obtain ⟨a, a2⟩ := hx.1 h1
          obtain ⟨b, b2⟩ := hy.2.1 h2
          subst a b
          simp only [clearQ, List.all_eq_true, Bool.and_eq_true, Bool.not_eq_true', List.contains_eq_mem, decide_eq_false_iff_not] at h ⊢
          intro r hr
          obtain ⟨r, hr2, rfl⟩ := List.mem_map.1 hr
          obtain ⟨c1, c2⟩ := h r hr2
          refine ⟨fun hm => ?_, (hy.2.2 r c2).2⟩
          obtain ⟨z, hz, e⟩ := List.mem_map.1 hm
          exact c1 (l_inj H (b2 z hz) (a2 r hr2) e ▸ hz)
theorem evDraw0_sim {f : Rn} {σ τ : St} (H : Sim f σ τ) {σ'} (h : evDraw0 P K F n ops σ = some σ') : ∃ f' τ', evDraw0 P K F n ops τ = some τ' ∧ Sim f' σ' τ' ∧ Wid f f' := by
  unfold evDraw0 at h ⊢
  split at h
  · rename_i hd
    rw [if_pos hd]
    split at h
    · rename_i hu
      rw [if_pos hu]
      exact evOps_sim _ H h
    · rename_i hu
      rw [if_neg hu]
      obtain ⟨⟨g, σ1⟩, h1, h⟩ := Option.bind_eq_some_iff.1 h
      simp only at h
      split at h
      · rename_i ha
        simp only [Option.some.injEq] at h; subst h
        obtain ⟨f', g', τ', e1, H1, w, hl⟩ := evLog_sim ops.toList [] (g' := []) H rfl rfl (fun i => by simp [EnR]) h1
        refine ⟨f', τ', ?_, H1, w⟩
        rw [e1]
        simp only [Option.bind_some]
        rw [if_pos ?_]
        simp only [List.all_eq_true] at ha ⊢
        intro p hp
        have hpa := ha p hp
        have hop : ∀ i, ([] ++ ops.toList).getD i default = opAt ops i := by intro i; simp [opAt]
        have hen : ∀ i, EnR f' (opAt ops i) (g.getD i none) (g'.getD i none) := fun i => by rw [← hop i]; exact hl i
        have hq : (hangs (opAt ops p.1).op = true ∧ still (opAt ops p.2).op = false) ∨ (still (opAt ops p.1).op = false ∧ hangs (opAt ops p.2).op = true) := by
          simp only [unord, List.mem_flatMap, List.mem_filterMap] at hp
          obtain ⟨j, _, i, _, hp⟩ := hp
          split at hp
          · simp at hp
          · split at hp
            · rename_i hc
              simp only [Option.some.injEq] at hp; subst hp
              simpa using hc
            · simp at hp
        unfold apartQ at hpa ⊢
        rcases hq with ⟨a, b⟩ | ⟨a, b⟩
        · rw [if_pos (hangs_still a)] at hpa ⊢
          exact clear_sim H1.h a b (hen _) (hen _) hpa
        · rw [if_neg (by simp [a])] at hpa ⊢
          exact clear_sim H1.h b a (hen _) (hen _) hpa
      · simp at h
  · simp at h
theorem st_sim {f : Rn} : ∀ (l m : List T) (d : Nat), (∀ i, TR f (gt l i) (gt m i)) → ∀ i, TR f (gt (st l d .no) i) (gt (st m d .no) i) := by
  intro l m d h i
  by_cases hi : d = i
  · subst hi; rw [gt_st_eq]; exact .no _
  · rw [gt_st_ne _ _ _ _ hi, gt_st_ne _ _ _ _ hi]; exact h i
theorem clr_sim {f : Rn} {σ τ : St} (ds : List Tmp) (H : Sim f σ τ) : Sim f (clr ds σ) (clr ds τ) := by
  refine ⟨⟨H.h.nb, H.h.nr, H.h.bi, H.h.ri, H.h.bl, H.h.rl, H.h.raw, H.h.box⟩, ?_⟩
  have key : ∀ (ds : List Tmp) (l m : List T), (∀ i, TR f (gt l i) (gt m i)) → ∀ i, TR f (gt (ds.foldl (fun ts d => st ts d .no) l) i) (gt (ds.foldl (fun ts d => st ts d .no) m) i) := by
    intro ds
    induction ds with
    | nil => intro l m h; exact h
    | cons d ds ih => intro l m h; exact ih _ _ (st_sim l m d h)
  exact key ds _ _ H.t
theorem evDraw_sim {f : Rn} {σ τ : St} (H : Sim f σ τ) {σ'} (h : evDraw P K F n ops σ = some σ') : ∃ f' τ', evDraw P K F n ops τ = some τ' ∧ Sim f' σ' τ' ∧ Wid f f' := by
  unfold evDraw at h ⊢
  split at h
  · rename_i hl; rw [if_pos hl]; exact evDraw0_sim (clr_sim _ H) h
  · rename_i hl
    rw [if_neg hl]
    split at h
    · rename_i hl2; rw [if_pos hl2]; exact evDraw0_sim (clr_sim _ H) h
    · rename_i hl2; rw [if_neg hl2]; exact evDraw0_sim H h
theorem evC_sim : ∀ (k : Nat) (c : Code) {f : Rn} {σ τ : St}, Sim f σ τ → ∀ {e σ'}, evC P K F n k c σ = some (e, σ') → ∃ f' τ', evC P K F n k c τ = some (e, τ') ∧ Sim f' σ' τ' ∧ Wid f f'
  | 0, _, _, _, _, _, _, _, h => by simp [evC] at h
  | k + 1, c, f, σ, τ, H, e, σ', h => by
    cases c <;> simp only [evC, reduceCtorEq] at h ⊢
    case skip => simp only [Option.some.injEq, Prod.mk.injEq] at h; obtain ⟨rfl, rfl⟩ := h; exact ⟨f, τ, rfl, H, .refl f⟩
    case exit => simp only [Option.some.injEq, Prod.mk.injEq] at h; obtain ⟨rfl, rfl⟩ := h; exact ⟨f, τ, rfl, H, .refl f⟩
    case ret => simp only [Option.some.injEq, Prod.mk.injEq] at h; obtain ⟨rfl, rfl⟩ := h; exact ⟨f, τ, rfl, H, .refl f⟩
    case region id ops d =>
      simp only [Option.map_eq_some_iff] at h
      obtain ⟨σ1, h, h2⟩ := h
      simp only [Prod.mk.injEq] at h2; obtain ⟨rfl, rfl⟩ := h2
      cases d with
      | true =>
        simp only [if_true] at h ⊢
        obtain ⟨f', τ', g, H1, w⟩ := evDraw_sim H h
        exact ⟨f', τ', by rw [g]; rfl, H1, w⟩
      | false =>
        simp only [Bool.false_eq_true, if_false] at h ⊢
        obtain ⟨f', τ', g, H1, w⟩ := evSeq_sim _ H h
        exact ⟨f', τ', by rw [g]; rfl, H1, w⟩
    case seq x y =>
      obtain ⟨⟨e1, σ1⟩, h1, h2⟩ := Option.bind_eq_some_iff.1 h
      obtain ⟨f1, τ1, g1, H1, w1⟩ := evC_sim k x H h1
      cases e1 with
      | normal =>
        obtain ⟨f2, τ2, g2, H2, w2⟩ := evC_sim k y H1 h2
        exact ⟨f2, τ2, by rw [g1]; exact g2, H2, w1.trans w2⟩
      | exit i => simp only [thenC, Option.some.injEq, Prod.mk.injEq] at h2; obtain ⟨rfl, rfl⟩ := h2; exact ⟨f1, τ1, by rw [g1]; rfl, H1, w1⟩
      | ret => simp only [thenC, Option.some.injEq, Prod.mk.injEq] at h2; obtain ⟨rfl, rfl⟩ := h2; exact ⟨f1, τ1, by rw [g1]; rfl, H1, w1⟩
    case cond x y z =>
      split at h
      · rename_i t ht
        rw [sc_sim (ev_sim H x) ht]
        cases t with
        | true => exact evC_sim k y H h
        | false => exact evC_sim k z H h
      · simp at h
    case block id b =>
      simp only [Option.map_eq_some_iff] at h
      obtain ⟨⟨e1, σ1⟩, h1, h2⟩ := h
      obtain ⟨f1, τ1, g1, H1, w1⟩ := evC_sim k b H h1
      have : (outOf id (e1, σ1)).2 = σ1 ∧ ∀ τ : St, outOf id (e1, τ) = ((outOf id (e1, σ1)).1, τ) := by
        cases e1 with
        | exit i => simp only [outOf]; split <;> simp
        | normal => simp [outOf]
        | ret => simp [outOf]
      refine ⟨f1, τ1, ?_, ?_, w1⟩
      · rw [g1]; simp only [Option.map_some, this.2 τ1, h2]
      · rw [← this.1, h2] at H1; exact H1
    case loop b =>
      obtain ⟨⟨e1, σ1⟩, h1, h2⟩ := Option.bind_eq_some_iff.1 h
      obtain ⟨f1, τ1, g1, H1, w1⟩ := evC_sim k b H h1
      cases e1 with
      | normal =>
        obtain ⟨f2, τ2, g2, H2, w2⟩ := evC_sim k (.loop b) H1 h2
        exact ⟨f2, τ2, by rw [g1]; exact g2, H2, w1.trans w2⟩
      | exit i => simp only [thenC, Option.some.injEq, Prod.mk.injEq] at h2; obtain ⟨rfl, rfl⟩ := h2; exact ⟨f1, τ1, by rw [g1]; rfl, H1, w1⟩
      | ret => simp only [thenC, Option.some.injEq, Prod.mk.injEq] at h2; obtain ⟨rfl, rfl⟩ := h2; exact ⟨f1, τ1, by rw [g1]; rfl, H1, w1⟩

/-! how a body ends -/
theorem resVar_sim {f : Rn} {σ τ : St} (H : Sim f σ τ) (r : ResultVar) {x} (h : resVar P σ r = some x) : ∃ y, resVar P τ r = some y ∧ TR f x y := by
  cases r with
  | tmp t => simp only [resVar, Option.some.injEq] at h ⊢; subst h; exact ⟨_, rfl, H.t t⟩
  | cell a t =>
    simp only [resVar] at h ⊢
    obtain ⟨cs, h1, h⟩ := Option.bind_eq_some_iff.1 h
    obtain ⟨n, hn, h⟩ := Option.bind_eq_some_iff.1 h
    obtain ⟨g, hg, h⟩ := Option.bind_eq_some_iff.1 h
    obtain ⟨ds, g1, t1⟩ := cells_sim H.h (H.t a) h1
    simp only [g1, hn, hg, Option.bind_some]
    split at h
    · rename_i h0
      rw [if_pos h0]
      split at h
      · rename_i hl
        rw [if_pos (by rw [← t1.len]; exact hl)]
        simp only [Option.some.injEq] at h; subst h
        exact ⟨_, rfl, .ag (t1.take n)⟩
      · simp at h
    · rename_i h0
      rw [if_neg h0]
      cases t1 with
      | nil => simp at h
      | cons a t => simp only [List.head?_cons, Option.some.injEq] at h ⊢; subst h; exact ⟨_, rfl, a⟩
theorem resVars_sim {f : Rn} {σ τ : St} (H : Sim f σ τ) : ∀ (l : List ResultVar) {xs}, resVars P σ l = some xs → ∃ ys, resVars P τ l = some ys ∧ All2 (TR f) xs ys
  | [], xs, h => by simp only [resVars, Option.some.injEq] at h; subst h; exact ⟨[], rfl, .nil⟩
  | r :: l, xs, h => by
    simp only [resVars] at h ⊢
    obtain ⟨x, h1, h⟩ := Option.bind_eq_some_iff.1 h
    obtain ⟨xs', h2, h⟩ := Option.map_eq_some_iff.1 h
    obtain ⟨y, g1, t1⟩ := resVar_sim H r h1
    obtain ⟨ys, g2, t2⟩ := resVars_sim H l h2
    simp only [g1, Option.bind_some, g2, Option.map_some]
    subst h
    exact ⟨_, rfl, .cons t1 t2⟩
theorem resV_sim {f : Rn} {σ τ : St} (H : HR f σ τ) {x y : T} (h : TR f x y) {a σ'} (hr : resV σ x = some (a, σ')) : ∃ τ', resV τ y = some (a, τ') ∧ HR f σ' τ' := by
  have one : ∀ {x y : T}, TR f x y → ((give σ x).map fun (c, σ) => (A.c c.1 c.2, σ)) = some (a, σ') → ∃ τ', ((give τ y).map fun (c, σ) => (A.c c.1 c.2, σ)) = some (a, τ') ∧ HR f σ' τ' := by
    intro x y h hr
    obtain ⟨⟨c, σ1⟩, h1, h2⟩ := Option.map_eq_some_iff.1 hr
    simp only [Prod.mk.injEq] at h2; obtain ⟨h3, rfl⟩ := h2
    obtain ⟨τ', g1, H1⟩ := give_sim H h h1
    exact ⟨τ', by rw [g1]; simp [h3], H1⟩
  cases h with
  | ag h =>
    simp only [resV] at hr ⊢
    obtain ⟨⟨c, σ1⟩, h1, h2⟩ := Option.map_eq_some_iff.1 hr
    simp only [Prod.mk.injEq] at h2; obtain ⟨h3, rfl⟩ := h2
    obtain ⟨τ', g1, H1⟩ := gives_sim H h h1
    exact ⟨τ', by rw [g1]; simp [h3], H1⟩
  | bp b o hb =>
    simp only [resV] at hr ⊢
    split at hr
    · rename_i ho
      rw [if_pos ho]
      obtain ⟨l, h0, hr⟩ := Option.bind_eq_some_iff.1 hr
      obtain ⟨⟨c, σ1⟩, h1, h2⟩ := Option.map_eq_some_iff.1 hr
      simp only [Prod.mk.injEq] at h2; obtain ⟨h3, rfl⟩ := h2
      obtain ⟨m, g0, t1⟩ := H.box _ _ h0
      obtain ⟨τ', g1, H1⟩ := gives_sim (setBoxN_sim H hb) t1 h1
      exact ⟨τ', by rw [g0]; simp only [Option.bind_some, g1]; simp [h3], H1⟩
    · simp at hr
  | no y => simp [resV] at hr
  | c x => exact one (.c x) hr
  | nil => exact one .nil hr
  | row i h => exact one (.row i h) hr
  | sl i lo hi h => exact one (.sl i lo hi h) hr
  | rp i k o h => simp [resV] at hr
  | cp l o => simp [resV] at hr
  | tu h => simp [resV] at hr
  | fn g bs h => simp [resV] at hr
theorem resVs_sim {f : Rn} : ∀ {l m : List T} {σ τ : St}, HR f σ τ → All2 (TR f) l m → ∀ {a σ'}, resVs σ l = some (a, σ') → ∃ τ', resVs τ m = some (a, τ') ∧ HR f σ' τ'
  | _, _, σ, τ, H, .nil, a, σ', h => by simp only [resVs, Option.some.injEq, Prod.mk.injEq] at h; obtain ⟨rfl, rfl⟩ := h; exact ⟨τ, rfl, H⟩
  | _, _, σ, τ, H, .cons hx t, a, σ', h => by
    simp only [resVs] at h ⊢
    obtain ⟨⟨c, σ1⟩, h1, h⟩ := Option.bind_eq_some_iff.1 h
    obtain ⟨⟨cs, σ2⟩, h2, h⟩ := Option.map_eq_some_iff.1 h
    simp only [Prod.mk.injEq] at h; obtain ⟨rfl, rfl⟩ := h
    obtain ⟨τ1, g1, H1⟩ := resV_sim H hx h1
    obtain ⟨τ2, g2, H2⟩ := resVs_sim H1 t h2
    exact ⟨τ2, by rw [g1]; simp only [Option.bind_some, g2, Option.map_some], H2⟩
def Fix (f : Rn) (ls : List Lend) : Prop := ∀ x ∈ ls, InL f x ∧ f.l x = x
theorem backs_sim {f : Rn} : ∀ (ls : List Lend) {σ τ : St}, HR f σ τ → Fix f ls → ∀ {a σ'}, backs σ ls = some (a, σ') → ∃ τ', backs τ ls = some (a, τ') ∧ HR f σ' τ'
  | [], σ, τ, H, _, a, σ', h => by simp only [backs, Option.some.injEq, Prod.mk.injEq] at h; obtain ⟨rfl, rfl⟩ := h; exact ⟨τ, rfl, H⟩
  | .b b :: ls, σ, τ, H, hf, a, σ', h => by
    simp only [backs] at h ⊢
    obtain ⟨hb, eb⟩ := hf (.b b) (by simp)
    simp only [Rn.l, Lend.b.injEq] at eb
    simp only [InL] at hb
    obtain ⟨l, h0, h⟩ := Option.bind_eq_some_iff.1 h
    obtain ⟨⟨c, σ1⟩, h1, h⟩ := Option.bind_eq_some_iff.1 h
    obtain ⟨⟨cs, σ2⟩, h2, h⟩ := Option.map_eq_some_iff.1 h
    simp only [Prod.mk.injEq] at h; obtain ⟨rfl, rfl⟩ := h
    obtain ⟨m, g0, t1⟩ := H.box _ _ h0
    have H0 := setBoxN_sim H hb
    rw [eb] at g0 H0
    obtain ⟨τ1, g1, H1⟩ := gives_sim H0 t1 h1
    obtain ⟨τ2, g2, H2⟩ := backs_sim ls H1 (fun x hx => hf x (by simp [hx])) h2
    exact ⟨τ2, by rw [g0]; simp only [Option.bind_some, g1, g2, Option.map_some], H2⟩
  | .r i :: ls, σ, τ, H, hf, a, σ', h => by
    obtain ⟨hi, ei⟩ := hf (.r i) (by simp)
    simp only [Rn.l, Lend.r.injEq] at ei
    simp only [InL] at hi
    have hrow := H.row i hi
    rw [ei] at hrow
    simp only [backs, hrow] at h ⊢
    cases hr : rowAt σ i with
    | none =>
      simp only [hr] at h ⊢
      obtain ⟨⟨cs, σ2⟩, h2, h⟩ := Option.map_eq_some_iff.1 h
      simp only [Prod.mk.injEq] at h; obtain ⟨rfl, rfl⟩ := h
      obtain ⟨τ2, g2, H2⟩ := backs_sim ls H (fun x hx => hf x (by simp [hx])) h2
      exact ⟨τ2, by simp only [g2, Option.map_some], H2⟩
    | some q =>
      simp only [hr] at h ⊢
      split at h
      · rename_i ho
        rw [if_pos ho]
        obtain ⟨⟨cs, σ2⟩, h2, h⟩ := Option.map_eq_some_iff.1 h
        simp only [Prod.mk.injEq] at h; obtain ⟨rfl, rfl⟩ := h
        have H0 := setRow_sim H hi none
        rw [ei] at H0
        obtain ⟨τ2, g2, H2⟩ := backs_sim ls H0 (fun x hx => hf x (by simp [hx])) h2
        exact ⟨τ2, by simp only [g2, Option.map_some], H2⟩
      · simp at h
/-- the one knows less than the other; what is lent bears the same name in both -/
def Le (ls : List Lend) (σ τ : St) : Prop := ∃ f, Sim f σ τ ∧ Fix f ls
def Mono (ls : List Lend) (Q : Ex → St → Prop) : Prop := ∀ e σ τ, Le ls σ τ → Q e σ → Q e τ
theorem Fix.wid {f g : Rn} {ls : List Lend} (h : Fix f ls) (w : Wid f g) : Fix g ls := fun x hx => ⟨wid_in w (h x hx).1, by rw [wid_l w (h x hx).1]; exact (h x hx).2⟩
theorem W_le {ls : List Lend} {c : Code} {σ τ : St} {Q : Ex → St → Prop} (hm : Mono ls Q) (hl : Le ls σ τ) (h : W P K F n c σ Q) : W P K F n c τ Q := by
  obtain ⟨f, H, hf⟩ := hl
  obtain ⟨k, e, σ', h1, q⟩ := h
  obtain ⟨f', τ', g, H1, w⟩ := evC_sim k c H h1
  exact ⟨k, e, τ', g, hm e σ' τ' ⟨f', H1, hf.wid w⟩ q⟩
theorem mono_told {ls : List Lend} {fn : Func} {w : Bool} {r : A × List (Option Cs)} : Mono ls (Told2 P K fn ls w r) := by
  rintro e σ τ ⟨f, H, hf⟩ ⟨r', h, rfl⟩
  have key : finish P K fn ls σ = some r' → finish P K fn ls τ = some r' := by
    intro h
    simp only [finish] at h ⊢
    obtain ⟨rs, h1, h⟩ := Option.bind_eq_some_iff.1 h
    obtain ⟨⟨as, σ1⟩, h2, h⟩ := Option.bind_eq_some_iff.1 h
    obtain ⟨⟨xs, σ2⟩, h3, h⟩ := Option.map_eq_some_iff.1 h
    simp only at h3 h
    obtain ⟨ys, g1, t1⟩ := resVars_sim H _ h1
    obtain ⟨τ1, g2, H1⟩ := resVs_sim H.h t1 h2
    obtain ⟨τ2, g3, H2⟩ := backs_sim ls H1 hf h3
    rw [g1]; simp only [Option.bind_some, g2, g3, Option.map_some, h]
  cases e with
  | exit i => simp [endC] at h
  | normal => exact ⟨r', key h, rfl⟩
  | ret => exact ⟨r', key h, rfl⟩
theorem mono_seq {ls : List Lend} {b : Code} {Q : Ex → St → Prop} (hm : Mono ls Q) : Mono ls (Seq P K F n b Q) := by
  intro e σ τ hl h
  cases e with
  | normal => exact W_le hm hl h
  | exit i => exact hm _ _ _ hl h
  | ret => exact hm _ _ _ hl h
theorem mono_blk {ls : List Lend} {id : Nat} {Q : Ex → St → Prop} (hm : Mono ls Q) : Mono ls (Blk id Q) := by
  intro e σ τ hl h
  cases e with
  | exit i =>
    simp only [Blk] at h ⊢
    split
    · rename_i hi; rw [if_pos hi] at h; exact hm _ _ _ hl h
    · rename_i hi; rw [if_neg hi] at h; exact hm _ _ _ hl h
  | normal => exact hm _ _ _ hl h
  | ret => exact hm _ _ _ hl h
/-- one round of a loop -/
def Lp (P : Program) (K : Cfg) (F : Fun) (n : Nat) (b : Code) (Q : Ex → St → Prop) : Ex → St → Prop
  | .normal, σ => W P K F n (.loop b) σ Q
  | e, σ => Q e σ
theorem mono_lp {ls : List Lend} {b : Code} {Q : Ex → St → Prop} (hm : Mono ls Q) : Mono ls (Lp P K F n b Q) := by
  intro e σ τ hl h
  cases e with
  | normal => exact W_le hm hl h
  | exit i => exact hm _ _ _ hl h
  | ret => exact hm _ _ _ hl h
theorem W_round {b : Code} {σ : St} {Q : Ex → St → Prop} (h : W P K F n b σ (Lp P K F n b Q)) : W P K F n (.loop b) σ Q := by
  obtain ⟨k, e, σ', h, q⟩ := h
  cases e with
  | normal =>
    obtain ⟨k2, e2, s2, h2, q2⟩ := q
    refine ⟨max k k2 + 1, e2, s2, ?_, q2⟩
    rw [evC, evC_le (Nat.le_max_left _ _) h]
    exact evC_le (Nat.le_max_right _ _) h2
  | exit i => exact ⟨k + 1, _, _, by rw [evC, h]; rfl, q⟩
  | ret => exact ⟨k + 1, _, _, by rw [evC, h]; rfl, q⟩
end Go.SX

set_option linter.unusedVariables false
set_option linter.unusedSimpArgs false
set_option linter.unusedSectionVars false
set_option linter.unusedVariables false
set_option linter.unusedSimpArgs false
namespace Go.SX
open Go.Nt
variable {P : Program} {K : Cfg} {F : Fun} {n : Nat} {ops : Array Oper}

/-! data, as the plain functions have it -/
abbrev cI (k : IntKind) (n : Int) : C := .s (.int k n)
abbrev cB (b : Bool) : C := .s (.bool b)
abbrev bs (s : Str) : ByteArray := ⟨s.toArray⟩
abbrev cS (s : Str) : C := .s (.string (bs s))
abbrev eI (n : Int) : List C := [cI .i64 n]
abbrev eU (n : Int) : List C := [cI .u8 n]
abbrev eB (b : Bool) : List C := [cB b]
abbrev eS (s : Str) : List C := [cS s]
abbrev cL {α : Type} (e : α → List C) (l : List α) : C := .r (l.map e)
abbrev eL {α : Type} (e : α → List C) (l : List α) : List C := [cL e l]
abbrev rr {α : Type} (n : Nat) (e : α → List C) (l : List α) (b : Bool) : Option Row := some ⟨n, l.map e, b, .f⟩
/-- a row all below which is ours -/
abbrev rd {α : Type} (n : Nat) (e : α → List C) (l : List α) : Option Row := some ⟨n, l.map e, true, .d⟩

/-! a state at a loop's head -/
def rnOf (fb fr : List Nat) : Rn := ⟨fun i => fb.getD i 0, fun i => fr.getD i 0, fb.length, fr.length⟩
mutual
def leT (fb fr : List Nat) : T → T → Prop
  | .no, _ => True
  | .c x, y => y = .c x
  | .nil, y => y = .nil
  | .row i, y => match fr[i]? with | some j => y = .row j | none => False
  | .sl i lo hi, y => match fr[i]? with | some j => y = .sl j lo hi | none => False
  | .bp b o, y => match fb[b]? with | some j => y = .bp j o | none => False
  | .rp i k o, y => match fr[i]? with | some j => y = .rp j k o | none => False
  | .cp l o, y => y = .cp l o
  | .ag l, .ag m => leA fb fr l m
  | .tu l, .tu m => leA fb fr l m
  | .fn g b, y => match b.mapM (fun b => fb[b]?) with | some m => y = .fn g m | none => False
  | _, _ => False
def leA (fb fr : List Nat) : List T → List T → Prop
  | [], [] => True
  | x :: l, y :: m => leT fb fr x y ∧ leA fb fr l m
  | _, _ => False
end
def leS (fb fr : List Nat) : List T → List T → Prop
  | [], _ => True
  | .no :: l, m => leS fb fr l m.tail
  | x :: l, m => leT fb fr x (gt m 0) ∧ leS fb fr l m.tail
def leR : List (Option Row) → List Nat → List (Option Row) → Prop
  | [], [], _ => True
  | r :: l, i :: fr, m => m[i]? = some r ∧ leR l fr m
  | _, _, _ => False
def leB (fb fr : List Nat) : List (Option (List T)) → List Nat → List (Option (List T)) → Prop
  | [], [], _ => True
  | none :: l, i :: g, m => m[i]? = some none ∧ leB fb fr l g m
  | some x :: l, i :: g, m => (match m[i]? with | some (some y) => leA fb fr x y | _ => False) ∧ leB fb fr l g m
  | _, _, _ => False
mutual
theorem leT_tr {fb fr : List Nat} : ∀ (x y : T), leT fb fr x y → TR (rnOf fb fr) x y
  | .no, _, _ => .no _
  | .c x, _, h => by simp only [leT] at h; subst h; exact .c x
  | .nil, _, h => by simp only [leT] at h; subst h; exact .nil
  | .row i, _, h => by
    simp only [leT] at h
    split at h
    · rename_i j h1
      subst h
      have := TR.row (f := rnOf fb fr) i (by simp only [rnOf]; exact (List.getElem?_eq_some_iff.1 h1).1)
      simpa [rnOf, h1] using this
    · exact h.elim
  | .sl i lo hi, _, h => by
    simp only [leT] at h
    split at h
    · rename_i j h1
      subst h
      have := TR.sl (f := rnOf fb fr) i lo hi (by simp only [rnOf]; exact (List.getElem?_eq_some_iff.1 h1).1)
      simpa [rnOf, h1] using this
    · exact h.elim
  | .bp b o, _, h => by
    simp only [leT] at h
    split at h
    · rename_i j h1
      subst h
      have := TR.bp (f := rnOf fb fr) b o (by simp only [rnOf]; exact (List.getElem?_eq_some_iff.1 h1).1)
      simpa [rnOf, h1] using this
    · exact h.elim
  | .rp i k o, _, h => by
    simp only [leT] at h
    split at h
    · rename_i j h1
      subst h
      have := TR.rp (f := rnOf fb fr) i k o (by simp only [rnOf]; exact (List.getElem?_eq_some_iff.1 h1).1)
      simpa [rnOf, h1] using this
    · exact h.elim
  | .cp l o, _, h => by simp only [leT] at h; subst h; exact .cp l o
  | .ag l, .ag m, h => by simp only [leT] at h; exact .ag (leA_tr l m h)
  | .tu l, .tu m, h => by simp only [leT] at h; exact .tu (leA_tr l m h)
  | .fn g b, _, h => by
    simp only [leT] at h
    split at h
    · rename_i m h1
      subst h
      have key : ∀ (b : List Nat) {m}, b.mapM (fun b => fb[b]?) = some m → m = b.map (rnOf fb fr).b ∧ ∀ c ∈ b, c < (rnOf fb fr).nb := by
        intro b
        induction b with
        | nil => intro m h; simp at h; subst h; exact ⟨rfl, by simp⟩
        | cons c b ih =>
          intro m h
          simp only [List.mapM_cons, bind, Option.bind_eq_some_iff, pure, Option.some.injEq] at h
          obtain ⟨j, h1, m', h2, rfl⟩ := h
          obtain ⟨a1, a2⟩ := ih h2
          refine ⟨by simp [a1, rnOf, h1], fun d hd => ?_⟩
          rcases List.mem_cons.1 hd with rfl | hd
          · simp only [rnOf]; exact (List.getElem?_eq_some_iff.1 h1).1
          · exact a2 d hd
      obtain ⟨rfl, a2⟩ := key b h1
      exact .fn g b a2
    · exact h.elim
  | .ag l, .no, h | .ag l, .c _, h | .ag l, .nil, h | .ag l, .row _, h | .ag l, .sl _ _ _, h | .ag l, .bp _ _, h | .ag l, .rp _ _ _, h | .ag l, .cp _ _, h | .ag l, .tu _, h | .ag l, .fn _ _, h => by simp [leT] at h
  | .tu l, .no, h | .tu l, .c _, h | .tu l, .nil, h | .tu l, .row _, h | .tu l, .sl _ _ _, h | .tu l, .bp _ _, h | .tu l, .rp _ _ _, h | .tu l, .cp _ _, h | .tu l, .ag _, h | .tu l, .fn _ _, h => by simp [leT] at h
theorem leA_tr {fb fr : List Nat} : ∀ (l m : List T), leA fb fr l m → All2 (TR (rnOf fb fr)) l m
  | [], [], _ => .nil
  | x :: l, y :: m, h => by simp only [leA] at h; exact .cons (leT_tr x y h.1) (leA_tr l m h.2)
  | [], _ :: _, h => by simp [leA] at h
  | _ :: _, [], h => by simp [leA] at h
end
theorem gt_tail (m : List T) (i : Nat) : gt m.tail i = gt m (i + 1) := by
  cases m with
  | nil => simp [gt]
  | cons a m => rfl
theorem leS_tr {fb fr : List Nat} : ∀ (l m : List T), leS fb fr l m → ∀ i, TR (rnOf fb fr) (gt l i) (gt m i)
  | [], m, _, i => by simp only [gt]; exact .no _
  | x :: l, m, h, i => by
    have two : leS fb fr l m.tail → leT fb fr x (gt m 0) → TR (rnOf fb fr) (gt (x :: l) i) (gt m i) := fun h2 h1 => by
      cases i with
      | zero => exact leT_tr _ _ h1
      | succ i => rw [← gt_tail m]; exact leS_tr l m.tail h2 i
    cases x <;> simp only [leS] at h
    case no => exact two h (by simp [leT])
    all_goals exact two h.2 h.1
theorem leR_get : ∀ (l : List (Option Row)) (fr : List Nat) (m : List (Option Row)), leR l fr m → l.length = fr.length ∧ ∀ i j : Nat, fr[i]? = some j → m[j]? = l[i]?
  | [], [], m, h => by simp
  | [], _ :: _, m, h => by simp [leR] at h
  | _ :: _, [], m, h => by simp [leR] at h
  | r :: l, k :: fr', m, h => by
    simp only [leR] at h
    obtain ⟨h1, h2⟩ := h
    obtain ⟨a, b⟩ := leR_get l fr' m h2
    refine ⟨by simp [a], fun i j hi => ?_⟩
    cases i with
    | zero => simp only [List.getElem?_cons_zero, Option.some.injEq] at hi ⊢; subst hi; exact h1
    | succ i => simp only [List.getElem?_cons_succ] at hi ⊢; exact b i j hi
theorem leB_get {fb fr : List Nat} : ∀ (l : List (Option (List T))) (g : List Nat) (m : List (Option (List T))), leB fb fr l g m → l.length = g.length ∧ (∀ i j : Nat, g[i]? = some j → j < m.length) ∧ ∀ (i j : Nat) (x : List T), g[i]? = some j → l[i]? = some (some x) → ∃ y, m[j]? = some (some y) ∧ leA fb fr x y
  | [], [], m, h => by simp
  | [], _ :: _, m, h => by simp [leB] at h
  | none :: _, [], m, h => by simp [leB] at h
  | some _ :: _, [], m, h => by simp [leB] at h
  | none :: l, k :: g', m, h => by
    simp only [leB] at h
    obtain ⟨h1, h2⟩ := h
    obtain ⟨a, c, b⟩ := leB_get l g' m h2
    refine ⟨by simp [a], fun i j hi => ?_, fun i j x hi hx => ?_⟩
    · cases i with
      | zero => simp only [List.getElem?_cons_zero, Option.some.injEq] at hi; subst hi; exact (List.getElem?_eq_some_iff.1 h1).1
      | succ i => exact c i j (by simpa using hi)
    · cases i with
      | zero => simp at hx
      | succ i => exact b i j x (by simpa using hi) (by simpa using hx)
  | some z :: l, k :: g', m, h => by
    simp only [leB] at h
    obtain ⟨h0, h3⟩ := h
    split at h0
    · rename_i y h1
      obtain ⟨a, c, b⟩ := leB_get l g' m h3
      refine ⟨by simp [a], fun i j hi => ?_, fun i j x hi hx => ?_⟩
      · cases i with
        | zero => simp only [List.getElem?_cons_zero, Option.some.injEq] at hi; subst hi; exact (List.getElem?_eq_some_iff.1 h1).1
        | succ i => exact c i j (by simpa using hi)
      · cases i with
        | zero => simp at hi hx; subst hi hx; exact ⟨y, h1, h0⟩
        | succ i => exact b i j x (by simpa using hi) (by simpa using hx)
    · exact h0.elim
theorem le_intro (fb fr : List Nat) {ls : List Lend} {σ τ : St} (hb : fb.Nodup) (hr : fr.Nodup) (hf : ls.all (fun | .b b => fb[b]? == some b | .r i => fr[i]? == some i) = true)
    (hS : leS fb fr σ.ts τ.ts) (hB : leB fb fr σ.bx fb τ.bx) (hR : leR σ.rw fr τ.rw) : Le ls σ τ := by
  obtain ⟨r1, r2⟩ := leR_get _ _ _ hR
  obtain ⟨b1, b2, b3⟩ := leB_get _ _ _ hB
  have inj : ∀ {l : List Nat}, l.Nodup → ∀ i j, i < l.length → j < l.length → l.getD i 0 = l.getD j 0 → i = j := by
    intro l hl i j hi hj e
    simp only [List.getD_eq_getElem?_getD, List.getElem?_eq_getElem hi, List.getElem?_eq_getElem hj, Option.getD_some] at e
    exact (List.getElem_inj hl).1 e
  have getr : ∀ i, i < fr.length → fr[i]? = some (fr.getD i 0) := fun i hi => by simp [List.getElem?_eq_getElem hi]
  have getb : ∀ i, i < fb.length → fb[i]? = some (fb.getD i 0) := fun i hi => by simp [List.getElem?_eq_getElem hi]
  refine ⟨rnOf fb fr, ⟨⟨b1.symm, r1.symm, inj hb, inj hr, fun i hi => b2 i _ (getb i hi), fun i hi => ?_, fun i hi => ?_, fun i l hl => ?_⟩, leS_tr _ _ hS⟩, fun x hx => ?_⟩
  · have h1 := r2 i _ (getr i hi)
    have hi' : i < σ.rw.length := by rw [r1]; exact hi
    rw [List.getElem?_eq_getElem hi'] at h1
    exact (List.getElem?_eq_some_iff.1 h1).1
  · have h1 := r2 i _ (getr i hi)
    simp only [rowAt, rawAt, rnOf, h1]
  · have hi : i < fb.length := by rw [← b1]; exact boxAt_lt hl
    have hl' : σ.bx[i]? = some (some l) := by
      have hi' : i < σ.bx.length := by rw [b1]; exact hi
      simp only [boxAt, List.getElem?_eq_getElem hi', Option.join_some] at hl
      rw [List.getElem?_eq_getElem hi', hl]
    obtain ⟨y, h1, h2⟩ := b3 i _ l (getb i hi) hl'
    exact ⟨y, by simp only [boxAt, rnOf, h1, Option.join_some], leA_tr _ _ h2⟩
  · have h1 := List.all_eq_true.1 hf x hx
    cases x with
    | b b =>
      simp only [beq_iff_eq] at h1
      exact ⟨(List.getElem?_eq_some_iff.1 h1).1, by simp [Rn.l, rnOf, h1]⟩
    | r i =>
      simp only [beq_iff_eq] at h1
      exact ⟨(List.getElem?_eq_some_iff.1 h1).1, by simp [Rn.l, rnOf, h1]⟩
theorem told3 {fn : Func} {ls : List Lend} {r : A × List (Option Cs)} {e : Ex} {σ : St} (h : endC (finish P K fn ls) (e, σ) = some r) : Told2 P K fn ls false r e σ := ⟨r, h, rfl⟩
theorem st_gt : ∀ (l : List T) (d : Nat) (x : T), gt l d = x → x ≠ .no → st l d x = l
  | [], d, x, h, hx => absurd (by rw [← h]; simp [gt]) hx
  | y :: l, 0, x, h, _ => by simp only [gt] at h; simp only [st, h]
  | y :: l, d + 1, x, h, hx => by simp only [gt] at h; simp only [st, st_gt l d x h hx]
/-- a guard's Bool, either way, told in its slot -/
theorem WO_if {o : Oper} {l : List Oper} {σ : St} {Q : St → Prop} {j : Nat} {want t : Bool} {d : Tmp} (_ : o.guard = some (j, want)) (_ : (ops[j]?).bind (·.dst) = some d) (hs : gt σ.ts d = .c (.s (.bool t))) (h1 : t = true → WO P K F n ops (o :: l) ⟨st σ.ts d (.c (.s (.bool true))), σ.bx, σ.rw⟩ Q) (h2 : t = false → WO P K F n ops (o :: l) ⟨st σ.ts d (.c (.s (.bool false))), σ.bx, σ.rw⟩ Q) : WO P K F n ops (o :: l) σ Q := by
  cases t with
  | true => have := h1 rfl; rw [st_gt _ _ _ hs (by simp)] at this; exact this
  | false => have := h2 rfl; rw [st_gt _ _ _ hs (by simp)] at this; exact this
theorem WL_if {o : Oper} {l : List Oper} {σ : St} {Q : St → Prop} {g : List Entry} {j : Nat} {want t : Bool} {d : Tmp} (_ : o.guard = some (j, want)) (_ : (ops[j]?).bind (·.dst) = some d) (hs : gt σ.ts d = .c (.s (.bool t))) (h1 : t = true → WL P K F n ops (o :: l) ⟨st σ.ts d (.c (.s (.bool true))), σ.bx, σ.rw⟩ g Q) (h2 : t = false → WL P K F n ops (o :: l) ⟨st σ.ts d (.c (.s (.bool false))), σ.bx, σ.rw⟩ g Q) : WL P K F n ops (o :: l) σ g Q := by
  cases t with
  | true => have := h1 rfl; rw [st_gt _ _ _ hs (by simp)] at this; exact this
  | false => have := h2 rfl; rw [st_gt _ _ _ hs (by simp)] at this; exact this
/-- a slot's Bool, either way -/
theorem WO_sl (d : Tmp) {l : List Oper} {σ : St} {Q : St → Prop} {t : Bool} (hs : gt σ.ts d = .c (.s (.bool t))) (h1 : t = true → WO P K F n ops l ⟨st σ.ts d (.c (.s (.bool true))), σ.bx, σ.rw⟩ Q) (h2 : t = false → WO P K F n ops l ⟨st σ.ts d (.c (.s (.bool false))), σ.bx, σ.rw⟩ Q) : WO P K F n ops l σ Q := by
  cases t with
  | true => have := h1 rfl; rw [st_gt _ _ _ hs (by simp)] at this; exact this
  | false => have := h2 rfl; rw [st_gt _ _ _ hs (by simp)] at this; exact this
theorem WL_sl (d : Tmp) {l : List Oper} {σ : St} {Q : St → Prop} {g : List Entry} {t : Bool} (hs : gt σ.ts d = .c (.s (.bool t))) (h1 : t = true → WL P K F n ops l ⟨st σ.ts d (.c (.s (.bool true))), σ.bx, σ.rw⟩ g Q) (h2 : t = false → WL P K F n ops l ⟨st σ.ts d (.c (.s (.bool false))), σ.bx, σ.rw⟩ g Q) : WL P K F n ops l σ g Q := by
  cases t with
  | true => have := h1 rfl; rw [st_gt _ _ _ hs (by simp)] at this; exact this
  | false => have := h2 rfl; rw [st_gt _ _ _ hs (by simp)] at this; exact this
end Go.SX

set_option linter.unusedVariables false
set_option linter.unusedSimpArgs false
set_option linter.unusedSectionVars false
set_option linter.unusedVariables false
set_option linter.unusedSimpArgs false
namespace Go.SX
open Go.Nt
variable {P : Program} {K : Cfg} {F : Fun} {n : Nat} {ops : Array Oper} {ρ : Operand → T} {σ : St} {α β : Type} {en : α → List C} {l m : List α} {a : α}

/-! operations on data that is not spelt out -/
theorem map_ix {i : Int} (h : ix l i = some a) : 0 ≤ i ∧ (l.map en)[i.toNat]? = some (en a) := by
  obtain ⟨h1, h2⟩ := ix_some h
  exact ⟨h1, by simp [h2]⟩
/-- an element of what is seen -/
theorem ev_ix {o : Oper} {t e : TypeId} {x y : Operand} {k : IntKind} {i : Int} {z : Nat} (h : ix l i = some a) (ho : o.op = .indexAddr t x y) (hx : ρ x = .c (.r (l.map en))) (hi : ρ y = .c (.s (.int k i))) (he : elOf P t = some e) (hs : szOf P e = some z) (hz : (z == 0) = false) (hl : (en a).length = z) : evOp P K F ρ σ o = some (.cp (en a) 0, σ) := by
  obtain ⟨h1, h2⟩ := map_ix (en := en) h
  have hz' : ¬ z = 0 := by simpa using hz
  obtain ⟨dst, op, type, pos, after, guard⟩ := o
  simp only at ho
  subst ho
  simp only [evOp, opIndexAddr, he, hs, Option.bind_some, hx, hi]
  rw [if_neg hz', if_pos h1, h2]
  simp [hl]
/-- an element of a row of one's own -/
theorem ev_ixR {o : Oper} {t e : TypeId} {x y : Operand} {k : IntKind} {i : Int} {z j : Nat} {ow : Bool} {dp : Dp} (h : ix l i = some a) (ho : o.op = .indexAddr t x y) (hx : ρ x = .row j) (hi : ρ y = .c (.s (.int k i))) (he : elOf P t = some e) (hs : szOf P e = some z) (hz : (z == 0) = false) (hr : rowAt σ j = some ⟨z, l.map en, ow, dp⟩) : evOp P K F ρ σ o = some (.rp j i.toNat 0, σ) := by
  obtain ⟨h1, h2⟩ := ix_some h
  have h3 := (List.getElem?_eq_some_iff.1 h2).1
  have hz' : ¬ z = 0 := by simpa using hz
  obtain ⟨dst, op, type, pos, after, guard⟩ := o
  simp only at ho
  subst ho
  simp only [evOp, opIndexAddr, he, hs, Option.bind_some, hx, hi, hr]
  rw [if_neg hz']
  simp [h1, h3]
/-- what is there is loaded -/
def ldr (P : Program) (t : TypeId) (cs : List T) : Option T := (szOf P t).bind fun n => (aggQ P t).bind fun g => if g then (if n ≤ cs.length then some (.ag (cs.take n)) else none) else cs.head?
theorem opLoad_ldr {t : TypeId} {x v : T} {cs : List T} (hc : cells σ x = some cs) (h : ldr P t cs = some v) : opLoad P σ t x = some (v, σ) := by
  unfold ldr at h
  unfold opLoad
  obtain ⟨n, hn, h⟩ := Option.bind_eq_some_iff.1 h
  obtain ⟨g, hg, h⟩ := Option.bind_eq_some_iff.1 h
  simp only [hc, hn, hg, Option.bind_some]
  split at h
  · rename_i h0
    rw [if_pos h0]
    split at h
    · rename_i h1; rw [if_pos h1]; simp only [Option.some.injEq] at h; rw [h]
    · simp at h
  · rename_i h0
    rw [if_neg h0, h]; rfl
theorem ev_ldR {o : Oper} {t : TypeId} {x : Operand} {i : Int} {z j off : Nat} {ow : Bool} {v : T} (h : ix l i = some a) (ho : o.op = .load t x) (hx : ρ x = .rp j i.toNat off) (hr : rowAt σ j = some ⟨z, l.map en, ow, .f⟩) (hv : ldr P t (((en a).drop off).map .c) = some v) : evOp P K F ρ σ o = some (v, σ) := by
  obtain ⟨h1, h2⟩ := map_ix (en := en) h
  obtain ⟨dst, op, type, pos, after, guard⟩ := o
  simp only at ho
  subst ho
  simp only [evOp, hx]
  refine opLoad_ldr (cs := ((en a).drop off).map .c) ?_ hv
  simp only [cells, hr, Option.bind_some, Dp.q, Bool.false_eq_true, if_false, h2, Option.map_some]
theorem ev_stR {o : Oper} {t : TypeId} {x y : Operand} {i : Int} {z j off : Nat} {fl : List T} {vs : List C} {a' : α} {τ : St} (h : Nt.put l i a' = some m) (hold : ix l i = some a) (ho : o.op = .store t x y) (hx : ρ x = .rp j i.toNat off) (hf : flat (ρ y) = some fl) (hs : szOf P t = some fl.length) (hv : views σ fl = some vs) (hdp : deepT σ (.row j) = false) (hr : rowAt (demotes σ fl) j = some ⟨z, l.map en, true, .f⟩) (he : splice (en a) off vs = some (en a')) (hτ : setRow (demotes σ fl) j (some ⟨z, m.map en, true, .f⟩) = τ) : evOp P K F ρ σ o = some (.no, τ) := by
  subst hτ
  obtain ⟨h1, h2⟩ := map_ix (en := en) hold
  obtain ⟨_, h3, rfl⟩ := put_some h
  obtain ⟨dst, op, type, pos, after, guard⟩ := o
  simp only at ho
  subst ho
  simp only [evOp, opStore, hf, Option.bind_some, hs, if_true, hx, hdp, Bool.false_eq_true, if_false, hv, hr, h2, he, Option.map_some]
  rw [List.map_set]
theorem wide_map {z : Nat} (hw : ∀ a : α, (en a).length = z) (l : List α) : wide z (l.map en) = true := by
  simp [wide, hw]
/-- grown: what is behind it goes to a row of its own -/
theorem ev_app {o : Oper} {c : Call} {t u e : TypeId} {x y : Operand} {i : TypeInfo} {b : Nat} {v : T} {zv : Value} {xs : List α} {j : Nat} {q : Row} {τ σ0 : St} (h : app b l xs = some m) (ho : o.op = .call c) (hc : c.callee = .builtin .append) (ha : c.args.toList = [x, y]) (ht : c.argTypes.toList = [t, u]) (hu : elOf P u = elOf P t ∨ elOf P u ≠ none) (he : elOf P t = some e) (hi : P.info? e = some i) (hz : i.zero = some zv) (hx : ρ x = .row j) (hn : (if deepT σ (ρ y) && (deepT σ (ρ x) || isNil (ρ x)) then isWhole (ρ y) else none) = none) (hm : meltX (meltS σ (ρ x)) (ρ y) = σ0) (hq : rowAt σ0 j = some q) (hql : q.l = l.map en) (hy : elems σ0 (ρ y) = some (xs.map en)) (hzc : zv.cells.size = i.size) (h0 : Nat.ble 1 i.size = true) (hbb : i.bytes = b) (hb : Nat.ble 1 b = true) (hw : ∀ a : α, (en a).length = i.size) (how : q.ow = true) (hsz : q.sz = 0 ∨ q.sz = i.size) (hτ : newRow (setRow σ0 j none) ⟨i.size, m.map en, true, .f⟩ = (v, τ)) (hn0 : (if movQ σ (ρ y) && (deepT σ (ρ x) || isNil (ρ x)) then isPart (ρ y) else none) = none := by exact rfl) : evOp P K F ρ σ o = some (v, τ) := by
  subst hbb
  replace h0 := Nat.le_of_ble_eq_true h0
  replace hb := Nat.le_of_ble_eq_true hb
  obtain ⟨h1, rfl⟩ := app_some h
  obtain ⟨dst, op, type, pos, after, guard⟩ := o
  obtain ⟨callee, args, ats⟩ := c
  simp only at ho hc
  subst ho hc
  simp only at ha ht
  simp only [evOp, ha, ht]
  rw [if_pos hu]
  have hel : elems σ0 (.row j) = some (l.map en) := by simp [elems, hq, hql]
  unfold opAppend
  rw [hn0]
  simp only
  rw [hn]
  simp only
  rw [hm]
  simp only [opAppend0, he, hi, hz, Option.bind_some, hy, hx, hel]
  rw [if_pos ⟨hzc, wide_map hw _, wide_map hw _, h0, hb, by simpa using h1⟩, hq]
  simp only [Option.bind_some]
  rw [if_pos ⟨how, hsz⟩, ← List.map_append, hτ]
theorem ev_appN {o : Oper} {c : Call} {t u e : TypeId} {x y : Operand} {i : TypeInfo} {b : Nat} {v : T} {zv : Value} {xs : List α} {τ σ0 : St} (h : app b l xs = some m) (hl : l = []) (ho : o.op = .call c) (hc : c.callee = .builtin .append) (ha : c.args.toList = [x, y]) (ht : c.argTypes.toList = [t, u]) (hu : elOf P u = elOf P t ∨ elOf P u ≠ none) (he : elOf P t = some e) (hi : P.info? e = some i) (hz : i.zero = some zv) (hx : ρ x = .nil) (hn : (if deepT σ (ρ y) && (deepT σ (ρ x) || isNil (ρ x)) then isWhole (ρ y) else none) = none) (hm : meltX (meltS σ (ρ x)) (ρ y) = σ0) (hy : elems σ0 (ρ y) = some (xs.map en)) (hzc : zv.cells.size = i.size) (h0 : Nat.ble 1 i.size = true) (hbb : i.bytes = b) (hb : Nat.ble 1 b = true) (hw : ∀ a : α, (en a).length = i.size) (hτ : newRow σ0 ⟨i.size, m.map en, true, .f⟩ = (v, τ)) (hn0 : (if movQ σ (ρ y) && (deepT σ (ρ x) || isNil (ρ x)) then isPart (ρ y) else none) = none := by exact rfl) : evOp P K F ρ σ o = some (v, τ) := by
  subst hl
  subst hbb
  replace h0 := Nat.le_of_ble_eq_true h0
  replace hb := Nat.le_of_ble_eq_true hb
  obtain ⟨h1, rfl⟩ := app_some h
  obtain ⟨dst, op, type, pos, after, guard⟩ := o
  obtain ⟨callee, args, ats⟩ := c
  simp only at ho hc
  subst ho hc
  simp only at ha ht
  simp only [evOp, ha, ht]
  rw [if_pos hu]
  have hel : elems σ0 .nil = some [] := rfl
  unfold opAppend
  rw [hn0]
  simp only
  rw [hn]
  simp only
  rw [hm]
  simp only [opAppend0, he, hi, hz, Option.bind_some, hy, hx, hel]
  rw [if_pos ⟨hzc, wide_map hw _, by simp [wide], h0, hb, by simpa using h1⟩]
  rw [hτ]
theorem ev_mk {o : Oper} {t e : TypeId} {x y : Operand} {i : TypeInfo} {b : Nat} {v : T} {zv : Value} {zl : List T} {cs : List C} {k : Int} {a : α} {τ : St} (h : Nt.mk b k a = some m) (ho : o.op = .makeSlice t x y) (he : elOf P t = some e) (hi : P.info? e = some i) (hz : i.zero = some zv) (hf : flat (constT zv) = some zl) (hv : views σ zl = some cs) (ha : cs = en a) (hx : ρ x = .c (.s (.int .i64 k))) (hy : ρ y = .c (.s (.int .i64 k))) (hl : cs.length = i.size) (h0 : Nat.ble 1 i.size = true) (hbb : i.bytes = b) (hb : Nat.ble 1 b = true) (hdp : K.dp t = false) (hτ : newRow (demotes σ zl) ⟨i.size, m.map en, true, .f⟩ = (v, τ)) : evOp P K F ρ σ o = some (v, τ) := by
  subst ha
  subst hbb
  replace h0 := Nat.le_of_ble_eq_true h0
  replace hb := Nat.le_of_ble_eq_true hb
  obtain ⟨h1, h2, rfl⟩ := mk_some h
  obtain ⟨dst, op, type, pos, after, guard⟩ := o
  simp only at ho
  subst ho
  simp only [evOp, opMake, he, hi, hz, hf, hv, Option.bind_some, hx, hy, hdp]
  rw [if_pos ⟨hl, h0, hb, h1, Int.le_refl _, h2, by simp⟩]
  rw [List.map_replicate] at hτ
  rw [show Dp.of false = .f from rfl, hτ]
/-! the same, for rows all below which is ours -/
theorem ev_mkD {o : Oper} {t e : TypeId} {x y : Operand} {i : TypeInfo} {b : Nat} {v : T} {zv : Value} {zl : List T} {cs : List C} {k : Int} {a : α} {τ : St} (h : Nt.mk b k a = some m) (ho : o.op = .makeSlice t x y) (he : elOf P t = some e) (hi : P.info? e = some i) (hz : i.zero = some zv) (hf : flat (constT zv) = some zl) (hv : views σ zl = some cs) (ha : cs = en a) (hx : ρ x = .c (.s (.int .i64 k))) (hy : ρ y = .c (.s (.int .i64 k))) (hl : cs.length = i.size) (h0 : Nat.ble 1 i.size = true) (hbb : i.bytes = b) (hb : Nat.ble 1 b = true) (hdp : K.dp t = true) (hzc : zl.all zcell = true) (hτ : newRow (demotes σ zl) ⟨i.size, m.map en, true, .d⟩ = (v, τ)) : evOp P K F ρ σ o = some (v, τ) := by
  subst ha
  subst hbb
  replace h0 := Nat.le_of_ble_eq_true h0
  replace hb := Nat.le_of_ble_eq_true hb
  obtain ⟨h1, h2, rfl⟩ := mk_some h
  obtain ⟨dst, op, type, pos, after, guard⟩ := o
  simp only at ho
  subst ho
  simp only [evOp, opMake, he, hi, hz, hf, hv, Option.bind_some, hx, hy, hdp]
  rw [if_pos ⟨hl, h0, hb, h1, Int.le_refl _, h2, by simp only [Bool.not_true, Bool.false_or]; exact hzc⟩]
  rw [List.map_replicate] at hτ
  rw [show Dp.of true = .d from rfl, hτ]
theorem dg_nil : digs σ [] = some ([], σ) := rfl
theorem dg_c {v : Value} {fl : List T} {cs : List C} {τ : St} (h : digs σ fl = some (cs, τ)) : digs σ (.c (.s v) :: fl) = some (.s v :: cs, τ) := by
  simp only [digs, dig, Option.bind_some, h, Option.map_some]
theorem dg_f {x : List (List C)} {j z : Nat} {fl : List T} {cs : List C} {τ : St} (hf : flatRow x = true) (hq : rowAt σ j = some ⟨z, x, true, .f⟩) (h : digs (setRow σ j none) fl = some (cs, τ)) : digs σ (.row j :: fl) = some (.r x :: cs, τ) := by
  simp only [digs, dig, hq, Option.bind_some, hf, Bool.or_true, Bool.and_true, if_true, h, Option.map_some]
theorem ev_stD {o : Oper} {t : TypeId} {x y : Operand} {i : Int} {z j off : Nat} {fl : List T} {vs : List C} {a' : α} {σ1 τ : St} (h : Nt.put l i a' = some m) (hold : ix l i = some a) (hd : digs σ fl = some (vs, σ1)) (ho : o.op = .store t x y) (hx : ρ x = .rp j i.toNat off) (hf : flat (ρ y) = some fl) (hs : szOf P t = some fl.length) (hdp : deepT σ (.row j) = true) (hr : rowAt σ1 j = some ⟨z, l.map en, true, .d⟩) (he : splice (en a) off vs = some (en a')) (hτ : setRow σ1 j (some ⟨z, m.map en, true, .d⟩) = τ) (hcq : colsQ σ z off fl = true := by exact rfl) : evOp P K F ρ σ o = some (.no, τ) := by
  subst hτ
  obtain ⟨h1, h2⟩ := map_ix (en := en) hold
  obtain ⟨_, h3, rfl⟩ := put_some h
  obtain ⟨dst, op, type, pos, after, guard⟩ := o
  simp only at ho
  subst ho
  simp only [evOp, opStore, hf, Option.bind_some, hs, if_true, hx, hdp, hd, hr, hcq, and_self, h2, he, Option.map_some]
  rw [List.map_set]
theorem ev_bsD {o : Oper} {t e : TypeId} {len : Nat} {parts : Array (Nat × Operand)} {i : TypeInfo} {zv : Value} {zl fl : List T} {cs : List C} {v : T} {τ τ' : St} (l : List α) (en : α → List C) (hd : digs σ fl = some (cs, τ)) (ho : o.op = .buildSlice t len parts) (hdp : K.dp t = true) (he : elOf P t = some e) (hi : P.info? e = some i) (hz : i.zero = some zv) (hzl : flat (constT zv) = some zl) (h0 : Nat.ble 1 i.size = true) (hl : zl.length = i.size) (hb : Nat.ble (len * i.size) (2 ^ 24) = true) (hs : ((parts.toList.map fun (i, x) => (i, ρ x)).all fun p => seenQ p.2) = true)
    (hf : fillT (fun j => some (j * i.size, i.size)) ((List.replicate len zl).flatten) (parts.toList.map fun (i, x) => (i, ρ x)) = some fl) (hr : chunk i.size len cs = l.map en) (hτ : newRow τ ⟨i.size, l.map en, true, .d⟩ = (v, τ')) (hcq : colsQ σ i.size 0 fl = true := by exact rfl) : evOp P K F ρ σ o = some (v, τ') := by
  rw [← hτ]
  replace h0 := Nat.le_of_ble_eq_true h0
  replace hb := Nat.le_of_ble_eq_true hb
  obtain ⟨dst, op, type, pos, after, guard⟩ := o
  simp only at ho
  subst ho
  simp only [evOp, opBuildSlice, he, hi, hz, hzl, Option.bind_some]
  rw [if_pos ⟨h0, hl, hb, hs⟩, hf]
  simp only [Option.bind_some, hdp, if_true, hcq, hd, Option.map_some, hr]
theorem ev_appD {o : Oper} {c : Call} {t u e : TypeId} {x y : Operand} {i : TypeInfo} {b z : Nat} {v : T} {zv : Value} {xs : List α} {j jx : Nat} {τ : St} (h : app b l xs = some m) (ho : o.op = .call c) (hc : c.callee = .builtin .append) (ha : c.args.toList = [x, y]) (ht : c.argTypes.toList = [t, u]) (hu : elOf P u = elOf P t ∨ elOf P u ≠ none) (he : elOf P t = some e) (hi : P.info? e = some i) (hz : i.zero = some zv) (hx : ρ x = .row j) (hy : ρ y = .row jx) (hq : rowAt σ j = some ⟨z, l.map en, true, .d⟩) (hqx : rowAt σ jx = some ⟨z, xs.map en, true, .d⟩) (hne : (j == jx) = false) (hzz : z = i.size) (hzc : zv.cells.size = i.size) (h0 : Nat.ble 1 i.size = true) (hbb : i.bytes = b) (hb : Nat.ble 1 b = true) (hw : ∀ a : α, (en a).length = i.size) (hτ : newRow (setRow (setRow σ jx none) j none) ⟨i.size, m.map en, true, .d⟩ = (v, τ)) : evOp P K F ρ σ o = some (v, τ) := by
  subst hbb hzz
  replace h0 := Nat.le_of_ble_eq_true h0
  replace hb := Nat.le_of_ble_eq_true hb
  obtain ⟨h1, rfl⟩ := app_some h
  obtain ⟨dst, op, type, pos, after, guard⟩ := o
  obtain ⟨callee, args, ats⟩ := c
  simp only at ho hc
  subst ho hc
  simp only at ha ht
  have hne' : ¬ j = jx := by simpa using hne
  simp only [evOp, ha, ht]
  rw [if_pos hu]
  have hd1 : deepT σ (.row j) = true := by simp [deepT, hq, Dp.q]
  have hd2 : deepT σ (.row jx) = true := by simp [deepT, hqx, Dp.q]
  unfold opAppend
  have hm0 : movQ σ (.row jx) = false := rfl
  have hq' : rowAt (setRow σ jx none) j = some ⟨i.size, l.map en, true, .d⟩ := by rw [rowAt_set here_none, if_neg (fun h => hne' h.1.symm)]; exact hq
  simp only [hx, hy, hm0, Bool.false_and, Bool.false_eq_true, if_false, hd1, hd2, Bool.true_or, Bool.and_true, if_true, isWhole]
  simp only [opAppendD, appTo, he, hi, hz, Option.bind_some, hqx, hq']
  rw [if_pos ⟨hzc, wide_map hw _, h0, hb, trivial, trivial, trivial⟩, if_pos ⟨trivial, trivial, trivial, wide_map hw _, by simpa using h1⟩, ← List.map_append, hτ]
theorem cut_map (lo hi : Nat) : SX.cut (l.map en) lo hi = (Nt.cut l lo hi).map en := by
  simp [SX.cut, Nt.cut, List.map_take, List.map_drop]
theorem bnd_some {x : Option Operand} {d : Nat} {i : Int} (hx : (match (motive := Option Operand → Prop) x with | none => i = d | some y => ∃ k, ρ y = .c (.s (.int k i))) ) (h0 : 0 ≤ i) : bound ρ x d = some i.toNat := by
  cases x with
  | none => simp only at hx; subst hx; simp [bound]
  | some y => obtain ⟨k, hk⟩ := hx; simp [bound, hk, h0]
/-- a part of what is seen -/
theorem ev_sl {o : Oper} {t e : TypeId} {x : Operand} {lo hi : Option Operand} {i j : Int} {z : Nat} (h : slc l i j = some m) (ho : o.op = .slice t x lo hi none) (he : elOf P t = some e) (hs : szOf P e = some z) (hx : ρ x = .c (.r (l.map en))) (hlo : (match (motive := Option Operand → Prop) lo with | none => i = 0 | some y => ∃ k, ρ y = .c (.s (.int k i)))) (hhi : (match (motive := Option Operand → Prop) hi with | none => j = l.length | some y => ∃ k, ρ y = .c (.s (.int k j)))) (hw : ∀ a : α, (en a).length = z) : evOp P K F ρ σ o = some (.c (.r (m.map en)), σ) := by
  obtain ⟨h0, h1, h2, rfl⟩ := slc_some h
  obtain ⟨dst, op, type, pos, after, guard⟩ := o
  simp only at ho
  subst ho
  have b1 := bnd_some (ρ := ρ) (x := lo) (d := 0) (i := i) (by cases lo <;> simpa using hlo) h0
  have b2 := bnd_some (ρ := ρ) (x := hi) (d := (l.map en).length) (i := j) (by cases hi <;> simpa using hhi) (by omega)
  simp only [evOp, Option.isNone_none, if_true, hx, opSlice, he, hs, Option.bind_some, spanT, elems, Option.map_some, b1, b2]
  rw [if_pos ⟨by omega, by simp; omega⟩]
  rw [if_pos (wide_map hw l), cut_map]
/-- a part of a row of one's own -/
theorem ev_slR {o : Oper} {t e : TypeId} {x : Operand} {lo hi : Option Operand} {i j : Int} {z r : Nat} {ow : Bool} {dp : Dp} (h : slc l i j = some m) (ho : o.op = .slice t x lo hi none) (he : elOf P t = some e) (hs : szOf P e = some z) (hx : ρ x = .row r) (hr : rawAt σ r = some ⟨z, l.map en, ow, dp⟩) (hlo : (match (motive := Option Operand → Prop) lo with | none => i = 0 | some y => ∃ k, ρ y = .c (.s (.int k i)))) (hhi : (match (motive := Option Operand → Prop) hi with | none => j = l.length | some y => ∃ k, ρ y = .c (.s (.int k j)))) : evOp P K F ρ σ o = some (.sl r i.toNat j.toNat, σ) := by
  obtain ⟨h0, h1, h2, rfl⟩ := slc_some h
  obtain ⟨dst, op, type, pos, after, guard⟩ := o
  simp only at ho
  subst ho
  have b1 := bnd_some (ρ := ρ) (x := lo) (d := 0) (i := i) (by cases lo <;> simpa using hlo) h0
  have b2 := bnd_some (ρ := ρ) (x := hi) (d := (l.map en).length) (i := j) (by cases hi <;> simpa using hhi) (by omega)
  simp only [evOp, Option.isNone_none, if_true, hx, opSlice, he, hs, Option.bind_some, spanT, hr, Option.map_some, b1, b2]
  rw [if_pos ⟨by omega, by simp; omega⟩]

/-! texts -/
theorem bs_get (s : Str) (i : Nat) : (bs s)[i]? = s[i]? := by
  simp only [getElem?_def]
  have h : (bs s).size = s.length := rfl
  by_cases hi : i < s.length
  · rw [dif_pos (by rw [h]; exact hi), dif_pos hi]; rfl
  · rw [dif_neg (by rw [h]; exact hi), dif_neg hi]
theorem bs_toList (s : Str) : (bs s).toList = s := by
  have key : ∀ (k i : Nat) (r : List UInt8), s.length - i = k → ByteArray.toList.loop (bs s) i r = r.reverse ++ s.drop i := by
    intro k
    induction k with
    | zero =>
      intro i r h
      unfold ByteArray.toList.loop
      rw [if_neg (by show ¬ i < s.length; omega), List.drop_eq_nil_of_le (by omega)]; simp
    | succ k ih =>
      intro i r h
      have hi : i < s.length := by omega
      unfold ByteArray.toList.loop
      rw [if_pos (by show i < s.length; exact hi), ih (i + 1) _ (by omega)]
      have hg : (bs s).get! i = s[i] := by
        show s.toArray[i]! = s[i]
        simp [hi]
      rw [hg, List.drop_eq_getElem_cons hi]; simp
  unfold ByteArray.toList
  rw [key _ 0 [] rfl]; simp
theorem bs_extract (s : Str) (lo hi : Nat) : (bs s).extract lo hi = bs (Nt.cut s lo hi) := by
  apply ByteArray.ext
  simp only [ByteArray.data_extract, Nt.cut]
  apply Array.ext'
  simp only [Array.toList_extract, List.extract_eq_take_drop]
  rw [List.drop_take]
theorem bs_append (s t : Str) : bs s ++ bs t = bs (s ++ t) := by
  apply ByteArray.ext
  simp
theorem ev_sx {o : Oper} {t : TypeId} {x y : Operand} {k : IntKind} {i : Int} {s : Str} {b : UInt8} (h : ix s i = some b) (ho : o.op = .index t x y) (hx : ρ x = .c (cS s)) (hi : ρ y = .c (.s (.int k i))) (hu : P.underlying t = some .string) : evOp P K F ρ σ o = some (.c (.s (.int .u8 (byte b))), σ) := by
  obtain ⟨h1, h2⟩ := ix_some h
  obtain ⟨dst, op, type, pos, after, guard⟩ := o
  simp only at ho
  subst ho
  have : pureRun P (Instr.index t (.string (bs s)) (.int k i)) = some (.int .u8 (byte b)) := by
    simp only [Instr.index, asIntOf, bind, Sem.bind, pure, underlying, program, pureRun, hu, bs_get, h2, h1, if_true]
    rfl
  simp only [evOp, hx, hi, this, Option.map_some]; rfl
end Go.SX

set_option linter.unusedVariables false
set_option linter.unusedSimpArgs false
set_option linter.unusedSectionVars false
set_option linter.unusedVariables false
set_option linter.unusedSimpArgs false
namespace Go.SX
open Go.Nt
variable {P : Program} {K : Cfg} {F : Fun} {n : Nat} {ops : Array Oper} {ρ : Operand → T} {σ : St}

/-- a call whose answer is known -/
theorem ev_callW {o : Oper} {c : Call} {fo : Operand} {g : FuncId} {b : List Nat} {al : List T} {ls : List Lend} {cs : List Cs} {σ1 σ2 σ3 τ : St} {xs : List A} {r r' : A} {back : List (Option Cs)} {x : T} (hF : F g xs = some (r, back)) (hr : fgt (K.fo g) (r, back) = (r', back)) (ho : o.op = .call c) (hc : c.callee = .value fo) (hf : ρ fo = .fn g b)
    (ha : (c.args.toList.map ρ).map (seen1 (K.md g) σ) ++ b.map (T.bp · 0) = al) (hl : lentOf (K.md g) al = ls) (hn : ls.Nodup) (h1 : lendAll σ ls = some (cs, σ1)) (h2 : argsA (K.md g) σ1 al cs = some xs)
    (hk : (K.nest g || (flatA r' && back.all fun c => c.all (·.all flatC))) = true) (h3 : (if K.nest g then demotes σ1 (seenRows al) else σ1) = σ2) (h4 : tellA σ2 r' = (x, σ3)) (h5 : takeAll σ3 ls back = some τ) : evOp P K F ρ σ o = some (x, τ) := by
  obtain ⟨dst, op, type, pos, after, guard⟩ := o
  obtain ⟨callee, args, ats⟩ := c
  simp only at ho hc
  subst ho hc ha hl
  simp only [evOp, hf, apply]
  rw [if_pos hn, h1]
  simp only [Option.bind_some, h2, hF, Option.map_some, hr]
  rw [if_pos hk, h3, h4]
  simp only [h5, Option.map_some]
theorem ev_callG {o : Oper} {c : Call} {fo : Operand} {g : FuncId} {b : List Nat} {al : List T} {ls : List Lend} {cs : List Cs} {σ1 σ2 σ3 τ : St} {xs : List A} {r : A} {back : List (Option Cs)} {x : T} (hF : F g xs = some (r, back)) (ho : o.op = .call c) (hc : c.callee = .value fo) (hf : ρ fo = .fn g b)
    (ha : (c.args.toList.map ρ).map (seen1 (K.md g) σ) ++ b.map (T.bp · 0) = al) (hl : lentOf (K.md g) al = ls) (hn : ls.Nodup) (h1 : lendAll σ ls = some (cs, σ1)) (h2 : argsA (K.md g) σ1 al cs = some xs)
    (hk : (K.nest g || (flatA r && back.all fun c => c.all (·.all flatC))) = true) (h3 : (if K.nest g then demotes σ1 (seenRows al) else σ1) = σ2) (h4 : tellA σ2 r = (x, σ3)) (h5 : takeAll σ3 ls back = some τ) (hfo : K.fo g = false := by exact rfl) : evOp P K F ρ σ o = some (x, τ) := ev_callW hF (by rw [hfo]; rfl) ho hc hf ha hl hn h1 h2 hk h3 h4 h5
theorem flat_map {α : Type} {en : α → List C} (h : ∀ a : α, (en a).all (fun c => !rowC c) = true) (l : List α) : flatRow (l.map en) = true := by
  simp only [flatRow, List.all_map]
  exact List.all_eq_true.2 fun a _ => h a
theorem fl_eI (l : List Int) : flatRow (l.map eI) = true := flat_map (fun _ => rfl) l
theorem fl_eU (l : List Int) : flatRow (l.map eU) = true := flat_map (fun _ => rfl) l
theorem fl_eB (l : List Bool) : flatRow (l.map eB) = true := flat_map (fun _ => rfl) l
theorem fl_eS (l : List Str) : flatRow (l.map eS) = true := flat_map (fun _ => rfl) l
/-- a loop: what it comes to (E), and the rounds -/
theorem loop_rule {ls : List Lend} {b : Code} {σ : St} {Q : Ex → St → Prop} {β : Type} (id : Nat) (E : β → St) (p : β → Prop) (S : St) (hm : Mono ls Q) (hl : Le ls S σ) (hx : ∀ t, p t → Q (.exit id) (E t)) (h : ∀ V : St → Prop, (∀ σ, W P K F n b σ (Lp P K F n b Q) → V σ) → (∀ σ τ, V σ → Le ls σ τ → W P K F n (.loop b) τ Q) → (∀ t τ, p t → Le ls (E t) τ → Q (.exit id) τ) → V S) : W P K F n (.loop b) σ Q :=
  W_le hm hl (h (fun σ => W P K F n (.loop b) σ Q) (fun _ h => W_round h) (fun _ _ h hl => W_le hm hl h) (fun t τ hp hl => hm _ _ _ hl (hx t hp)))
/-- no row of nothing among them -/
def nz : Cs → Bool
  | [] => true
  | (_, some (0, false)) :: _ => false
  | _ :: l => nz l
theorem fit_ne {x : C} {o : Option Sz} {l : Cs} {s : Sz} {ss : List Sz} (ho : o ≠ some (0, false)) : fit ((x, o) :: l) (s :: ss) = (x, o) :: fit l ss := by
  cases x with
  | s v => rfl
  | r r =>
    cases r with
    | cons a r => rfl
    | nil =>
      cases o with
      | none => rfl
      | some k =>
        obtain ⟨k, d⟩ := k
        cases d with
        | true => cases k <;> rfl
        | false => cases k with
          | zero => exact absurd rfl ho
          | succ k => rfl
theorem fit_nz : ∀ {l : Cs} {ss : List Sz}, nz l = true → fit l ss = l
  | [], ss, _ => by cases ss <;> rfl
  | (x, o) :: l, [], _ => by cases x <;> simp [fit]
  | (x, o) :: l, s :: ss, h => by
    have ho : o ≠ some (0, false) := by rintro rfl; simp [nz] at h
    have hl : nz l = true := by
      unfold nz at h
      split at h
      · simp_all
      · simp at h
      · rename_i e; simp only [List.cons.injEq] at e; rw [e.2]; exact h
    have : fit ((x, o) :: l) (s :: ss) = (x, o) :: fit l ss := fit_ne ho
    rw [this, fit_nz hl]
theorem fit_o {x : C} {k : Nat} {l : Cs} {s : Sz} {ss : List Sz} : fit ((x, some (k + 1, false)) :: l) (s :: ss) = (x, some (k + 1, false)) :: fit l ss := by
  cases x with
  | s v => rfl
  | r r => cases r <;> rfl
theorem fit_e {ss : List Sz} : fit [] ss = [] := by cases ss <;> rfl
def nzA : A → Bool
  | .c x o => nz [(x, o)]
  | .ag l => nz l
  | _ => true
theorem fitA_nz {a : A} {ss : List Sz} (h : nzA a = true) : fitA a ss = a := by
  cases a with
  | c x o => simp only [fitA]; rw [fit_nz h]
  | ag l => simp only [fitA]; rw [fit_nz h]
  | _ => rfl
theorem fitAs_nz : ∀ {l : List A} {ts : List TypeId}, l.all nzA = true → fitAs P K l ts = l
  | [], ts, _ => by cases ts <;> rfl
  | a :: l, [], _ => rfl
  | a :: l, t :: ts, h => by
    simp only [List.all_cons, Bool.and_eq_true] at h
    simp only [fitAs, fitA_nz h.1, fitAs_nz h.2]
theorem told5 {fn : Func} {ls : List Lend} {a : A} {xs : List (Option Cs)} {rs : List T} {σ1 σ2 : St} {as as' : List A} {e : Ex} (he : (match e with | .exit _ => false | _ => true) = true) (h1 : resVars P σ fn.results.toList = some rs) (h2 : resVs σ rs = some (as, σ1)) (h3 : backs σ1 ls = some (xs, σ2)) (h4 : fitAs P K as fn.resultTypes.toList = as') (h5 : outA as' = a) : Told2 P K fn ls false (a, xs) e σ := by
  refine told3 ?_
  have : finish P K fn ls σ = some (a, xs) := by
    simp only [finish, h1, h2, Option.bind_some, h3, Option.map_some, h4, h5]
  cases e with
  | exit i => simp at he
  | normal => exact this
  | ret => exact this
theorem told5w {fn : Func} {ls : List Lend} {a : A} {xs : List (Option Cs)} {rs : List T} {σ1 σ2 : St} {as as' : List A} {e : Ex} (he : (match e with | .exit _ => false | _ => true) = true) (h1 : resVars P σ fn.results.toList = some rs) (h2 : resVs σ rs = some (as, σ1)) (h3 : backs σ1 ls = some (xs, σ2)) (h4 : fitAs P K as fn.resultTypes.toList = as') (h5 : outA as' = a) {a' : A} (h6 : fgtA a = a') : Told2 P K fn ls true (a', xs) e σ := by
  subst h6
  refine ⟨(a, xs), ?_, rfl⟩
  have : finish P K fn ls σ = some (a, xs) := by
    simp only [finish, h1, h2, Option.bind_some, h3, Option.map_some, h4, h5]
  cases e with
  | exit i => simp at he
  | normal => exact this
  | ret => exact this
/-- the same, with several states behind it -/
theorem loop_ruleM {ls : List Lend} {b : Code} {σ : St} {Q : Ex → St → Prop} {β : Type} (id : Nat) (E : Nat → β → St) (p : Nat → β → Prop) (S : St) (hm : Mono ls Q) (hl : Le ls S σ) (hx : ∀ i t, p i t → Q (.exit id) (E i t)) (h : ∀ V : St → Prop, (∀ σ, W P K F n b σ (Lp P K F n b Q) → V σ) → (∀ σ τ, V σ → Le ls σ τ → W P K F n (.loop b) τ Q) → (∀ i t τ, p i t → Le ls (E i t) τ → Q (.exit id) τ) → V S) : W P K F n (.loop b) σ Q :=
  W_le hm hl (h (fun σ => W P K F n (.loop b) σ Q) (fun _ h => W_round h) (fun _ _ h hl => W_le hm hl h) (fun i t τ hp hl => hm _ _ _ hl (hx i t hp)))
end Go.SX

set_option linter.unusedVariables false
set_option linter.unusedSimpArgs false
set_option linter.unusedSectionVars false
set_option linter.unusedVariables false
set_option linter.unusedSimpArgs false
namespace Go.SX
open Go.Nt
variable {P : Program} {K : Cfg} {F : Fun} {n : Nat} {ops : Array Oper} {ρ : Operand → T} {σ : St} {a b : Str} {t u : TypeId} {x y : Operand} {o : Oper}

theorem pr_str (op : BinOp) (a b : ByteArray) : pureRun P (do eqGuard op t x y (.string a) (.string b); binOp op t (.string a) (.string b)) = pureRun P (Op.stringOp op a b) := by cases op <;> rfl
theorem ev_str {op : BinOp} {v : Value} (ho : o.op = .binOp op t x y u) (hx : ρ x = .c (cS a)) (hy : ρ y = .c (cS b)) (h : pureRun P (Op.stringOp op (bs a) (bs b)) = some v) : evOp P K F ρ σ o = some (ofV v, σ) := by
  obtain ⟨dst, op', type, pos, after, guard⟩ := o
  simp only at ho
  subst ho
  simp only [evOp, hx, hy, pr_str, h, Option.map_some]
theorem ev_eql_s (ho : o.op = .binOp .eql t x y u) (hx : ρ x = .c (cS a)) (hy : ρ y = .c (cS b)) : evOp P K F ρ σ o = some (.c (cB (a == b)), σ) :=
  ev_str ho hx hy (by simp only [Op.stringOp, bs_toList]; rfl)
theorem ev_neq_s (ho : o.op = .binOp .neq t x y u) (hx : ρ x = .c (cS a)) (hy : ρ y = .c (cS b)) : evOp P K F ρ σ o = some (.c (cB (!(a == b))), σ) :=
  ev_str ho hx hy (by simp only [Op.stringOp, bs_toList]; rfl)
theorem ev_lss_s (ho : o.op = .binOp .lss t x y u) (hx : ρ x = .c (cS a)) (hy : ρ y = .c (cS b)) : evOp P K F ρ σ o = some (.c (cB (slt a b)), σ) :=
  ev_str ho hx hy (by simp only [Op.stringOp, bs_toList]; rfl)
theorem ev_leq_s (ho : o.op = .binOp .leq t x y u) (hx : ρ x = .c (cS a)) (hy : ρ y = .c (cS b)) : evOp P K F ρ σ o = some (.c (cB (slt a b || a == b)), σ) :=
  ev_str ho hx hy (by simp only [Op.stringOp, bs_toList]; rfl)
theorem ev_gtr_s (ho : o.op = .binOp .gtr t x y u) (hx : ρ x = .c (cS a)) (hy : ρ y = .c (cS b)) : evOp P K F ρ σ o = some (.c (cB (!(slt a b || a == b))), σ) :=
  ev_str ho hx hy (by simp only [Op.stringOp, bs_toList]; rfl)
theorem ev_geq_s (ho : o.op = .binOp .geq t x y u) (hx : ρ x = .c (cS a)) (hy : ρ y = .c (cS b)) : evOp P K F ρ σ o = some (.c (cB (!(slt a b))), σ) :=
  ev_str ho hx hy (by simp only [Op.stringOp, bs_toList]; rfl)
theorem ev_cat {c : Str} (h : cat a b = some c) (ho : o.op = .binOp .add t x y u) (hx : ρ x = .c (cS a)) (hy : ρ y = .c (cS b)) : evOp P K F ρ σ o = some (.c (cS c), σ) := by
  unfold cat at h
  split at h
  · simp at h
  · rename_i hc
    simp only [Option.some.injEq] at h
    subst h
    refine ev_str (v := .string (bs (a ++ b))) ho hx hy ?_
    have hs : ∀ a : Str, (bs a).size = a.length := fun _ => rfl
    simp only [Op.stringOp, hs]
    rw [if_neg hc, bs_append]
    rfl
theorem ev_ss {c : Str} {lo hi : Option Operand} {i j : Int} (h : slc a i j = some c) (ho : o.op = .slice t x lo hi none) (hu : P.underlying t = some .string) (hx : ρ x = .c (cS a)) (hlo : (match (motive := Option Operand → Prop) lo with | none => i = 0 | some y => ∃ k, ρ y = .c (.s (.int k i)))) (hhi : (match (motive := Option Operand → Prop) hi with | none => j = a.length | some y => ∃ k, ρ y = .c (.s (.int k j)))) : evOp P K F ρ σ o = some (.c (cS c), σ) := by
  obtain ⟨h0, h1, h2, rfl⟩ := slc_some h
  obtain ⟨dst, op, type, pos, after, guard⟩ := o
  simp only at ho
  subst ho
  have hs : (bs a).size = a.length := rfl
  have key : ∀ (l h : Option Value), (match (motive := Option Value → Prop) l with | none => i = 0 | some v => ∃ k, v = .int k i) → (match (motive := Option Value → Prop) h with | none => j = a.length | some v => ∃ k, v = .int k j) → pureRun P (Instr.slice t (.string (bs a)) l h none) = some (.string (bs (Nt.cut a i.toNat j.toNat))) := by
    intro l h hl hh
    have e2 : pureRun P (Instr.slice t (.string (bs a)) l h none) = pureRun P (do let (l, h, _) ← Instr.sliceBounds false (bs a).size (bs a).size l h none; pure (.string ((bs a).extract l h))) := by
      simp only [Instr.slice, bind, Sem.bind, underlying, program, pureRun, hu, pure, Option.isSome_none, Bool.false_eq_true, if_false]
    rw [e2]
    have e3 : Instr.sliceBounds false (bs a).size (bs a).size l h none = Sem.pure (i.toNat, j.toNat, a.length) := by
      have hj : ∀ k, Instr.sliceBound (.int k j) a.length .sliceAlen = Sem.pure j.toNat := fun k => by
        simp only [Instr.sliceBound, asIntOf, bind, Sem.bind, pure]
        rw [if_pos ⟨by omega, h2⟩]
      have hi' : ∀ k, Instr.sliceBound (.int k i) j.toNat .sliceB = Sem.pure i.toNat := fun k => by
        simp only [Instr.sliceBound, asIntOf, bind, Sem.bind, pure]
        rw [if_pos ⟨h0, by omega⟩]
      cases h with
      | none =>
        simp only at hh
        have hjn : a.length = j.toNat := by omega
        cases l with
        | none => simp only at hl; subst hl; simp [Instr.sliceBounds, bind, Sem.bind, pure, hs, hjn]
        | some v => obtain ⟨k, rfl⟩ := hl; simp only [Instr.sliceBounds, bind, Sem.bind, pure, hs, Option.isSome_none, Bool.false_eq_true, if_false]; rw [hjn, hi']; simp [Sem.bind, ← hjn]
      | some v =>
        obtain ⟨k, rfl⟩ := hh
        cases l with
        | none => simp only at hl; subst hl; simp only [Instr.sliceBounds, bind, Sem.bind, pure, hs, Bool.false_eq_true, if_false, hj]; rfl
        | some v => obtain ⟨k', rfl⟩ := hl; simp only [Instr.sliceBounds, bind, Sem.bind, pure, hs, Option.isSome_none, Bool.false_eq_true, if_false, hj, hi']
    rw [e3]
    simp only [bind, Sem.bind, pure, pureRun, bs_extract]
  simp only [evOp, Option.isNone_none, if_true, hx, opSlice]
  cases lo with
  | none => cases hi with
    | none => simp only [Option.bind_some]; rw [key none none hlo hhi]; rfl
    | some y => obtain ⟨k, hk⟩ := hhi; simp only [Option.bind_some, hk]; rw [key none (some _) hlo ⟨k, rfl⟩]; rfl
  | some y => cases hi with
    | none => obtain ⟨k, hk⟩ := hlo; simp only [Option.bind_some, hk]; rw [key (some _) none ⟨k, rfl⟩ hhi]; rfl
    | some z => obtain ⟨k, hk⟩ := hlo; obtain ⟨k', hk'⟩ := hhi; simp only [Option.bind_some, hk, hk']; rw [key (some _) (some _) ⟨k, rfl⟩ ⟨k', rfl⟩]; rfl
theorem ev_conv {v w : Value} (ho : o.op = .convert t u x) (hx : ρ x = .c (.s v)) (h : pureRun P (convert t u v) = some w) : evOp P K F ρ σ o = some (ofV w, σ) := by
  obtain ⟨dst, op, type, pos, after, guard⟩ := o
  simp only at ho
  subst ho
  simp only [evOp, hx, opConv, h, Option.map_some]
theorem ev_ii {k k' j : IntKind} {i : Int} (ho : o.op = .convert t u x) (hx : ρ x = .c (.s (.int k i))) (ht : P.underlying t = some (.int j)) (hu : P.underlying u = some (.int k')) : evOp P K F ρ σ o = some (.c (cI k' (k'.wrap i)), σ) :=
  ev_conv (w := .int k' (k'.wrap i)) ho hx (by simp only [convert, bind, Sem.bind, underlying, program, pureRun, ht, hu, pure, Conv.intToInt])
/-- a rune's text -/
theorem ev_is {k j : IntKind} {i : Int} (ho : o.op = .convert t u x) (hx : ρ x = .c (.s (.int k i))) (ht : P.underlying t = some (.int j)) (hu : P.underlying u = some .string) : evOp P K F ρ σ o = some (.c (cS (rune i)), σ) :=
  ev_conv (w := .string (Utf8.encode i)) ho hx (by simp only [convert, bind, Sem.bind, underlying, program, pureRun, ht, hu, pure, Conv.intToString])
theorem bytesOf_map (l : List Int) : bytesOf (l.map eU) = some (strOf l) := by
  induction l with
  | nil => rfl
  | cons b l ih => simp only [List.map_cons, bytesOf, ih, Option.map_some, strOf]
theorem ev_bts {l : List Int} {e : TypeId} (ho : o.op = .convert t u x) (hu : P.underlying u = some .string) (ht : elOf P t = some e) (he : P.underlying e = some (.int .u8)) (hl : elems σ (ρ x) = some (l.map eU)) (hdp : deepT σ (ρ x) = false) : evOp P K F ρ σ o = some (.c (cS (strOf l)), σ) := by
  obtain ⟨dst, op, type, pos, after, guard⟩ := o
  simp only at ho
  subst ho
  simp only [evOp, opConv]
  have hns : ∀ v, ρ x ≠ .c (.s v) := by intro v e; rw [e] at hl; simp [elems] at hl
  split
  · rename_i v e; exact absurd e (hns v)
  · rw [hu, ht]
    simp only [hdp, Bool.false_eq_true, if_false, Option.bind_some, he, hl, bytesOf_map, Option.map_some]
theorem el_sl {α : Type} {en : α → List C} {l m : List α} {i j : Int} {r : Nat} {q : Row} (h : slc l i j = some m) {v : T} (hv : v = .sl r i.toNat j.toNat) (hr : rowAt σ r = some q) (hq : q.l = l.map en) : elems σ v = some (m.map en) := by
  obtain ⟨_, _, _, rfl⟩ := slc_some h
  simp only [hv, elems, hr, Option.map_some, hq, cut_map]
theorem ev_lenS {α : Type} {en : α → List C} {l m : List α} {i j : Int} {r : Nat} {q : Row} {c : Call} {e : TypeId} (h : slc l i j = some m) (ho : o.op = .call c) (hc : c.callee = .builtin .len) (ha : c.args.toList = [x]) (ht : c.argTypes.toList = [t]) (he : elOf P t = some e) (hx : ρ x = .sl r i.toNat j.toNat) (hr : rowAt σ r = some q) (hq : q.l = l.map en) : evOp P K F ρ σ o = some (.c (cI .i64 (m.length : Int)), σ) := by
  have hel := el_sl h hx hr hq
  obtain ⟨dst, op, type, pos, after, guard⟩ := o
  obtain ⟨callee, args, ats⟩ := c
  simp only at ho hc
  subst ho hc
  simp only at ha ht
  rw [hx] at hel
  simp only [evOp, ha, ht, hx, he, Option.bind_some, hel, Option.map_some, List.length_map]; rfl
theorem ev_quo {k : IntKind} {i j q : Int} (h : Nt.quo k i j = some q) (ho : o.op = .binOp .quo t x y u) (hx : ρ x = .c (.s (.int k i))) (hy : ρ y = .c (.s (.int k j))) : evOp P K F ρ σ o = some (.c (cI k q), σ) := by
  obtain ⟨dst, op, type, pos, after, guard⟩ := o
  simp only at ho
  subst ho
  unfold Nt.quo at h
  split at h
  · simp at h
  · rename_i h0
    simp only [Option.some.injEq] at h
    subst h
    have : pureRun P (do eqGuard .quo t x y (.int k i) (.int k j); binOp .quo t (.int k i) (.int k j)) = some (.int k (k.wrap (i.tdiv j))) := by
      have e : eqGuard .quo t x y (.int k i) (.int k j) = Sem.pure () := rfl
      rw [e]
      simp only [bind, Sem.bind, binOp, Op.intDiv]
      rw [if_neg (by simp), if_neg h0]; rfl
    simp only [evOp, hx, hy, this, Option.map_some]; rfl
theorem ev_rem {k : IntKind} {i j q : Int} (h : Nt.rem i j = some q) (ho : o.op = .binOp .rem t x y u) (hx : ρ x = .c (.s (.int k i))) (hy : ρ y = .c (.s (.int k j))) : evOp P K F ρ σ o = some (.c (cI k q), σ) := by
  obtain ⟨dst, op, type, pos, after, guard⟩ := o
  simp only at ho
  subst ho
  unfold Nt.rem at h
  split at h
  · simp at h
  · rename_i h0
    simp only [Option.some.injEq] at h
    subst h
    have : pureRun P (do eqGuard .rem t x y (.int k i) (.int k j); binOp .rem t (.int k i) (.int k j)) = some (.int k (i.tmod j)) := by
      have e : eqGuard .rem t x y (.int k i) (.int k j) = Sem.pure () := rfl
      rw [e]
      simp only [bind, Sem.bind, binOp, Op.intDiv]
      rw [if_neg (by simp), if_neg h0]; rfl
    simp only [evOp, hx, hy, this, Option.map_some]; rfl
theorem ev_clr {α : Type} {en : α → List C} {l m : List α} {a : α} {i j : Int} {r z : Nat} {c : Call} {e : TypeId} {inf : TypeInfo} {zv : Value} {zl : List T} {cs : List C} {τ : St} (h : slc l i j = some m) (ho : o.op = .call c) (hc : c.callee = .builtin .clear) (ha : c.args.toList = [x]) (ht : c.argTypes.toList = [t]) (he : elOf P t = some e) (hi : P.info? e = some inf) (hz : inf.zero = some zv) (hf : flat (constT zv) = some zl) (hv : views σ zl = some cs) (hcs : cs = en a) (hl : cs.length = inf.size) (hzc : zv.cells.size = inf.size) (h0 : Nat.ble 1 inf.size = true) (hx : ρ x = .sl r i.toNat j.toNat) (hr : rowAt (demotes σ zl) r = some ⟨z, l.map en, true, .f⟩) (hzz : z = inf.size) (hτ : setRow (demotes σ zl) r (some ⟨z, (Nt.clr l i j a).map en, true, .f⟩) = τ) : evOp P K F ρ σ o = some (.tu [], τ) := by
  subst hτ hcs
  obtain ⟨h1, h2, h3, rfl⟩ := slc_some h
  replace h0 := Nat.le_of_ble_eq_true h0
  obtain ⟨dst, op, type, pos, after, guard⟩ := o
  obtain ⟨callee, args, ats⟩ := c
  simp only at ho hc
  subst ho hc
  simp only at ha ht
  simp only [evOp, ha, ht, opClear, he, hi, hz, hf, hv, Option.bind_some, hx]
  rw [if_pos ⟨hl, hzc, h0⟩, hr]
  simp only [Option.bind_some]
  rw [if_pos ⟨trivial, trivial, hzz, by omega, by simp; omega⟩]
  simp [Nt.clr, List.map_take, List.map_drop]
end Go.SX
