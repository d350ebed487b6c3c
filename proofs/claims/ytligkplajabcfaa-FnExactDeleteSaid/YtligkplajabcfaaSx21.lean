import Derived.Test.YtligkplajabcfaaSx20
import Derived.Deep.Slices
set_option linter.unusedVariables false
set_option linter.unusedSimpArgs false
set_option linter.unusedSectionVars false
namespace Go.SX
variable {P : Program} {w : World}

/-! the arguments: data of whole numbers, strings, bools, slices and structs -/
def tiled (P : Program) : Nat → List Field → Nat → Bool
  | off, [], total => off == total
  | off, f :: fs, total => f.offset == off && tiled P (off + P.cellsOf f.type) fs total
def dataTy (P : Program) : Nat → TypeId → Bool
  | 0, _ => false
  | d + 1, t => match P.underlying t with
    | some .bool | some (.int _) | some .string => true
    | some (.slice e) => dataTy P d e
    | some (.struct fs) => tiled P 0 fs.toList (P.cellsOf t) && fs.toList.all fun f => dataTy P d f.type
    | _ => false
def WtF (g : TypeId → List C → Prop) : List Field → List C → Prop
  | [], l => l = []
  | f :: fs, l => ∃ a b, l = a ++ b ∧ g f.type a ∧ WtF g fs b
/-- cells of a type -/
def Wt (P : Program) : Nat → TypeId → List C → Prop
  | 0, _, _ => False
  | d + 1, t, l => match P.underlying t with
    | some .bool => ∃ b, l = [.s (.bool b)]
    | some (.int k) => ∃ n, l = [.s (.int k n)] ∧ (Lit.int k n).wf = true
    | some .string => ∃ s : ByteArray, l = [.s (.string s)] ∧ s.size ≤ maxLen
    | some (.slice e) => ∃ es : List (List C), l = [.r es] ∧ es.length ≤ maxLen ∧ ∀ el ∈ es, el.length = P.cellsOf e ∧ Wt P d e el
    | some (.struct fs) => WtF (Wt P d) fs.toList l
    | _ => False
theorem mapM_get {α : Type} (f : Nat → Option α) : ∀ (n k : Nat) (l : List α), ((List.range' k n).mapM f) = some l → l.length = n ∧ ∀ j, j < n → f (k + j) = l[j]?
  | 0, k, l, h => by simp at h; subst h; exact ⟨rfl, fun j hj => by omega⟩
  | n + 1, k, l, h => by
    rw [List.range'_succ] at h
    simp only [List.mapM_cons, bind, Option.bind_eq_some_iff, pure, Option.some.injEq] at h
    obtain ⟨x, h1, l', h2, rfl⟩ := h
    obtain ⟨h3, h4⟩ := mapM_get f n (k + 1) l' h2
    refine ⟨by simp [h3], fun j hj => ?_⟩
    cases j with
    | zero => simpa using h1
    | succ j => rw [show k + (j + 1) = k + 1 + j by omega, h4 j (by omega)]; simp
theorem cells_get {base : Nat} {a : Addr} {n : Nat} {cs : List Value} (h : w.cells? base a n = some cs) : cs.length = n ∧ ∀ j, j < n → w.cell? (a.add j) = cs[j]? := by
  unfold World.cells? at h
  split at h
  · rw [List.range_eq_range'] at h
    obtain ⟨h1, h2⟩ := mapM_get _ n 0 cs h
    exact ⟨h1, fun j hj => by simpa using h2 j hj⟩
  · simp at h
theorem opened_fields {H : Type} {total : Nat} {g : TypeId → List C → Prop} (cs0 : List Value) (ok : Nat → Prop) : ∀ (fs : List Field) (off : Nat), tiled P off fs total = true → cs0.length = total →
    (∀ f ∈ fs, ∃ l, All2 (Holds w ok) l ((cs0.drop f.offset).take (P.cellsOf f.type)) ∧ g f.type l) → ∃ l, All2 (Holds w ok) l (cs0.drop off) ∧ WtF g fs l
  | [], off, ht, hl, _ => by
    simp only [tiled, beq_iff_eq] at ht
    exact ⟨[], by rw [List.drop_eq_nil_of_le (by omega)]; exact .nil, rfl⟩
  | f :: fs, off, ht, hl, h => by
    simp only [tiled, Bool.and_eq_true, beq_iff_eq] at ht
    obtain ⟨rfl, ht⟩ := ht
    obtain ⟨a, ha, hga⟩ := h f (by simp)
    obtain ⟨b, hb, hgb⟩ := opened_fields (H := H) cs0 ok fs _ ht hl fun f' hf' => h f' (by simp [hf'])
    refine ⟨a ++ b, ?_, a, b, rfl, hga, hgb⟩
    have := ha.append hb
    rwa [← List.drop_drop, List.take_append_drop] at this
theorem opened {H : Type} {enc : TypeId × Value → H} {base : Nat} {spare : Nat → Bool} {held : Bool} : ∀ (d fuel : Nat) (t : TypeId) (cs : List Value) (x : DataW H × List MemPlace), dataTy P d t = true → DataW.trod enc P w base spare held fuel t cs = some x →
    ∃ l, All2 (Holds w (There w)) l cs ∧ Wt P d t l
  | 0, _, _, _, _, hd, _ => by simp [dataTy] at hd
  | d + 1, fuel, t, cs, x, hd, h => by
    have lit : ∀ v : Value, v.oneCell' = true → All2 (Holds w (There w)) [.s v] [v] := fun v hv => .cons (.s v hv) .nil
    simp only [dataTy] at hd
    simp only [Wt]
    split at hd
    · rename_i hu
      cases fuel with
      | zero => simp [DataW.trod] at h
      | succ fuel =>
        unfold DataW.trod at h
        rw [hu] at h
        split at h <;> try (simp_all; done)
        exact ⟨_, lit _ rfl, _, rfl⟩
    · rename_i k hu
      cases fuel with
      | zero => simp [DataW.trod] at h
      | succ fuel =>
        unfold DataW.trod at h
        rw [hu] at h
        split at h <;> simp_all
        exact ⟨_, lit _ rfl, _, rfl, by simp_all⟩
    · rename_i hu
      cases fuel with
      | zero => simp [DataW.trod] at h
      | succ fuel =>
        unfold DataW.trod at h
        rw [hu] at h
        split at h <;> simp_all
        exact ⟨_, lit _ rfl, _, rfl, by simp_all⟩
    · rename_i e hu
      rcases Go.Deep.open_slice hu h with ⟨rfl, rfl⟩ | ⟨a, len, cap, m, n, D, Pl, rfl, hb, hl, hm, hmd, rfl, hel⟩
      · exact ⟨[.r []], .cons (.r [] none 0 0 0 (fun _ _ => undef) rfl (Nat.le_refl _) (by simp) (by omega) (by simp)) .nil, [], rfl, by simp, by simp⟩
      · have hlm : len ≤ m := by rw [hmd]; split <;> omega
        have key : ∀ i, i < len → ∃ el cs', w.cells? base (a.add (i * P.cellsOf e)) (P.cellsOf e) = some cs' ∧ All2 (Holds w (There w)) el cs' ∧ Wt P d e el := by
          intro i hi
          obtain ⟨cs', h1, h2⟩ := hel i (by omega)
          obtain ⟨el, h3, h4⟩ := opened d n e cs' _ hd h2
          exact ⟨el, cs', h1, h3, h4⟩
        let EL : Nat → List C := fun i => if h : i < len then (key i h).choose else []
        let CS : Nat → List Value := fun i => if h : i < len then (key i h).choose_spec.choose else []
        have hEL : ∀ i, i < len → w.cells? base (a.add (i * P.cellsOf e)) (P.cellsOf e) = some (CS i) ∧ All2 (Holds w (There w)) (EL i) (CS i) ∧ Wt P d e (EL i) := by
          intro i hi
          simp only [EL, CS, hi, dif_pos]
          exact (key i hi).choose_spec.choose_spec
        have hlen : ∀ i, i < len → (CS i).length = P.cellsOf e ∧ (EL i).length = P.cellsOf e := fun i hi => by
          obtain ⟨h1, h2, _⟩ := hEL i hi
          have := (cells_get h1).1
          exact ⟨this, by rw [h2.len, this]⟩
        have hmem : ∀ el ∈ (List.range len).map EL, el.length = P.cellsOf e ∧ Wt P d e el := by
          intro el hel'
          obtain ⟨i, hi, rfl⟩ := List.mem_map.1 hel'
          have hi' := List.mem_range.1 hi
          exact ⟨(hlen i hi').2, (hEL i hi').2.2⟩
        refine ⟨[.r ((List.range len).map EL)], .cons ?_ .nil, _, rfl, by simp; omega, hmem⟩
        refine .r _ (some a) len cap (P.cellsOf e) (fun i j => ((CS i)[j]?).getD undef) (by simp) hl (fun el h => (hmem el h).1) (fun i j hi hj => ⟨a, rfl, ?_, ?_⟩) (fun i j el c hi hj => ?_)
        · obtain ⟨h1, _, _⟩ := hEL i hi
          have := (cells_get h1).2 j hj
          rw [add_add] at this
          have hlt : j < (CS i).length := by rw [(hlen i hi).1]; exact hj
          rw [List.getElem?_eq_getElem hlt] at this
          have := cell_lt this
          rwa [add_block] at this
        · obtain ⟨h1, _, _⟩ := hEL i hi
          have := (cells_get h1).2 j hj
          rw [add_add] at this
          have hlt : j < (CS i).length := by rw [(hlen i hi).1]; exact hj
          rw [this, List.getElem?_eq_getElem hlt]; rfl
        · rw [range_get] at hi
          split at hi
          · rename_i hil
            simp only [Option.some.injEq] at hi
            subst hi
            obtain ⟨_, h2, _⟩ := hEL i hil
            obtain ⟨u, h3, h4⟩ := h2.get j c hj
            simp only [h3, Option.getD_some]; exact h4
          · simp at hi
    · rename_i fs hu
      simp only [Bool.and_eq_true, List.all_eq_true] at hd
      obtain ⟨xs, n, rfl, rfl, hlen, hxl, hf⟩ := DataW.trod_struct hu h
      obtain ⟨l, h1, h2⟩ := opened_fields (P := P) (H := H) (g := Wt P d) (w := w) cs (There w) fs.toList 0 hd.1 hlen fun f hfm => by
        obtain ⟨i, hi⟩ := List.getElem?_of_mem hfm
        have hi' : fs[i]? = some f := by simpa using hi
        have := hf i f hi'
        have hlt : i < xs.length := by rw [hxl]; exact (Array.getElem?_eq_some_iff.1 hi').1
        rw [List.getElem?_eq_getElem hlt] at this
        exact opened d n f.type _ _ (hd.2 f hfm) this
      exact ⟨l, by simpa using h1, h2⟩
    · simp at hd
end Go.SX
