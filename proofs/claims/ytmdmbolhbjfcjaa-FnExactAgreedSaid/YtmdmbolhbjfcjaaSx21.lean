import Derived.Test.YtmdmbolhbjfcjaaSx20
import Derived.Deep.Slices
set_option linter.unusedVariables false
set_option linter.unusedSimpArgs false
set_option linter.unusedSectionVars false
namespace Go.SX
variable {P : Program} {w : World}

/-! the arguments: data of whole numbers, strings, bools, slices and structs -/
def tiled (P : Program) : Nat → List Field → Nat → Bool
  | off, [], total => off == total
  | off, f :: fs, total => f.offset == off && tiled P (off + P.cellsOf f.type) fs total
def WtF (g : TypeId → List C → Prop) : List Field → List C → Prop
  | [], l => l = []
  | f :: fs, l => ∃ a b, l = a ++ b ∧ g f.type a ∧ WtF g fs b
/-- cells of a type -/
def Wt (P : Program) : Nat → TypeId → List C → Prop
  | 0, _, _ => False
  | d + 1, t, l => match P.underlying t with
    | some .bool => ∃ b, l = [.s (.bool b)]
    | some (.int k) => ∃ n, l = [.s (.int k n)] ∧ (Lit.int k n).wf = true
    | some .string => ∃ s : ByteArray, l = [.s (.string s)] ∧ s.size ≤ maxLen
    | some (.slice e) => ∃ es : List (List C), l = [.r es] ∧ es.length ≤ maxLen ∧ ∀ el ∈ es, el.length = P.cellsOf e ∧ Wt P d e el
    | some (.struct fs) => WtF (Wt P d) fs.toList l
    | _ => False
theorem mapM_get {α : Type} (f : Nat → Option α) : ∀ (n k : Nat) (l : List α), ((List.range' k n).mapM f) = some l → l.length = n ∧ ∀ j, j < n → f (k + j) = l[j]?
  | 0, k, l, h => by simp at h; subst h; exact ⟨rfl, fun j hj => by omega⟩
  | n + 1, k, l, h => by
    rw [List.range'_succ] at h
    simp only [List.mapM_cons, bind, Option.bind_eq_some_iff, pure, Option.some.injEq] at h
    obtain ⟨x, h1, l', h2, rfl⟩ := h
    obtain ⟨h3, h4⟩ := mapM_get f n (k + 1) l' h2
    refine ⟨by simp [h3], fun j hj => ?_⟩
    cases j with
    | zero => simpa using h1
    | succ j => rw [show k + (j + 1) = k + 1 + j by omega, h4 j (by omega)]; simp
theorem cells_get {base : Nat} {a : Addr} {n : Nat} {cs : List Value} (h : w.cells? base a n = some cs) : cs.length = n ∧ ∀ j, j < n → w.cell? (a.add j) = cs[j]? := by
  unfold World.cells? at h
  split at h
  · rw [List.range_eq_range'] at h
    obtain ⟨h1, h2⟩ := mapM_get _ n 0 cs h
    exact ⟨h1, fun j hj => by simpa using h2 j hj⟩
  · simp at h
theorem opened_fields {H : Type} {total : Nat} {g : TypeId → List C → Prop} (cs0 : List Value) (ok : Nat → Prop) : ∀ (fs : List Field) (off : Nat), tiled P off fs total = true → cs0.length = total →
    (∀ f ∈ fs, ∃ l, All2 (Holds w ok) l ((cs0.drop f.offset).take (P.cellsOf f.type)) ∧ g f.type l) → ∃ l, All2 (Holds w ok) l (cs0.drop off) ∧ WtF g fs l
  | [], off, ht, hl, _ => by
    simp only [tiled, beq_iff_eq] at ht
    exact ⟨[], by rw [List.drop_eq_nil_of_le (by omega)]; exact .nil, rfl⟩
  | f :: fs, off, ht, hl, h => by
    simp only [tiled, Bool.and_eq_true, beq_iff_eq] at ht
    obtain ⟨rfl, ht⟩ := ht
    obtain ⟨a, ha, hga⟩ := h f (by simp)
    obtain ⟨b, hb, hgb⟩ := opened_fields (H := H) cs0 ok fs _ ht hl fun f' hf' => h f' (by simp [hf'])
    refine ⟨a ++ b, ?_, a, b, rfl, hga, hgb⟩
    have := ha.append hb
    rwa [← List.drop_drop, List.take_append_drop] at this
end Go.SX
