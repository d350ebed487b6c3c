import Derived.Test.YtmdmbolhbjfcjaaSx32
import Derived.WideShapes
set_option linter.unusedVariables false
set_option linter.unusedSimpArgs false
set_option linter.unusedSectionVars false
set_option linter.unusedVariables false
set_option linter.unusedSimpArgs false
namespace Go.SX
open Go.Nt Go.WideShapes
variable {P : Program} {w : World} {t e : TypeId} {l : List C} {d : Nat}

/-! the arguments of a law -/
theorem wt_i {k : IntKind} (hu : P.underlying t = some (.int k)) (h : Wt P (d + 1) t l) : ∃ n, l = [cI k n] ∧ (Lit.int k n).wf = true := by
  simp only [Wt, hu] at h; exact h
theorem wt_i64 (hu : P.underlying t = some (.int .i64)) (h : Wt P (d + 1) t l) : ∃ n, l = [cI .i64 n] ∧ okI n := by
  obtain ⟨n, h1, h2⟩ := wt_i hu h
  refine ⟨n, h1, ?_⟩
  simp [Lit.wf, IntKind.min, IntKind.max, IntKind.signed, IntKind.bits] at h2
  unfold okI; omega
theorem wt_s (hu : P.underlying t = some .string) (h : Wt P (d + 1) t l) : ∃ s : Str, l = [cS s] ∧ okS s := by
  simp only [Wt, hu] at h
  obtain ⟨s, h1, h2⟩ := h
  exact ⟨s.data.toList, h1, h2⟩
theorem wt_l {α : Type} {en : α → List C} {ok : α → Prop} (hu : P.underlying t = some (.slice e)) (inv : ∀ el, Wt P d e el → ∃ x : α, el = en x ∧ ok x) (h : Wt P (d + 1) t l) : ∃ xs : List α, l = [cL en xs] ∧ okL ok xs := by
  simp only [Wt, hu] at h
  obtain ⟨es, rfl, h1, h2⟩ := h
  have key : ∀ (es : List (List C)), (∀ el ∈ es, el.length = P.cellsOf e ∧ Wt P d e el) → ∃ xs : List α, es = xs.map en ∧ ∀ x ∈ xs, ok x := by
    intro es
    induction es with
    | nil => intro _; exact ⟨[], rfl, by simp⟩
    | cons el es ih =>
      intro h
      obtain ⟨x, h3, h4⟩ := inv el (h el (by simp)).2
      obtain ⟨xs, h5, h6⟩ := ih fun el hel => h el (by simp [hel])
      refine ⟨x :: xs, by simp [h3, h5], fun y hy => ?_⟩
      rcases List.mem_cons.1 hy with rfl | hy
      · exact h4
      · exact h6 y hy
  obtain ⟨xs, rfl, h3⟩ := key es h2
  have h4 : xs.length ≤ maxLen := by simpa using h1
  exact ⟨xs, rfl, Nat.le_trans h4 (by decide), h3⟩
/-- structs: field by field -/
theorem wt_st {fs : Array Field} (hu : P.underlying t = some (.struct fs)) (h : Wt P (d + 1) t l) : WtF (Wt P d) fs.toList l := by
  simp only [Wt, hu] at h; exact h
theorem wtF_cons {g : TypeId → List C → Prop} {f : Field} {fs : List Field} (h : WtF g (f :: fs) l) : ∃ a b, l = a ++ b ∧ g f.type a ∧ WtF g fs b := h
theorem wtF_nil {g : TypeId → List C → Prop} (h : WtF g [] l) : l = [] := h
end Go.SX
