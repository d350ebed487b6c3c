import Derived.Test.YtligkplajabcfaaSx32
import Derived.WideShapes
set_option linter.unusedVariables false
set_option linter.unusedSimpArgs false
set_option linter.unusedSectionVars false
set_option linter.unusedVariables false
set_option linter.unusedSimpArgs false
namespace Go.SX
open Go.Nt Go.WideShapes
variable {P : Program} {w : World} {t e : TypeId} {l : List C} {d : Nat}

/-! the arguments of a law -/
theorem wt_i {k : IntKind} (hu : P.underlying t = some (.int k)) (h : Wt P (d + 1) t l) : ∃ n, l = [cI k n] ∧ (Lit.int k n).wf = true := by
  simp only [Wt, hu] at h; exact h
theorem wt_i64 (hu : P.underlying t = some (.int .i64)) (h : Wt P (d + 1) t l) : ∃ n, l = [cI .i64 n] ∧ okI n := by
  obtain ⟨n, h1, h2⟩ := wt_i hu h
  refine ⟨n, h1, ?_⟩
  simp [Lit.wf, IntKind.min, IntKind.max, IntKind.signed, IntKind.bits] at h2
  unfold okI; omega
theorem wt_s (hu : P.underlying t = some .string) (h : Wt P (d + 1) t l) : ∃ s : Str, l = [cS s] ∧ okS s := by
  simp only [Wt, hu] at h
  obtain ⟨s, h1, h2⟩ := h
  exact ⟨s.data.toList, h1, h2⟩
theorem wt_l {α : Type} {en : α → List C} {ok : α → Prop} (hu : P.underlying t = some (.slice e)) (inv : ∀ el, Wt P d e el → ∃ x : α, el = en x ∧ ok x) (h : Wt P (d + 1) t l) : ∃ xs : List α, l = [cL en xs] ∧ okL ok xs := by
  simp only [Wt, hu] at h
  obtain ⟨es, rfl, h1, h2⟩ := h
  have key : ∀ (es : List (List C)), (∀ el ∈ es, el.length = P.cellsOf e ∧ Wt P d e el) → ∃ xs : List α, es = xs.map en ∧ ∀ x ∈ xs, ok x := by
    intro es
    induction es with
    | nil => intro _; exact ⟨[], rfl, by simp⟩
    | cons el es ih =>
      intro h
      obtain ⟨x, h3, h4⟩ := inv el (h el (by simp)).2
      obtain ⟨xs, h5, h6⟩ := ih fun el hel => h el (by simp [hel])
      refine ⟨x :: xs, by simp [h3, h5], fun y hy => ?_⟩
      rcases List.mem_cons.1 hy with rfl | hy
      · exact h4
      · exact h6 y hy
  obtain ⟨xs, rfl, h3⟩ := key es h2
  have h4 : xs.length ≤ maxLen := by simpa using h1
  exact ⟨xs, rfl, Nat.le_trans h4 (by decide), h3⟩
/-- structs: field by field -/
theorem wt_st {fs : Array Field} (hu : P.underlying t = some (.struct fs)) (h : Wt P (d + 1) t l) : WtF (Wt P d) fs.toList l := by
  simp only [Wt, hu] at h; exact h
theorem wtF_cons {g : TypeId → List C → Prop} {f : Field} {fs : List Field} (h : WtF g (f :: fs) l) : ∃ a b, l = a ++ b ∧ g f.type a ∧ WtF g fs b := h
theorem wtF_nil {g : TypeId → List C → Prop} (h : WtF g [] l) : l = [] := h
theorem cells_one {v : Value} (h : ∀ cs, v ≠ .agg cs) : v.cells.toList = [v] := by
  cases v <;> simp_all [Value.cells]
/-- an argument of one cell -/
theorem arg_c {H : Type} {enc : TypeId × Value → H} {v : Value} {x : DataW H} {p : List MemPlace} (hd : dataTy P 8 t = true) (hv : ∀ cs, v ≠ .agg cs) (h : DataW.Trod enc P w 0 (fun _ => true) true t v x p) : ∃ c, Wt P 8 t [c] ∧ Holds w (There w) c v := by
  obtain ⟨fuel, hf⟩ := h
  obtain ⟨l, h1, h2⟩ := opened 8 fuel t _ _ hd hf
  rw [cells_one hv] at h1
  cases h1 with
  | cons a b => cases b; exact ⟨_, h2, a⟩
/-- a struct -/
theorem arg_ag {H : Type} {enc : TypeId × Value → H} {cs : Array Value} {x : DataW H} {p : List MemPlace} (hd : dataTy P 8 t = true) (h : DataW.Trod enc P w 0 (fun _ => true) true t (.agg cs) x p) : ∃ l, Wt P 8 t l ∧ CsRel w (There w) (l.map (·, none)) cs.toList [] := by
  obtain ⟨fuel, hf⟩ := h
  obtain ⟨l, h1, h2⟩ := opened 8 fuel t _ _ hd hf
  refine ⟨l, h2, ?_⟩
  simp only [Value.cells] at h1
  generalize cs.toList = us at h1
  clear h2 hf
  induction h1 with
  | nil => exact .nil
  | cons h _ ih => exact .sh h ih
end Go.SX
