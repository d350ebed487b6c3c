import Derived.Test.YtmdmbolhbjfcjaaCl
import Derived.Test.YtmdmbolhbjfcjaaSx33
import Derived.Below
import Derived.Lib.Join
import Derived.Lib.Repeat
set_option linter.unusedVariables false
set_option linter.unusedSimpArgs false
set_option linter.unusedSectionVars false
namespace Go.SX
open Go.Nt Go.RowKit
variable {P : Program}
/-! strings.Join, strings.Repeat: the shelf's contracts as functions of cells -/
def strs : List (List C) → Option (List ByteArray)
  | [] => some []
  | [.s (.string b)] :: l => (strs l).map (b :: ·)
  | _ => none
theorem strs_spec : ∀ {l : List (List C)} {xs : List ByteArray}, strs l = some xs → l = xs.map fun b => [C.s (.string b)]
  | [], xs, h => by simp only [strs, Option.some.injEq] at h; subst h; rfl
  | el :: l, xs, h => by
    unfold strs at h
    split at h
    · rename_i e; cases e
    · rename_i b l' e
      simp only [List.cons.injEq] at e
      obtain ⟨rfl, rfl⟩ := e
      obtain ⟨ys, h1, rfl⟩ := Option.map_eq_some_iff.1 h
      rw [strs_spec h1]; rfl
    · cases h
theorem strs_map : ∀ l : List Str, strs (l.map eS) = some (l.map bs)
  | [] => rfl
  | s :: l => by simp only [List.map_cons, eS, cS, strs, strs_map l, Option.map_some]
end Go.SX
