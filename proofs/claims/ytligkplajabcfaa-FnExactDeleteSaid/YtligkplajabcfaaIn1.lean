import Derived.Shelf.Spec.SlicesInsertGrow
import Derived.Test.YtligkplajabcfaaSx33
set_option linter.unusedVariables false
set_option linter.unusedSimpArgs false
set_option linter.unusedSectionVars false
set_option linter.unusedVariables false
set_option linter.unusedSimpArgs false
namespace Go.SX
open Go.Shelf Go.Proofs Go.RowKit Go.Lib
variable {P : Program} {ρ : Ren}
/-! slices.Insert, at elements of z cells -/
structure InsL (P : Program) (ρ : Ren) (z : Nat) (i0 : TypeInfo) (z0 : Value) (nm : String) : Prop where
  mixed : P.follows .mixedOrders = true
  f22 : P.funcs[ρ.f 22]? = some { Body2.n22 ρ with name := nm }
  hnm : (nm == "runtime.NumGoroutine") = false
  hov : ∀ (x y : Value) (w w' : World) (r : Bool), (Extern.SlicesOverlaps.overlaps #[ρ.t 24, ρ.t 24] #[ρ.t 4] #[x, y]).run P w = .ok (.bool r) w' → (callFunc (ρ.f 29) #[x, y]).run P w = .ok (.value (.bool r)) w'
  t3 : P.underlying (ρ.t 3) = some (TypeDesc.int IntKind.i64)
  t4 : P.underlying (ρ.t 4) = some TypeDesc.bool
  t24 : P.underlying (ρ.t 24) = some (TypeDesc.slice (ρ.t 9))
  i9 : P.info? (ρ.t 9) = some i0
  hz : i0.size = z
  h0 : 0 < z
  hz0 : i0.zero = some z0
  hzc : z0.cells.size = z
  hb : 0 < i0.bytes
end Go.SX
