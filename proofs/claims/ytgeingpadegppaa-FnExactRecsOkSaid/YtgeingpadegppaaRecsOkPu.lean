import Derived.Test.YtgeingpadegppaaRecsOkTy
set_option linter.unusedVariables false
set_option linter.unusedSimpArgs false
/-! the plain functions -/
namespace Go.Pu
open Go.Nt
def laws_szRecS (a1 : List Rec) (a2 : Int) : Option (Int) := (if (decide ((IntKind.i64.wrap (a2 - (a1.length : Int))) < 0)) = true then some (-1) else some (IntKind.i64.wrap (a2 - (a1.length : Int))))
def laws_toRec (a1 : Rec) : Option (Rec) := some a1
def laws_toRecS.l0 (a1 : List Rec) (v3 : Int) (v4 : List Rec) : Option (List Rec) := (if (decide (v3 < (a1.length : Int))) = true then (ix a1 v3 >>= fun x5 => (laws_toRec x5 >>= fun x6 => (ix v4 v3 >>= fun x7 => (Nt.put v4 v3 x6 >>= fun m8 => laws_toRecS.l0 a1 (IntKind.i64.wrap (v3 + 1)) m8)))) else some v4)
  partial_fixpoint
def laws_toRecS (a1 : List Rec) : Option (List Rec) := (Nt.mk 16 (a1.length : Int) (Rec.mk 0 0) >>= fun m2 => (laws_toRecS.l0 a1 0 m2 >>= fun t9 => some t9))
def spec_l1In (a1 : Int) (a2 : Int) (a3 : Int) : Option (Bool) := (if (decide (a1 ≥ a2)) = true then some (decide (a1 ≤ a3)) else some false)
def spec_RecsOk.l0 (a1 : List Rec) (v2 : Int) : Option ((Bool) ⊕ (Unit)) := (if (decide (v2 < (a1.length : Int))) = true then (ix a1 v2 >>= fun x3 => (spec_l1In x3.Time 0 1000000 >>= fun x4 => (if (!x4) = true then some (.inl false) else (ix a1 v2 >>= fun x5 => (spec_l1In x5.N 0 1000 >>= fun x6 => (if (!x6) = true then some (.inl false) else (if (decide (v2 > 0)) = true then (ix a1 (IntKind.i64.wrap (v2 - 1)) >>= fun x7 => (ix a1 v2 >>= fun x8 => (if (decide (x7.Time > x8.Time)) = true then some (.inl false) else spec_RecsOk.l0 a1 (IntKind.i64.wrap (v2 + 1))))) else spec_RecsOk.l0 a1 (IntKind.i64.wrap (v2 + 1))))))))) else some (.inr ()))
  partial_fixpoint
def spec_RecsOk (a1 : List Rec) : Option (Bool) := (spec_RecsOk.l0 a1 0 >>= fun s10 => match s10 with | .inl r => some r | .inr t9 => some (decide ((a1.length : Int) ≤ 12)))
def impl_from (a1 : Int) (a2 : Int) (a3 : Int) : Option (Bool) := (if (decide (a1 ≥ a2)) = true then some (decide (a1 ≤ a3)) else some false)
def impl_isTime (a1 : Int) : Option (Bool) := (impl_from a1 0 1000000 >>= fun x2 => some x2)
def impl_isMany (a1 : Int) : Option (Bool) := (impl_from a1 0 1000 >>= fun x2 => some x2)
def impl_RecsOk.l0 (a1 : List Rec) (v2 : Int) : Option ((Bool) ⊕ (Unit)) := (if (decide (v2 < (a1.length : Int))) = true then (ix a1 v2 >>= fun x3 => (impl_isTime x3.Time >>= fun x4 => (if (!x4) = true then some (.inl false) else (impl_isMany x3.N >>= fun x5 => (if (!x5) = true then some (.inl false) else (if (decide (v2 > 0)) = true then (ix a1 (IntKind.i64.wrap (v2 - 1)) >>= fun x6 => (if (decide (x6.Time > x3.Time)) = true then some (.inl false) else impl_RecsOk.l0 a1 (IntKind.i64.wrap (v2 + 1)))) else impl_RecsOk.l0 a1 (IntKind.i64.wrap (v2 + 1)))))))) else some (.inr ()))
  partial_fixpoint
def impl_RecsOk (a1 : List Rec) : Option (Bool) := (impl_RecsOk.l0 a1 0 >>= fun s8 => match s8 with | .inl r => some r | .inr t7 => some (decide ((a1.length : Int) ≤ 12)))
def laws_eqRec (a1 : Rec) (a2 : Rec) : Option (Bool) := (if (a1.Time != a2.Time) = true then some false else (if (a1.N != a2.N) = true then some false else some true))
def laws_eqRecS.l0 (a1 : List Rec) (a2 : List Rec) (v3 : Int) : Option ((Bool) ⊕ (Unit)) := (if (decide (v3 < (a1.length : Int))) = true then (ix a1 v3 >>= fun x4 => (ix a2 v3 >>= fun x5 => (laws_eqRec x4 x5 >>= fun x6 => (if (!x6) = true then some (.inl false) else laws_eqRecS.l0 a1 a2 (IntKind.i64.wrap (v3 + 1)))))) else some (.inr ()))
  partial_fixpoint
def laws_eqRecS (a1 : List Rec) (a2 : List Rec) : Option (Bool) := (if ((a1.length : Int) != (a2.length : Int)) = true then some false else (laws_eqRecS.l0 a1 a2 0 >>= fun s8 => match s8 with | .inl r => some r | .inr t7 => some true))
def laws_FnExactRecsOk (a1 : List Rec) : Option (Bool) := (laws_szRecS a1 1048576 >>= fun x2 => (if (decide (x2 < 0)) = true then some true else (laws_toRecS a1 >>= fun x3 => (spec_RecsOk x3 >>= fun x4 => (laws_toRecS a1 >>= fun x5 => (impl_RecsOk x5 >>= fun x6 => (if (x6 != x4) = true then some false else (laws_toRecS a1 >>= fun x7 => (laws_eqRecS x5 x7 >>= fun x8 => (if (!x8) = true then some false else some true))))))))))
end Go.Pu
