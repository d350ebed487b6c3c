import Derived.Test.YtgeingpadegppaaRecAddTy
set_option linter.unusedVariables false
set_option linter.unusedSimpArgs false
/-! the plain functions -/
namespace Go.Pu
open Go.Nt
def laws_szRecS (a1 : List Rec) (a2 : Int) : Option (Int) := (if (decide ((IntKind.i64.wrap (a2 - (a1.length : Int))) < 0)) = true then some (-1) else some (IntKind.i64.wrap (a2 - (a1.length : Int))))
def laws_toRec (a1 : Rec) : Option (Rec) := some a1
def laws_toRecS.l0 (a1 : List Rec) (v3 : Int) (v4 : List Rec) : Option (List Rec) := (if (decide (v3 < (a1.length : Int))) = true then (ix a1 v3 >>= fun x5 => (laws_toRec x5 >>= fun x6 => (ix v4 v3 >>= fun x7 => (Nt.put v4 v3 x6 >>= fun m8 => laws_toRecS.l0 a1 (IntKind.i64.wrap (v3 + 1)) m8)))) else some v4)
  partial_fixpoint
def laws_toRecS (a1 : List Rec) : Option (List Rec) := (Nt.mk 16 (a1.length : Int) (Rec.mk 0 0) >>= fun m2 => (laws_toRecS.l0 a1 0 m2 >>= fun t9 => some t9))
def spec_l1In (a1 : Int) (a2 : Int) (a3 : Int) : Option (Bool) := (if (decide (a1 ≥ a2)) = true then some (decide (a1 ≤ a3)) else some false)
def spec_RecsOk.l0 (a1 : List Rec) (v2 : Int) : Option ((Bool) ⊕ (Unit)) := (if (decide (v2 < (a1.length : Int))) = true then (ix a1 v2 >>= fun x3 => (spec_l1In x3.Time 0 1000000 >>= fun x4 => (if (!x4) = true then some (.inl false) else (ix a1 v2 >>= fun x5 => (spec_l1In x5.N 0 1000 >>= fun x6 => (if (!x6) = true then some (.inl false) else (if (decide (v2 > 0)) = true then (ix a1 (IntKind.i64.wrap (v2 - 1)) >>= fun x7 => (ix a1 v2 >>= fun x8 => (if (decide (x7.Time > x8.Time)) = true then some (.inl false) else spec_RecsOk.l0 a1 (IntKind.i64.wrap (v2 + 1))))) else spec_RecsOk.l0 a1 (IntKind.i64.wrap (v2 + 1))))))))) else some (.inr ()))
  partial_fixpoint
def spec_RecsOk (a1 : List Rec) : Option (Bool) := (spec_RecsOk.l0 a1 0 >>= fun s10 => match s10 with | .inl r => some r | .inr t9 => some (decide ((a1.length : Int) ≤ 12)))
def spec_RecAdd (a1 : List Rec) (a2 : Int) (a3 : Int) : Option (List Rec) := (app 16 ([] : List Rec) a1 >>= fun m4 => (app 16 m4 ([(Rec.mk a2 a3)] : List Rec) >>= fun m5 => (if (decide ((m5.length : Int) > 12)) = true then (slc m5 1 (m5.length : Int) >>= fun s6 => (app 16 ([] : List Rec) s6 >>= fun m7 => (spec_RecsOk m7 >>= fun x8 => (if (!x8) = true then (app 16 ([] : List Rec) a1 >>= fun m9 => some m9) else some m7)))) else (spec_RecsOk m5 >>= fun x10 => (if (!x10) = true then (app 16 ([] : List Rec) a1 >>= fun m11 => some m11) else some m5)))))
def slices_Clone_Simpl_Rec_impl_Rec (a1 : List Rec) : Option (List Rec) := Nt.clone 16 a1
def impl_from (a1 : Int) (a2 : Int) (a3 : Int) : Option (Bool) := (if (decide (a1 ≥ a2)) = true then some (decide (a1 ≤ a3)) else some false)
def impl_isTime (a1 : Int) : Option (Bool) := (impl_from a1 0 1000000 >>= fun x2 => some x2)
def impl_isMany (a1 : Int) : Option (Bool) := (impl_from a1 0 1000 >>= fun x2 => some x2)
def impl_RecsOk.l0 (a1 : List Rec) (v2 : Int) : Option ((Bool) ⊕ (Unit)) := (if (decide (v2 < (a1.length : Int))) = true then (ix a1 v2 >>= fun x3 => (impl_isTime x3.Time >>= fun x4 => (if (!x4) = true then some (.inl false) else (impl_isMany x3.N >>= fun x5 => (if (!x5) = true then some (.inl false) else (if (decide (v2 > 0)) = true then (ix a1 (IntKind.i64.wrap (v2 - 1)) >>= fun x6 => (if (decide (x6.Time > x3.Time)) = true then some (.inl false) else impl_RecsOk.l0 a1 (IntKind.i64.wrap (v2 + 1)))) else impl_RecsOk.l0 a1 (IntKind.i64.wrap (v2 + 1)))))))) else some (.inr ()))
  partial_fixpoint
def impl_RecsOk (a1 : List Rec) : Option (Bool) := (impl_RecsOk.l0 a1 0 >>= fun s8 => match s8 with | .inl r => some r | .inr t7 => some (decide ((a1.length : Int) ≤ 12)))
def impl_RecAdd (a1 : List Rec) (a2 : Int) (a3 : Int) : Option (List Rec) := (slices_Clone_Simpl_Rec_impl_Rec a1 >>= fun x4 => (app 16 x4 ([(Rec.mk a2 a3)] : List Rec) >>= fun m5 => (if (decide ((m5.length : Int) > 12)) = true then (slc m5 1 (m5.length : Int) >>= fun s6 => (impl_RecsOk s6 >>= fun x7 => (if (!x7) = true then (slices_Clone_Simpl_Rec_impl_Rec a1 >>= fun x8 => some x8) else some s6))) else (impl_RecsOk m5 >>= fun x9 => (if (!x9) = true then (slices_Clone_Simpl_Rec_impl_Rec a1 >>= fun x10 => some x10) else some m5)))))
def laws_eqRec (a1 : Rec) (a2 : Rec) : Option (Bool) := (if (a1.Time != a2.Time) = true then some false else (if (a1.N != a2.N) = true then some false else some true))
def laws_eqRecS.l0 (a1 : List Rec) (a2 : List Rec) (v3 : Int) : Option ((Bool) ⊕ (Unit)) := (if (decide (v3 < (a1.length : Int))) = true then (ix a1 v3 >>= fun x4 => (ix a2 v3 >>= fun x5 => (laws_eqRec x4 x5 >>= fun x6 => (if (!x6) = true then some (.inl false) else laws_eqRecS.l0 a1 a2 (IntKind.i64.wrap (v3 + 1)))))) else some (.inr ()))
  partial_fixpoint
def laws_eqRecS (a1 : List Rec) (a2 : List Rec) : Option (Bool) := (if ((a1.length : Int) != (a2.length : Int)) = true then some false else (laws_eqRecS.l0 a1 a2 0 >>= fun s8 => match s8 with | .inl r => some r | .inr t7 => some true))
def laws_markRecS.l0  (v3 : Int) (v4 : Int) (v5 : List Rec) : Option (Int × List Rec) := (if (decide (v4 < (v5.length : Int))) = true then (ix v5 v4 >>= fun x6 => (Nt.put v5 v4 (Rec.mk v3 x6.N) >>= fun m7 => (ix m7 v4 >>= fun x8 => (Nt.put m7 v4 (Rec.mk x8.Time (IntKind.i64.wrap (v3 + 1))) >>= fun m9 => laws_markRecS.l0 (IntKind.i64.wrap ((IntKind.i64.wrap (v3 + 1)) + 1)) (IntKind.i64.wrap (v4 + 1)) m9)))) else some (v3, v5))
  partial_fixpoint
def laws_markRecS (a1 : List Rec) (a2 : Int) : Option (Int × List Rec) := (laws_markRecS.l0 a2 0 a1 >>= fun t10 => some (t10.1, t10.2))
def laws_heldRecS.l0 (a1 : List Rec) (v3 : Int) (v4 : Int) : Option ((Int) ⊕ (Int)) := (if (decide (v4 < (a1.length : Int))) = true then (ix a1 v4 >>= fun x5 => (if (x5.Time != v3) = true then some (.inl (-1)) else (ix a1 v4 >>= fun x6 => (if (x6.N != (IntKind.i64.wrap (v3 + 1))) = true then some (.inl (-1)) else laws_heldRecS.l0 a1 (IntKind.i64.wrap ((IntKind.i64.wrap (v3 + 1)) + 1)) (IntKind.i64.wrap (v4 + 1)))))) else some (.inr v3))
  partial_fixpoint
def laws_heldRecS (a1 : List Rec) (a2 : Int) : Option (Int) := (laws_heldRecS.l0 a1 a2 0 >>= fun s8 => match s8 with | .inl r => some r | .inr t7 => some t7)
def laws_FnExactRecAdd (a1 : List Rec) (a2 : Int) (a3 : Int) : Option (Bool) := (laws_szRecS a1 1048576 >>= fun x4 => (if (decide (x4 < 0)) = true then some true else (laws_toRecS a1 >>= fun x5 => (spec_RecAdd x5 a2 a3 >>= fun x6 => (laws_toRecS a1 >>= fun x7 => (impl_RecAdd x7 a2 a3 >>= fun x8 => (laws_eqRecS x8 x6 >>= fun x9 => (if (!x9) = true then some false else (laws_toRecS a1 >>= fun x10 => (laws_eqRecS x7 x10 >>= fun x11 => (if (!x11) = true then some false else (laws_markRecS x7 1 >>= fun x12 => (if (decide (x12.1 < 0)) = true then some false else (laws_eqRecS x8 x6 >>= fun x13 => (if (!x13) = true then some false else (laws_markRecS x8 1 >>= fun x14 => (laws_heldRecS x14.2 1 >>= fun x15 => (if (decide (x15 < 0)) = true then some false else (if (x15 != x14.1) = true then some false else (laws_toRecS a1 >>= fun x16 => (impl_RecAdd x16 a2 a3 >>= fun x17 => (laws_eqRecS x17 x6 >>= fun x18 => (if (!x18) = true then some false else (laws_heldRecS x14.2 1 >>= fun x19 => (if (decide (x19 < 0)) = true then some false else (if (x19 != x14.1) = true then some false else some true))))))))))))))))))))))))))

end Go.Pu
