import Derived.Test.YtgeingpadegppaaSteadyTy
set_option linter.unusedVariables false
set_option linter.unusedSimpArgs false
/-! the plain functions -/
namespace Go.Pu
open Go.Nt
def laws_szRecS (a1 : List Rec) (a2 : Int) : Option (Int) := (if (decide ((IntKind.i64.wrap (a2 - (a1.length : Int))) < 0)) = true then some (-1) else some (IntKind.i64.wrap (a2 - (a1.length : Int))))
def laws_toPace (a1 : Pace) : Option (Pace) := some a1
def laws_toRec (a1 : Rec) : Option (Rec) := some a1
def laws_toRecS.l0 (a1 : List Rec) (v3 : Int) (v4 : List Rec) : Option (List Rec) := (if (decide (v3 < (a1.length : Int))) = true then (ix a1 v3 >>= fun x5 => (laws_toRec x5 >>= fun x6 => (ix v4 v3 >>= fun x7 => (Nt.put v4 v3 x6 >>= fun m8 => laws_toRecS.l0 a1 (IntKind.i64.wrap (v3 + 1)) m8)))) else some v4)
  partial_fixpoint
def laws_toRecS (a1 : List Rec) : Option (List Rec) := (Nt.mk 16 (a1.length : Int) (Rec.mk 0 0) >>= fun m2 => (laws_toRecS.l0 a1 0 m2 >>= fun t9 => some t9))
def spec_Lately.l0 (a1 : List Rec) (a2 : Int) (a3 : Int) (v4 : Int) (v5 : List Int) : Option (List Int) := (if (decide (v4 < (a1.length : Int))) = true then (ix a1 v4 >>= fun x6 => (if (decide (x6.Time ≤ a2)) = true then (if (decide (x6.Time ≥ a2)) = true then (ix a1 v4 >>= fun x7 => (app 8 v5 ([x7.N] : List Int) >>= fun m8 => spec_Lately.l0 a1 a2 a3 (IntKind.i64.wrap (v4 + 1)) m8)) else (if (decide ((IntKind.i64.wrap (a2 - x6.Time)) ≥ 0)) = true then (if (decide ((IntKind.i64.wrap (a2 - x6.Time)) ≤ a3)) = true then (ix a1 v4 >>= fun x9 => (app 8 v5 ([x9.N] : List Int) >>= fun m10 => spec_Lately.l0 a1 a2 a3 (IntKind.i64.wrap (v4 + 1)) m10)) else spec_Lately.l0 a1 a2 a3 (IntKind.i64.wrap (v4 + 1)) v5) else spec_Lately.l0 a1 a2 a3 (IntKind.i64.wrap (v4 + 1)) v5)) else spec_Lately.l0 a1 a2 a3 (IntKind.i64.wrap (v4 + 1)) v5)) else some v5)
  partial_fixpoint
def spec_Lately (a1 : List Rec) (a2 : Int) (a3 : Int) : Option (List Int) := (spec_Lately.l0 a1 a2 a3 0 ([] : List Int) >>= fun t11 => some t11)
def spec_l1Max (a1 : Int) (a2 : Int) : Option (Int) := (if (decide (a1 > a2)) = true then some a1 else some a2)
def spec_l1Min (a1 : Int) (a2 : Int) : Option (Int) := (if (decide (a1 < a2)) = true then some a1 else some a2)
def spec_Steady.l0 (x6 : List Int) (v7 : Int) (v8 : Int) : Option (Int) := (if (decide (v8 < (x6.length : Int))) = true then (ix x6 v8 >>= fun x9 => (spec_l1Max v7 x9 >>= fun x10 => spec_Steady.l0 x6 x10 (IntKind.i64.wrap (v8 + 1)))) else some v7)
  partial_fixpoint
def spec_Steady.l1 (x14 : List Int) (v15 : Int) (v16 : Int) : Option (Int) := (if (decide (v16 < (x14.length : Int))) = true then (ix x14 v16 >>= fun x17 => (spec_l1Min v15 x17 >>= fun x18 => spec_Steady.l1 x14 x18 (IntKind.i64.wrap (v16 + 1)))) else some v15)
  partial_fixpoint
def spec_Steady (a1 : Pace) (a2 : List Rec) (a3 : Int) (a4 : Int) (a5 : Int) : Option (Int) := (if (decide (a5 < a4)) = true then (spec_Lately a2 a3 a1.DownSpan >>= fun x6 => (spec_Steady.l0 x6 a5 0 >>= fun t11 => (spec_l1Min t11 a4 >>= fun x12 => some x12))) else (if (decide (a5 > a4)) = true then (spec_Lately a2 a3 a1.UpSpan >>= fun x14 => (spec_Steady.l1 x14 a5 0 >>= fun t19 => (spec_l1Max t19 a4 >>= fun x20 => some x20))) else some a5))
def impl_beyond (a1 : Int) (a2 : Int) (a3 : Int) : Option (Bool) := (if (decide (a1 ≥ a2)) = true then (if (decide (a3 < 0)) = true then some true else some (decide ((IntKind.u64.wrap ((IntKind.u64.wrap (a1)) - (IntKind.u64.wrap (a2)))) > (IntKind.u64.wrap (a3))))) else (if (decide (a3 < 0)) = true then some (decide ((IntKind.u64.wrap ((IntKind.u64.wrap (a2)) - (IntKind.u64.wrap (a1)))) < (IntKind.u64.wrap (0 - (IntKind.u64.wrap (a3)))))) else some false))
def impl_Lately.l0 (a1 : List Rec) (a2 : Int) (a3 : Int) (v4 : Int) (v5 : List Int) : Option (List Int) := (if (decide (v4 < (a1.length : Int))) = true then (ix a1 v4 >>= fun x6 => (if (decide (a3 < 0)) = true then (if (x6.Time == a2) = true then (app 8 v5 ([x6.N] : List Int) >>= fun m7 => impl_Lately.l0 a1 a2 a3 (IntKind.i64.wrap (v4 + 1)) m7) else (if (decide (a3 ≥ 0)) = true then (if (decide (x6.Time ≤ a2)) = true then (impl_beyond a2 x6.Time a3 >>= fun x8 => (if (!x8) = true then (app 8 v5 ([x6.N] : List Int) >>= fun m9 => impl_Lately.l0 a1 a2 a3 (IntKind.i64.wrap (v4 + 1)) m9) else impl_Lately.l0 a1 a2 a3 (IntKind.i64.wrap (v4 + 1)) v5)) else impl_Lately.l0 a1 a2 a3 (IntKind.i64.wrap (v4 + 1)) v5) else impl_Lately.l0 a1 a2 a3 (IntKind.i64.wrap (v4 + 1)) v5)) else (if (decide (a3 ≥ 0)) = true then (if (decide (x6.Time ≤ a2)) = true then (impl_beyond a2 x6.Time a3 >>= fun x10 => (if (!x10) = true then (app 8 v5 ([x6.N] : List Int) >>= fun m11 => impl_Lately.l0 a1 a2 a3 (IntKind.i64.wrap (v4 + 1)) m11) else impl_Lately.l0 a1 a2 a3 (IntKind.i64.wrap (v4 + 1)) v5)) else impl_Lately.l0 a1 a2 a3 (IntKind.i64.wrap (v4 + 1)) v5) else impl_Lately.l0 a1 a2 a3 (IntKind.i64.wrap (v4 + 1)) v5))) else some v5)
  partial_fixpoint
def impl_Lately (a1 : List Rec) (a2 : Int) (a3 : Int) : Option (List Int) := (impl_Lately.l0 a1 a2 a3 0 ([] : List Int) >>= fun t12 => some t12)
def impl_Steady.l0 (x6 : List Int) (v7 : Int) (v8 : Int) : Option (Int) := (if (decide (v8 < (x6.length : Int))) = true then (ix x6 v8 >>= fun x9 => impl_Steady.l0 x6 (if x9 > v7 then x9 else v7) (IntKind.i64.wrap (v8 + 1))) else some v7)
  partial_fixpoint
def impl_Steady.l1 (x12 : List Int) (v13 : Int) (v14 : Int) : Option (Int) := (if (decide (v14 < (x12.length : Int))) = true then (ix x12 v14 >>= fun x15 => impl_Steady.l1 x12 (if x15 < v13 then x15 else v13) (IntKind.i64.wrap (v14 + 1))) else some v13)
  partial_fixpoint
def impl_Steady (a1 : Pace) (a2 : List Rec) (a3 : Int) (a4 : Int) (a5 : Int) : Option (Int) := (if (decide (a5 < a4)) = true then (impl_Lately a2 a3 a1.DownSpan >>= fun x6 => (impl_Steady.l0 x6 a5 0 >>= fun t10 => some (if a4 < t10 then a4 else t10))) else (if (decide (a5 > a4)) = true then (impl_Lately a2 a3 a1.UpSpan >>= fun x12 => (impl_Steady.l1 x12 a5 0 >>= fun t16 => some (if a4 > t16 then a4 else t16))) else some a5))
def laws_eqRec (a1 : Rec) (a2 : Rec) : Option (Bool) := (if (a1.Time != a2.Time) = true then some false else (if (a1.N != a2.N) = true then some false else some true))
def laws_eqRecS.l0 (a1 : List Rec) (a2 : List Rec) (v3 : Int) : Option ((Bool) ⊕ (Unit)) := (if (decide (v3 < (a1.length : Int))) = true then (ix a1 v3 >>= fun x4 => (ix a2 v3 >>= fun x5 => (laws_eqRec x4 x5 >>= fun x6 => (if (!x6) = true then some (.inl false) else laws_eqRecS.l0 a1 a2 (IntKind.i64.wrap (v3 + 1)))))) else some (.inr ()))
  partial_fixpoint
def laws_eqRecS (a1 : List Rec) (a2 : List Rec) : Option (Bool) := (if ((a1.length : Int) != (a2.length : Int)) = true then some false else (laws_eqRecS.l0 a1 a2 0 >>= fun s8 => match s8 with | .inl r => some r | .inr t7 => some true))
def laws_FnExactSteady (a1 : Pace) (a2 : List Rec) (a3 : Int) (a4 : Int) (a5 : Int) : Option (Bool) := (laws_szRecS a2 1048576 >>= fun x6 => (if (decide (x6 < 0)) = true then some true else (laws_toPace a1 >>= fun x7 => (laws_toRecS a2 >>= fun x8 => (spec_Steady x7 x8 a3 a4 a5 >>= fun x9 => (laws_toRecS a2 >>= fun x10 => (laws_toPace a1 >>= fun x11 => (impl_Steady x11 x10 a3 a4 a5 >>= fun x12 => (if (x12 != x9) = true then some false else (laws_toRecS a2 >>= fun x13 => (laws_eqRecS x10 x13 >>= fun x14 => (if (!x14) = true then some false else some true))))))))))))
end Go.Pu
