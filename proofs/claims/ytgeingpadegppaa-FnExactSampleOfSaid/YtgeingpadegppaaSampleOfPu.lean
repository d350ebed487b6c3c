import Derived.Test.YtgeingpadegppaaSampleOfTy
set_option linter.unusedVariables false
set_option linter.unusedSimpArgs false
/-! the plain functions -/
namespace Go.Pu
open Go.Nt
def laws_szSample (a1 : Sample) (a2 : Int) : Option (Int) := (if (decide ((IntKind.i64.wrap (a2 - (a1.Name.length : Int))) < 0)) = true then some (-1) else some (IntKind.i64.wrap (a2 - (a1.Name.length : Int))))
def laws_szSampleS.l0 (a1 : List Sample) (v3 : Int) (v4 : Int) : Option ((Int) ⊕ (Int)) := (if (decide (v4 < (a1.length : Int))) = true then (ix a1 v4 >>= fun x5 => (laws_szSample x5 v3 >>= fun x6 => (if (decide (x6 < 0)) = true then some (.inl (-1)) else laws_szSampleS.l0 a1 x6 (IntKind.i64.wrap (v4 + 1))))) else some (.inr v3))
  partial_fixpoint
def laws_szSampleS (a1 : List Sample) (a2 : Int) : Option (Int) := (if (decide ((IntKind.i64.wrap (a2 - (a1.length : Int))) < 0)) = true then some (-1) else (laws_szSampleS.l0 a1 (IntKind.i64.wrap (a2 - (a1.length : Int))) 0 >>= fun s8 => match s8 with | .inl r => some r | .inr t7 => some t7))
def laws_toSample (a1 : Sample) : Option (Sample) := some a1
def laws_toSampleS.l0 (a1 : List Sample) (v3 : Int) (v4 : List Sample) : Option (List Sample) := (if (decide (v3 < (a1.length : Int))) = true then (ix a1 v3 >>= fun x5 => (laws_toSample x5 >>= fun x6 => (ix v4 v3 >>= fun x7 => (Nt.put v4 v3 x6 >>= fun m8 => laws_toSampleS.l0 a1 (IntKind.i64.wrap (v3 + 1)) m8)))) else some v4)
  partial_fixpoint
def laws_toSampleS (a1 : List Sample) : Option (List Sample) := (Nt.mk 24 (a1.length : Int) (Sample.mk [] 0) >>= fun m2 => (laws_toSampleS.l0 a1 0 m2 >>= fun t9 => some t9))
def spec_SampleOf.l0 (a1 : List Sample) (a2 : Str) (v3 : Int) : Option ((Int × Bool) ⊕ (Unit)) := (if (decide (v3 < (a1.length : Int))) = true then (ix a1 v3 >>= fun x4 => (if (x4.Name == a2) = true then (ix a1 v3 >>= fun x5 => some (.inl (x5.Value, true))) else spec_SampleOf.l0 a1 a2 (IntKind.i64.wrap (v3 + 1)))) else some (.inr ()))
  partial_fixpoint
def spec_SampleOf (a1 : List Sample) (a2 : Str) : Option (Int × Bool) := (spec_SampleOf.l0 a1 a2 0 >>= fun s7 => match s7 with | .inl r => some r | .inr t6 => some (0, false))
def impl_SampleOf.l0 (a1 : List Sample) (a2 : Str) (v3 : Int) : Option ((Int × Bool) ⊕ (Unit)) := (if (decide (v3 < (a1.length : Int))) = true then (ix a1 v3 >>= fun x4 => (if (x4.Name == a2) = true then some (.inl (x4.Value, true)) else impl_SampleOf.l0 a1 a2 (IntKind.i64.wrap (v3 + 1)))) else some (.inr ()))
  partial_fixpoint
def impl_SampleOf (a1 : List Sample) (a2 : Str) : Option (Int × Bool) := (impl_SampleOf.l0 a1 a2 0 >>= fun s6 => match s6 with | .inl r => some r | .inr t5 => some (0, false))
def laws_eqSample (a1 : Sample) (a2 : Sample) : Option (Bool) := (if (!(a1.Name == a2.Name)) = true then some false else (if (a1.Value != a2.Value) = true then some false else some true))
def laws_eqSampleS.l0 (a1 : List Sample) (a2 : List Sample) (v3 : Int) : Option ((Bool) ⊕ (Unit)) := (if (decide (v3 < (a1.length : Int))) = true then (ix a1 v3 >>= fun x4 => (ix a2 v3 >>= fun x5 => (laws_eqSample x4 x5 >>= fun x6 => (if (!x6) = true then some (.inl false) else laws_eqSampleS.l0 a1 a2 (IntKind.i64.wrap (v3 + 1)))))) else some (.inr ()))
  partial_fixpoint
def laws_eqSampleS (a1 : List Sample) (a2 : List Sample) : Option (Bool) := (if ((a1.length : Int) != (a2.length : Int)) = true then some false else (laws_eqSampleS.l0 a1 a2 0 >>= fun s8 => match s8 with | .inl r => some r | .inr t7 => some true))
def laws_FnExactSampleOf (a1 : List Sample) (a2 : Str) : Option (Bool) := (if (decide ((a2.length : Int) > 1048576)) = true then some true else (laws_szSampleS a1 1048576 >>= fun x3 => (if (decide (x3 < 0)) = true then some true else (laws_toSampleS a1 >>= fun x4 => (spec_SampleOf x4 a2 >>= fun x5 => (laws_toSampleS a1 >>= fun x6 => (impl_SampleOf x6 a2 >>= fun x7 => (if (x7.1 != x5.1) = true then some false else (if (x7.2 != x5.2) = true then some false else (laws_toSampleS a1 >>= fun x8 => (laws_eqSampleS x6 x8 >>= fun x9 => (if (!x9) = true then some false else some true))))))))))))
end Go.Pu
