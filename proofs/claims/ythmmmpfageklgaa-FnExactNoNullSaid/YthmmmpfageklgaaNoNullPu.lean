import Derived.Test.YthmmmpfageklgaaNoNullTy
set_option linter.unusedVariables false
set_option linter.unusedSimpArgs false
set_option synthInstance.maxSize 1000000000
set_option synthInstance.maxSize 1000000000
/-! the plain functions -/
namespace Go.Pu
open Go.Nt
noncomputable section
def laws_szStringS.l0 (a1 : List Str) (v3 : Int) (v4 : Int) : Option ((Int) ⊕ (Int)) := (if (decide (v4 < (a1.length : Int))) = true then (ix a1 v4 >>= fun x5 => (if (decide ((IntKind.i64.wrap (v3 - (x5.length : Int))) < 0)) = true then some (.inl (-1)) else laws_szStringS.l0 a1 (IntKind.i64.wrap (v3 - (x5.length : Int))) (IntKind.i64.wrap (v4 + 1)))) else some (.inr v3))
  partial_fixpoint
def laws_szStringS (a1 : List Str) (a2 : Int) : Option (Int) := (if (decide ((IntKind.i64.wrap (a2 - (a1.length : Int))) < 0)) = true then some (-1) else (laws_szStringS.l0 a1 (IntKind.i64.wrap (a2 - (a1.length : Int))) 0 >>= fun s7 => match s7 with | .inl r => some r | .inr t6 => some t6))
def laws_szNodeS.l0 (rc2 : Node → Int → Option (Int)) (a1 : List RNode) (v3 : Int) (v4 : Int) : Option ((Int) ⊕ (Int)) := (if (decide (v4 < (a1.length : Int))) = true then (ix a1 v4 >>= fun x5 => (dN_Node x5 >>= fun y6 => (rc2 y6 v3 >>= fun x7 => (if (decide (x7 < 0)) = true then some (.inl (-1)) else laws_szNodeS.l0 rc2 a1 x7 (IntKind.i64.wrap (v4 + 1)))))) else some (.inr v3))
  partial_fixpoint
def laws_szNodeS (rc2 : Node → Int → Option (Int)) (a1 : List RNode) (a2 : Int) : Option (Int) := (if (decide ((IntKind.i64.wrap (a2 - (a1.length : Int))) < 0)) = true then some (-1) else (laws_szNodeS.l0 rc2 a1 (IntKind.i64.wrap (a2 - (a1.length : Int))) 0 >>= fun s9 => match s9 with | .inl r => some r | .inr t8 => some t8))
def laws_szNode_F (rc2 : Node → Int → Option (Int)) (a1 : Node) (a2 : Int) : Option (Int) := (if (decide ((IntKind.i64.wrap (a2 - (a1.S.length : Int))) < 0)) = true then some (-1) else (laws_szStringS a1.Keys (IntKind.i64.wrap (a2 - (a1.S.length : Int))) >>= fun x3 => (if (decide (x3 < 0)) = true then some (-1) else (laws_szNodeS rc2 a1.Kids x3 >>= fun x4 => (if (decide (x4 < 0)) = true then some (-1) else some x4)))))
noncomputable def laws_szNode_n : Nat → Node → Int → Option (Int)
  | 0 => fun _ _ => none
  | k + 1 => laws_szNode_F (laws_szNode_n k)
noncomputable def laws_szNode (a1 : Node) (a2 : Int) : Option (Int) := Nt.lim fun k => laws_szNode_n k a1 a2
def laws_toStringS.l0 (a1 : List Str) (v3 : Int) (v4 : List Str) : Option (List Str) := (if (decide (v3 < (a1.length : Int))) = true then (ix a1 v3 >>= fun x5 => (ix v4 v3 >>= fun x6 => (Nt.put v4 v3 x5 >>= fun m7 => laws_toStringS.l0 a1 (IntKind.i64.wrap (v3 + 1)) m7))) else some v4)
  partial_fixpoint
def laws_toStringS (a1 : List Str) : Option (List Str) := (Nt.mk 16 (a1.length : Int) [] >>= fun m2 => (laws_toStringS.l0 a1 0 m2 >>= fun t8 => some t8))
def laws_toNodeS.l0 (rc5 : Node → Option (Node)) (a1 : List RNode) (v3 : Int) (v4 : List RNode) : Option (List RNode) := (if (decide (v3 < (a1.length : Int))) = true then (ix a1 v3 >>= fun x5 => (dN_Node x5 >>= fun y6 => (rc5 y6 >>= fun x7 => (ix v4 v3 >>= fun x8 => (dN_Node x8 >>= fun y9 => (Nt.put v4 v3 (rN_Node x7) >>= fun m10 => laws_toNodeS.l0 rc5 a1 (IntKind.i64.wrap (v3 + 1)) m10)))))) else some v4)
  partial_fixpoint
def laws_toNodeS (rc5 : Node → Option (Node)) (a1 : List RNode) : Option (List RNode) := (Nt.mk 80 (a1.length : Int) (rN_Node (Node.mk 0 0 [] [] [])) >>= fun m2 => (laws_toNodeS.l0 rc5 a1 0 m2 >>= fun t11 => some t11))
def laws_toNode_F (rc5 : Node → Option (Node)) (a1 : Node) : Option (Node) := (laws_toStringS a1.Keys >>= fun x2 => (laws_toNodeS rc5 a1.Kids >>= fun x3 => some (Node.mk a1.Kind a1.N a1.S x2 x3)))
noncomputable def laws_toNode_n : Nat → Node → Option (Node)
  | 0 => fun _ => none
  | k + 1 => laws_toNode_F (laws_toNode_n k)
noncomputable def laws_toNode (a1 : Node) : Option (Node) := Nt.lim fun k => laws_toNode_n k a1
def spec_l1Max (a1 : Int) (a2 : Int) : Option (Int) := (if (decide (a1 > a2)) = true then some a1 else some a2)
def spec_l3Deep.l0 (rc10 : Node → Option (Int)) (a1 : Node) (v2 : Int) (v3 : Int) : Option (Int) := (if (decide (v3 < (a1.Kids.length : Int))) = true then (ix a1.Kids v3 >>= fun x4 => (dN_Node x4 >>= fun y5 => (rc10 y5 >>= fun x6 => (spec_l1Max v2 x6 >>= fun x7 => spec_l3Deep.l0 rc10 a1 x7 (IntKind.i64.wrap (v3 + 1)))))) else some v2)
  partial_fixpoint
def spec_l3Deep_F (rc10 : Node → Option (Int)) (a1 : Node) : Option (Int) := (spec_l3Deep.l0 rc10 a1 0 0 >>= fun t8 => some (IntKind.i64.wrap (t8 + 1)))
noncomputable def spec_l3Deep_n : Nat → Node → Option (Int)
  | 0 => fun _ => none
  | k + 1 => spec_l3Deep_F (spec_l3Deep_n k)
noncomputable def spec_l3Deep (a1 : Node) : Option (Int) := Nt.lim fun k => spec_l3Deep_n k a1
def spec_l3Size.l0 (rc12 : Node → Option (Int)) (a1 : Node) (v2 : Int) (v3 : Int) : Option (Int) := (if (decide (v3 < (a1.Kids.length : Int))) = true then (ix a1.Kids v3 >>= fun x4 => (dN_Node x4 >>= fun y5 => (rc12 y5 >>= fun x6 => spec_l3Size.l0 rc12 a1 (IntKind.i64.wrap (v2 + x6)) (IntKind.i64.wrap (v3 + 1))))) else some v2)
  partial_fixpoint
def spec_l3Size_F (rc12 : Node → Option (Int)) (a1 : Node) : Option (Int) := (spec_l3Size.l0 rc12 a1 1 0 >>= fun t7 => some t7)
noncomputable def spec_l3Size_n : Nat → Node → Option (Int)
  | 0 => fun _ => none
  | k + 1 => spec_l3Size_F (spec_l3Size_n k)
noncomputable def spec_l3Size (a1 : Node) : Option (Int) := Nt.lim fun k => spec_l3Size_n k a1
def spec_l1In (a1 : Int) (a2 : Int) (a3 : Int) : Option (Bool) := (if (decide (a1 ≥ a2)) = true then some (decide (a1 ≤ a3)) else some false)
def spec_TextOk.l0 (a1 : Str) (v2 : Int) : Option ((Bool) ⊕ (Unit)) := (if (decide (v2 < (a1.length : Int))) = true then (ix a1 v2 >>= fun c3 => (if (decide ((byte c3) < 32)) = true then some (.inl false) else (ix a1 v2 >>= fun c4 => (if (decide ((byte c4) > 126)) = true then some (.inl false) else spec_TextOk.l0 a1 (IntKind.i64.wrap (v2 + 1)))))) else some (.inr ()))
  partial_fixpoint
def spec_TextOk (a1 : Str) : Option (Bool) := (spec_TextOk.l0 a1 0 >>= fun s6 => match s6 with | .inl r => some r | .inr t5 => some (decide ((a1.length : Int) ≤ 400)))
def spec_l3Leaf (a1 : Node) : Option (Bool) := (if (decide ((a1.Kids.length : Int) > 0)) = true then some false else (if (decide ((a1.Keys.length : Int) > 0)) = true then some false else (if (a1.Kind == 0) = true then (if (a1.N == 0) = true then some (a1.S == []) else some false) else (if (a1.Kind == 1) = true then (spec_l1In a1.N 0 1 >>= fun x2 => (if x2 = true then some (a1.S == []) else some false)) else (if (a1.Kind == 2) = true then (spec_l1In a1.N (-1000000000000) 1000000000000 >>= fun x3 => (if x3 = true then some (a1.S == []) else some false)) else (if (a1.Kind == 3) = true then (if (a1.N == 0) = true then (spec_TextOk a1.S >>= fun x4 => some x4) else some false) else some false))))))
def spec_l3Keys.l0 (a1 : List Str) (v2 : Int) : Option ((Bool) ⊕ (Unit)) := (if (decide (v2 < (a1.length : Int))) = true then (ix a1 v2 >>= fun x3 => (spec_TextOk x3 >>= fun x4 => (if (!x4) = true then some (.inl false) else (if (decide (v2 > 0)) = true then (ix a1 (IntKind.i64.wrap (v2 - 1)) >>= fun x5 => (ix a1 v2 >>= fun x6 => (if (!(slt x5 x6)) = true then some (.inl false) else spec_l3Keys.l0 a1 (IntKind.i64.wrap (v2 + 1))))) else spec_l3Keys.l0 a1 (IntKind.i64.wrap (v2 + 1)))))) else some (.inr ()))
  partial_fixpoint
def spec_l3Keys (a1 : List Str) : Option (Bool) := (spec_l3Keys.l0 a1 0 >>= fun s8 => match s8 with | .inl r => some r | .inr t7 => some true)
def spec_l3Right.l0 (rc13 : Node → Option (Bool)) (a1 : Node) (v4 : Int) : Option ((Bool) ⊕ (Unit)) := (if (decide (v4 < (a1.Kids.length : Int))) = true then (ix a1.Kids v4 >>= fun x5 => (dN_Node x5 >>= fun y6 => (rc13 y6 >>= fun x7 => (if (!x7) = true then some (.inl false) else spec_l3Right.l0 rc13 a1 (IntKind.i64.wrap (v4 + 1)))))) else some (.inr ()))
  partial_fixpoint
def spec_l3Right.l1 (rc13 : Node → Option (Bool)) (a1 : Node) (v10 : Int) : Option ((Bool) ⊕ (Unit)) := (if (decide (v10 < (a1.Kids.length : Int))) = true then (ix a1.Kids v10 >>= fun x11 => (dN_Node x11 >>= fun y12 => (rc13 y12 >>= fun x13 => (if (!x13) = true then some (.inl false) else spec_l3Right.l1 rc13 a1 (IntKind.i64.wrap (v10 + 1)))))) else some (.inr ()))
  partial_fixpoint
def spec_l3Right.l2 (rc13 : Node → Option (Bool)) (a1 : Node) (v17 : Int) : Option ((Bool) ⊕ (Unit)) := (if (decide (v17 < (a1.Kids.length : Int))) = true then (ix a1.Kids v17 >>= fun x18 => (dN_Node x18 >>= fun y19 => (rc13 y19 >>= fun x20 => (if (!x20) = true then some (.inl false) else spec_l3Right.l2 rc13 a1 (IntKind.i64.wrap (v17 + 1)))))) else some (.inr ()))
  partial_fixpoint
def spec_l3Right.l3 (rc13 : Node → Option (Bool)) (a1 : Node) (v23 : Int) : Option ((Bool) ⊕ (Unit)) := (if (decide (v23 < (a1.Kids.length : Int))) = true then (ix a1.Kids v23 >>= fun x24 => (dN_Node x24 >>= fun y25 => (rc13 y25 >>= fun x26 => (if (!x26) = true then some (.inl false) else spec_l3Right.l3 rc13 a1 (IntKind.i64.wrap (v23 + 1)))))) else some (.inr ()))
  partial_fixpoint
def spec_l3Right.l4 (rc13 : Node → Option (Bool)) (a1 : Node) (v30 : Int) : Option ((Bool) ⊕ (Unit)) := (if (decide (v30 < (a1.Kids.length : Int))) = true then (ix a1.Kids v30 >>= fun x31 => (dN_Node x31 >>= fun y32 => (rc13 y32 >>= fun x33 => (if (!x33) = true then some (.inl false) else spec_l3Right.l4 rc13 a1 (IntKind.i64.wrap (v30 + 1)))))) else some (.inr ()))
  partial_fixpoint
def spec_l3Right.l5 (rc13 : Node → Option (Bool)) (a1 : Node) (v36 : Int) : Option ((Bool) ⊕ (Unit)) := (if (decide (v36 < (a1.Kids.length : Int))) = true then (ix a1.Kids v36 >>= fun x37 => (dN_Node x37 >>= fun y38 => (rc13 y38 >>= fun x39 => (if (!x39) = true then some (.inl false) else spec_l3Right.l5 rc13 a1 (IntKind.i64.wrap (v36 + 1)))))) else some (.inr ()))
  partial_fixpoint
def spec_l3Right.l6 (rc13 : Node → Option (Bool)) (a1 : Node) (v43 : Int) : Option ((Bool) ⊕ (Unit)) := (if (decide (v43 < (a1.Kids.length : Int))) = true then (ix a1.Kids v43 >>= fun x44 => (dN_Node x44 >>= fun y45 => (rc13 y45 >>= fun x46 => (if (!x46) = true then some (.inl false) else spec_l3Right.l6 rc13 a1 (IntKind.i64.wrap (v43 + 1)))))) else some (.inr ()))
  partial_fixpoint
def spec_l3Right.l7 (rc13 : Node → Option (Bool)) (a1 : Node) (v49 : Int) : Option ((Bool) ⊕ (Unit)) := (if (decide (v49 < (a1.Kids.length : Int))) = true then (ix a1.Kids v49 >>= fun x50 => (dN_Node x50 >>= fun y51 => (rc13 y51 >>= fun x52 => (if (!x52) = true then some (.inl false) else spec_l3Right.l7 rc13 a1 (IntKind.i64.wrap (v49 + 1)))))) else some (.inr ()))
  partial_fixpoint
def spec_l3Right_F (rc13 : Node → Option (Bool)) (a1 : Node) : Option (Bool) := (if (a1.Kind != 4) = true then (if (a1.Kind != 5) = true then (spec_l3Leaf a1 >>= fun x2 => some x2) else (if (a1.N != 0) = true then some false else (if (!(a1.S == [])) = true then some false else (if (a1.Kind == 4) = true then (if (decide ((a1.Keys.length : Int) > 0)) = true then some false else (if (a1.Kind == 5) = true then (if ((a1.Keys.length : Int) != (a1.Kids.length : Int)) = true then some false else (spec_l3Keys a1.Keys >>= fun x3 => (if (!x3) = true then some false else (spec_l3Right.l0 rc13 a1 0 >>= fun s9 => match s9 with | .inl r => some r | .inr t8 => some true)))) else (spec_l3Right.l1 rc13 a1 0 >>= fun s15 => match s15 with | .inl r => some r | .inr t14 => some true))) else (if (a1.Kind == 5) = true then (if ((a1.Keys.length : Int) != (a1.Kids.length : Int)) = true then some false else (spec_l3Keys a1.Keys >>= fun x16 => (if (!x16) = true then some false else (spec_l3Right.l2 rc13 a1 0 >>= fun s22 => match s22 with | .inl r => some r | .inr t21 => some true)))) else (spec_l3Right.l3 rc13 a1 0 >>= fun s28 => match s28 with | .inl r => some r | .inr t27 => some true)))))) else (if (a1.N != 0) = true then some false else (if (!(a1.S == [])) = true then some false else (if (a1.Kind == 4) = true then (if (decide ((a1.Keys.length : Int) > 0)) = true then some false else (if (a1.Kind == 5) = true then (if ((a1.Keys.length : Int) != (a1.Kids.length : Int)) = true then some false else (spec_l3Keys a1.Keys >>= fun x29 => (if (!x29) = true then some false else (spec_l3Right.l4 rc13 a1 0 >>= fun s35 => match s35 with | .inl r => some r | .inr t34 => some true)))) else (spec_l3Right.l5 rc13 a1 0 >>= fun s41 => match s41 with | .inl r => some r | .inr t40 => some true))) else (if (a1.Kind == 5) = true then (if ((a1.Keys.length : Int) != (a1.Kids.length : Int)) = true then some false else (spec_l3Keys a1.Keys >>= fun x42 => (if (!x42) = true then some false else (spec_l3Right.l6 rc13 a1 0 >>= fun s48 => match s48 with | .inl r => some r | .inr t47 => some true)))) else (spec_l3Right.l7 rc13 a1 0 >>= fun s54 => match s54 with | .inl r => some r | .inr t53 => some true))))))
noncomputable def spec_l3Right_n : Nat → Node → Option (Bool)
  | 0 => fun _ => none
  | k + 1 => spec_l3Right_F (spec_l3Right_n k)
noncomputable def spec_l3Right (a1 : Node) : Option (Bool) := Nt.lim fun k => spec_l3Right_n k a1
def spec_TreeOk (a1 : Node) : Option (Bool) := (spec_l3Deep a1 >>= fun x2 => (if (decide (x2 ≤ 8)) = true then (spec_l3Size a1 >>= fun x3 => (if (decide (x3 ≤ 200)) = true then (spec_l3Right a1 >>= fun x4 => some x4) else some false)) else some false))
def spec_l10NoNull.l0 (rc18 : Node → Option (Bool)) (a1 : Node) (v2 : Int) : Option ((Bool) ⊕ (Unit)) := (if (decide (v2 < (a1.Kids.length : Int))) = true then (if (a1.Kind == 5) = true then (ix a1.Kids v2 >>= fun x3 => (dN_Node x3 >>= fun y4 => (if (y4.Kind == 0) = true then some (.inl false) else (ix a1.Kids v2 >>= fun x5 => (dN_Node x5 >>= fun y6 => (rc18 y6 >>= fun x7 => (if (!x7) = true then some (.inl false) else spec_l10NoNull.l0 rc18 a1 (IntKind.i64.wrap (v2 + 1))))))))) else (ix a1.Kids v2 >>= fun x8 => (dN_Node x8 >>= fun y9 => (rc18 y9 >>= fun x10 => (if (!x10) = true then some (.inl false) else spec_l10NoNull.l0 rc18 a1 (IntKind.i64.wrap (v2 + 1))))))) else some (.inr ()))
  partial_fixpoint
def spec_l10NoNull_F (rc18 : Node → Option (Bool)) (a1 : Node) : Option (Bool) := (spec_l10NoNull.l0 rc18 a1 0 >>= fun s12 => match s12 with | .inl r => some r | .inr t11 => some true)
noncomputable def spec_l10NoNull_n : Nat → Node → Option (Bool)
  | 0 => fun _ => none
  | k + 1 => spec_l10NoNull_F (spec_l10NoNull_n k)
noncomputable def spec_l10NoNull (a1 : Node) : Option (Bool) := Nt.lim fun k => spec_l10NoNull_n k a1
def spec_NoNull (a1 : Node) : Option (Bool) := (spec_TreeOk a1 >>= fun x2 => (if x2 = true then (spec_l10NoNull a1 >>= fun x3 => some x3) else some false))
def impl_size.l0 (rc21 : Node → Int → Option (Int × Int)) (a1 : Node) (a2 : Int) (v3 : Int) (v4 : Int) (v5 : Int) : Option (Int × Int) := (if (decide (v5 < (a1.Kids.length : Int))) = true then (ix a1.Kids v5 >>= fun x6 => (dN_Node x6 >>= fun y7 => (rc21 y7 (IntKind.i64.wrap (a2 - 1)) >>= fun x8 => impl_size.l0 rc21 a1 a2 (if 201 < (IntKind.i64.wrap (v3 + x8.1)) then 201 else (IntKind.i64.wrap (v3 + x8.1))) (if x8.2 > v4 then x8.2 else v4) (IntKind.i64.wrap (v5 + 1))))) else some (v3, v4))
  partial_fixpoint
def impl_size_F (rc21 : Node → Int → Option (Int × Int)) (a1 : Node) (a2 : Int) : Option (Int × Int) := (if (a2 == 0) = true then some (201, 9) else (impl_size.l0 rc21 a1 a2 1 0 0 >>= fun t9 => some (t9.1, IntKind.i64.wrap (t9.2 + 1))))
noncomputable def impl_size_n : Nat → Node → Int → Option (Int × Int)
  | 0 => fun _ _ => none
  | k + 1 => impl_size_F (impl_size_n k)
noncomputable def impl_size (a1 : Node) (a2 : Int) : Option (Int × Int) := Nt.lim fun k => impl_size_n k a1 a2
def impl_from (a1 : Int) (a2 : Int) (a3 : Int) : Option (Bool) := (if (decide (a1 ≥ a2)) = true then some (decide (a1 ≤ a3)) else some false)
def impl_TextOk.l0 (a1 : Str) (v2 : Int) : Option ((Bool) ⊕ (Unit)) := (if (decide (v2 < (a1.length : Int))) = true then (ix a1 v2 >>= fun c3 => (impl_from (IntKind.i64.wrap (byte c3)) 32 126 >>= fun x4 => (if (!x4) = true then some (.inl false) else impl_TextOk.l0 a1 (IntKind.i64.wrap (v2 + 1))))) else some (.inr ()))
  partial_fixpoint
def impl_TextOk (a1 : Str) : Option (Bool) := (impl_TextOk.l0 a1 0 >>= fun s6 => match s6 with | .inl r => some r | .inr t5 => some (decide ((a1.length : Int) ≤ 400)))
def impl_shapeOk.l0   : Option (Unit) := some ()
def impl_shapeOk.l1   : Option (Unit) := some ()
def impl_shapeOk.l2   : Option (Unit) := some ()
def impl_shapeOk.l3   : Option (Unit) := some ()
def impl_shapeOk.l4   : Option (Unit) := some ()
def impl_shapeOk.l5 (a1 : Node) (v15 : Int) : Option ((Bool) ⊕ (Unit)) := (if (decide (v15 < (a1.Keys.length : Int))) = true then (ix a1.Keys v15 >>= fun x16 => (impl_TextOk x16 >>= fun x17 => (if (!x17) = true then some (.inl false) else (if (decide (v15 > 0)) = true then (ix a1.Keys (IntKind.i64.wrap (v15 - 1)) >>= fun x18 => (if (!(slt x18 x16)) = true then some (.inl false) else impl_shapeOk.l5 a1 (IntKind.i64.wrap (v15 + 1)))) else impl_shapeOk.l5 a1 (IntKind.i64.wrap (v15 + 1)))))) else some (.inr ()))
  partial_fixpoint
def impl_shapeOk (a1 : Node) : Option (Bool) := (if (a1.Kind == 0) = true then (impl_shapeOk.l0 >>= fun t2 => (if (a1.N == 0) = true then (if (a1.S == []) = true then (if ((a1.Keys.length : Int) == 0) = true then some ((a1.Kids.length : Int) == 0) else some false) else some false) else some false)) else (if (a1.Kind == 1) = true then (impl_from a1.N 0 1 >>= fun x4 => (if (!x4) = true then some false else (impl_shapeOk.l1 >>= fun t5 => (if (a1.N == a1.N) = true then (if (a1.S == []) = true then (if ((a1.Keys.length : Int) == 0) = true then some ((a1.Kids.length : Int) == 0) else some false) else some false) else some false)))) else (if (a1.Kind == 2) = true then (impl_from a1.N (-1000000000000) 1000000000000 >>= fun x7 => (if (!x7) = true then some false else (impl_shapeOk.l2 >>= fun t8 => (if (a1.N == a1.N) = true then (if (a1.S == []) = true then (if ((a1.Keys.length : Int) == 0) = true then some ((a1.Kids.length : Int) == 0) else some false) else some false) else some false)))) else (if (a1.Kind == 3) = true then (impl_TextOk a1.S >>= fun x10 => (if (!x10) = true then some false else (impl_shapeOk.l3 >>= fun t11 => (if (a1.N == 0) = true then (if (a1.S == a1.S) = true then (if ((a1.Keys.length : Int) == 0) = true then some ((a1.Kids.length : Int) == 0) else some false) else some false) else some false)))) else (if (a1.Kind == 4) = true then (impl_shapeOk.l4 >>= fun t13 => (if (a1.N == 0) = true then (if (a1.S == []) = true then (if ((a1.Keys.length : Int) == 0) = true then some ((a1.Kids.length : Int) == (a1.Kids.length : Int)) else some false) else some false) else some false)) else (if (a1.Kind == 5) = true then (if ((a1.Keys.length : Int) != (a1.Kids.length : Int)) = true then some false else (impl_shapeOk.l5 a1 0 >>= fun s20 => match s20 with | .inl r => some r | .inr t19 => (if (a1.N == 0) = true then (if (a1.S == []) = true then (if ((a1.Keys.length : Int) == (a1.Keys.length : Int)) = true then some ((a1.Kids.length : Int) == (a1.Kids.length : Int)) else some false) else some false) else some false))) else some false))))))
def impl_allShapes_1 (rc22 : Node → Option (Bool)) (a1 : Node) : Option (Bool) := (rc22 a1 >>= fun x2 => some (!x2))
def slices_IndexFunc_Simpl_Node_impl_Node_impl_allShapes_1.l0 (rc22 : Node → Option (Bool)) (a1 : List RNode) (v2 : Int) : Option ((Int) ⊕ (Unit)) := (if (decide (v2 < (a1.length : Int))) = true then (ix a1 v2 >>= fun x3 => (dN_Node x3 >>= fun y4 => (impl_allShapes_1 rc22 y4 >>= fun x5 => (if x5 = true then some (.inl v2) else slices_IndexFunc_Simpl_Node_impl_Node_impl_allShapes_1.l0 rc22 a1 (IntKind.i64.wrap (v2 + 1)))))) else some (.inr ()))
  partial_fixpoint
def slices_IndexFunc_Simpl_Node_impl_Node_impl_allShapes_1 (rc22 : Node → Option (Bool)) (a1 : List RNode) : Option (Int) := (slices_IndexFunc_Simpl_Node_impl_Node_impl_allShapes_1.l0 rc22 a1 0 >>= fun s7 => match s7 with | .inl r => some r | .inr t6 => some (-1))
def slices_ContainsFunc_Simpl_Node_impl_Node_impl_allShapes_1 (rc22 : Node → Option (Bool)) (a1 : List RNode) : Option (Bool) := (slices_IndexFunc_Simpl_Node_impl_Node_impl_allShapes_1 rc22 a1 >>= fun x2 => some (decide (x2 ≥ 0)))
def impl_allShapes_F (rc22 : Node → Option (Bool)) (a1 : Node) : Option (Bool) := (impl_shapeOk a1 >>= fun x2 => (if x2 = true then (slices_ContainsFunc_Simpl_Node_impl_Node_impl_allShapes_1 rc22 a1.Kids >>= fun x3 => some (!x3)) else some false))
noncomputable def impl_allShapes_n : Nat → Node → Option (Bool)
  | 0 => fun _ => none
  | k + 1 => impl_allShapes_F (impl_allShapes_n k)
noncomputable def impl_allShapes (a1 : Node) : Option (Bool) := Nt.lim fun k => impl_allShapes_n k a1
def impl_TreeOk (a1 : Node) : Option (Bool) := (impl_size a1 9 >>= fun x2 => (if (decide (x2.1 ≤ 200)) = true then (if (decide (x2.2 ≤ 8)) = true then (impl_allShapes a1 >>= fun x3 => some x3) else some false) else some false))
def impl_noNull_1 (rc29 : Node → Option (Bool)) (a1 : Node) (a2 : Node) : Option (Bool × Node) := (if (a2.Kind == 5) = true then (if (a1.Kind == 0) = true then some (true, a2) else (rc29 a1 >>= fun x3 => some (!x3, a2))) else (rc29 a1 >>= fun x4 => some (!x4, a2)))
def slices_IndexFunc_Simpl_Node_impl_Node_impl_noNull_1.l0 (rc29 : Node → Option (Bool)) (a1 : List RNode) (v3 : Int) (v4 : Int) (v5 : Int) (v6 : Str) (v7 : List Str) (v8 : List RNode) : Option ((Int × Node) ⊕ (Int × Int × Str × List Str × List RNode)) := (if (decide (v3 < (a1.length : Int))) = true then (ix a1 v3 >>= fun x9 => (dN_Node x9 >>= fun y10 => (impl_noNull_1 rc29 y10 (Node.mk v4 v5 v6 v7 v8) >>= fun x11 => (if x11.1 = true then some (.inl (v3, (Node.mk x11.2.Kind x11.2.N x11.2.S x11.2.Keys x11.2.Kids))) else slices_IndexFunc_Simpl_Node_impl_Node_impl_noNull_1.l0 rc29 a1 (IntKind.i64.wrap (v3 + 1)) x11.2.Kind x11.2.N x11.2.S x11.2.Keys x11.2.Kids)))) else some (.inr (v4, v5, v6, v7, v8)))
  partial_fixpoint
def slices_IndexFunc_Simpl_Node_impl_Node_impl_noNull_1 (rc29 : Node → Option (Bool)) (a1 : List RNode) (a2 : Node) : Option (Int × Node) := (slices_IndexFunc_Simpl_Node_impl_Node_impl_noNull_1.l0 rc29 a1 0 a2.Kind a2.N a2.S a2.Keys a2.Kids >>= fun s13 => match s13 with | .inl r => some r | .inr t12 => some ((-1), (Node.mk t12.1 t12.2.1 t12.2.2.1 t12.2.2.2.1 t12.2.2.2.2)))
def slices_ContainsFunc_Simpl_Node_impl_Node_impl_noNull_1 (rc29 : Node → Option (Bool)) (a1 : List RNode) (a2 : Node) : Option (Bool × Node) := (slices_IndexFunc_Simpl_Node_impl_Node_impl_noNull_1 rc29 a1 a2 >>= fun x3 => some (decide (x3.1 ≥ 0), (Node.mk x3.2.Kind x3.2.N x3.2.S x3.2.Keys x3.2.Kids)))
def impl_noNull_F (rc29 : Node → Option (Bool)) (a1 : Node) : Option (Bool) := (slices_ContainsFunc_Simpl_Node_impl_Node_impl_noNull_1 rc29 a1.Kids a1 >>= fun x2 => some (!x2.1))
noncomputable def impl_noNull_n : Nat → Node → Option (Bool)
  | 0 => fun _ => none
  | k + 1 => impl_noNull_F (impl_noNull_n k)
noncomputable def impl_noNull (a1 : Node) : Option (Bool) := Nt.lim fun k => impl_noNull_n k a1
def impl_NoNull (a1 : Node) : Option (Bool) := (impl_TreeOk a1 >>= fun x2 => (if x2 = true then (impl_noNull a1 >>= fun x3 => some x3) else some false))
def laws_eqStringS.l0 (a1 : List Str) (a2 : List Str) (v3 : Int) : Option ((Bool) ⊕ (Unit)) := (if (decide (v3 < (a1.length : Int))) = true then (ix a1 v3 >>= fun x4 => (ix a2 v3 >>= fun x5 => (if (!(x4 == x5)) = true then some (.inl false) else laws_eqStringS.l0 a1 a2 (IntKind.i64.wrap (v3 + 1))))) else some (.inr ()))
  partial_fixpoint
def laws_eqStringS (a1 : List Str) (a2 : List Str) : Option (Bool) := (if ((a1.length : Int) != (a2.length : Int)) = true then some false else (laws_eqStringS.l0 a1 a2 0 >>= fun s7 => match s7 with | .inl r => some r | .inr t6 => some true))
def laws_eqNodeS.l0 (rc33 : Node → Node → Option (Bool)) (a1 : List RNode) (a2 : List RNode) (v3 : Int) : Option ((Bool) ⊕ (Unit)) := (if (decide (v3 < (a1.length : Int))) = true then (ix a1 v3 >>= fun x4 => (dN_Node x4 >>= fun y5 => (ix a2 v3 >>= fun x6 => (dN_Node x6 >>= fun y7 => (rc33 y5 y7 >>= fun x8 => (if (!x8) = true then some (.inl false) else laws_eqNodeS.l0 rc33 a1 a2 (IntKind.i64.wrap (v3 + 1)))))))) else some (.inr ()))
  partial_fixpoint
def laws_eqNodeS (rc33 : Node → Node → Option (Bool)) (a1 : List RNode) (a2 : List RNode) : Option (Bool) := (if ((a1.length : Int) != (a2.length : Int)) = true then some false else (laws_eqNodeS.l0 rc33 a1 a2 0 >>= fun s10 => match s10 with | .inl r => some r | .inr t9 => some true))
def laws_eqNode_F (rc33 : Node → Node → Option (Bool)) (a1 : Node) (a2 : Node) : Option (Bool) := (if (a1.Kind != a2.Kind) = true then some false else (if (a1.N != a2.N) = true then some false else (if (!(a1.S == a2.S)) = true then some false else (laws_eqStringS a1.Keys a2.Keys >>= fun x3 => (if (!x3) = true then some false else (laws_eqNodeS rc33 a1.Kids a2.Kids >>= fun x4 => (if (!x4) = true then some false else some true)))))))
noncomputable def laws_eqNode_n : Nat → Node → Node → Option (Bool)
  | 0 => fun _ _ => none
  | k + 1 => laws_eqNode_F (laws_eqNode_n k)
noncomputable def laws_eqNode (a1 : Node) (a2 : Node) : Option (Bool) := Nt.lim fun k => laws_eqNode_n k a1 a2
def laws_FnExactNoNull (a1 : Node) : Option (Bool) := (laws_szNode a1 1048576 >>= fun x2 => (if (decide (x2 < 0)) = true then some true else (laws_toNode a1 >>= fun x3 => (spec_NoNull x3 >>= fun x4 => (laws_toNode a1 >>= fun x5 => (impl_NoNull x5 >>= fun x6 => (if (x6 != x4) = true then some false else (laws_toNode a1 >>= fun x7 => (laws_eqNode x5 x7 >>= fun x8 => (if (!x8) = true then some false else some true))))))))))

end
end Go.Pu
