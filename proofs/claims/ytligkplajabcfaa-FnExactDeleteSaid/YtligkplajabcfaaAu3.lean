import Derived.Test.YtligkplajabcfaaAu2
set_option linter.unusedVariables false
set_option linter.unusedSimpArgs false
set_option linter.unusedSectionVars false
set_option linter.unusedVariables false
namespace Go.SX
open Go.Nt
variable {P : Program} {K : Cfg} {F : Fun} {n : Nat} {ops : Array Oper} {σ : St} {l : List Oper} {Q : St → Prop} {g : List Entry}
theorem isW {c : Code} {Q : Ex → St → Prop} (h : W P K F n c σ Q) : W P K F n c σ Q := h
theorem isWO (h : WO P K F n ops l σ Q) : WO P K F n ops l σ Q := h
theorem isWL (h : WL P K F n ops l σ g Q) : WL P K F n ops l σ g Q := h
theorem gw_b {o : Oper} {j : Nat} {w b c : Bool} {e : Tmp} (hg : o.guard = some (j, w)) (hd : (ops[j]?).bind (·.dst) = some e) (hs : gt σ.ts e = .c (.s (.bool b))) (hb : b = c) : wantedT ops σ o = some (c == w) := by
  subst hb
  unfold wantedT
  rw [hg]
  simp only [hd, hs]
theorem gw_0 {o : Oper} {j : Nat} {w : Bool} {e : Tmp} (hg : o.guard = some (j, w)) (hd : (ops[j]?).bind (·.dst) = some e) (hs : gt σ.ts e = .tu []) : wantedT ops σ o = some false := by
  unfold wantedT
  rw [hg]
  simp only [hd, hs]
theorem W_ct {x : Operand} {a b : Code} {Q : Ex → St → Prop} {t : Bool} (hx : ev σ x = .c (.s (.bool t))) (ht : t = true) (h : W P K F n a σ Q) : W P K F n (.cond x a b) σ Q := W_cond hx (fun _ => h) (fun e => by rw [ht] at e; cases e)
theorem W_cf {x : Operand} {a b : Code} {Q : Ex → St → Prop} {t : Bool} (hx : ev σ x = .c (.s (.bool t))) (ht : t = false) (h : W P K F n b σ Q) : W P K F n (.cond x a b) σ Q := W_cond hx (fun e => by rw [ht] at e; cases e) (fun _ => h)
theorem ev_pt {ρ : Operand → T} {o : Oper} {c x y : Operand} {b : Bool} (ho : o.op = .pick c x y) (hc : ρ c = .c (.s (.bool b))) (hb : b = true) : evOp P K F ρ σ o = some (ρ x, σ) := by
  obtain ⟨dst, op, type, pos, after, guard⟩ := o
  simp only at ho
  subst ho hb
  simp only [evOp, hc, if_true]
theorem ev_pf {ρ : Operand → T} {o : Oper} {c x y : Operand} {b : Bool} (ho : o.op = .pick c x y) (hc : ρ c = .c (.s (.bool b))) (hb : b = false) : evOp P K F ρ σ o = some (ρ y, σ) := by
  obtain ⟨dst, op, type, pos, after, guard⟩ := o
  simp only at ho
  subst ho hb
  simp only [evOp, hc, Bool.false_eq_true, if_false]
theorem WO_c {l0 : List Oper} {o : Oper} (h0 : l0 = o :: l) (h : WO P K F n ops (o :: l) σ Q) : WO P K F n ops l0 σ Q := h0 ▸ h
theorem WL_c {l0 : List Oper} {o : Oper} (h0 : l0 = o :: l) (h : WL P K F n ops (o :: l) σ g Q) : WL P K F n ops l0 σ g Q := h0 ▸ h
section
variable {d : Option Tmp} {op : Op} {ty : TypeId} {pos : String} {af : Array Edge} {gd : Nat × Bool} {x : T} {σ' τ : St} {en : Entry}
theorem WO_s (hd : dstQ n d = true) (h1 : evOp P K F (ev σ) (hp σ) ⟨d, op, ty, pos, af, none⟩ = some (x, σ')) (h2 : putT σ.ts σ' d x = τ) (h : WO P K F n ops l τ Q) : WO P K F n ops (⟨d, op, ty, pos, af, none⟩ :: l) σ Q := WO_op hd rfl h1 (by rw [h2]; exact h)
theorem WL_s (hd : dstQ n d = true) (h1 : evOp P K F (ev σ) (hp σ) ⟨d, op, ty, pos, af, none⟩ = some (x, σ')) (h2 : putT σ.ts σ' d x = τ) (h : WL P K F n ops l τ (g ++ [entry σ ⟨d, op, ty, pos, af, none⟩]) Q) : WL P K F n ops (⟨d, op, ty, pos, af, none⟩ :: l) σ g Q := WL_op hd rfl rfl h1 (by rw [h2]; exact h)
theorem WO_k (hd : dstQ n d = true) (hw : wantedT ops σ ⟨d, op, ty, pos, af, some gd⟩ = some false) (h2 : putT σ.ts σ d noneT = τ) (h : WO P K F n ops l τ Q) : WO P K F n ops (⟨d, op, ty, pos, af, some gd⟩ :: l) σ Q := WO_skip hd hw (by rw [h2]; exact h)
theorem WL_k (hd : dstQ n d = true) (hw : wantedT ops σ ⟨d, op, ty, pos, af, some gd⟩ = some false) (h2 : putT σ.ts σ d noneT = τ) (h : WL P K F n ops l τ (g ++ [none]) Q) : WL P K F n ops (⟨d, op, ty, pos, af, some gd⟩ :: l) σ g Q := WL_skip hd hw (by rw [h2]; exact h)
theorem WO_w (hw : wantedT ops σ ⟨d, op, ty, pos, af, some gd⟩ = some true) (h : WO P K F n ops (⟨d, op, ty, pos, af, none⟩ :: l) σ Q) : WO P K F n ops (⟨d, op, ty, pos, af, some gd⟩ :: l) σ Q := by
  obtain ⟨σ', h, q⟩ := h
  refine ⟨σ', ?_, q⟩
  simp only [evOps, hw, Option.bind_some] at h ⊢
  exact h
theorem WL_w (hw : wantedT ops σ ⟨d, op, ty, pos, af, some gd⟩ = some true) (h : WL P K F n ops (⟨d, op, ty, pos, af, none⟩ :: l) σ g Q) : WL P K F n ops (⟨d, op, ty, pos, af, some gd⟩ :: l) σ g Q := by
  obtain ⟨g', σ', h, q⟩ := h
  refine ⟨g', σ', ?_, q⟩
  simp only [evLog, hw, Option.bind_some] at h ⊢
  exact h
theorem WO_i {β : Type} {A B : Option β} {r : β} {t : Bool} {j : Nat} {w : Bool} {e : Tmp} {τ1 τ2 : St} (hd : (ops[j]?).bind (·.dst) = some e) (hs : gt σ.ts e = .c (.s (.bool t))) (H : (if t = true then A else B) = some r) (e1 : (⟨st σ.ts e (.c (.s (.bool true))), σ.bx, σ.rw⟩ : St) = τ1) (e2 : (⟨st σ.ts e (.c (.s (.bool false))), σ.bx, σ.rw⟩ : St) = τ2) (h1 : t = true → A = some r → WO P K F n ops (⟨d, op, ty, pos, af, some (j, w)⟩ :: l) τ1 Q) (h2 : t = false → B = some r → WO P K F n ops (⟨d, op, ty, pos, af, some (j, w)⟩ :: l) τ2 Q) : WO P K F n ops (⟨d, op, ty, pos, af, some (j, w)⟩ :: l) σ Q :=
  WO_ite rfl hd hs H (fun h h' => by rw [e1]; exact h1 h h') (fun h h' => by rw [e2]; exact h2 h h')
theorem WL_i {β : Type} {A B : Option β} {r : β} {t : Bool} {j : Nat} {w : Bool} {e : Tmp} {τ1 τ2 : St} (hd : (ops[j]?).bind (·.dst) = some e) (hs : gt σ.ts e = .c (.s (.bool t))) (H : (if t = true then A else B) = some r) (e1 : (⟨st σ.ts e (.c (.s (.bool true))), σ.bx, σ.rw⟩ : St) = τ1) (e2 : (⟨st σ.ts e (.c (.s (.bool false))), σ.bx, σ.rw⟩ : St) = τ2) (h1 : t = true → A = some r → WL P K F n ops (⟨d, op, ty, pos, af, some (j, w)⟩ :: l) τ1 g Q) (h2 : t = false → B = some r → WL P K F n ops (⟨d, op, ty, pos, af, some (j, w)⟩ :: l) τ2 g Q) : WL P K F n ops (⟨d, op, ty, pos, af, some (j, w)⟩ :: l) σ g Q :=
  WL_ite rfl hd hs H (fun h h' => by rw [e1]; exact h1 h h') (fun h h' => by rw [e2]; exact h2 h h')
theorem WO_p {β : Type} {A B : Option β} {r : β} {t : Bool} {e : Tmp} {y z : Operand} {τ1 τ2 : St} (hs : gt σ.ts e = .c (.s (.bool t))) (H : (if t = true then A else B) = some r) (e1 : (⟨st σ.ts e (.c (.s (.bool true))), σ.bx, σ.rw⟩ : St) = τ1) (e2 : (⟨st σ.ts e (.c (.s (.bool false))), σ.bx, σ.rw⟩ : St) = τ2) (h1 : t = true → A = some r → WO P K F n ops (⟨d, .pick (.tmp e) y z, ty, pos, af, none⟩ :: l) τ1 Q) (h2 : t = false → B = some r → WO P K F n ops (⟨d, .pick (.tmp e) y z, ty, pos, af, none⟩ :: l) τ2 Q) : WO P K F n ops (⟨d, .pick (.tmp e) y z, ty, pos, af, none⟩ :: l) σ Q :=
  WO_sl e hs (fun h => by rw [e1]; exact h1 h (tr h H)) (fun h => by rw [e2]; exact h2 h (fl h H))
theorem WL_p {β : Type} {A B : Option β} {r : β} {t : Bool} {e : Tmp} {y z : Operand} {τ1 τ2 : St} (hs : gt σ.ts e = .c (.s (.bool t))) (H : (if t = true then A else B) = some r) (e1 : (⟨st σ.ts e (.c (.s (.bool true))), σ.bx, σ.rw⟩ : St) = τ1) (e2 : (⟨st σ.ts e (.c (.s (.bool false))), σ.bx, σ.rw⟩ : St) = τ2) (h1 : t = true → A = some r → WL P K F n ops (⟨d, .pick (.tmp e) y z, ty, pos, af, none⟩ :: l) τ1 g Q) (h2 : t = false → B = some r → WL P K F n ops (⟨d, .pick (.tmp e) y z, ty, pos, af, none⟩ :: l) τ2 g Q) : WL P K F n ops (⟨d, .pick (.tmp e) y z, ty, pos, af, none⟩ :: l) σ g Q :=
  WL_sl e hs (fun h => by rw [e1]; exact h1 h (tr h H)) (fun h => by rw [e2]; exact h2 h (fl h H))
theorem gO (h : WO P K F n ops (⟨d, op, ty, pos, af, some gd⟩ :: l) σ Q) : WO P K F n ops (⟨d, op, ty, pos, af, some gd⟩ :: l) σ Q := h
theorem gL (h : WL P K F n ops (⟨d, op, ty, pos, af, some gd⟩ :: l) σ g Q) : WL P K F n ops (⟨d, op, ty, pos, af, some gd⟩ :: l) σ g Q := h
theorem O_move {x : Operand} (h : WO P K F n ops (⟨d, .move x, ty, pos, af, none⟩ :: l) σ Q) : WO P K F n ops (⟨d, .move x, ty, pos, af, none⟩ :: l) σ Q := h
theorem L_move {x : Operand} (h : WL P K F n ops (⟨d, .move x, ty, pos, af, none⟩ :: l) σ g Q) : WL P K F n ops (⟨d, .move x, ty, pos, af, none⟩ :: l) σ g Q := h
theorem O_assign {x : Operand} (h : WO P K F n ops (⟨d, .assign x, ty, pos, af, none⟩ :: l) σ Q) : WO P K F n ops (⟨d, .assign x, ty, pos, af, none⟩ :: l) σ Q := h
theorem L_assign {x : Operand} (h : WL P K F n ops (⟨d, .assign x, ty, pos, af, none⟩ :: l) σ g Q) : WL P K F n ops (⟨d, .assign x, ty, pos, af, none⟩ :: l) σ g Q := h
theorem O_pick {x : Operand} {y : Operand} {z : Operand} (h : WO P K F n ops (⟨d, .pick x y z, ty, pos, af, none⟩ :: l) σ Q) : WO P K F n ops (⟨d, .pick x y z, ty, pos, af, none⟩ :: l) σ Q := h
theorem L_pick {x : Operand} {y : Operand} {z : Operand} (h : WL P K F n ops (⟨d, .pick x y z, ty, pos, af, none⟩ :: l) σ g Q) : WL P K F n ops (⟨d, .pick x y z, ty, pos, af, none⟩ :: l) σ g Q := h
theorem O_alloc {t : TypeId} (h : WO P K F n ops (⟨d, .alloc t, ty, pos, af, none⟩ :: l) σ Q) : WO P K F n ops (⟨d, .alloc t, ty, pos, af, none⟩ :: l) σ Q := h
theorem L_alloc {t : TypeId} (h : WL P K F n ops (⟨d, .alloc t, ty, pos, af, none⟩ :: l) σ g Q) : WL P K F n ops (⟨d, .alloc t, ty, pos, af, none⟩ :: l) σ g Q := h
theorem O_box {t : TypeId} {x : Operand} (h : WO P K F n ops (⟨d, .box t x, ty, pos, af, none⟩ :: l) σ Q) : WO P K F n ops (⟨d, .box t x, ty, pos, af, none⟩ :: l) σ Q := h
theorem L_box {t : TypeId} {x : Operand} (h : WL P K F n ops (⟨d, .box t x, ty, pos, af, none⟩ :: l) σ g Q) : WL P K F n ops (⟨d, .box t x, ty, pos, af, none⟩ :: l) σ g Q := h
theorem O_build {t : TypeId} {ps : Array (Nat × Operand)} (h : WO P K F n ops (⟨d, .build t ps, ty, pos, af, none⟩ :: l) σ Q) : WO P K F n ops (⟨d, .build t ps, ty, pos, af, none⟩ :: l) σ Q := h
theorem L_build {t : TypeId} {ps : Array (Nat × Operand)} (h : WL P K F n ops (⟨d, .build t ps, ty, pos, af, none⟩ :: l) σ g Q) : WL P K F n ops (⟨d, .build t ps, ty, pos, af, none⟩ :: l) σ g Q := h
theorem O_bsl {t : TypeId} {n1 : Nat} {ps : Array (Nat × Operand)} (h : WO P K F n ops (⟨d, .buildSlice t n1 ps, ty, pos, af, none⟩ :: l) σ Q) : WO P K F n ops (⟨d, .buildSlice t n1 ps, ty, pos, af, none⟩ :: l) σ Q := h
theorem L_bsl {t : TypeId} {n1 : Nat} {ps : Array (Nat × Operand)} (h : WL P K F n ops (⟨d, .buildSlice t n1 ps, ty, pos, af, none⟩ :: l) σ g Q) : WL P K F n ops (⟨d, .buildSlice t n1 ps, ty, pos, af, none⟩ :: l) σ g Q := h
theorem O_msl {t : TypeId} {x : Operand} {y : Operand} (h : WO P K F n ops (⟨d, .makeSlice t x y, ty, pos, af, none⟩ :: l) σ Q) : WO P K F n ops (⟨d, .makeSlice t x y, ty, pos, af, none⟩ :: l) σ Q := h
theorem L_msl {t : TypeId} {x : Operand} {y : Operand} (h : WL P K F n ops (⟨d, .makeSlice t x y, ty, pos, af, none⟩ :: l) σ g Q) : WL P K F n ops (⟨d, .makeSlice t x y, ty, pos, af, none⟩ :: l) σ g Q := h
theorem O_load {t : TypeId} {x : Operand} (h : WO P K F n ops (⟨d, .load t x, ty, pos, af, none⟩ :: l) σ Q) : WO P K F n ops (⟨d, .load t x, ty, pos, af, none⟩ :: l) σ Q := h
theorem L_load {t : TypeId} {x : Operand} (h : WL P K F n ops (⟨d, .load t x, ty, pos, af, none⟩ :: l) σ g Q) : WL P K F n ops (⟨d, .load t x, ty, pos, af, none⟩ :: l) σ g Q := h
theorem O_store {t : TypeId} {x : Operand} {y : Operand} (h : WO P K F n ops (⟨d, .store t x y, ty, pos, af, none⟩ :: l) σ Q) : WO P K F n ops (⟨d, .store t x y, ty, pos, af, none⟩ :: l) σ Q := h
theorem L_store {t : TypeId} {x : Operand} {y : Operand} (h : WL P K F n ops (⟨d, .store t x y, ty, pos, af, none⟩ :: l) σ g Q) : WL P K F n ops (⟨d, .store t x y, ty, pos, af, none⟩ :: l) σ g Q := h
theorem O_nilc {x : Operand} (h : WO P K F n ops (⟨d, .nilCheck x, ty, pos, af, none⟩ :: l) σ Q) : WO P K F n ops (⟨d, .nilCheck x, ty, pos, af, none⟩ :: l) σ Q := h
theorem L_nilc {x : Operand} (h : WL P K F n ops (⟨d, .nilCheck x, ty, pos, af, none⟩ :: l) σ g Q) : WL P K F n ops (⟨d, .nilCheck x, ty, pos, af, none⟩ :: l) σ g Q := h
theorem O_bin {bo : BinOp} {t : TypeId} {x : Operand} {y : Operand} {u : TypeId} (h : WO P K F n ops (⟨d, .binOp bo t x y u, ty, pos, af, none⟩ :: l) σ Q) : WO P K F n ops (⟨d, .binOp bo t x y u, ty, pos, af, none⟩ :: l) σ Q := h
theorem L_bin {bo : BinOp} {t : TypeId} {x : Operand} {y : Operand} {u : TypeId} (h : WL P K F n ops (⟨d, .binOp bo t x y u, ty, pos, af, none⟩ :: l) σ g Q) : WL P K F n ops (⟨d, .binOp bo t x y u, ty, pos, af, none⟩ :: l) σ g Q := h
theorem O_un {uo : UnOp} {t : TypeId} {x : Operand} (h : WO P K F n ops (⟨d, .unOp uo t x, ty, pos, af, none⟩ :: l) σ Q) : WO P K F n ops (⟨d, .unOp uo t x, ty, pos, af, none⟩ :: l) σ Q := h
theorem L_un {uo : UnOp} {t : TypeId} {x : Operand} (h : WL P K F n ops (⟨d, .unOp uo t x, ty, pos, af, none⟩ :: l) σ g Q) : WL P K F n ops (⟨d, .unOp uo t x, ty, pos, af, none⟩ :: l) σ g Q := h
theorem O_conv {t : TypeId} {u : TypeId} {x : Operand} (h : WO P K F n ops (⟨d, .convert t u x, ty, pos, af, none⟩ :: l) σ Q) : WO P K F n ops (⟨d, .convert t u x, ty, pos, af, none⟩ :: l) σ Q := h
theorem L_conv {t : TypeId} {u : TypeId} {x : Operand} (h : WL P K F n ops (⟨d, .convert t u x, ty, pos, af, none⟩ :: l) σ g Q) : WL P K F n ops (⟨d, .convert t u x, ty, pos, af, none⟩ :: l) σ g Q := h
theorem O_slice {t : TypeId} {x : Operand} {lo : Option Operand} {hi : Option Operand} {mx : Option Operand} (h : WO P K F n ops (⟨d, .slice t x lo hi mx, ty, pos, af, none⟩ :: l) σ Q) : WO P K F n ops (⟨d, .slice t x lo hi mx, ty, pos, af, none⟩ :: l) σ Q := h
theorem L_slice {t : TypeId} {x : Operand} {lo : Option Operand} {hi : Option Operand} {mx : Option Operand} (h : WL P K F n ops (⟨d, .slice t x lo hi mx, ty, pos, af, none⟩ :: l) σ g Q) : WL P K F n ops (⟨d, .slice t x lo hi mx, ty, pos, af, none⟩ :: l) σ g Q := h
theorem O_fad {t : TypeId} {x : Operand} {n1 : Nat} (h : WO P K F n ops (⟨d, .fieldAddr t x n1, ty, pos, af, none⟩ :: l) σ Q) : WO P K F n ops (⟨d, .fieldAddr t x n1, ty, pos, af, none⟩ :: l) σ Q := h
theorem L_fad {t : TypeId} {x : Operand} {n1 : Nat} (h : WL P K F n ops (⟨d, .fieldAddr t x n1, ty, pos, af, none⟩ :: l) σ g Q) : WL P K F n ops (⟨d, .fieldAddr t x n1, ty, pos, af, none⟩ :: l) σ g Q := h
theorem O_fld {t : TypeId} {x : Operand} {n1 : Nat} (h : WO P K F n ops (⟨d, .field t x n1, ty, pos, af, none⟩ :: l) σ Q) : WO P K F n ops (⟨d, .field t x n1, ty, pos, af, none⟩ :: l) σ Q := h
theorem L_fld {t : TypeId} {x : Operand} {n1 : Nat} (h : WL P K F n ops (⟨d, .field t x n1, ty, pos, af, none⟩ :: l) σ g Q) : WL P K F n ops (⟨d, .field t x n1, ty, pos, af, none⟩ :: l) σ g Q := h
theorem O_iad {t : TypeId} {x : Operand} {y : Operand} (h : WO P K F n ops (⟨d, .indexAddr t x y, ty, pos, af, none⟩ :: l) σ Q) : WO P K F n ops (⟨d, .indexAddr t x y, ty, pos, af, none⟩ :: l) σ Q := h
theorem L_iad {t : TypeId} {x : Operand} {y : Operand} (h : WL P K F n ops (⟨d, .indexAddr t x y, ty, pos, af, none⟩ :: l) σ g Q) : WL P K F n ops (⟨d, .indexAddr t x y, ty, pos, af, none⟩ :: l) σ g Q := h
theorem O_idx {t : TypeId} {x : Operand} {y : Operand} (h : WO P K F n ops (⟨d, .index t x y, ty, pos, af, none⟩ :: l) σ Q) : WO P K F n ops (⟨d, .index t x y, ty, pos, af, none⟩ :: l) σ Q := h
theorem L_idx {t : TypeId} {x : Operand} {y : Operand} (h : WL P K F n ops (⟨d, .index t x y, ty, pos, af, none⟩ :: l) σ g Q) : WL P K F n ops (⟨d, .index t x y, ty, pos, af, none⟩ :: l) σ g Q := h
theorem O_ext {x : Operand} {n1 : Nat} (h : WO P K F n ops (⟨d, .extract x n1, ty, pos, af, none⟩ :: l) σ Q) : WO P K F n ops (⟨d, .extract x n1, ty, pos, af, none⟩ :: l) σ Q := h
theorem L_ext {x : Operand} {n1 : Nat} (h : WL P K F n ops (⟨d, .extract x n1, ty, pos, af, none⟩ :: l) σ g Q) : WL P K F n ops (⟨d, .extract x n1, ty, pos, af, none⟩ :: l) σ g Q := h
theorem O_mkf {fx : Fn} {fi} {ys : Array Operand} (h : WO P K F n ops (⟨d, .makeFunc fx fi ys, ty, pos, af, none⟩ :: l) σ Q) : WO P K F n ops (⟨d, .makeFunc fx fi ys, ty, pos, af, none⟩ :: l) σ Q := h
theorem L_mkf {fx : Fn} {fi} {ys : Array Operand} (h : WL P K F n ops (⟨d, .makeFunc fx fi ys, ty, pos, af, none⟩ :: l) σ g Q) : WL P K F n ops (⟨d, .makeFunc fx fi ys, ty, pos, af, none⟩ :: l) σ g Q := h
theorem O_call {x : Operand} {as : Array Operand} {ts : Array TypeId} (h : WO P K F n ops (⟨d, .call ⟨.value x, as, ts⟩, ty, pos, af, none⟩ :: l) σ Q) : WO P K F n ops (⟨d, .call ⟨.value x, as, ts⟩, ty, pos, af, none⟩ :: l) σ Q := h
theorem L_call {x : Operand} {as : Array Operand} {ts : Array TypeId} (h : WL P K F n ops (⟨d, .call ⟨.value x, as, ts⟩, ty, pos, af, none⟩ :: l) σ g Q) : WL P K F n ops (⟨d, .call ⟨.value x, as, ts⟩, ty, pos, af, none⟩ :: l) σ g Q := h
theorem O_bui {bb : Builtin} {as : Array Operand} {ts : Array TypeId} (h : WO P K F n ops (⟨d, .call ⟨.builtin bb, as, ts⟩, ty, pos, af, none⟩ :: l) σ Q) : WO P K F n ops (⟨d, .call ⟨.builtin bb, as, ts⟩, ty, pos, af, none⟩ :: l) σ Q := h
theorem L_bui {bb : Builtin} {as : Array Operand} {ts : Array TypeId} (h : WL P K F n ops (⟨d, .call ⟨.builtin bb, as, ts⟩, ty, pos, af, none⟩ :: l) σ g Q) : WL P K F n ops (⟨d, .call ⟨.builtin bb, as, ts⟩, ty, pos, af, none⟩ :: l) σ g Q := h
end
end Go.SX
