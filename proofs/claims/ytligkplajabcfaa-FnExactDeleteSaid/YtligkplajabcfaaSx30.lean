import Derived.Test.YtligkplajabcfaaSx29
set_option linter.unusedVariables false
set_option linter.unusedSimpArgs false
set_option linter.unusedSectionVars false
set_option linter.unusedVariables false
set_option linter.unusedSimpArgs false
namespace Go.SX
open Go.Nt
variable {P : Program} {K : Cfg} {F : Fun} {n : Nat} {ops : Array Oper} {ρ : Operand → T} {σ : St} {α β : Type} {en : α → List C} {l m : List α} {a : α}

/-! operations on data that is not spelt out -/
theorem map_ix {i : Int} (h : ix l i = some a) : 0 ≤ i ∧ (l.map en)[i.toNat]? = some (en a) := by
  obtain ⟨h1, h2⟩ := ix_some h
  exact ⟨h1, by simp [h2]⟩
/-- an element of what is seen -/
theorem ev_ix {o : Oper} {t e : TypeId} {x y : Operand} {k : IntKind} {i : Int} {z : Nat} (h : ix l i = some a) (ho : o.op = .indexAddr t x y) (hx : ρ x = .c (.r (l.map en))) (hi : ρ y = .c (.s (.int k i))) (he : elOf P t = some e) (hs : szOf P e = some z) (hz : (z == 0) = false) (hl : (en a).length = z) : evOp P K F ρ σ o = some (.cp (en a) 0, σ) := by
  obtain ⟨h1, h2⟩ := map_ix (en := en) h
  have hz' : ¬ z = 0 := by simpa using hz
  obtain ⟨dst, op, type, pos, after, guard⟩ := o
  simp only at ho
  subst ho
  simp only [evOp, opIndexAddr, he, hs, Option.bind_some, hx, hi]
  rw [if_neg hz', if_pos h1, h2]
  simp [hl]
/-- an element of a row of one's own -/
theorem ev_ixR {o : Oper} {t e : TypeId} {x y : Operand} {k : IntKind} {i : Int} {z j : Nat} {ow : Bool} {dp : Dp} (h : ix l i = some a) (ho : o.op = .indexAddr t x y) (hx : ρ x = .row j) (hi : ρ y = .c (.s (.int k i))) (he : elOf P t = some e) (hs : szOf P e = some z) (hz : (z == 0) = false) (hr : rowAt σ j = some ⟨z, l.map en, ow, dp⟩) : evOp P K F ρ σ o = some (.rp j i.toNat 0, σ) := by
  obtain ⟨h1, h2⟩ := ix_some h
  have h3 := (List.getElem?_eq_some_iff.1 h2).1
  have hz' : ¬ z = 0 := by simpa using hz
  obtain ⟨dst, op, type, pos, after, guard⟩ := o
  simp only at ho
  subst ho
  simp only [evOp, opIndexAddr, he, hs, Option.bind_some, hx, hi, hr]
  rw [if_neg hz']
  simp [h1, h3]
/-- what is there is loaded -/
def ldr (P : Program) (t : TypeId) (cs : List T) : Option T := (szOf P t).bind fun n => (aggQ P t).bind fun g => if g then (if n ≤ cs.length then some (.ag (cs.take n)) else none) else cs.head?
theorem opLoad_ldr {t : TypeId} {x v : T} {cs : List T} (hc : cells σ x = some cs) (h : ldr P t cs = some v) : opLoad P σ t x = some (v, σ) := by
  unfold ldr at h
  unfold opLoad
  obtain ⟨n, hn, h⟩ := Option.bind_eq_some_iff.1 h
  obtain ⟨g, hg, h⟩ := Option.bind_eq_some_iff.1 h
  simp only [hc, hn, hg, Option.bind_some]
  split at h
  · rename_i h0
    rw [if_pos h0]
    split at h
    · rename_i h1; rw [if_pos h1]; simp only [Option.some.injEq] at h; rw [h]
    · simp at h
  · rename_i h0
    rw [if_neg h0, h]; rfl
theorem ev_ldR {o : Oper} {t : TypeId} {x : Operand} {i : Int} {z j off : Nat} {ow : Bool} {v : T} (h : ix l i = some a) (ho : o.op = .load t x) (hx : ρ x = .rp j i.toNat off) (hr : rowAt σ j = some ⟨z, l.map en, ow, .f⟩) (hv : ldr P t (((en a).drop off).map .c) = some v) : evOp P K F ρ σ o = some (v, σ) := by
  obtain ⟨h1, h2⟩ := map_ix (en := en) h
  obtain ⟨dst, op, type, pos, after, guard⟩ := o
  simp only at ho
  subst ho
  simp only [evOp, hx]
  refine opLoad_ldr (cs := ((en a).drop off).map .c) ?_ hv
  simp only [cells, hr, Option.bind_some, Dp.q, Bool.false_eq_true, if_false, h2, Option.map_some]
theorem ev_stR {o : Oper} {t : TypeId} {x y : Operand} {i : Int} {z j off : Nat} {fl : List T} {vs : List C} {a' : α} {τ : St} (h : Nt.put l i a' = some m) (hold : ix l i = some a) (ho : o.op = .store t x y) (hx : ρ x = .rp j i.toNat off) (hf : flat (ρ y) = some fl) (hs : szOf P t = some fl.length) (hv : views σ fl = some vs) (hdp : deepT σ (.row j) = false) (hr : rowAt (demotes σ fl) j = some ⟨z, l.map en, true, .f⟩) (he : splice (en a) off vs = some (en a')) (hτ : setRow (demotes σ fl) j (some ⟨z, m.map en, true, .f⟩) = τ) : evOp P K F ρ σ o = some (.no, τ) := by
  subst hτ
  obtain ⟨h1, h2⟩ := map_ix (en := en) hold
  obtain ⟨_, h3, rfl⟩ := put_some h
  obtain ⟨dst, op, type, pos, after, guard⟩ := o
  simp only at ho
  subst ho
  simp only [evOp, opStore, hf, Option.bind_some, hs, if_true, hx, hdp, Bool.false_eq_true, if_false, hv, hr, h2, he, Option.map_some]
  rw [List.map_set]
theorem wide_map {z : Nat} (hw : ∀ a : α, (en a).length = z) (l : List α) : wide z (l.map en) = true := by
  simp [wide, hw]
/-- grown: what is behind it goes to a row of its own -/
theorem ev_app {o : Oper} {c : Call} {t u e : TypeId} {x y : Operand} {i : TypeInfo} {b : Nat} {v : T} {zv : Value} {xs : List α} {j : Nat} {q : Row} {τ σ0 : St} (h : app b l xs = some m) (ho : o.op = .call c) (hc : c.callee = .builtin .append) (ha : c.args.toList = [x, y]) (ht : c.argTypes.toList = [t, u]) (hu : elOf P u = elOf P t ∨ elOf P u ≠ none) (he : elOf P t = some e) (hi : P.info? e = some i) (hz : i.zero = some zv) (hx : ρ x = .row j) (hn : (if deepT σ (ρ y) && (deepT σ (ρ x) || isNil (ρ x)) then isWhole (ρ y) else none) = none) (hm : meltX (meltS σ (ρ x)) (ρ y) = σ0) (hq : rowAt σ0 j = some q) (hql : q.l = l.map en) (hy : elems σ0 (ρ y) = some (xs.map en)) (hzc : zv.cells.size = i.size) (h0 : Nat.ble 1 i.size = true) (hbb : i.bytes = b) (hb : Nat.ble 1 b = true) (hw : ∀ a : α, (en a).length = i.size) (how : q.ow = true) (hsz : q.sz = 0 ∨ q.sz = i.size) (hτ : newRow (setRow σ0 j none) ⟨i.size, m.map en, true, .f⟩ = (v, τ)) : evOp P K F ρ σ o = some (v, τ) := by
  subst hbb
  replace h0 := Nat.le_of_ble_eq_true h0
  replace hb := Nat.le_of_ble_eq_true hb
  obtain ⟨h1, rfl⟩ := app_some h
  obtain ⟨dst, op, type, pos, after, guard⟩ := o
  obtain ⟨callee, args, ats⟩ := c
  simp only at ho hc
  subst ho hc
  simp only at ha ht
  simp only [evOp, ha, ht]
  rw [if_pos hu]
  have hel : elems σ0 (.row j) = some (l.map en) := by simp [elems, hq, hql]
  unfold opAppend
  rw [hn]
  simp only
  rw [hm]
  simp only [opAppend0, he, hi, hz, Option.bind_some, hy, hx, hel]
  rw [if_pos ⟨hzc, wide_map hw _, wide_map hw _, h0, hb, by simpa using h1⟩, hq]
  simp only [Option.bind_some]
  rw [if_pos ⟨how, hsz⟩, ← List.map_append, hτ]
theorem ev_appN {o : Oper} {c : Call} {t u e : TypeId} {x y : Operand} {i : TypeInfo} {b : Nat} {v : T} {zv : Value} {xs : List α} {τ σ0 : St} (h : app b l xs = some m) (hl : l = []) (ho : o.op = .call c) (hc : c.callee = .builtin .append) (ha : c.args.toList = [x, y]) (ht : c.argTypes.toList = [t, u]) (hu : elOf P u = elOf P t ∨ elOf P u ≠ none) (he : elOf P t = some e) (hi : P.info? e = some i) (hz : i.zero = some zv) (hx : ρ x = .nil) (hn : (if deepT σ (ρ y) && (deepT σ (ρ x) || isNil (ρ x)) then isWhole (ρ y) else none) = none) (hm : meltX (meltS σ (ρ x)) (ρ y) = σ0) (hy : elems σ0 (ρ y) = some (xs.map en)) (hzc : zv.cells.size = i.size) (h0 : Nat.ble 1 i.size = true) (hbb : i.bytes = b) (hb : Nat.ble 1 b = true) (hw : ∀ a : α, (en a).length = i.size) (hτ : newRow σ0 ⟨i.size, m.map en, true, .f⟩ = (v, τ)) : evOp P K F ρ σ o = some (v, τ) := by
  subst hl
  subst hbb
  replace h0 := Nat.le_of_ble_eq_true h0
  replace hb := Nat.le_of_ble_eq_true hb
  obtain ⟨h1, rfl⟩ := app_some h
  obtain ⟨dst, op, type, pos, after, guard⟩ := o
  obtain ⟨callee, args, ats⟩ := c
  simp only at ho hc
  subst ho hc
  simp only at ha ht
  simp only [evOp, ha, ht]
  rw [if_pos hu]
  have hel : elems σ0 .nil = some [] := rfl
  unfold opAppend
  rw [hn]
  simp only
  rw [hm]
  simp only [opAppend0, he, hi, hz, Option.bind_some, hy, hx, hel]
  rw [if_pos ⟨hzc, wide_map hw _, by simp [wide], h0, hb, by simpa using h1⟩]
  rw [hτ]
theorem ev_mk {o : Oper} {t e : TypeId} {x y : Operand} {i : TypeInfo} {b : Nat} {v : T} {zv : Value} {zl : List T} {cs : List C} {k : Int} {a : α} {τ : St} (h : Nt.mk b k a = some m) (ho : o.op = .makeSlice t x y) (he : elOf P t = some e) (hi : P.info? e = some i) (hz : i.zero = some zv) (hf : flat (constT zv) = some zl) (hv : views σ zl = some cs) (ha : cs = en a) (hx : ρ x = .c (.s (.int .i64 k))) (hy : ρ y = .c (.s (.int .i64 k))) (hl : cs.length = i.size) (h0 : Nat.ble 1 i.size = true) (hbb : i.bytes = b) (hb : Nat.ble 1 b = true) (hdp : K.dp t = false) (hτ : newRow (demotes σ zl) ⟨i.size, m.map en, true, .f⟩ = (v, τ)) : evOp P K F ρ σ o = some (v, τ) := by
  subst ha
  subst hbb
  replace h0 := Nat.le_of_ble_eq_true h0
  replace hb := Nat.le_of_ble_eq_true hb
  obtain ⟨h1, h2, rfl⟩ := mk_some h
  obtain ⟨dst, op, type, pos, after, guard⟩ := o
  simp only at ho
  subst ho
  simp only [evOp, opMake, he, hi, hz, hf, hv, Option.bind_some, hx, hy, hdp]
  rw [if_pos ⟨hl, h0, hb, h1, Int.le_refl _, h2, by simp⟩]
  rw [List.map_replicate] at hτ
  rw [show Dp.of false = .f from rfl, hτ]
/-! the same, for rows all below which is ours -/
theorem ev_mkD {o : Oper} {t e : TypeId} {x y : Operand} {i : TypeInfo} {b : Nat} {v : T} {zv : Value} {zl : List T} {cs : List C} {k : Int} {a : α} {τ : St} (h : Nt.mk b k a = some m) (ho : o.op = .makeSlice t x y) (he : elOf P t = some e) (hi : P.info? e = some i) (hz : i.zero = some zv) (hf : flat (constT zv) = some zl) (hv : views σ zl = some cs) (ha : cs = en a) (hx : ρ x = .c (.s (.int .i64 k))) (hy : ρ y = .c (.s (.int .i64 k))) (hl : cs.length = i.size) (h0 : Nat.ble 1 i.size = true) (hbb : i.bytes = b) (hb : Nat.ble 1 b = true) (hdp : K.dp t = true) (hzc : zl.all zcell = true) (hτ : newRow (demotes σ zl) ⟨i.size, m.map en, true, .d⟩ = (v, τ)) : evOp P K F ρ σ o = some (v, τ) := by
  subst ha
  subst hbb
  replace h0 := Nat.le_of_ble_eq_true h0
  replace hb := Nat.le_of_ble_eq_true hb
  obtain ⟨h1, h2, rfl⟩ := mk_some h
  obtain ⟨dst, op, type, pos, after, guard⟩ := o
  simp only at ho
  subst ho
  simp only [evOp, opMake, he, hi, hz, hf, hv, Option.bind_some, hx, hy, hdp]
  rw [if_pos ⟨hl, h0, hb, h1, Int.le_refl _, h2, by simp only [Bool.not_true, Bool.false_or]; exact hzc⟩]
  rw [List.map_replicate] at hτ
  rw [show Dp.of true = .d from rfl, hτ]
theorem dg_nil : digs σ [] = some ([], σ) := rfl
theorem dg_c {v : Value} {fl : List T} {cs : List C} {τ : St} (h : digs σ fl = some (cs, τ)) : digs σ (.c (.s v) :: fl) = some (.s v :: cs, τ) := by
  simp only [digs, dig, Option.bind_some, h, Option.map_some]
theorem dg_f {x : List (List C)} {j z : Nat} {fl : List T} {cs : List C} {τ : St} (hf : flatRow x = true) (hq : rowAt σ j = some ⟨z, x, true, .f⟩) (h : digs (setRow σ j none) fl = some (cs, τ)) : digs σ (.row j :: fl) = some (.r x :: cs, τ) := by
  simp only [digs, dig, hq, Option.bind_some, hf, Bool.or_true, Bool.and_true, if_true, h, Option.map_some]
theorem ev_stD {o : Oper} {t : TypeId} {x y : Operand} {i : Int} {z j off : Nat} {fl : List T} {vs : List C} {a' : α} {σ1 τ : St} (h : Nt.put l i a' = some m) (hold : ix l i = some a) (hd : digs σ fl = some (vs, σ1)) (ho : o.op = .store t x y) (hx : ρ x = .rp j i.toNat off) (hf : flat (ρ y) = some fl) (hs : szOf P t = some fl.length) (hdp : deepT σ (.row j) = true) (hr : rowAt σ1 j = some ⟨z, l.map en, true, .d⟩) (he : splice (en a) off vs = some (en a')) (hτ : setRow σ1 j (some ⟨z, m.map en, true, .d⟩) = τ) : evOp P K F ρ σ o = some (.no, τ) := by
  subst hτ
  obtain ⟨h1, h2⟩ := map_ix (en := en) hold
  obtain ⟨_, h3, rfl⟩ := put_some h
  obtain ⟨dst, op, type, pos, after, guard⟩ := o
  simp only at ho
  subst ho
  simp only [evOp, opStore, hf, Option.bind_some, hs, if_true, hx, hdp, hd, hr, and_self, h2, he, Option.map_some]
  rw [List.map_set]
theorem ev_bsD {o : Oper} {t e : TypeId} {len : Nat} {parts : Array (Nat × Operand)} {i : TypeInfo} {zv : Value} {zl fl : List T} {cs : List C} {v : T} {τ τ' : St} (l : List α) (en : α → List C) (hd : digs σ fl = some (cs, τ)) (ho : o.op = .buildSlice t len parts) (hdp : K.dp t = true) (he : elOf P t = some e) (hi : P.info? e = some i) (hz : i.zero = some zv) (hzl : flat (constT zv) = some zl) (h0 : Nat.ble 1 i.size = true) (hl : zl.length = i.size) (hb : Nat.ble (len * i.size) (2 ^ 24) = true) (hs : ((parts.toList.map fun (i, x) => (i, ρ x)).all fun p => seenQ p.2) = true)
    (hf : fillT (fun j => some (j * i.size, i.size)) ((List.replicate len zl).flatten) (parts.toList.map fun (i, x) => (i, ρ x)) = some fl) (hr : chunk i.size len cs = l.map en) (hτ : newRow τ ⟨i.size, l.map en, true, .d⟩ = (v, τ')) : evOp P K F ρ σ o = some (v, τ') := by
  rw [← hτ]
  replace h0 := Nat.le_of_ble_eq_true h0
  replace hb := Nat.le_of_ble_eq_true hb
  obtain ⟨dst, op, type, pos, after, guard⟩ := o
  simp only at ho
  subst ho
  simp only [evOp, opBuildSlice, he, hi, hz, hzl, Option.bind_some]
  rw [if_pos ⟨h0, hl, hb, hs⟩, hf]
  simp only [Option.bind_some, hdp, if_true, hd, Option.map_some, hr]
theorem ev_appD {o : Oper} {c : Call} {t u e : TypeId} {x y : Operand} {i : TypeInfo} {b z : Nat} {v : T} {zv : Value} {xs : List α} {j jx : Nat} {τ : St} (h : app b l xs = some m) (ho : o.op = .call c) (hc : c.callee = .builtin .append) (ha : c.args.toList = [x, y]) (ht : c.argTypes.toList = [t, u]) (hu : elOf P u = elOf P t ∨ elOf P u ≠ none) (he : elOf P t = some e) (hi : P.info? e = some i) (hz : i.zero = some zv) (hx : ρ x = .row j) (hy : ρ y = .row jx) (hq : rowAt σ j = some ⟨z, l.map en, true, .d⟩) (hqx : rowAt σ jx = some ⟨z, xs.map en, true, .d⟩) (hne : (j == jx) = false) (hzz : z = i.size) (hzc : zv.cells.size = i.size) (h0 : Nat.ble 1 i.size = true) (hbb : i.bytes = b) (hb : Nat.ble 1 b = true) (hw : ∀ a : α, (en a).length = i.size) (hτ : newRow (setRow (setRow σ j none) jx none) ⟨i.size, m.map en, true, .d⟩ = (v, τ)) : evOp P K F ρ σ o = some (v, τ) := by
  subst hbb hzz
  replace h0 := Nat.le_of_ble_eq_true h0
  replace hb := Nat.le_of_ble_eq_true hb
  obtain ⟨h1, rfl⟩ := app_some h
  obtain ⟨dst, op, type, pos, after, guard⟩ := o
  obtain ⟨callee, args, ats⟩ := c
  simp only at ho hc
  subst ho hc
  simp only at ha ht
  have hne' : ¬ j = jx := by simpa using hne
  simp only [evOp, ha, ht]
  rw [if_pos hu]
  have hd1 : deepT σ (.row j) = true := by simp [deepT, hq, Dp.q]
  have hd2 : deepT σ (.row jx) = true := by simp [deepT, hqx, Dp.q]
  unfold opAppend
  simp only [hx, hy, hd1, hd2, Bool.true_or, Bool.and_true, if_true, isWhole]
  simp only [opAppendD, he, hi, hz, Option.bind_some, hqx, hq]
  rw [if_pos ⟨hzc, wide_map hw _, h0, hb, trivial, trivial, trivial⟩, if_neg hne', if_pos ⟨trivial, trivial, trivial, wide_map hw _, by simpa using h1⟩, ← List.map_append, hτ]
theorem cut_map (lo hi : Nat) : SX.cut (l.map en) lo hi = (Nt.cut l lo hi).map en := by
  simp [SX.cut, Nt.cut, List.map_take, List.map_drop]
theorem bnd_some {x : Option Operand} {d : Nat} {i : Int} (hx : (match (motive := Option Operand → Prop) x with | none => i = d | some y => ∃ k, ρ y = .c (.s (.int k i))) ) (h0 : 0 ≤ i) : bound ρ x d = some i.toNat := by
  cases x with
  | none => simp only at hx; subst hx; simp [bound]
  | some y => obtain ⟨k, hk⟩ := hx; simp [bound, hk, h0]
/-- a part of what is seen -/
theorem ev_sl {o : Oper} {t e : TypeId} {x : Operand} {lo hi : Option Operand} {i j : Int} {z : Nat} (h : slc l i j = some m) (ho : o.op = .slice t x lo hi none) (he : elOf P t = some e) (hs : szOf P e = some z) (hx : ρ x = .c (.r (l.map en))) (hlo : (match (motive := Option Operand → Prop) lo with | none => i = 0 | some y => ∃ k, ρ y = .c (.s (.int k i)))) (hhi : (match (motive := Option Operand → Prop) hi with | none => j = l.length | some y => ∃ k, ρ y = .c (.s (.int k j)))) (hw : ∀ a : α, (en a).length = z) : evOp P K F ρ σ o = some (.c (.r (m.map en)), σ) := by
  obtain ⟨h0, h1, h2, rfl⟩ := slc_some h
  obtain ⟨dst, op, type, pos, after, guard⟩ := o
  simp only at ho
  subst ho
  have b1 := bnd_some (ρ := ρ) (x := lo) (d := 0) (i := i) (by cases lo <;> simpa using hlo) h0
  have b2 := bnd_some (ρ := ρ) (x := hi) (d := (l.map en).length) (i := j) (by cases hi <;> simpa using hhi) (by omega)
  simp only [evOp, Option.isNone_none, if_true, hx, opSlice, he, hs, Option.bind_some, elems, b1, b2]
  rw [if_pos ⟨by omega, by simp; omega⟩]
  rw [if_pos (wide_map hw l), cut_map]
/-- a part of a row of one's own -/
theorem ev_slR {o : Oper} {t e : TypeId} {x : Operand} {lo hi : Option Operand} {i j : Int} {z r : Nat} {ow : Bool} {dp : Dp} (h : slc l i j = some m) (ho : o.op = .slice t x lo hi none) (he : elOf P t = some e) (hs : szOf P e = some z) (hx : ρ x = .row r) (hr : rowAt σ r = some ⟨z, l.map en, ow, dp⟩) (hlo : (match (motive := Option Operand → Prop) lo with | none => i = 0 | some y => ∃ k, ρ y = .c (.s (.int k i)))) (hhi : (match (motive := Option Operand → Prop) hi with | none => j = l.length | some y => ∃ k, ρ y = .c (.s (.int k j)))) : evOp P K F ρ σ o = some (.sl r i.toNat j.toNat, σ) := by
  obtain ⟨h0, h1, h2, rfl⟩ := slc_some h
  obtain ⟨dst, op, type, pos, after, guard⟩ := o
  simp only at ho
  subst ho
  have b1 := bnd_some (ρ := ρ) (x := lo) (d := 0) (i := i) (by cases lo <;> simpa using hlo) h0
  have b2 := bnd_some (ρ := ρ) (x := hi) (d := (l.map en).length) (i := j) (by cases hi <;> simpa using hhi) (by omega)
  simp only [evOp, Option.isNone_none, if_true, hx, opSlice, he, hs, Option.bind_some, elems, hr, Option.map_some, b1, b2]
  rw [if_pos ⟨by omega, by simp; omega⟩]

/-! texts -/
theorem bs_get (s : Str) (i : Nat) : (bs s)[i]? = s[i]? := by
  simp only [getElem?_def]
  have h : (bs s).size = s.length := rfl
  by_cases hi : i < s.length
  · rw [dif_pos (by rw [h]; exact hi), dif_pos hi]; rfl
  · rw [dif_neg (by rw [h]; exact hi), dif_neg hi]
theorem bs_toList (s : Str) : (bs s).toList = s := by
  have key : ∀ (k i : Nat) (r : List UInt8), s.length - i = k → ByteArray.toList.loop (bs s) i r = r.reverse ++ s.drop i := by
    intro k
    induction k with
    | zero =>
      intro i r h
      unfold ByteArray.toList.loop
      rw [if_neg (by show ¬ i < s.length; omega), List.drop_eq_nil_of_le (by omega)]; simp
    | succ k ih =>
      intro i r h
      have hi : i < s.length := by omega
      unfold ByteArray.toList.loop
      rw [if_pos (by show i < s.length; exact hi), ih (i + 1) _ (by omega)]
      have hg : (bs s).get! i = s[i] := by
        show s.toArray[i]! = s[i]
        simp [hi]
      rw [hg, List.drop_eq_getElem_cons hi]; simp
  unfold ByteArray.toList
  rw [key _ 0 [] rfl]; simp
theorem bs_extract (s : Str) (lo hi : Nat) : (bs s).extract lo hi = bs (Nt.cut s lo hi) := by
  apply ByteArray.ext
  simp only [ByteArray.data_extract, Nt.cut]
  apply Array.ext'
  simp only [Array.toList_extract, List.extract_eq_take_drop]
  rw [List.drop_take]
theorem bs_append (s t : Str) : bs s ++ bs t = bs (s ++ t) := by
  apply ByteArray.ext
  simp
theorem ev_sx {o : Oper} {t : TypeId} {x y : Operand} {k : IntKind} {i : Int} {s : Str} {b : UInt8} (h : ix s i = some b) (ho : o.op = .index t x y) (hx : ρ x = .c (cS s)) (hi : ρ y = .c (.s (.int k i))) (hu : P.underlying t = some .string) : evOp P K F ρ σ o = some (.c (.s (.int .u8 (byte b))), σ) := by
  obtain ⟨h1, h2⟩ := ix_some h
  obtain ⟨dst, op, type, pos, after, guard⟩ := o
  simp only at ho
  subst ho
  have : pureRun P (Instr.index t (.string (bs s)) (.int k i)) = some (.int .u8 (byte b)) := by
    simp only [Instr.index, asIntOf, bind, Sem.bind, pure, underlying, program, pureRun, hu, bs_get, h2, h1, if_true]
    rfl
  simp only [evOp, hx, hi, this, Option.map_some]; rfl
end Go.SX
