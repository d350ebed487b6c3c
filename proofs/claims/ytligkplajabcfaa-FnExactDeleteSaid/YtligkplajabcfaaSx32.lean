import Derived.Test.YtligkplajabcfaaSx31
set_option linter.unusedVariables false
set_option linter.unusedSimpArgs false
set_option linter.unusedSectionVars false
set_option linter.unusedVariables false
set_option linter.unusedSimpArgs false
namespace Go.SX
open Go.Nt
variable {P : Program} {K : Cfg} {F : Fun} {n : Nat} {ops : Array Oper} {ρ : Operand → T} {σ : St} {a b : Str} {t u : TypeId} {x y : Operand} {o : Oper}

theorem pr_str (op : BinOp) (a b : ByteArray) : pureRun P (do eqGuard op t x y (.string a) (.string b); binOp op t (.string a) (.string b)) = pureRun P (Op.stringOp op a b) := by cases op <;> rfl
theorem ev_str {op : BinOp} {v : Value} (ho : o.op = .binOp op t x y u) (hx : ρ x = .c (cS a)) (hy : ρ y = .c (cS b)) (h : pureRun P (Op.stringOp op (bs a) (bs b)) = some v) : evOp P K F ρ σ o = some (ofV v, σ) := by
  obtain ⟨dst, op', type, pos, after, guard⟩ := o
  simp only at ho
  subst ho
  simp only [evOp, hx, hy, pr_str, h, Option.map_some]
theorem ev_eql_s (ho : o.op = .binOp .eql t x y u) (hx : ρ x = .c (cS a)) (hy : ρ y = .c (cS b)) : evOp P K F ρ σ o = some (.c (cB (a == b)), σ) :=
  ev_str ho hx hy (by simp only [Op.stringOp, bs_toList]; rfl)
theorem ev_neq_s (ho : o.op = .binOp .neq t x y u) (hx : ρ x = .c (cS a)) (hy : ρ y = .c (cS b)) : evOp P K F ρ σ o = some (.c (cB (!(a == b))), σ) :=
  ev_str ho hx hy (by simp only [Op.stringOp, bs_toList]; rfl)
theorem ev_lss_s (ho : o.op = .binOp .lss t x y u) (hx : ρ x = .c (cS a)) (hy : ρ y = .c (cS b)) : evOp P K F ρ σ o = some (.c (cB (slt a b)), σ) :=
  ev_str ho hx hy (by simp only [Op.stringOp, bs_toList]; rfl)
theorem ev_leq_s (ho : o.op = .binOp .leq t x y u) (hx : ρ x = .c (cS a)) (hy : ρ y = .c (cS b)) : evOp P K F ρ σ o = some (.c (cB (slt a b || a == b)), σ) :=
  ev_str ho hx hy (by simp only [Op.stringOp, bs_toList]; rfl)
theorem ev_gtr_s (ho : o.op = .binOp .gtr t x y u) (hx : ρ x = .c (cS a)) (hy : ρ y = .c (cS b)) : evOp P K F ρ σ o = some (.c (cB (!(slt a b || a == b))), σ) :=
  ev_str ho hx hy (by simp only [Op.stringOp, bs_toList]; rfl)
theorem ev_geq_s (ho : o.op = .binOp .geq t x y u) (hx : ρ x = .c (cS a)) (hy : ρ y = .c (cS b)) : evOp P K F ρ σ o = some (.c (cB (!(slt a b))), σ) :=
  ev_str ho hx hy (by simp only [Op.stringOp, bs_toList]; rfl)
theorem ev_cat {c : Str} (h : cat a b = some c) (ho : o.op = .binOp .add t x y u) (hx : ρ x = .c (cS a)) (hy : ρ y = .c (cS b)) : evOp P K F ρ σ o = some (.c (cS c), σ) := by
  unfold cat at h
  split at h
  · simp at h
  · rename_i hc
    simp only [Option.some.injEq] at h
    subst h
    refine ev_str (v := .string (bs (a ++ b))) ho hx hy ?_
    have hs : ∀ a : Str, (bs a).size = a.length := fun _ => rfl
    simp only [Op.stringOp, hs]
    rw [if_neg hc, bs_append]
    rfl
theorem ev_ss {c : Str} {lo hi : Option Operand} {i j : Int} (h : slc a i j = some c) (ho : o.op = .slice t x lo hi none) (hu : P.underlying t = some .string) (hx : ρ x = .c (cS a)) (hlo : (match (motive := Option Operand → Prop) lo with | none => i = 0 | some y => ∃ k, ρ y = .c (.s (.int k i)))) (hhi : (match (motive := Option Operand → Prop) hi with | none => j = a.length | some y => ∃ k, ρ y = .c (.s (.int k j)))) : evOp P K F ρ σ o = some (.c (cS c), σ) := by
  obtain ⟨h0, h1, h2, rfl⟩ := slc_some h
  obtain ⟨dst, op, type, pos, after, guard⟩ := o
  simp only at ho
  subst ho
  have hs : (bs a).size = a.length := rfl
  have key : ∀ (l h : Option Value), (match (motive := Option Value → Prop) l with | none => i = 0 | some v => ∃ k, v = .int k i) → (match (motive := Option Value → Prop) h with | none => j = a.length | some v => ∃ k, v = .int k j) → pureRun P (Instr.slice t (.string (bs a)) l h none) = some (.string (bs (Nt.cut a i.toNat j.toNat))) := by
    intro l h hl hh
    have e2 : pureRun P (Instr.slice t (.string (bs a)) l h none) = pureRun P (do let (l, h, _) ← Instr.sliceBounds false (bs a).size (bs a).size l h none; pure (.string ((bs a).extract l h))) := by
      simp only [Instr.slice, bind, Sem.bind, underlying, program, pureRun, hu, pure, Option.isSome_none, Bool.false_eq_true, if_false]
    rw [e2]
    have e3 : Instr.sliceBounds false (bs a).size (bs a).size l h none = Sem.pure (i.toNat, j.toNat, a.length) := by
      have hj : ∀ k, Instr.sliceBound (.int k j) a.length .sliceAlen = Sem.pure j.toNat := fun k => by
        simp only [Instr.sliceBound, asIntOf, bind, Sem.bind, pure]
        rw [if_pos ⟨by omega, h2⟩]
      have hi' : ∀ k, Instr.sliceBound (.int k i) j.toNat .sliceB = Sem.pure i.toNat := fun k => by
        simp only [Instr.sliceBound, asIntOf, bind, Sem.bind, pure]
        rw [if_pos ⟨h0, by omega⟩]
      cases h with
      | none =>
        simp only at hh
        have hjn : a.length = j.toNat := by omega
        cases l with
        | none => simp only at hl; subst hl; simp [Instr.sliceBounds, bind, Sem.bind, pure, hs, hjn]
        | some v => obtain ⟨k, rfl⟩ := hl; simp only [Instr.sliceBounds, bind, Sem.bind, pure, hs, Option.isSome_none, Bool.false_eq_true, if_false]; rw [hjn, hi']; simp [Sem.bind, ← hjn]
      | some v =>
        obtain ⟨k, rfl⟩ := hh
        cases l with
        | none => simp only at hl; subst hl; simp only [Instr.sliceBounds, bind, Sem.bind, pure, hs, Bool.false_eq_true, if_false, hj]; rfl
        | some v => obtain ⟨k', rfl⟩ := hl; simp only [Instr.sliceBounds, bind, Sem.bind, pure, hs, Option.isSome_none, Bool.false_eq_true, if_false, hj, hi']
    rw [e3]
    simp only [bind, Sem.bind, pure, pureRun, bs_extract]
  simp only [evOp, Option.isNone_none, if_true, hx, opSlice]
  cases lo with
  | none => cases hi with
    | none => simp only [Option.bind_some]; rw [key none none hlo hhi]; rfl
    | some y => obtain ⟨k, hk⟩ := hhi; simp only [Option.bind_some, hk]; rw [key none (some _) hlo ⟨k, rfl⟩]; rfl
  | some y => cases hi with
    | none => obtain ⟨k, hk⟩ := hlo; simp only [Option.bind_some, hk]; rw [key (some _) none ⟨k, rfl⟩ hhi]; rfl
    | some z => obtain ⟨k, hk⟩ := hlo; obtain ⟨k', hk'⟩ := hhi; simp only [Option.bind_some, hk, hk']; rw [key (some _) (some _) ⟨k, rfl⟩ ⟨k', rfl⟩]; rfl
theorem ev_conv {v w : Value} (ho : o.op = .convert t u x) (hx : ρ x = .c (.s v)) (h : pureRun P (convert t u v) = some w) : evOp P K F ρ σ o = some (ofV w, σ) := by
  obtain ⟨dst, op, type, pos, after, guard⟩ := o
  simp only at ho
  subst ho
  simp only [evOp, hx, opConv, h, Option.map_some]
theorem ev_ii {k k' j : IntKind} {i : Int} (ho : o.op = .convert t u x) (hx : ρ x = .c (.s (.int k i))) (ht : P.underlying t = some (.int j)) (hu : P.underlying u = some (.int k')) : evOp P K F ρ σ o = some (.c (cI k' (k'.wrap i)), σ) :=
  ev_conv (w := .int k' (k'.wrap i)) ho hx (by simp only [convert, bind, Sem.bind, underlying, program, pureRun, ht, hu, pure, Conv.intToInt])
/-- a rune's text -/
theorem ev_is {k j : IntKind} {i : Int} (ho : o.op = .convert t u x) (hx : ρ x = .c (.s (.int k i))) (ht : P.underlying t = some (.int j)) (hu : P.underlying u = some .string) : evOp P K F ρ σ o = some (.c (cS (rune i)), σ) :=
  ev_conv (w := .string (Utf8.encode i)) ho hx (by simp only [convert, bind, Sem.bind, underlying, program, pureRun, ht, hu, pure, Conv.intToString])
theorem bytesOf_map (l : List Int) : bytesOf (l.map eU) = some (strOf l) := by
  induction l with
  | nil => rfl
  | cons b l ih => simp only [List.map_cons, bytesOf, ih, Option.map_some, strOf]
theorem ev_bts {l : List Int} {e : TypeId} (ho : o.op = .convert t u x) (hu : P.underlying u = some .string) (ht : elOf P t = some e) (he : P.underlying e = some (.int .u8)) (hl : elems σ (ρ x) = some (l.map eU)) (hdp : deepT σ (ρ x) = false) : evOp P K F ρ σ o = some (.c (cS (strOf l)), σ) := by
  obtain ⟨dst, op, type, pos, after, guard⟩ := o
  simp only at ho
  subst ho
  simp only [evOp, opConv]
  have hns : ∀ v, ρ x ≠ .c (.s v) := by intro v e; rw [e] at hl; simp [elems] at hl
  split
  · rename_i v e; exact absurd e (hns v)
  · rw [hu, ht]
    simp only [hdp, Bool.false_eq_true, if_false, Option.bind_some, he, hl, bytesOf_map, Option.map_some]
theorem el_sl {α : Type} {en : α → List C} {l m : List α} {i j : Int} {r : Nat} {q : Row} (h : slc l i j = some m) {v : T} (hv : v = .sl r i.toNat j.toNat) (hr : rowAt σ r = some q) (hq : q.l = l.map en) : elems σ v = some (m.map en) := by
  obtain ⟨_, _, _, rfl⟩ := slc_some h
  simp only [hv, elems, hr, Option.map_some, hq, cut_map]
theorem ev_lenS {α : Type} {en : α → List C} {l m : List α} {i j : Int} {r : Nat} {q : Row} {c : Call} {e : TypeId} (h : slc l i j = some m) (ho : o.op = .call c) (hc : c.callee = .builtin .len) (ha : c.args.toList = [x]) (ht : c.argTypes.toList = [t]) (he : elOf P t = some e) (hx : ρ x = .sl r i.toNat j.toNat) (hr : rowAt σ r = some q) (hq : q.l = l.map en) : evOp P K F ρ σ o = some (.c (cI .i64 (m.length : Int)), σ) := by
  have hel := el_sl h hx hr hq
  obtain ⟨dst, op, type, pos, after, guard⟩ := o
  obtain ⟨callee, args, ats⟩ := c
  simp only at ho hc
  subst ho hc
  simp only at ha ht
  rw [hx] at hel
  simp only [evOp, ha, ht, hx, he, Option.bind_some, hel, Option.map_some, List.length_map]; rfl
theorem ev_quo {k : IntKind} {i j q : Int} (h : Nt.quo k i j = some q) (ho : o.op = .binOp .quo t x y u) (hx : ρ x = .c (.s (.int k i))) (hy : ρ y = .c (.s (.int k j))) : evOp P K F ρ σ o = some (.c (cI k q), σ) := by
  obtain ⟨dst, op, type, pos, after, guard⟩ := o
  simp only at ho
  subst ho
  unfold Nt.quo at h
  split at h
  · simp at h
  · rename_i h0
    simp only [Option.some.injEq] at h
    subst h
    have : pureRun P (do eqGuard .quo t x y (.int k i) (.int k j); binOp .quo t (.int k i) (.int k j)) = some (.int k (k.wrap (i.tdiv j))) := by
      have e : eqGuard .quo t x y (.int k i) (.int k j) = Sem.pure () := rfl
      rw [e]
      simp only [bind, Sem.bind, binOp, Op.intDiv]
      rw [if_neg (by simp), if_neg h0]; rfl
    simp only [evOp, hx, hy, this, Option.map_some]; rfl
theorem ev_rem {k : IntKind} {i j q : Int} (h : Nt.rem i j = some q) (ho : o.op = .binOp .rem t x y u) (hx : ρ x = .c (.s (.int k i))) (hy : ρ y = .c (.s (.int k j))) : evOp P K F ρ σ o = some (.c (cI k q), σ) := by
  obtain ⟨dst, op, type, pos, after, guard⟩ := o
  simp only at ho
  subst ho
  unfold Nt.rem at h
  split at h
  · simp at h
  · rename_i h0
    simp only [Option.some.injEq] at h
    subst h
    have : pureRun P (do eqGuard .rem t x y (.int k i) (.int k j); binOp .rem t (.int k i) (.int k j)) = some (.int k (i.tmod j)) := by
      have e : eqGuard .rem t x y (.int k i) (.int k j) = Sem.pure () := rfl
      rw [e]
      simp only [bind, Sem.bind, binOp, Op.intDiv]
      rw [if_neg (by simp), if_neg h0]; rfl
    simp only [evOp, hx, hy, this, Option.map_some]; rfl
end Go.SX
