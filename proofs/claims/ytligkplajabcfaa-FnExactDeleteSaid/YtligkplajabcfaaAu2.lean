import Derived.Test.YtligkplajabcfaaAu
set_option linter.unusedVariables false
set_option linter.unusedSimpArgs false
set_option linter.unusedSectionVars false
set_option linter.unusedVariables false
set_option linter.unusedSimpArgs false
namespace Go.SX
open Go.Nt
variable {P : Program} {K : Cfg} {F : Fun} {n : Nat} {ops : Array Oper} {ρ : Operand → T} {σ : St} {b : Code} {i j : Nat}
/-- parts laid into cells, in order -/
def seqB (zs : List T) : Nat → List (Nat × Nat) → List (Nat × T) → Option (List T)
  | _, [], [] => some []
  | _, [], _ :: _ => none
  | i, p :: ps, [] => (seqB zs (i + 1) ps []).map ((zs.drop p.1).take p.2 ++ ·)
  | i, p :: ps, q :: qs => if Nat.beq q.1 i then (flat q.2).bind fun c => if Nat.beq c.length p.2 then (seqB zs (i + 1) ps qs).map (c ++ ·) else none
    else (seqB zs (i + 1) ps (q :: qs)).map ((zs.drop p.1).take p.2 ++ ·)
def contig : Nat → Nat → List (Nat × Nat) → Bool
  | k, m, [] => Nat.beq k m
  | k, m, p :: ps => Nat.beq p.1 k && contig (k + p.2) m ps
theorem contig_le : ∀ {ps : List (Nat × Nat)} {k m : Nat}, contig k m ps = true → k ≤ m
  | [], k, m, h => by simp only [contig] at h; exact Nat.le_of_eq (Nat.eq_of_beq_eq_true h)
  | p :: ps, k, m, h => by
    simp only [contig, Bool.and_eq_true] at h
    have := contig_le h.2
    omega
theorem seqB_ok {place : Nat → Option (Nat × Nat)} {zs : List T} : ∀ (ps : List (Nat × Nat)) (i off : Nat) (qs : List (Nat × T)) (pre fl : List T), pre.length = off → contig off zs.length ps = true → (∀ k, k < ps.length → place (i + k) = ps[k]?) → seqB zs i ps qs = some fl → fillT place (pre ++ zs.drop off) qs = some (pre ++ fl)
  | [], i, off, [], pre, fl, hp, hc, hk, h => by
    simp only [contig] at hc
    have := Nat.eq_of_beq_eq_true hc
    simp only [seqB, Option.some.injEq] at h
    subst h this
    simp [fillT]
  | [], i, off, q :: qs, pre, fl, hp, hc, hk, h => by simp [seqB] at h
  | p :: ps, i, off, qs, pre, fl, hp, hc, hk, h => by
    simp only [contig, Bool.and_eq_true] at hc
    obtain ⟨h1, hc⟩ := hc
    have h1 := Nat.eq_of_beq_eq_true h1
    have hle := contig_le hc
    have hk' : ∀ k, k < ps.length → place (i + 1 + k) = ps[k]? := fun k h => by
      have := hk (k + 1) (by simp; omega)
      rw [show i + 1 + k = i + (k + 1) by omega, this]; simp
    have skip : ∀ qs fl, (seqB zs (i + 1) ps qs).map ((zs.drop p.1).take p.2 ++ ·) = some fl → fillT place (pre ++ zs.drop off) qs = some (pre ++ fl) := by
      intro qs fl h
      obtain ⟨f1, h2, rfl⟩ := Option.map_eq_some_iff.1 h
      have ih := seqB_ok ps (i + 1) (off + p.2) qs (pre ++ (zs.drop p.1).take p.2) f1 (by simp [h1]; omega) hc hk' h2
      have e : pre ++ (zs.drop p.1).take p.2 ++ zs.drop (off + p.2) = pre ++ zs.drop off := by
        rw [List.append_assoc, h1, ← List.drop_drop, List.take_append_drop]
      rw [e] at ih
      rw [ih, List.append_assoc]
    cases qs with
    | nil => simp only [seqB] at h; exact skip _ _ h
    | cons q qs =>
      simp only [seqB] at h
      split at h
      · rename_i hq
        have hq := Nat.eq_of_beq_eq_true hq
        obtain ⟨c, hf, h⟩ := Option.bind_eq_some_iff.1 h
        split at h
        · rename_i hl0
          clear skip
          have hl := Nat.eq_of_beq_eq_true hl0
          clear hl0
          obtain ⟨f1, h2, rfl⟩ := Option.map_eq_some_iff.1 h
          have hpl : place q.1 = some p := by have := hk 0 (by simp); simpa [hq] using this
          obtain ⟨q1, q2⟩ := q
          obtain ⟨p1, p2⟩ := p
          simp only at hpl hf hl h1 hc hle h2
          simp only [fillT, hpl, Option.bind_some, hf, hl, if_true]
          have hsp : splice (pre ++ zs.drop off) p1 c = some ((pre ++ c) ++ zs.drop (off + p2)) := by
            unfold splice
            rw [if_pos (by simp; omega)]
            subst h1 hp
            simp [List.take_append, List.drop_append, hl, List.drop_drop]
          rw [hsp]
          simp only [Option.bind_some]
          have ih := seqB_ok ps (i + 1) (off + p2) qs (pre ++ c) f1 (by simp; omega) hc hk' h2
          rw [ih, List.append_assoc]
        · simp at h
      · exact skip _ _ h
end Go.SX
namespace Go.SX
open Go.Nt
variable {P : Program} {K : Cfg} {F : Fun} {n : Nat} {ops : Array Oper} {ρ : Operand → T} {σ : St} {b : Code} {i j : Nat} {α : Type} {en : α → List C} {l m : List α} {a : α}
/-- of a slice's type its elements' encoder -/
class EncT (t : TypeId) (α : outParam Type) (en : outParam (α → List C)) : Prop where
  mk ::
def sop : BinOp → Str → Str → Option Bool
  | .eql, a, b => some (a == b)
  | .neq, a, b => some (!(a == b))
  | .lss, a, b => some (slt a b)
  | .leq, a, b => some (slt a b || a == b)
  | .gtr, a, b => some (!(slt a b || a == b))
  | .geq, a, b => some (!(slt a b))
  | _, _, _ => none
theorem ev_sop {o : Oper} {op : BinOp} {t u : TypeId} {x y : Operand} {a b : Str} {r : Bool} (ho : o.op = .binOp op t x y u) (hx : ρ x = .c (cS a)) (hy : ρ y = .c (cS b)) (hr : sop op a b = some r) : evOp P K F ρ σ o = some (.c (cB r), σ) := by
  cases op <;> simp only [sop, Option.some.injEq, reduceCtorEq] at hr <;> subst hr
  · exact ev_eql_s ho hx hy
  · exact ev_neq_s ho hx hy
  · exact ev_lss_s ho hx hy
  · exact ev_leq_s ho hx hy
  · exact ev_gtr_s ho hx hy
  · exact ev_geq_s ho hx hy
theorem ev_ldA {o : Oper} {t : TypeId} {x : Operand} {i : Int} {z j off : Nat} {ow : Bool} {v : T} (ho : o.op = .load t x) (hx : ρ x = .rp j i.toNat off) (hr : rowAt σ j = some ⟨z, l.map en, ow, .f⟩) (h : ix l i = some a) (hv : ldr P t (((en a).drop off).map .c) = some v) : evOp P K F ρ σ o = some (v, σ) := ev_ldR h ho hx hr hv
theorem ev_bS {o : Oper} {t : TypeId} {parts : Array (Nat × Operand)} {inf : TypeInfo} {zv : Value} {cs fl : List T} {ps : List (Nat × Nat)} (ho : o.op = .build t parts) (hi : P.info? t = some inf) (hz : inf.zero = some zv) (hc : constT zv = .ag cs) (hp : placesOf P t = some ps) (hq : contig 0 cs.length ps = true) (h : seqB cs 0 ps (parts.toList.map fun (i, x) => (i, ρ x)) = some fl) : evOp P K F ρ σ o = some (.ag fl, σ) := by
  obtain ⟨dst, op, type, pos, after, guard⟩ := o
  simp only at ho
  subst ho
  have := seqB_ok (place := fun i => ps.toArray[i]?) ps 0 0 _ [] fl rfl hq (fun k _ => by simp) h
  simp only [List.drop_zero, List.nil_append] at this
  simp only [evOp, opBuild, hi, hz, hc, hp, Option.bind_some, this, Option.map_some]
def rowP (z : Nat) : Nat → Nat → List (Nat × Nat)
  | _, 0 => []
  | k, n + 1 => (k * z, z) :: rowP z (k + 1) n
theorem rowP_len (z : Nat) : ∀ (n k : Nat), (rowP z k n).length = n
  | 0, k => rfl
  | n + 1, k => by simp [rowP, rowP_len z n]
theorem rowP_get (z : Nat) : ∀ (n k i : Nat), i < n → (rowP z k n)[i]? = some ((k + i) * z, z)
  | n + 1, k, 0, h => by simp [rowP]
  | n + 1, k, i + 1, h => by simp only [rowP, List.getElem?_cons_succ]; rw [rowP_get z n (k + 1) i (by omega)]; simp; congr 1; omega
theorem rowP_contig (z : Nat) : ∀ (n k : Nat), contig (k * z) ((k + n) * z) (rowP z k n) = true
  | 0, k => by simp [rowP, contig]
  | n + 1, k => by
    simp only [rowP, contig, Bool.and_eq_true]
    refine ⟨by simp, ?_⟩
    have := rowP_contig z n (k + 1)
    rw [show k * z + z = (k + 1) * z by rw [Nat.add_mul]; omega, show k + (n + 1) = k + 1 + n by omega]
    exact this
theorem ev_bsS {o : Oper} {t e : TypeId} {len : Nat} {parts : Array (Nat × Operand)} {inf : TypeInfo} {zv : Value} {zl fl : List T} {cs : List C} (ho : o.op = .buildSlice t len parts) (hdp : K.dp t = false) (he : elOf P t = some e) (hi : P.info? e = some inf) (hz : inf.zero = some zv) (hzl : flat (constT zv) = some zl) (h0 : Nat.ble 1 inf.size = true) (hl : zl.length = inf.size) (hb : Nat.ble (len * inf.size) 16777216 = true)
    (hs : ((parts.toList.map fun (i, x) => (i, ρ x)).all fun p => seenQ p.2) = true) (h : seqB (List.replicate len zl).flatten 0 (rowP inf.size 0 len) (parts.toList.map fun (i, x) => (i, ρ x)) = some fl) (hv : views σ fl = some cs) :
    evOp P K F ρ σ o = some (.row σ.rw.length, ⟨σ.ts, σ.bx, (demotes σ fl).rw ++ [some ⟨inf.size, chunk inf.size len cs, true, .f⟩]⟩) := by
  obtain ⟨dst, op, type, pos, after, guard⟩ := o
  simp only at ho
  subst ho
  have hzlen : (List.replicate len zl).flatten.length = len * inf.size := by simp [List.length_flatten, hl]
  have := seqB_ok (place := fun j => some (j * inf.size, inf.size)) (rowP inf.size 0 len) 0 0 _ [] fl rfl (by rw [hzlen]; have := rowP_contig inf.size len 0; simpa using this) (fun k hk => by rw [rowP_get _ _ _ _ (by rw [rowP_len] at hk; exact hk)]) h
  simp only [List.drop_zero, List.nil_append] at this
  simp only [evOp, opBuildSlice, he, hi, hz, hzl, Option.bind_some, hdp, Bool.false_eq_true, if_false]
  rw [if_pos ⟨Nat.le_of_ble_eq_true h0, hl, Nat.le_of_ble_eq_true hb, hs⟩, this]
  simp only [Option.bind_some, hv, Option.map_some, newRow]
  have e : ∀ (l : List T) (σ : St), (demotes σ l).ts = σ.ts ∧ (demotes σ l).bx = σ.bx ∧ (demotes σ l).rw.length = σ.rw.length := by
    intro l
    induction l with
    | nil => intro σ; exact ⟨rfl, rfl, rfl⟩
    | cons x l ih =>
      intro σ
      have hd : (demote σ x).ts = σ.ts ∧ (demote σ x).bx = σ.bx ∧ (demote σ x).rw.length = σ.rw.length := by
        cases x <;> simp only [demote, and_self] <;> split <;> simp [setRow]
      obtain ⟨a, b, c⟩ := ih (demote σ x)
      exact ⟨a.trans hd.1, b.trans hd.2.1, c.trans hd.2.2⟩
  obtain ⟨e1, e2, e3⟩ := e fl σ
  rw [e1, e2, e3]
theorem ev_apA {o : Oper} {c : Call} {t u e : TypeId} {x y : Operand} {i : TypeInfo} {b : Nat} {zv : Value} {xs : List α} {j : Nat} {q : Row} (h : app b l xs = some m) (ho : o.op = .call c) (hc : c.callee = .builtin .append) (ha : c.args.toList = [x, y]) (ht : c.argTypes.toList = [t, u]) [EncT t α en] (hx : ρ x = .row j) (hdx : deepT σ (.row j) = false) (hdy : deepT σ (ρ y) = false) (hu : elOf P u = elOf P t ∨ elOf P u ≠ none) (he : elOf P t = some e) (hi : P.info? e = some i) (hz : i.zero = some zv) (hq : rowAt σ j = some q) (hql : q.l = l.map en) (hy : elems σ (ρ y) = some (xs.map en)) (hzc : zv.cells.size = i.size) (h0 : Nat.ble 1 i.size = true) (hbb : i.bytes = b) (hb : Nat.ble 1 b = true) (hw : ∀ a : α, (en a).length = i.size) (how : q.ow = true) (hsz : q.sz = 0 ∨ q.sz = i.size) : evOp P K F ρ σ o = some (.row σ.rw.length, ⟨σ.ts, σ.bx, σ.rw.set j none ++ [some ⟨i.size, m.map en, true, .f⟩]⟩) :=
  ev_app (σ0 := σ) h ho hc ha ht hu he hi hz hx (by rw [hdy]; rfl) (by simp only [meltS, hx, hdx, meltX, hdy, Bool.false_eq_true, if_false]) hq hql hy hzc h0 hbb hb hw how hsz (by simp [newRow, setRow])
theorem ev_apN {o : Oper} {c : Call} {t u e : TypeId} {x y : Operand} {i : TypeInfo} {b : Nat} {zv : Value} {xs : List α} (h : app b l xs = some m) (ho : o.op = .call c) (hc : c.callee = .builtin .append) (ha : c.args.toList = [x, y]) (ht : c.argTypes.toList = [t, u]) [EncT t α en] (hx : ρ x = .nil) (hdy : deepT σ (ρ y) = false) (hl : l = []) (hu : elOf P u = elOf P t ∨ elOf P u ≠ none) (he : elOf P t = some e) (hi : P.info? e = some i) (hz : i.zero = some zv) (hy : elems σ (ρ y) = some (xs.map en)) (hzc : zv.cells.size = i.size) (h0 : Nat.ble 1 i.size = true) (hbb : i.bytes = b) (hb : Nat.ble 1 b = true) (hw : ∀ a : α, (en a).length = i.size) : evOp P K F ρ σ o = some (.row σ.rw.length, ⟨σ.ts, σ.bx, σ.rw ++ [some ⟨i.size, m.map en, true, .f⟩]⟩) :=
  ev_appN (σ0 := σ) h hl ho hc ha ht hu he hi hz hx (by rw [hdy]; rfl) (by have : deepT σ .nil = false := rfl; simp only [meltS, hx, this, meltX, hdy, Bool.false_eq_true, if_false]) hy hzc h0 hbb hb hw (by simp [newRow])
theorem ev_stA {o : Oper} {t : TypeId} {x y : Operand} {i : Int} {z j off : Nat} {fl : List T} {vs : List C} {a' : α} (h : Nt.put l i a' = some m) (ho : o.op = .store t x y) (hx : ρ x = .rp j i.toNat off) (hdp : deepT σ (.row j) = false) (hf : flat (ρ y) = some fl) (hs : szOf P t = some fl.length) (hv : views σ fl = some vs) {ds : St} (hds : demotes σ fl = ds) (hr : rowAt ds j = some ⟨z, l.map en, true, .f⟩) (hold : ix l i = some a) (he : splice (en a) off vs = some (en a')) : evOp P K F ρ σ o = some (.no, ⟨ds.ts, ds.bx, ds.rw.set j (some ⟨z, m.map en, true, .f⟩)⟩) :=
  ev_stR h hold ho hx hf hs hv hdp (by rw [hds]; exact hr) he (by rw [hds]; rfl)
theorem ev_mkA {o : Oper} {t e : TypeId} {x y : Operand} {i : TypeInfo} {b : Nat} {zv : Value} {zl : List T} {cs : List C} {k : Int} {a : α} (h : Nt.mk b k a = some m) (ho : o.op = .makeSlice t x y) [EncT t α en] (hdp : K.dp t = false) (he : elOf P t = some e) (hi : P.info? e = some i) (hz : i.zero = some zv) (hf : flat (constT zv) = some zl) (hv : views σ zl = some cs) (ha : cs = en a) (hx : ρ x = .c (.s (.int .i64 k))) (hy : ρ y = .c (.s (.int .i64 k))) (hl : cs.length = i.size) (h0 : Nat.ble 1 i.size = true) (hbb : i.bytes = b) (hb : Nat.ble 1 b = true) {ds : St} (hds : demotes σ zl = ds) : evOp P K F ρ σ o = some (.row ds.rw.length, ⟨ds.ts, ds.bx, ds.rw ++ [some ⟨i.size, m.map en, true, .f⟩]⟩) :=
  ev_mk h ho he hi hz hf hv ha hx hy hl h0 hbb hb hdp (by rw [hds]; rfl)
/-! what goes out, with the sizes looked at first -/
def fit' : Cs → List Sz → Cs
  | (x, o) :: l, s :: ss => (match o with | some (0, false) => (match x with | .r [] => (.r [], some s) | x => (x, o)) | o => (x, o)) :: fit' l ss
  | l, _ => l
theorem fit_fit' : ∀ (l : Cs) (ss : List Sz), fit l ss = fit' l ss
  | [], ss => by cases ss <;> rfl
  | (x, o) :: l, [] => by cases x <;> simp [fit, fit']
  | (x, o) :: l, s :: ss => by
    have ih := fit_fit' l ss
    by_cases ho : o = some (0, false)
    · subst ho
      simp only [fit']
      rw [← ih]
      cases x with
      | s v => rfl
      | r r => cases r <;> rfl
    · rw [fit_ne ho, ih]
      simp only [fit']
def fitA' : A → List Sz → A
  | .c x o, ss => match fit' [(x, o)] ss with
    | [(x, o)] => .c x o
    | _ => .c x o
  | .ag l, ss => .ag (fit' l ss)
  | a, _ => a
def fitAs' (P : Program) (K : Cfg) : List A → List TypeId → List A
  | a :: l, t :: ts => fitA' a (sizes P K 8 t) :: fitAs' P K l ts
  | l, _ => l
theorem fitAs_' : ∀ (l : List A) (ts : List TypeId), fitAs P K l ts = fitAs' P K l ts
  | [], ts => by cases ts <;> rfl
  | a :: l, [] => rfl
  | a :: l, t :: ts => by
    simp only [fitAs, fitAs', fitAs_' l ts]
    congr 1
    cases a with
    | c x o => simp only [fitA, fitA', fit_fit']; rfl
    | ag l => simp only [fitA, fitA', fit_fit']
    | _ => rfl
theorem told6 {fn : Func} {ls : List Lend} {a : A} {xs : List (Option Cs)} {rs : List T} {σ1 σ2 : St} {as as' : List A} {e : Ex} (he : (match e with | .exit _ => false | _ => true) = true) (h1 : resVars P σ fn.results.toList = some rs) (h2 : resVs σ rs = some (as, σ1)) (h3 : backs σ1 ls = some (xs, σ2)) (h4 : fitAs' P K as fn.resultTypes.toList = as') (h5 : outA as' = a) : Told2 P K fn ls false (a, xs) e σ := told5 he h1 h2 h3 (by rw [fitAs_']; exact h4) h5
end Go.SX
namespace Go.SX
open Go.Nt
variable {P : Program} {K : Cfg} {F : Fun} {n : Nat} {ops : Array Oper} {ρ : Operand → T} {σ : St}
theorem ev_stB {o : Oper} {t : TypeId} {x y : Operand} {b off : Nat} {r : T × St} (ho : o.op = .store t x y) (hx : ρ x = .bp b off) (h : evOp P K F ρ σ o = some r) : evOp P K F ρ σ o = some r := h
theorem ev_bI {o : Oper} {op : BinOp} {t u : TypeId} {x y : Operand} {r : T × St} (ho : o.op = .binOp op t x y u) (hx : (match op, ρ x with | .add, .c (.s (.string _)) => false | _, .ag _ => false | _, _ => true) = true) (h : evOp P K F ρ σ o = some r) : evOp P K F ρ σ o = some r := h
theorem ev_len {o : Oper} {c : Call} {x : Operand} {r : T × St} (ho : o.op = .call c) (hc : c.callee = .builtin .len) (ha : c.args.toList = [x]) (hx : (match ρ x with | .nil => false | .sl _ _ _ => false | _ => true) = true) (h : evOp P K F ρ σ o = some r) : evOp P K F ρ σ o = some r := h
end Go.SX
namespace Go.SX
open Go.Nt
variable {P : Program} {K : Cfg} {F : Fun} {n : Nat} {ops : Array Oper} {ρ : Operand → T} {σ : St}
theorem ev_mm {o : Oper} {c : Call} {b : Builtin} {r : T × St} (ho : o.op = .call c) (hc : c.callee = .builtin b) (hb : isBuiltin2 b = true) (h : evOp P K F ρ σ o = some r) : evOp P K F ρ σ o = some r := h
theorem told6w {fn : Func} {ls : List Lend} {a : A} {xs : List (Option Cs)} {rs : List T} {σ1 σ2 : St} {as as' : List A} {e : Ex} (he : (match e with | .exit _ => false | _ => true) = true) (h1 : resVars P σ fn.results.toList = some rs) (h2 : resVs σ rs = some (as, σ1)) (h3 : backs σ1 ls = some (xs, σ2)) (h4 : fitAs' P K as fn.resultTypes.toList = as') (h5 : outA as' = a) {a' : A} (h6 : fgtA a = a') : Told2 P K fn ls true (a', xs) e σ := told5w he h1 h2 h3 (by rw [fitAs_']; exact h4) h5 h6
end Go.SX
namespace Go.SX
variable {σ : St}
theorem snA_row {i : Nat} : seen1 true σ (.row i) = match rowAt σ i with | some r => (match r.ow with | true => .row i | false => .c (.r r.l)) | none => .row i := by
  simp only [seen1]
  generalize rowAt σ i = q
  cases q with
  | none => rfl
  | some r => obtain ⟨z, l, ow, dp⟩ := r; cases ow <;> rfl
theorem snA_ag {l : List T} : seen1 true σ (.ag l) = .ag (l.map (seenC σ)) := rfl
theorem snA_c {x : C} : seen1 true σ (.c x) = .c x := rfl
theorem snA_nil : seen1 true σ .nil = .nil := rfl
theorem snA_bp {b o : Nat} : seen1 true σ (.bp b o) = .bp b o := rfl
theorem snA_sl {i a b : Nat} : seen1 true σ (.sl i a b) = .sl i a b := rfl
theorem snA_fn {g : FuncId} {b : List Nat} : seen1 true σ (.fn g b) = .fn g b := rfl
end Go.SX
