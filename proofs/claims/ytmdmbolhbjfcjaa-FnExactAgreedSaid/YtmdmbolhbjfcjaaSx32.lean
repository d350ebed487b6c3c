import Derived.Test.YtmdmbolhbjfcjaaSx31
set_option linter.unusedVariables false
set_option linter.unusedSimpArgs false
set_option linter.unusedSectionVars false
set_option linter.unusedVariables false
set_option linter.unusedSimpArgs false
namespace Go.SX
open Go.Nt
variable {P : Program} {K : Cfg} {F : Fun} {n : Nat} {ops : Array Oper} {ρ : Operand → T} {σ : St} {a b : Str} {t u : TypeId} {x y : Operand} {o : Oper}

theorem pr_str (op : BinOp) (a b : ByteArray) : pureRun P (do eqGuard op t x y (.string a) (.string b); binOp op t (.string a) (.string b)) = pureRun P (Op.stringOp op a b) := by cases op <;> rfl
theorem ev_str {op : BinOp} {v : Value} (ho : o.op = .binOp op t x y u) (hx : ρ x = .c (cS a)) (hy : ρ y = .c (cS b)) (h : pureRun P (Op.stringOp op (bs a) (bs b)) = some v) : evOp P K F ρ σ o = some (ofV v, σ) := by
  obtain ⟨dst, op', type, pos, after, guard⟩ := o
  simp only at ho
  subst ho
  simp only [evOp, hx, hy, pr_str, h, Option.map_some]
theorem ev_eql_s (ho : o.op = .binOp .eql t x y u) (hx : ρ x = .c (cS a)) (hy : ρ y = .c (cS b)) : evOp P K F ρ σ o = some (.c (cB (a == b)), σ) :=
  ev_str ho hx hy (by simp only [Op.stringOp, bs_toList]; rfl)
theorem ev_neq_s (ho : o.op = .binOp .neq t x y u) (hx : ρ x = .c (cS a)) (hy : ρ y = .c (cS b)) : evOp P K F ρ σ o = some (.c (cB (!(a == b))), σ) :=
  ev_str ho hx hy (by simp only [Op.stringOp, bs_toList]; rfl)
theorem ev_lss_s (ho : o.op = .binOp .lss t x y u) (hx : ρ x = .c (cS a)) (hy : ρ y = .c (cS b)) : evOp P K F ρ σ o = some (.c (cB (slt a b)), σ) :=
  ev_str ho hx hy (by simp only [Op.stringOp, bs_toList]; rfl)
theorem ev_gtr_s (ho : o.op = .binOp .gtr t x y u) (hx : ρ x = .c (cS a)) (hy : ρ y = .c (cS b)) : evOp P K F ρ σ o = some (.c (cB (!(slt a b || a == b))), σ) :=
  ev_str ho hx hy (by simp only [Op.stringOp, bs_toList]; rfl)
theorem ev_cat {c : Str} (h : cat a b = some c) (ho : o.op = .binOp .add t x y u) (hx : ρ x = .c (cS a)) (hy : ρ y = .c (cS b)) : evOp P K F ρ σ o = some (.c (cS c), σ) := by
  unfold cat at h
  split at h
  · simp at h
  · rename_i hc
    simp only [Option.some.injEq] at h
    subst h
    refine ev_str (v := .string (bs (a ++ b))) ho hx hy ?_
    have hs : ∀ a : Str, (bs a).size = a.length := fun _ => rfl
    simp only [Op.stringOp, hs]
    rw [if_neg hc, bs_append]
    rfl
theorem el_sl {α : Type} {en : α → List C} {l m : List α} {i j : Int} {r : Nat} {q : Row} (h : slc l i j = some m) {v : T} (hv : v = .sl r i.toNat j.toNat) (hr : rowAt σ r = some q) (hq : q.l = l.map en) : elems σ v = some (m.map en) := by
  obtain ⟨_, _, _, rfl⟩ := slc_some h
  simp only [hv, elems, hr, Option.map_some, hq, cut_map]
end Go.SX
