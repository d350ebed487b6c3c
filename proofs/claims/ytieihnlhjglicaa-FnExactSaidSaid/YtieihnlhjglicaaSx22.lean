import Derived.Test.YtieihnlhjglicaaSx21
set_option linter.unusedVariables false
set_option linter.unusedSimpArgs false
set_option linter.unusedSectionVars false
namespace Go.SX
variable {P : Program} {K : Cfg} {F : Fun} {n : Nat} {ops : Array Oper} {ρ : Operand → T} {σ : St}

/-! steps with data that is not spelt out -/
theorem ev_idx {o : Oper} {t e : TypeId} {x ix : Operand} {k : IntKind} {i : Int} {l : List (List C)} {el : List C} (ho : o.op = .indexAddr t x ix) (he : elOf P t = some e) (hs : szOf P e = some el.length) (h0 : (el.length == 0) = false) (hx : ρ x = .c (.r l)) (hi : ρ ix = .c (.s (.int k i))) (h1 : 0 ≤ i) (hl : l[i.toNat]? = some el) :
    evOp P K F ρ σ o = some (.cp el 0, σ) := by
  have h0' : ¬ el.length = 0 := by simpa using h0
  obtain ⟨dst, op, type, pos, after, guard⟩ := o
  simp only at ho
  subst ho
  simp only [evOp, opIndexAddr, he, hs, Option.bind_some, hx, hi]
  rw [if_neg h0', if_pos h1, hl]
  simp
theorem ev_idxR {o : Oper} {t e : TypeId} {x ix : Operand} {k : IntKind} {i : Int} {j : Nat} {q : Row} (ho : o.op = .indexAddr t x ix) (he : elOf P t = some e) (hs : szOf P e = some q.sz) (h0 : (q.sz == 0) = false) (hx : ρ x = .row j) (hi : ρ ix = .c (.s (.int k i))) (hq : rowAt σ j = some q) (h1 : 0 ≤ i) (hl : i.toNat < q.l.length) :
    evOp P K F ρ σ o = some (.rp j i.toNat 0, σ) := by
  have h0' : ¬ q.sz = 0 := by simpa using h0
  obtain ⟨dst, op, type, pos, after, guard⟩ := o
  simp only at ho
  subst ho
  simp only [evOp, opIndexAddr, he, hs, Option.bind_some, hx, hi, hq]
  rw [if_neg h0']
  simp [h1, hl]
/-- a call whose answer is known, all of it flat, nothing lent -/
theorem ev_call {o : Oper} {c : Call} {f : Operand} {g : FuncId} {args : List T} {xs : List A} {r : A} {x : T} {τ : St} (ho : o.op = .call c) (hc : c.callee = .value f) (hf : ρ f = .fn g []) (ha : c.args.toList.map ρ = args) (hl : lentOf (K.md g) (args.map (seen1 (K.md g) σ)) = []) (hA : argsA (K.md g) σ (args.map (seen1 (K.md g) σ)) [] = some xs)
    (hF : F g xs = some (r, [])) (hfl : flatA r = true) (hn : K.nest g = false) (ht : tellA σ r = (x, τ)) : evOp P K F ρ σ o = some (x, τ) := by
  obtain ⟨dst, op, type, pos, after, guard⟩ := o
  simp only at ho
  subst ho
  simp only [evOp, hc, apply, hf, ha, List.map_nil, List.append_nil, hl]
  simp [lendAll, hA, hF, hfl, hn, takeAll, ht]
end Go.SX
namespace Go.SX
variable {P : Program} {K : Cfg} {F : Fun} {n : Nat} {ops : Array Oper} {σ : St}
/-- a guard's Bool, either way -/
theorem WO_case {o : Oper} {l : List Oper} {Q : St → Prop} {j : Nat} {want t : Bool} {d : Tmp} (_ : o.guard = some (j, want)) (_ : (ops[j]?).bind (·.dst) = some d) (_ : gt σ.ts d = .c (.s (.bool t))) (h1 : t = true → WO P K F n ops (o :: l) σ Q) (h2 : t = false → WO P K F n ops (o :: l) σ Q) : WO P K F n ops (o :: l) σ Q := by
  cases t
  · exact h2 rfl
  · exact h1 rfl
theorem WL_case {o : Oper} {l : List Oper} {Q : St → Prop} {g : List Entry} {j : Nat} {want t : Bool} {d : Tmp} (_ : o.guard = some (j, want)) (_ : (ops[j]?).bind (·.dst) = some d) (_ : gt σ.ts d = .c (.s (.bool t))) (h1 : t = true → WL P K F n ops (o :: l) σ g Q) (h2 : t = false → WL P K F n ops (o :: l) σ g Q) : WL P K F n ops (o :: l) σ g Q := by
  cases t
  · exact h2 rfl
  · exact h1 rfl
end Go.SX
