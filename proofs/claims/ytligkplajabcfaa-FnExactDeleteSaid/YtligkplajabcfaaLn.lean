import Derived.Test.YtligkplajabcfaaAu4
set_option linter.unusedVariables false
set_option linter.unusedSimpArgs false
set_option linter.unusedSectionVars false
set_option linter.unusedVariables false
set_option linter.unusedSimpArgs false
namespace Go.SX
open Go.Nt
variable {P : Program} {K : Cfg} {F : Fun} {n : Nat} {ops : Array Oper} {σ τ : St} {α β : Type} {en : α → List C} {e2 : β → List C} {l m : List α} {a : α}
/-! a row that lies in another, lent to a call -/
/-- what the call makes of nothing -/
class FZ (F : Fun) (g : FuncId) : Prop where
  ok : ∀ k : Int, F g [.c (.r []) none, .c (.s (.int .i64 k)) none] = some (.c (.s (.int .i64 k)) none, [])
/-- of operations the place of a load out of a row that goes to a call that writes there -/
def lendAt (K : Cfg) : Bool → List Oper → Option Nat
  | _, [] => none
  | s, o :: l => match o.op with
    | .indexAddr .. => (lendAt K true l).map (· + 1)
    | .load .. => if s && (match l with
        | _ :: o3 :: _ => match o3.op with
          | .call c => match c.callee, c.args.toList, o.dst with
            | .value (.func g), .tmp d :: _, some d' => K.md g && Nat.beq d d'
            | _, _, _ => false
          | _ => false
        | _ => false) then some 0 else (lendAt K s l).map (· + 1)
    | _ => (lendAt K s l).map (· + 1)
def LendP (P : Program) (K : Cfg) (F : Fun) (n : Nat) (ops : Array Oper) (o : Oper) (l : List Oper) (Q : St → Prop) (σ : St) : Prop := ∃ τ', evNest P K F n ops o (l.take (lendN l)) σ = some τ' ∧ WO P K F n ops (l.drop (lendN l)) τ' Q
theorem W_lendA {i k : Nat} {Q : Ex → St → Prop} {o : Oper} {l pre : List Oper} (hk : lendAt K false ops.toList = some k) (hl : ops.toList.drop k = o :: l) (hp : ops.toList.take k = pre) (h : WO P K F n ops pre σ (LendP P K F n ops o l (Q .normal))) : W P K F n (.region i ops false) σ Q := W_lend k hl (hp ▸ h)
theorem W_lendB {i : Nat} {σ : St} {Q : Ex → St → Prop} (hk : (lendAt K false ops.toList).isSome = true) (h : W P K F n (.region i ops false) σ Q) : W P K F n (.region i ops false) σ Q := h
theorem st_cm : ∀ (l : List T) (d e : Nat) (x y : T), d ≠ e → st (st l d x) e y = st (st l e y) d x
  | [], 0, 0, x, y, h => absurd rfl h
  | [], 0, e + 1, x, y, h => by simp only [st]
  | [], d + 1, 0, x, y, h => by simp only [st]
  | [], d + 1, e + 1, x, y, h => by simp only [st]; rw [st_cm [] d e x y (by omega)]
  | z :: l, 0, 0, x, y, h => absurd rfl h
  | z :: l, 0, e + 1, x, y, h => by simp only [st]
  | z :: l, d + 1, 0, x, y, h => by simp only [st]
  | z :: l, d + 1, e + 1, x, y, h => by simp only [st]; rw [st_cm l d e x y (by omega)]
theorem st_tw : ∀ (l : List T) (d : Nat) (x y : T), st (st l d x) d y = st l d y
  | [], 0, x, y => rfl
  | [], d + 1, x, y => by simp only [st]; rw [st_tw [] d x y]
  | z :: l, 0, x, y => rfl
  | z :: l, d + 1, x, y => by simp only [st]; rw [st_tw l d x y]
theorem set_same {γ : Type} : ∀ {l : List γ} {i : Nat} {x : γ}, l[i]? = some x → l.set i x = l
  | [], i, x, h => by simp at h
  | y :: l, 0, x, h => by simp at h; simp [h]
  | y :: l, i + 1, x, h => by simp at h; simp [set_same (l := l) (by simpa using h)]
theorem st_no3 (l : List T) (d d2 d3 : Nat) (x y z : T) (h2 : d ≠ d2) (h3 : d ≠ d3) : st (st (st (st l d x) d2 y) d3 z) d .no = st (st (st l d2 y) d3 z) d .no := by
  rw [st_cm l d d2 _ _ h2, st_cm _ d d3 _ _ h3, st_tw]
theorem lend_A {x : List β} {u : List β → α} {i kk : Int} {dd : Option (Int × List β)} {v : Int × List α} (hx : lendP (lendC x kk dd) l i u = some v) {g : FuncId} {xs : List A} {r : Int × List β → A × List (Option Cs)} [iD : FOK F dd g xs r] [iZ : FZ F g]
    {o o2 o3 : Oper} {t e dy d d2 d3 j off z s : Nat} {ad : Operand} {c : Call} (ho : o.op = .load t ad) (hg : o.guard = none) (hd : o.dst = some d)
    (ho2 : o2.op = .move (.tmp dy)) (hg2 : o2.guard = none) (hd2 : o2.dst = some d2) (ho3 : o3.op = .call c) (hg3 : o3.guard = none) (hd3 : o3.dst = some d3) (hc : c.callee = .value (.func g)) (hca : c.args.toList = [.tmp d, .tmp d2])
    (hq : (Nat.blt d n && Nat.blt d2 n && Nat.blt d3 n && !Nat.beq d d2 && !Nat.beq d d3 && !Nat.beq d dy) = true) (hev : ev σ ad = .rp j i.toNat off) (hr : rowAt σ j = some ⟨z, l.map en, true, .d⟩) (hcell : (en a)[off]? = some (.r (x.map e2)))
    (hy : gt σ.ts dy = .c (.s (.int .i64 kk))) (he : elOf P t = some e) (hs : szOf P e = some s) (hag : aggQ P t = some false) (hsz : (szOf P t).isSome = true) (hw : ∀ b, (e2 b).length = s) (hmd : K.md g = true)
    (hxs : xs = [.c (.r (x.map e2)) (some (s, K.dp t)), .c (.s (.int .i64 kk)) none]) (hrr : ∀ p, r p = (.c (.s (.int .i64 p.1)) none, [some [(.r (p.2.map e2), some (s, K.dp t))]])) (hu : ∀ w, en (u w) = (en a).set off (.r (w.map e2)))
    (hfl : K.dp t = true ∨ ∀ w : List β, flatRow (w.map e2) = true) (hi : ix l i = some a) :
    evNest P K F n ops o [o2, o3] σ = some ⟨st (st (st σ.ts d2 (.c (.s (.int .i64 kk)))) d3 (.c (.s (.int .i64 v.1)))) d .no, σ.bx, σ.rw.set j (some ⟨z, v.2.map en, true, .d⟩) ++ [none]⟩ := by
  simp only [Bool.and_eq_true, Bool.not_eq_true', Nat.blt_eq] at hq
  obtain ⟨⟨⟨⟨⟨q1, q2⟩, q3⟩, q4⟩, q5⟩, q6⟩ := hq
  have nb : ∀ {a b : Nat}, Nat.beq a b = false → a ≠ b := fun h e => by rw [e, Nat.beq_refl] at h; cases h
  replace q4 := nb q4
  replace q5 := nb q5
  replace q6 := nb q6
  obtain ⟨hi0, hi1⟩ := map_ix (en := en) hi
  have hwide : wide s (x.map e2) = true := wide_map hw _
  have hjl : j < σ.rw.length := rowAt_lt hr
  have hflx : ∀ w : List β, (K.dp t || flatRow (w.map e2)) = true := fun w => by
    rcases hfl with h | h
    · rw [h]; rfl
    · rw [h w]; simp
  have hcell' : cellAt σ (ev σ ad) = some (j, i.toNat, off, ⟨z, l.map en, true, .d⟩, en a, x.map e2) := by
    simp only [hev, cellAt, hr, Option.bind_some, and_self, if_true, hi1, hcell]
  obtain ⟨y, hy1, hy2⟩ := Option.bind_eq_some_iff.1 hx
  obtain ⟨m', hm, rfl⟩ := Option.map_eq_some_iff.1 hy2
  obtain ⟨_, _, rfl⟩ := put_some hm
  have hset : ((l.map en).set i.toNat ((en a).set off (.r (y.2.map e2)))) = (l.set i.toNat (u y.2)).map en := by rw [List.map_set, hu]
  have hmv : ∀ (σ' : St) (w : T), evStep P K F n ops o2 ⟨st σ.ts d w, σ'.bx, σ'.rw⟩ = some ⟨st (st σ.ts d w) d2 (.c (.s (.int .i64 kk))), σ'.bx, σ'.rw⟩ := fun σ' w => by
    simp only [evStep, hd2, dstQ, decide_eq_true q2, if_true, wantedT, hg2, Option.bind_some, evOp, ho2, Option.map_some, ev, gt_st_ne _ _ _ _ q6, hy, hp, putT]
  have hcall : ∀ (σ' : St) (w : T) (z' : T) (σ'' : St), apply K F ⟨[], σ'.bx, σ'.rw⟩ (.fn g []) [w, .c (.s (.int .i64 kk))] = some (z', σ'') → evStep P K F n ops o3 ⟨st (st σ.ts d w) d2 (.c (.s (.int .i64 kk))), σ'.bx, σ'.rw⟩ = some ⟨st (st (st σ.ts d w) d2 (.c (.s (.int .i64 kk)))) d3 z', σ''.bx, σ''.rw⟩ := fun σ' w z' σ'' h => by
    simp only [evStep, hd3, dstQ, decide_eq_true q3, if_true, wantedT, hg3, Option.bind_some, evOp, ho3, hc, hca, List.map_cons, List.map_nil, ev, gt_st_eq, gt_st_ne _ _ _ _ (Ne.symm q4), hp, putT]
    rw [h]; rfl
  unfold evNest
  simp only [ho, hg, hd]
  rw [hcell']
  simp only [Option.bind_some, he, hs]
  rw [if_pos ⟨q1, hwide, hag, hsz⟩]
  have h3 : ∀ σ, evOps P K F n ops [o2, o3] σ = (evStep P K F n ops o2 σ).bind fun σ => (evStep P K F n ops o3 σ).bind some := fun σ => by
    rw [evOps_cons]; congr 1; funext σ; rw [evOps_cons]; rfl
  cases x with
  | nil =>
    simp only [lendC, Option.some.injEq] at hy1
    subst hy1
    simp only [List.map_nil, h3]
    have ha : apply K F ⟨[], σ.bx, σ.rw ++ [none]⟩ (.fn g []) [.c (.r []), .c (.s (.int .i64 kk))] = some (.c (.s (.int .i64 kk)), ⟨[], σ.bx, σ.rw ++ [none]⟩) := by
      simp only [apply, List.map_cons, List.map_nil, seen1, List.append_nil, lentOf, List.nodup_nil, if_true, lendAll, Option.bind_some, argsA, view, Option.map_some, iZ.ok kk, flatA, flatV, flatC, List.all_nil, Bool.and_self, Bool.or_true, seenRows, demotes, List.foldl_cons, List.foldl_nil, demote, ite_self, tellA, tellV, tell, takeAll]
    rw [hmv { σ with rw := σ.rw ++ [none] }]
    simp only [Option.bind_some]
    rw [hcall { σ with rw := σ.rw ++ [none] } _ _ _ ha]
    simp only [Option.bind_some, Option.map_some]
    rw [st_no3 _ _ _ _ _ _ _ q4 q5]
    have h4 : σ.rw.set j (some ⟨z, (l.set i.toNat (u [])).map en, true, .d⟩) = σ.rw := by
      rw [← hset]
      have h5 : (en a).set off (.r (List.map e2 [])) = en a := set_same hcell
      rw [h5, set_same hi1]
      have h6 : σ.rw[j]? = some (some ⟨z, l.map en, true, .d⟩) := by
        have := row_raw hr
        unfold rawAt at this
        cases h7 : σ.rw[j]? with
        | none => rw [h7] at this; simp at this
        | some q => rw [h7] at this; simp at this; rw [this]
      exact set_same h6
    rw [h4]
  | cons b x' =>
    simp only [lendC] at hy1
    have hF := iD.ok hy1
    rw [hxs, hrr] at hF
    simp only [List.map_cons]
    have hf0 := hflx (b :: x')
    simp only [List.map_cons] at hf0
    rw [if_pos hf0, h3]
    have hlen : (σ.rw.set j none).length = σ.rw.length := by simp
    have e1 : ((σ.rw.set j none ++ [some ⟨s, (b :: x').map e2, true, Dp.of (K.dp t)⟩])[σ.rw.length]?) = some (some ⟨s, (b :: x').map e2, true, Dp.of (K.dp t)⟩) := by
      rw [← hlen]; simp
    have hh : ∀ (q : Row) (b : Bool), q.dp = Dp.of b → here (some q) = some q := fun q b h => here_f (by cases b <;> simp [h, Dp.of])
    have dq : ∀ b : Bool, (Dp.of b).q = b := fun b => by cases b <;> rfl
    let R1 : List (Option Row) := σ.rw.set j none ++ [some ⟨s, (b :: x').map e2, true, Dp.of (K.dp t)⟩]
    have hrow : rowAt ⟨[], σ.bx, R1⟩ σ.rw.length = some ⟨s, (b :: x').map e2, true, Dp.of (K.dp t)⟩ := by
      simp only [rowAt, rawAt, R1, e1, Option.join_some]; exact hh _ _ rfl
    have hset1 : ∀ q : Option Row, R1.set σ.rw.length q = σ.rw.set j none ++ [q] := fun q => by
      simp only [R1]
      rw [List.set_append_right _ _ (by simp)]
      simp
    have ha : apply K F ⟨[], σ.bx, R1⟩ (.fn g []) [.row σ.rw.length, .c (.s (.int .i64 kk))] = some (.c (.s (.int .i64 y.1)), ⟨[], σ.bx, σ.rw.set j none ++ [some ⟨s, y.2.map e2, true, Dp.of (K.dp t)⟩]⟩) := by
      have hn0 : rowAt ⟨[], σ.bx, σ.rw.set j none ++ [none]⟩ σ.rw.length = none := by
        simp only [rowAt, rawAt]
        rw [← hlen]; simp [here]
      have hfC : (flatA (A.c (C.s (Value.int .i64 y.1)) none) && [some [((C.r (y.2.map e2) : C), some ((s, K.dp t) : Sz))]].all fun c => c.all (·.all flatC)) = true := by
        simp only [flatA, flatV, flatC, List.all_cons, List.all_nil, Option.all_some, Bool.and_true, Bool.true_and]
        exact hflx y.2
      simp only [List.map_cons] at hF
      simp only [apply, hmd, List.map_cons, List.map_nil, seen1, hrow, Bool.not_true, Bool.and_false, Bool.false_eq_true, if_false, List.append_nil, lentOf, if_true, List.nodup_cons, List.not_mem_nil, not_false_eq_true, List.nodup_nil, and_self, lendAll, Option.bind_some, Option.map_some, setRow, hset1, argsA, view, dq]
      rw [hF]
      simp only [Option.bind_some]
      rw [if_pos (by rw [hfC]; simp)]
      have hdm : (if K.nest g = true then demotes (⟨[], σ.bx, σ.rw.set j none ++ [none]⟩ : St) (seenRows [.row σ.rw.length, .c (.s (.int .i64 kk))]) else ⟨[], σ.bx, σ.rw.set j none ++ [none]⟩) = ⟨[], σ.bx, σ.rw.set j none ++ [none]⟩ := by
        split
        · simp only [seenRows, demotes, List.foldl_cons, List.foldl_nil, demote, hn0]
        · rfl
      rw [hdm]
      simp only [tellA, tellV, tell, takeAll, setRow, Option.map_some]
      rw [List.set_append_right _ _ (by simp)]
      simp
    rw [show (setRow σ j none).rw = σ.rw.set j none from rfl]
    have hmv' := hmv { σ with rw := R1 } (.row σ.rw.length)
    simp only [R1, List.map_cons] at hmv'
    rw [hmv']
    simp only [Option.bind_some]
    have hcl := hcall { σ with rw := R1 } _ _ _ ha
    simp only [R1, List.map_cons] at hcl
    rw [hcl]
    simp only [Option.bind_some]
    have hrow2 : rowAt ⟨st (st (st σ.ts d (.row σ.rw.length)) d2 (.c (.s (.int .i64 kk)))) d3 (.c (.s (.int .i64 y.1))), σ.bx, σ.rw.set j none ++ [some ⟨s, y.2.map e2, true, Dp.of (K.dp t)⟩]⟩ σ.rw.length = some ⟨s, y.2.map e2, true, Dp.of (K.dp t)⟩ := by
      simp only [rowAt, rawAt]
      rw [← hlen]
      simp only [List.getElem?_concat_length, Option.join_some]
      exact hh _ _ rfl
    unfold joinS
    rw [hrow2]
    simp only [Option.bind_some, dq, Bool.true_and, hflx y.2, if_true, setRow, Option.some.injEq, St.mk.injEq, true_and]
    refine ⟨st_no3 _ _ _ _ _ _ _ q4 q5, ?_⟩
    rw [List.set_append_right _ _ (by simp)]
    simp only [hlen, Nat.sub_self, List.set_cons_zero]
    rw [List.set_append_left _ _ (by simpa using hjl), List.set_set, hset]
end Go.SX
