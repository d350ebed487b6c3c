import Derived.Test.YtligkplajabcfaaSx30
set_option linter.unusedVariables false
set_option linter.unusedSimpArgs false
set_option linter.unusedSectionVars false
set_option linter.unusedVariables false
set_option linter.unusedSimpArgs false
namespace Go.SX
open Go.Nt
variable {P : Program} {K : Cfg} {F : Fun} {n : Nat} {ops : Array Oper} {ρ : Operand → T} {σ : St}

/-- a call whose answer is known -/
theorem ev_callG {o : Oper} {c : Call} {fo : Operand} {g : FuncId} {b : List Nat} {al : List T} {ls : List Lend} {cs : List Cs} {σ1 σ2 σ3 τ : St} {xs : List A} {r : A} {back : List (Option Cs)} {x : T} (hF : F g xs = some (r, back)) (ho : o.op = .call c) (hc : c.callee = .value fo) (hf : ρ fo = .fn g b)
    (ha : (c.args.toList.map ρ).map (seen1 (K.md g) σ) ++ b.map (T.bp · 0) = al) (hl : lentOf (K.md g) al = ls) (hn : ls.Nodup) (h1 : lendAll σ ls = some (cs, σ1)) (h2 : argsA (K.md g) σ1 al cs = some xs)
    (hk : (K.nest g || (flatA r && back.all fun c => c.all (·.all flatC))) = true) (h3 : (if K.nest g then demotes σ1 (seenRows al) else σ1) = σ2) (h4 : tellA σ2 r = (x, σ3)) (h5 : takeAll σ3 ls back = some τ) : evOp P K F ρ σ o = some (x, τ) := by
  obtain ⟨dst, op, type, pos, after, guard⟩ := o
  obtain ⟨callee, args, ats⟩ := c
  simp only at ho hc
  subst ho hc ha hl
  simp only [evOp, hf, apply]
  rw [if_pos hn, h1]
  simp only [Option.bind_some, h2, hF]
  rw [if_pos hk, h3, h4]
  simp only [h5, Option.map_some]
theorem flat_map {α : Type} {en : α → List C} (h : ∀ a : α, (en a).all (fun c => !rowC c) = true) (l : List α) : flatRow (l.map en) = true := by
  simp only [flatRow, List.all_map]
  exact List.all_eq_true.2 fun a _ => h a
theorem fl_eI (l : List Int) : flatRow (l.map eI) = true := flat_map (fun _ => rfl) l
theorem fl_eU (l : List Int) : flatRow (l.map eU) = true := flat_map (fun _ => rfl) l
theorem fl_eB (l : List Bool) : flatRow (l.map eB) = true := flat_map (fun _ => rfl) l
theorem fl_eS (l : List Str) : flatRow (l.map eS) = true := flat_map (fun _ => rfl) l
/-- a loop: what it comes to (E), and the rounds -/
theorem loop_rule {ls : List Lend} {b : Code} {σ : St} {Q : Ex → St → Prop} {β : Type} (id : Nat) (E : β → St) (p : β → Prop) (S : St) (hm : Mono ls Q) (hl : Le ls S σ) (hx : ∀ t, p t → Q (.exit id) (E t)) (h : ∀ V : St → Prop, (∀ σ, W P K F n b σ (Lp P K F n b Q) → V σ) → (∀ σ τ, V σ → Le ls σ τ → W P K F n (.loop b) τ Q) → (∀ t τ, p t → Le ls (E t) τ → Q (.exit id) τ) → V S) : W P K F n (.loop b) σ Q :=
  W_le hm hl (h (fun σ => W P K F n (.loop b) σ Q) (fun _ h => W_round h) (fun _ _ h hl => W_le hm hl h) (fun t τ hp hl => hm _ _ _ hl (hx t hp)))
theorem fit_ne {x : C} {o : Option Sz} {l : Cs} {s : Sz} {ss : List Sz} (ho : o ≠ some (0, false)) : fit ((x, o) :: l) (s :: ss) = (x, o) :: fit l ss := by
  cases x with
  | s v => rfl
  | r r =>
    cases r with
    | cons a r => rfl
    | nil =>
      cases o with
      | none => rfl
      | some k =>
        obtain ⟨k, d⟩ := k
        cases d with
        | true => cases k <;> rfl
        | false => cases k with
          | zero => exact absurd rfl ho
          | succ k => rfl
theorem fit_o {x : C} {k : Nat} {l : Cs} {s : Sz} {ss : List Sz} : fit ((x, some (k + 1, false)) :: l) (s :: ss) = (x, some (k + 1, false)) :: fit l ss := by
  cases x with
  | s v => rfl
  | r r => cases r <;> rfl
theorem fit_e {ss : List Sz} : fit [] ss = [] := by cases ss <;> rfl
theorem told5 {fn : Func} {ls : List Lend} {a : A} {xs : List (Option Cs)} {rs : List T} {σ1 σ2 : St} {as as' : List A} {e : Ex} (he : (match e with | .exit _ => false | _ => true) = true) (h1 : resVars P σ fn.results.toList = some rs) (h2 : resVs σ rs = some (as, σ1)) (h3 : backs σ1 ls = some (xs, σ2)) (h4 : fitAs P K as fn.resultTypes.toList = as') (h5 : outA as' = a) : Told2 P K fn ls false (a, xs) e σ := by
  refine told3 ?_
  have : finish P K fn ls σ = some (a, xs) := by
    simp only [finish, h1, h2, Option.bind_some, h3, Option.map_some, h4, h5]
  cases e with
  | exit i => simp at he
  | normal => exact this
  | ret => exact this
theorem told5w {fn : Func} {ls : List Lend} {a : A} {xs : List (Option Cs)} {rs : List T} {σ1 σ2 : St} {as as' : List A} {e : Ex} (he : (match e with | .exit _ => false | _ => true) = true) (h1 : resVars P σ fn.results.toList = some rs) (h2 : resVs σ rs = some (as, σ1)) (h3 : backs σ1 ls = some (xs, σ2)) (h4 : fitAs P K as fn.resultTypes.toList = as') (h5 : outA as' = a) {a' : A} (h6 : fgtA a = a') : Told2 P K fn ls true (a', xs) e σ := by
  subst h6
  refine ⟨(a, xs), ?_, rfl⟩
  have : finish P K fn ls σ = some (a, xs) := by
    simp only [finish, h1, h2, Option.bind_some, h3, Option.map_some, h4, h5]
  cases e with
  | exit i => simp at he
  | normal => exact this
  | ret => exact this
/-- the same, with several states behind it -/
theorem loop_ruleM {ls : List Lend} {b : Code} {σ : St} {Q : Ex → St → Prop} {β : Type} (id : Nat) (E : Nat → β → St) (p : Nat → β → Prop) (S : St) (hm : Mono ls Q) (hl : Le ls S σ) (hx : ∀ i t, p i t → Q (.exit id) (E i t)) (h : ∀ V : St → Prop, (∀ σ, W P K F n b σ (Lp P K F n b Q) → V σ) → (∀ σ τ, V σ → Le ls σ τ → W P K F n (.loop b) τ Q) → (∀ i t τ, p i t → Le ls (E i t) τ → Q (.exit id) τ) → V S) : W P K F n (.loop b) σ Q :=
  W_le hm hl (h (fun σ => W P K F n (.loop b) σ Q) (fun _ h => W_round h) (fun _ _ h hl => W_le hm hl h) (fun i t τ hp hl => hm _ _ _ hl (hx i t hp)))
end Go.SX
