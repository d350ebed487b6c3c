import Derived.Test.YtligkplajabcfaaSx33
set_option linter.unusedVariables false
set_option linter.unusedSimpArgs false
set_option linter.unusedSectionVars false
set_option linter.unusedVariables false
set_option linter.unusedSimpArgs false
namespace Go.SX
open Go.Nt
variable {P : Program} {K : Cfg} {F : Fun} {n : Nat} {ops : Array Oper} {ρ : Operand → T} {σ : St}
/-- what is known of a call -/
class FOK {α : Type} (F : Fun) (m : Option α) (f : outParam FuncId) (xs : outParam (List A)) (r : outParam (α → A × List (Option Cs))) : Prop where
  ok : ∀ {x : α}, m = some x → F f xs = some (r x)
def nodupB : List Lend → Bool
  | [] => true
  | x :: l => !l.contains x && nodupB l
instance : LawfulBEq Lend := inferInstance
theorem nodupB_ok : ∀ {l : List Lend}, nodupB l = true → l.Nodup
  | [], _ => .nil
  | x :: l, h => by
    simp only [nodupB, Bool.and_eq_true, Bool.not_eq_true', List.contains_eq_mem, decide_eq_false_iff_not] at h
    exact List.nodup_cons.2 ⟨h.1, nodupB_ok h.2⟩
theorem seen1_f (σ : St) : (l : List T) → l.map (seen1 false σ) = l
  | [] => rfl
  | x :: l => by
    rw [List.map_cons, seen1_f σ l]
    cases x <;> simp only [seen1, Bool.false_and, Bool.false_eq_true, if_false]
    split <;> rfl
theorem cgF0 {α : Type} {m : Option α} {v : α} {o : Oper} {c : Call} {fo : Operand} {g : FuncId} {b : List Nat} {al : List T} {ls : List Lend} {cs : List Cs} {σ1 τ : St} {xs : List A} {r : α → A × List (Option Cs)} (hm : m = some v) [i : FOK F m g xs r] (ho : o.op = .call c) (hc : c.callee = .value fo) (hf : ρ fo = .fn g b) (hnest : K.nest g = false) (hmd : K.md g = false)
    (ha : (c.args.toList.map ρ) ++ b.map (T.bp · 0) = al) (hl : lentOf false al = ls) (hn : nodupB ls = true) (h1 : lendAll σ ls = some (cs, σ1)) (h2 : argsA false σ1 al cs = some xs)
    (hk : (flatA (r v).1 && (r v).2.all fun c => c.all (·.all flatC)) = true) (h5 : takeAll (tellA σ1 (r v).1).2 ls (r v).2 = some τ) : evOp P K F ρ σ o = some ((tellA σ1 (r v).1).1, τ) :=
  ev_callG (al := al) (i.ok hm) ho hc hf (by rw [hmd, seen1_f]; exact ha) (by rw [hmd]; exact hl) (nodupB_ok hn) h1 (by rw [hmd]; exact h2) (by rw [hnest]; exact hk) (if_neg (by rw [hnest]; simp)) rfl h5
theorem cgF1 {α : Type} {m : Option α} {v : α} {o : Oper} {c : Call} {fo : Operand} {g : FuncId} {b : List Nat} {al : List T} {ls : List Lend} {cs : List Cs} {σ1 τ : St} {xs : List A} {r : α → A × List (Option Cs)} (hm : m = some v) [i : FOK F m g xs r] (ho : o.op = .call c) (hc : c.callee = .value fo) (hf : ρ fo = .fn g b) (hnest : K.nest g = true) (hmd : K.md g = false)
    (ha : (c.args.toList.map ρ) ++ b.map (T.bp · 0) = al) (hl : lentOf false al = ls) (hn : nodupB ls = true) (h1 : lendAll σ ls = some (cs, σ1)) (h2 : argsA false σ1 al cs = some xs)
    (h5 : takeAll (tellA (demotes σ1 (seenRows al)) (r v).1).2 ls (r v).2 = some τ) : evOp P K F ρ σ o = some ((tellA (demotes σ1 (seenRows al)) (r v).1).1, τ) :=
  ev_callG (al := al) (i.ok hm) ho hc hf (by rw [hmd, seen1_f]; exact ha) (by rw [hmd]; exact hl) (nodupB_ok hn) h1 (by rw [hmd]; exact h2) (by rw [hnest]; rfl) (if_pos hnest) rfl h5
theorem cgT0 {α : Type} {m : Option α} {v : α} {o : Oper} {c : Call} {fo : Operand} {g : FuncId} {b : List Nat} {al : List T} {ls : List Lend} {cs : List Cs} {σ1 τ : St} {xs : List A} {r : α → A × List (Option Cs)} (hm : m = some v) [i : FOK F m g xs r] (ho : o.op = .call c) (hc : c.callee = .value fo) (hf : ρ fo = .fn g b) (hnest : K.nest g = false) (hmd : K.md g = true)
    (ha : (c.args.toList.map ρ).map (seen1 true σ) ++ b.map (T.bp · 0) = al) (hl : lentOf true al = ls) (hn : nodupB ls = true) (h1 : lendAll σ ls = some (cs, σ1)) (h2 : argsA true σ1 al cs = some xs)
    (hk : (flatA (r v).1 && (r v).2.all fun c => c.all (·.all flatC)) = true) (h5 : takeAll (tellA σ1 (r v).1).2 ls (r v).2 = some τ) : evOp P K F ρ σ o = some ((tellA σ1 (r v).1).1, τ) :=
  ev_callG (al := al) (i.ok hm) ho hc hf (by rw [hmd]; exact ha) (by rw [hmd]; exact hl) (nodupB_ok hn) h1 (by rw [hmd]; exact h2) (by rw [hnest]; exact hk) (if_neg (by rw [hnest]; simp)) rfl h5
theorem cgT1 {α : Type} {m : Option α} {v : α} {o : Oper} {c : Call} {fo : Operand} {g : FuncId} {b : List Nat} {al : List T} {ls : List Lend} {cs : List Cs} {σ1 τ : St} {xs : List A} {r : α → A × List (Option Cs)} (hm : m = some v) [i : FOK F m g xs r] (ho : o.op = .call c) (hc : c.callee = .value fo) (hf : ρ fo = .fn g b) (hnest : K.nest g = true) (hmd : K.md g = true)
    (ha : (c.args.toList.map ρ).map (seen1 true σ) ++ b.map (T.bp · 0) = al) (hl : lentOf true al = ls) (hn : nodupB ls = true) (h1 : lendAll σ ls = some (cs, σ1)) (h2 : argsA true σ1 al cs = some xs)
    (h5 : takeAll (tellA (demotes σ1 (seenRows al)) (r v).1).2 ls (r v).2 = some τ) : evOp P K F ρ σ o = some ((tellA (demotes σ1 (seenRows al)) (r v).1).1, τ) :=
  ev_callG (al := al) (i.ok hm) ho hc hf (by rw [hmd]; exact ha) (by rw [hmd]; exact hl) (nodupB_ok hn) h1 (by rw [hmd]; exact h2) (by rw [hnest]; rfl) (if_pos hnest) rfl h5
end Go.SX
namespace Go.SX
open Go.Nt
variable {P : Program} {K : Cfg} {F : Fun} {n : Nat} {ops : Array Oper} {ρ : Operand → T} {σ : St} {b : Code} {Q : Ex → St → Prop} {i j : Nat}
theorem Seq_n (h : W P K F n b σ Q) : Seq P K F n b Q .normal σ := h
theorem Seq_x (h : Q (.exit i) σ) : Seq P K F n b Q (.exit i) σ := h
theorem Seq_r (h : Q .ret σ) : Seq P K F n b Q .ret σ := h
theorem Blk_n (h : Q .normal σ) : Blk i Q .normal σ := h
theorem Blk_r (h : Q .ret σ) : Blk i Q .ret σ := h
theorem Blk_x (h : Q .normal σ) : Blk i Q (.exit i) σ := by simp only [Blk, if_true]; exact h
theorem Blk_y (hi : Nat.beq j i = false) (h : Q (.exit j) σ) : Blk i Q (.exit j) σ := by
  have : ¬ j = i := fun e => by subst e; simp at hi
  simp only [Blk, if_neg this]; exact h
theorem Lp_x (h : Q (.exit i) σ) : Lp P K F n b Q (.exit i) σ := h
theorem Lp_r (h : Q .ret σ) : Lp P K F n b Q .ret σ := h
end Go.SX
namespace Go.SX
open Go.Nt
variable {P : Program} {K : Cfg} {F : Fun} {n : Nat} {ops : Array Oper} {ρ : Operand → T} {σ : St} {b : Code} {i j : Nat}
theorem W_ite {β : Type} {A B : Option β} {r : β} {x : Operand} {a b : Code} {Q : Ex → St → Prop} {t : Bool} (hx : ev σ x = .c (.s (.bool t))) (H : (if t = true then A else B) = some r) (h1 : t = true → A = some r → W P K F n a σ Q) (h2 : t = false → B = some r → W P K F n b σ Q) : W P K F n (.cond x a b) σ Q :=
  W_cond hx (fun hc => h1 hc (tr hc H)) (fun hc => h2 hc (fl hc H))
theorem WO_ite {β : Type} {A B : Option β} {r : β} {o : Oper} {l : List Oper} {σ : St} {Q : St → Prop} {j : Nat} {want t : Bool} {d : Tmp} (hg : o.guard = some (j, want)) (hd : (ops[j]?).bind (·.dst) = some d) (hs : gt σ.ts d = .c (.s (.bool t))) (H : (if t = true then A else B) = some r) (h1 : t = true → A = some r → WO P K F n ops (o :: l) ⟨st σ.ts d (.c (.s (.bool true))), σ.bx, σ.rw⟩ Q) (h2 : t = false → B = some r → WO P K F n ops (o :: l) ⟨st σ.ts d (.c (.s (.bool false))), σ.bx, σ.rw⟩ Q) : WO P K F n ops (o :: l) σ Q :=
  WO_if hg hd hs (fun hc => h1 hc (tr hc H)) (fun hc => h2 hc (fl hc H))
end Go.SX
namespace Go.SX
open Go.Nt
variable {P : Program} {K : Cfg} {F : Fun} {n : Nat} {ops : Array Oper} {ρ : Operand → T} {σ : St} {b : Code} {i j : Nat}
theorem WL_ite {β : Type} {A B : Option β} {r : β} {o : Oper} {l : List Oper} {σ : St} {g : List Entry} {Q : St → Prop} {j : Nat} {want t : Bool} {d : Tmp} (hg : o.guard = some (j, want)) (hd : (ops[j]?).bind (·.dst) = some d) (hs : gt σ.ts d = .c (.s (.bool t))) (H : (if t = true then A else B) = some r) (h1 : t = true → A = some r → WL P K F n ops (o :: l) ⟨st σ.ts d (.c (.s (.bool true))), σ.bx, σ.rw⟩ g Q) (h2 : t = false → B = some r → WL P K F n ops (o :: l) ⟨st σ.ts d (.c (.s (.bool false))), σ.bx, σ.rw⟩ g Q) : WL P K F n ops (o :: l) σ g Q :=
  WL_if hg hd hs (fun hc => h1 hc (tr hc H)) (fun hc => h2 hc (fl hc H))
end Go.SX
