import Derived.Test.YtligkplajabcfaaSx15
set_option linter.unusedVariables false
set_option linter.unusedSimpArgs false
set_option linter.unusedSectionVars false
namespace Go.SX
variable {P : Program} {K : Cfg} {σ : St}

/-- a function's answers, later ones the better -/
structure Rise (F : Nat → Fun) (G : Fun) : Prop where
  up : ∀ f xs r, G f xs = some r → ∃ j, ∀ j', j ≤ j' → F j' f xs = some r
theorem apply_rise {F : Nat → Fun} {G : Fun} (hR : Rise F G) {x : T} {args : List T} {r : T × St} (h : apply K G σ x args = some r) : ∃ j, ∀ j', j ≤ j' → apply K (F j') σ x args = some r := by
  cases x <;> simp only [apply, reduceCtorEq] at h
  rename_i g bs
  simp only [apply]
  split at h
  · rename_i hnd
    simp only [Option.bind_eq_some_iff] at h
    obtain ⟨p, h1, xs, h2, q, h3, h4⟩ := h
    obtain ⟨j, hj⟩ := hR.up _ _ _ h3
    refine ⟨j, fun j' hj' => ?_⟩
    rw [if_pos hnd]
    simp only [Option.bind_eq_some_iff]
    exact ⟨p, h1, xs, h2, q, hj j' hj', h4⟩
  · simp at h
theorem evOp_rise {F : Nat → Fun} {G : Fun} (hR : Rise F G) {ρ : Operand → T} {o : Oper} {r : T × St} (h : evOp P K G ρ σ o = some r) : ∃ j, ∀ j', j ≤ j' → evOp P K (F j') ρ σ o = some r := by
  obtain ⟨dst, op, type, pos, after, guard⟩ := o
  cases op
  case call c =>
    obtain ⟨callee, args, ats⟩ := c
    cases callee
    case value f => exact apply_rise hR h
    case builtin b => cases b <;> exact ⟨0, fun _ _ => h⟩
    case invoke => exact ⟨0, fun _ _ => h⟩
  case makeFunc fn first cap => cases fn <;> exact ⟨0, fun _ _ => h⟩
  all_goals exact ⟨0, fun _ _ => h⟩
theorem evStep_rise {F : Nat → Fun} {G : Fun} (hR : Rise F G) {n : Nat} {ops : Array Oper} {o : Oper} {r : St} (h : evStep P K G n ops o σ = some r) : ∃ j, ∀ j', j ≤ j' → evStep P K (F j') n ops o σ = some r := by
  unfold evStep at h ⊢
  split at h
  · rename_i hq
    simp only [Option.bind_eq_some_iff] at h
    obtain ⟨b, hb, h⟩ := h
    cases b with
    | true =>
      simp only [Option.map_eq_some_iff] at h
      obtain ⟨p, h1, h2⟩ := h
      obtain ⟨j, hj⟩ := evOp_rise hR h1
      exact ⟨j, fun j' hj' => by rw [if_pos hq, hb]; simp only [Option.bind_some, hj j' hj', Option.map_some, h2]⟩
    | false => exact ⟨0, fun _ _ => by rw [if_pos hq, hb]; exact h⟩
  · simp at h
theorem evOps_rise {F : Nat → Fun} {G : Fun} (hR : Rise F G) {n : Nat} {ops : Array Oper} : ∀ (l : List Oper) {σ r : St}, evOps P K G n ops l σ = some r → ∃ j, ∀ j', j ≤ j' → evOps P K (F j') n ops l σ = some r
  | [], σ, r, h => ⟨0, fun _ _ => h⟩
  | o :: l, σ, r, h => by
    rw [evOps_cons] at h
    obtain ⟨σ1, h1, h2⟩ := Option.bind_eq_some_iff.1 h
    obtain ⟨j1, h3⟩ := evStep_rise hR h1
    obtain ⟨j2, h4⟩ := evOps_rise hR l h2
    exact ⟨max j1 j2, fun j' hj' => by rw [evOps_cons, h3 j' (by omega)]; exact h4 j' (by omega)⟩
theorem evNest_load {F : Fun} {n : Nat} {ops : Array Oper} {o : Oper} {m : List Oper} {σ : St} {r} (h : evNest P K F n ops o m σ = some r) : ∃ t x d, o.op = .load t x ∧ o.guard = none ∧ o.dst = some d ∧ ∃ p, cellAt σ (ev σ x) = some p := by
  unfold evNest at h
  split at h
  · rename_i t x d h1 h2 h3
    obtain ⟨p, hp, _⟩ := Option.bind_eq_some_iff.1 h
    exact ⟨t, x, d, h1, h2, h3, p, hp⟩
  · simp at h
theorem nest_stuck {F : Fun} {n : Nat} {ops : Array Oper} {o : Oper} {t : TypeId} {x : Operand} {σ : St} {p} (ho : o.op = .load t x) (hg : o.guard = none) (h : cellAt σ (ev σ x) = some p) : evOps P K F n ops [o] σ = none := by
  have h1 : cells (hp σ) (ev σ x) = none := by
    unfold cellAt at h
    split at h
    · rename_i j i c he
      obtain ⟨q, hq, h⟩ := Option.bind_eq_some_iff.1 h
      split at h
      · rename_i hc
        have : rowAt (hp σ) j = some q := hq
        simp only [he, cells, this, Option.bind_some, hc.2, Dp.q, if_true]
      · simp at h
    · simp at h
  simp only [evOps, evOp, ho, opLoad, h1, wantedT, hg, Option.bind_some, Option.bind_none]
  split <;> rfl
theorem evNest_rise {F : Nat → Fun} {G : Fun} (hR : Rise F G) {n : Nat} {ops : Array Oper} {o : Oper} {m : List Oper} {σ r : St} (h : evNest P K G n ops o m σ = some r) : ∃ j, ∀ j', j ≤ j' → evNest P K (F j') n ops o m σ = some r := by
  unfold evNest at h ⊢
  split at h
  · simp only [Option.bind_eq_some_iff] at h
    obtain ⟨⟨j, i, c, q, el, x⟩, h1, s, h2, h⟩ := h
    simp only at h
    split at h
    · rename_i hc
      cases x with
      | nil =>
        simp only at h
        obtain ⟨τ, h3, h4⟩ := Option.map_eq_some_iff.1 h
        obtain ⟨j1, hj⟩ := evOps_rise hR _ h3
        refine ⟨j1, fun j' hj' => ?_⟩
        simp only [h1, Option.bind_eq_some_iff.2 h2, Option.bind_some, if_pos hc, hj j' hj', Option.map_some, h4]
      | cons e0 x1 =>
        simp only at h
        split at h
        · rename_i hf
          obtain ⟨τ, h3, h4⟩ := Option.bind_eq_some_iff.1 h
          obtain ⟨j1, hj⟩ := evOps_rise hR _ h3
          refine ⟨j1, fun j' hj' => ?_⟩
          simp only [h1, Option.bind_eq_some_iff.2 h2, Option.bind_some, if_pos hc, if_pos hf, hj j' hj', h4]
        · simp at h
    · simp at h
  · simp at h
theorem evSeq_rise {F : Nat → Fun} {G : Fun} (hR : Rise F G) {n : Nat} {ops : Array Oper} : ∀ (l : List Oper) {σ r : St}, evSeq P K G n ops l σ = some r → ∃ j, ∀ j', j ≤ j' → evSeq P K (F j') n ops l σ = some r
  | [], σ, r, h => ⟨0, fun _ _ => h⟩
  | o :: l, σ, r, h => by
    rw [evSeq] at h
    split at h
    · rename_i τ h1
      obtain ⟨j1, h3⟩ := evOps_rise hR _ h1
      obtain ⟨j2, h4⟩ := evSeq_rise hR l h
      exact ⟨max j1 j2, fun j' hj' => by rw [evSeq, h3 j' (by omega)]; exact h4 j' (by omega)⟩
    · rename_i hn
      obtain ⟨σ1, h1, h2⟩ := Option.bind_eq_some_iff.1 h
      obtain ⟨t, x, d, ho, hg, hd, p, hp⟩ := evNest_load h1
      obtain ⟨j1, h3⟩ := evNest_rise hR h1
      obtain ⟨j2, h4⟩ := evOps_rise hR _ h2
      exact ⟨max j1 j2, fun j' hj' => by rw [evSeq, nest_stuck ho hg hp]; simp only [h3 j' (by omega), Option.bind_some]; exact h4 j' (by omega)⟩
theorem evLog_cons (F : Fun) (n : Nat) (ops : Array Oper) (o : Oper) (l : List Oper) (σ : St) (g) : evLog P K F n ops (o :: l) σ g = (wantedT ops σ o).bind fun b => (evStep P K F n ops o σ).bind fun τ => evLog P K F n ops l τ (g ++ [if b then entry σ o else none]) := by
  unfold evStep
  simp only [evLog]
  split
  · cases wantedT ops σ o with
    | none => rfl
    | some b => cases b with
      | true => simp only [Option.bind_some]; cases evOp P K F (ev σ) (hp σ) o <;> rfl
      | false => rfl
  · cases wantedT ops σ o <;> rfl
theorem evLog_rise {F : Nat → Fun} {G : Fun} (hR : Rise F G) {n : Nat} {ops : Array Oper} : ∀ (l : List Oper) {σ : St} {g} {r}, evLog P K G n ops l σ g = some r → ∃ j, ∀ j', j ≤ j' → evLog P K (F j') n ops l σ g = some r
  | [], σ, g, r, h => ⟨0, fun _ _ => h⟩
  | o :: l, σ, g, r, h => by
    rw [evLog_cons] at h
    obtain ⟨b, hb, h⟩ := Option.bind_eq_some_iff.1 h
    obtain ⟨σ1, h1, h2⟩ := Option.bind_eq_some_iff.1 h
    obtain ⟨j1, h3⟩ := evStep_rise hR h1
    obtain ⟨j2, h4⟩ := evLog_rise hR l h2
    exact ⟨max j1 j2, fun j' hj' => by rw [evLog_cons, hb]; simp only [Option.bind_some, h3 j' (by omega)]; exact h4 j' (by omega)⟩
theorem evDraw0_rise {F : Nat → Fun} {G : Fun} (hR : Rise F G) {n : Nat} {ops : Array Oper} {σ r : St} (h : evDraw0 P K G n ops σ = some r) : ∃ j, ∀ j', j ≤ j' → evDraw0 P K (F j') n ops σ = some r := by
  unfold evDraw0 at h ⊢
  split at h
  · rename_i hd
    split at h
    · rename_i hu
      obtain ⟨j, hj⟩ := evOps_rise hR _ h
      exact ⟨j, fun j' hj' => by rw [if_pos hd, if_pos hu]; exact hj j' hj'⟩
    · rename_i hu
      obtain ⟨p, h1, h2⟩ := Option.bind_eq_some_iff.1 h
      obtain ⟨j, hj⟩ := evLog_rise hR _ h1
      exact ⟨j, fun j' hj' => by rw [if_pos hd, if_neg hu, hj j' hj']; exact h2⟩
  · simp at h
theorem evDraw_rise {F : Nat → Fun} {G : Fun} (hR : Rise F G) {n : Nat} {ops : Array Oper} {σ r : St} (h : evDraw P K G n ops σ = some r) : ∃ j, ∀ j', j ≤ j' → evDraw P K (F j') n ops σ = some r := by
  unfold evDraw at h ⊢
  split at h
  · rename_i hl
    obtain ⟨j, hj⟩ := evDraw0_rise hR h
    exact ⟨j, fun j' hj' => by rw [if_pos hl]; exact hj j' hj'⟩
  · rename_i hl
    split at h
    · rename_i hl2
      obtain ⟨j, hj⟩ := evDraw0_rise hR h
      exact ⟨j, fun j' hj' => by rw [if_neg hl, if_pos hl2]; exact hj j' hj'⟩
    · rename_i hl2
      obtain ⟨j, hj⟩ := evDraw0_rise hR h
      exact ⟨j, fun j' hj' => by rw [if_neg hl, if_neg hl2]; exact hj j' hj'⟩
theorem evC_rise {F : Nat → Fun} {G : Fun} (hR : Rise F G) {n : Nat} : ∀ (k : Nat) (c : Code) {σ : St} {r}, evC P K G n k c σ = some r → ∃ j, ∀ j', j ≤ j' → evC P K (F j') n k c σ = some r
  | 0, _, _, _, h => by simp [evC] at h
  | k + 1, c, σ, r, h => by
    cases c <;> simp only [evC, reduceCtorEq] at h ⊢
    case skip => exact ⟨0, fun _ _ => h⟩
    case exit => exact ⟨0, fun _ _ => h⟩
    case ret => exact ⟨0, fun _ _ => h⟩
    case region id ops d =>
      simp only [Option.map_eq_some_iff] at h
      obtain ⟨σ1, h, rfl⟩ := h
      cases d with
      | true => obtain ⟨j, hj⟩ := evDraw_rise hR h; exact ⟨j, fun j' hj' => by simp only [if_true, hj j' hj']; rfl⟩
      | false => obtain ⟨j, hj⟩ := evSeq_rise hR _ h; exact ⟨j, fun j' hj' => by simp only [Bool.false_eq_true, if_false, hj j' hj']; rfl⟩
    case seq x y =>
      obtain ⟨q, h1, h2⟩ := Option.bind_eq_some_iff.1 h
      obtain ⟨j1, h3⟩ := evC_rise hR k x h1
      obtain ⟨e, σ1⟩ := q
      cases e with
      | normal =>
        obtain ⟨j2, h4⟩ := evC_rise hR k y h2
        exact ⟨max j1 j2, fun j' hj' => by rw [h3 j' (by omega)]; exact h4 j' (by omega)⟩
      | exit i => exact ⟨j1, fun j' hj' => by rw [h3 j' hj']; exact h2⟩
      | ret => exact ⟨j1, fun j' hj' => by rw [h3 j' hj']; exact h2⟩
    case cond x y z =>
      split at h
      · cases ‹Bool› with
        | true => exact evC_rise hR k y h
        | false => exact evC_rise hR k z h
      · simp at h
    case block id b =>
      simp only [Option.map_eq_some_iff] at h
      obtain ⟨q, h1, h2⟩ := h
      obtain ⟨j1, h3⟩ := evC_rise hR k b h1
      exact ⟨j1, fun j' hj' => by rw [h3 j' hj']; exact congrArg some h2⟩
    case loop b =>
      obtain ⟨q, h1, h2⟩ := Option.bind_eq_some_iff.1 h
      obtain ⟨j1, h3⟩ := evC_rise hR k b h1
      obtain ⟨e, σ1⟩ := q
      cases e with
      | normal =>
        obtain ⟨j2, h4⟩ := evC_rise hR k (.loop b) h2
        exact ⟨max j1 j2, fun j' hj' => by rw [h3 j' (by omega)]; exact h4 j' (by omega)⟩
      | exit i => exact ⟨j1, fun j' hj' => by rw [h3 j' hj']; exact h2⟩
      | ret => exact ⟨j1, fun j' hj' => by rw [h3 j' hj']; exact h2⟩

/-! more fuel -/
theorem evC_mono {F : Fun} {n : Nat} : ∀ k c σ r, evC P K F n k c σ = some r → evC P K F n (k + 1) c σ = some r := by
  intro k
  induction k with
  | zero => intro c σ r h; simp [evC] at h
  | succ k ih =>
    intro c σ r h
    cases c with
    | seq a b =>
      rw [evC] at h ⊢
      obtain ⟨⟨e, s⟩, ha, h⟩ := Option.bind_eq_some_iff.1 h
      rw [ih _ _ _ ha]
      cases e with
      | normal => exact ih _ _ _ h
      | exit i => exact h
      | ret => exact h
    | cond x a b =>
      rw [evC] at h ⊢
      split at h
      · split at h
        · rename_i h1; rw [if_pos h1]; exact ih _ _ _ h
        · rename_i h1; rw [if_neg h1]; exact ih _ _ _ h
      · simp at h
    | block id b =>
      rw [evC] at h ⊢
      obtain ⟨q, ha, h⟩ := Option.map_eq_some_iff.1 h
      rw [ih _ _ _ ha]; exact congrArg some h
    | loop b =>
      rw [evC] at h ⊢
      obtain ⟨⟨e, s⟩, ha, h⟩ := Option.bind_eq_some_iff.1 h
      rw [ih _ _ _ ha]
      cases e with
      | normal => exact ih _ _ _ h
      | exit i => exact h
      | ret => exact h
    | _ => exact h
theorem evC_le {F : Fun} {n k k' : Nat} (hk : k ≤ k') {c σ r} (h : evC P K F n k c σ = some r) : evC P K F n k' c σ = some r := by
  induction hk with
  | refl => exact h
  | step _ ih => exact evC_mono _ _ _ _ ih
section
variable (P) (K : FuncId → Cfg) (okf : FuncId → Bool) (pr : FuncId → Option (List A → Option (A × List (Option Cs))))
theorem evF_succ (k : Nat) (f : FuncId) (xs : List A) (r) (h : evF P K okf pr k f xs = some r) : evF P K okf pr (k + 1) f xs = some r := by
  induction k generalizing f xs r with
  | zero => simp [evF] at h
  | succ k ih =>
    rw [evF] at h ⊢
    cases hp : pr f with
    | some g => simp only [hp] at h ⊢; exact h
    | none =>
      simp only [hp] at h ⊢
      split at h
      · rename_i hof
        rw [if_pos hof]
        obtain ⟨fn, hfn, h⟩ := Option.bind_eq_some_iff.1 h
        obtain ⟨body, hb, h⟩ := Option.bind_eq_some_iff.1 h
        split at h
        · rename_i hc
          obtain ⟨r0, h, h3⟩ := Option.map_eq_some_iff.1 h
          obtain ⟨q, h1, h2⟩ := Option.bind_eq_some_iff.1 h
          have hR : Rise (fun _ => evF P K okf pr (k + 1)) (evF P K okf pr k) := ⟨fun f xs r h => ⟨0, fun _ _ => ih f xs r h⟩⟩
          obtain ⟨j, hj⟩ := evC_rise hR k body h1
          simp only [hfn, Option.bind_some, hb]
          rw [if_pos hc, evC_mono _ _ _ _ (hj j (Nat.le_refl _)), Option.bind_some, h2, Option.map_some, h3]
        · simp at h
      · simp at h
theorem evF_le {k k' : Nat} (hk : k ≤ k') {f : FuncId} {xs : List A} {r} (h : evF P K okf pr k f xs = some r) : evF P K okf pr k' f xs = some r := by
  induction hk with
  | refl => exact h
  | step _ ih => exact evF_succ P K okf pr _ _ _ _ ih
open Classical in
/-- what a function answers -/
noncomputable def Fz : Fun := fun f xs => if h : ∃ r k, evF P K okf pr k f xs = some r then some h.choose else none
theorem Fz_of {k : Nat} {f : FuncId} {xs : List A} {r} (h : evF P K okf pr k f xs = some r) : Fz P K okf pr f xs = some r := by
  have he : ∃ r k, evF P K okf pr k f xs = some r := ⟨r, k, h⟩
  unfold Fz
  rw [dif_pos he]
  obtain ⟨k', h'⟩ := he.choose_spec
  have h1 := evF_le P K okf pr (Nat.le_max_left k k') h
  have h2 := evF_le P K okf pr (Nat.le_max_right k k') h'
  rw [h1] at h2
  exact h2.symm
theorem Fz_ex {f : FuncId} {xs : List A} {r} (h : Fz P K okf pr f xs = some r) : ∃ k, evF P K okf pr k f xs = some r := by
  unfold Fz at h
  split at h
  · rename_i he
    obtain ⟨k, hk⟩ := he.choose_spec
    simp only [Option.some.injEq] at h
    exact ⟨k, h ▸ hk⟩
  · simp at h
theorem Fz_rise : Rise (evF P K okf pr) (Fz P K okf pr) := ⟨fun f xs r h => by
  obtain ⟨k, hk⟩ := Fz_ex P K okf pr h
  exact ⟨k, fun j' hj' => evF_le P K okf pr hj' hk⟩⟩
theorem Fz_ok (hpr : ∀ f g, pr f = some g → FOk P f g) (hdr : ∀ F f, (∀ g, FOk P g (F g)) → DrawOk P (K f) F) (f : FuncId) : FOk P f (Fz P K okf pr f) := fun xs r back h => by
  obtain ⟨k, hk⟩ := Fz_ex P K okf pr h
  exact evF_ok P K okf pr hpr hdr k f xs r back hk
end

/-! how code goes, whatever the fuel -/
def W (P : Program) (K : Cfg) (F : Fun) (n : Nat) (c : Code) (σ : St) (Q : Ex → St → Prop) : Prop := ∃ k e σ', evC P K F n k c σ = some (e, σ') ∧ Q e σ'
def WO (P : Program) (K : Cfg) (F : Fun) (n : Nat) (ops : Array Oper) (l : List Oper) (σ : St) (Q : St → Prop) : Prop := ∃ σ', evOps P K F n ops l σ = some σ' ∧ Q σ'
def WL (P : Program) (K : Cfg) (F : Fun) (n : Nat) (ops : Array Oper) (l : List Oper) (σ : St) (g : List Entry) (Q : St → Prop) : Prop := ∃ g' σ', evLog P K F n ops l σ g = some (g', σ') ∧ (unord ops).all (apartQ ops g') = true ∧ Q σ'
variable {F : Fun} {n : Nat}
def Seq (P : Program) (K : Cfg) (F : Fun) (n : Nat) (b : Code) (Q : Ex → St → Prop) : Ex → St → Prop
  | .normal, σ => W P K F n b σ Q
  | e, σ => Q e σ
def Blk (id : Nat) (Q : Ex → St → Prop) : Ex → St → Prop
  | .exit i, σ => if i = id then Q .normal σ else Q (.exit i) σ
  | e, σ => Q e σ
theorem W_seq {a b σ Q} (h : W P K F n a σ (Seq P K F n b Q)) : W P K F n (.seq a b) σ Q := by
  obtain ⟨k, e, σ', h, q⟩ := h
  cases e with
  | normal =>
    obtain ⟨k2, e2, σ2, h2, q2⟩ := q
    refine ⟨max k k2 + 1, e2, σ2, ?_, q2⟩
    rw [evC, evC_le (Nat.le_max_left _ _) h]
    exact evC_le (Nat.le_max_right _ _) h2
  | exit i => exact ⟨k + 1, _, _, by rw [evC, h]; rfl, q⟩
  | ret => exact ⟨k + 1, _, _, by rw [evC, h]; rfl, q⟩
theorem W_skip {σ Q} (h : Q .normal σ) : W P K F n .skip σ Q := ⟨1, _, _, rfl, h⟩
theorem W_ret {σ Q} (h : Q .ret σ) : W P K F n .ret σ Q := ⟨1, _, _, rfl, h⟩
theorem W_exit {i σ Q} (h : Q (.exit i) σ) : W P K F n (.exit i) σ Q := ⟨1, _, _, rfl, h⟩
theorem W_region {i ops σ Q} (h : WO P K F n ops ops.toList σ (Q .normal)) : W P K F n (.region i ops false) σ Q := by
  obtain ⟨s, h, q⟩ := h
  exact ⟨1, _, _, by rw [evC]; simp only [Bool.false_eq_true, if_false, evSeq_of _ h]; rfl, q⟩
theorem evSeq_app {ops : Array Oper} : ∀ (l m : List Oper) {σ τ : St}, evOps P K F n ops l σ = some τ → evSeq P K F n ops (l ++ m) σ = evSeq P K F n ops m τ
  | [], m, σ, τ, h => by simp only [evOps, Option.some.injEq] at h; subst h; rfl
  | o :: l, m, σ, τ, h => by
    rw [evOps_cons] at h
    obtain ⟨σ1, h1, h2⟩ := Option.bind_eq_some_iff.1 h
    show evSeq P K F n ops (o :: (l ++ m)) σ = _
    rw [evSeq, evOps_cons, h1]
    exact evSeq_app l m h2
theorem W_lend {i ops σ Q} (k : Nat) {o : Oper} {l : List Oper} (hl : ops.toList.drop k = o :: l) (h : WO P K F n ops (ops.toList.take k) σ fun τ => ∃ τ', evNest P K F n ops o (l.take (lendN l)) τ = some τ' ∧ WO P K F n ops (l.drop (lendN l)) τ' (Q .normal)) : W P K F n (.region i ops false) σ Q := by
  obtain ⟨τ, h1, τ', h2, s, h3, q⟩ := h
  obtain ⟨t, x, d, ho, hg, hd, p, hp⟩ := evNest_load h2
  refine ⟨1, _, _, ?_, q⟩
  rw [evC]
  have h4 : evSeq P K F n ops ops.toList σ = some s := by
    rw [← List.take_append_drop k ops.toList, evSeq_app _ _ h1, hl, evSeq, nest_stuck ho hg hp]
    simp only [h2, Option.bind_some, h3]
  simp only [Bool.false_eq_true, if_false, h4]; rfl
theorem notLate {P : Program} {K : Cfg} {n : Nat} {ops : Array Oper} (hd : drawQ ops = true) : ¬ lateOk P K n ops = true := by simp [lateOk, hd]
theorem notHoist {P : Program} {K : Cfg} {n : Nat} {ops : Array Oper} (hd : drawQ ops = true) : ¬ hoistOk P K n ops = true := by simp [hoistOk, hd]
theorem W_draw {i ops σ Q} (hd : drawQ ops = true) (hu : unord ops = []) (h : WO P K F n ops ops.toList σ (Q .normal)) : W P K F n (.region i ops true) σ Q := by
  obtain ⟨s, h, q⟩ := h
  exact ⟨1, _, _, by rw [evC]; simp only [if_true, evDraw, if_neg (notLate hd), if_neg (notHoist hd), evDraw0, hd, hu, h]; rfl, q⟩
theorem W_drawL {i ops σ Q} (hd : drawQ ops = true) (hu : unord ops ≠ []) (h : WL P K F n ops ops.toList σ [] (Q .normal)) : W P K F n (.region i ops true) σ Q := by
  obtain ⟨g, s, h, ha, q⟩ := h
  exact ⟨1, _, _, by rw [evC]; simp only [if_true, evDraw, if_neg (notLate hd), if_neg (notHoist hd), evDraw0, hd, if_neg hu, h, Option.bind_some, ha]; rfl, q⟩
theorem late_get (ops : Array Oper) (j : Nat) : (late ops)[j]? = (ops[j]?).map (lateOp ops j) := by simp [late]
theorem lateOp_eq (ops : Array Oper) (j : Nat) (o : Oper) : (lateOp ops j o).op = o.op ∧ (lateOp ops j o).dst = o.dst ∧ (lateOp ops j o).guard = o.guard ∧ (lateOp ops j o).type = o.type := by unfold lateOp; split <;> exact ⟨rfl, rfl, rfl, rfl⟩
theorem wanted_late (ops : Array Oper) (j : Nat) (o : Oper) (σ : St) : wantedT (late ops) σ (lateOp ops j o) = wantedT ops σ o := by
  unfold wantedT
  rw [(lateOp_eq ops j o).2.2.1]
  split
  · rfl
  · have : ∀ i, ((late ops)[i]?).bind (fun o : Oper => o.dst) = (ops[i]?).bind (fun o : Oper => o.dst) := fun i => by
      rw [late_get]; cases ops[i]? with
      | none => rfl
      | some o => exact (lateOp_eq ops i o).2.1
    simp only [this]
theorem evOp_late (ops : Array Oper) (j : Nat) (o : Oper) (ρ : Operand → T) (σ : St) : evOp P K F ρ σ (lateOp ops j o) = evOp P K F ρ σ o := by unfold lateOp; split <;> rfl
theorem W_cond {x a b σ Q} {t : Bool} (hx : ev σ x = .c (.s (.bool t))) (h1 : t = true → W P K F n a σ Q) (h2 : t = false → W P K F n b σ Q) : W P K F n (.cond x a b) σ Q := by
  cases t with
  | true => obtain ⟨k, e, s, h, q⟩ := h1 rfl; exact ⟨k + 1, e, s, by rw [evC, hx]; exact h, q⟩
  | false => obtain ⟨k, e, s, h, q⟩ := h2 rfl; exact ⟨k + 1, e, s, by rw [evC, hx]; exact h, q⟩
theorem W_block {id b σ Q} (h : W P K F n b σ (Blk id Q)) : W P K F n (.block id b) σ Q := by
  obtain ⟨k, e, s, h, q⟩ := h
  cases e with
  | exit i =>
    by_cases hi : i = id
    · exact ⟨k + 1, .normal, s, by rw [evC, h]; simp [outOf, hi], by simpa only [Blk, hi, if_true] using q⟩
    · exact ⟨k + 1, .exit i, s, by rw [evC, h]; simp [outOf, hi], by simpa only [Blk, hi, if_false] using q⟩
  | normal => exact ⟨k + 1, _, s, by rw [evC, h]; rfl, q⟩
  | ret => exact ⟨k + 1, _, s, by rw [evC, h]; rfl, q⟩
theorem WO_nil {ops σ} {Q : St → Prop} (h : Q σ) : WO P K F n ops [] σ Q := ⟨σ, rfl, h⟩
theorem WO_op {ops o l σ Q x σ'} (hd : dstQ n o.dst = true) (hg : o.guard = none) (h1 : evOp P K F (ev σ) (hp σ) o = some (x, σ')) (h : WO P K F n ops l (putT σ.ts σ' o.dst x) Q) : WO P K F n ops (o :: l) σ Q := by
  obtain ⟨s, h, q⟩ := h
  exact ⟨s, by simp only [evOps, hd, if_true, wantedT, hg]; rw [Option.bind_some]; simp only [h1, Option.bind_some]; exact h, q⟩
theorem WO_skip {ops o l σ Q} (hd : dstQ n o.dst = true) (hw : wantedT ops σ o = some false) (h : WO P K F n ops l (putT σ.ts σ o.dst noneT) Q) : WO P K F n ops (o :: l) σ Q := by
  obtain ⟨s, h, q⟩ := h
  exact ⟨s, by simp only [evOps, hd, if_true, hw]; exact h, q⟩
theorem WL_nil {ops σ g} {Q : St → Prop} (ha : (unord ops).all (apartQ ops g) = true) (h : Q σ) : WL P K F n ops [] σ g Q := ⟨g, σ, rfl, ha, h⟩
theorem WL_op {ops o l σ Q x σ' g en} (hd : dstQ n o.dst = true) (hg : o.guard = none) (he : entry σ o = en) (h1 : evOp P K F (ev σ) (hp σ) o = some (x, σ')) (h : WL P K F n ops l (putT σ.ts σ' o.dst x) (g ++ [en]) Q) : WL P K F n ops (o :: l) σ g Q := by
  subst he
  obtain ⟨g', s, h, q⟩ := h
  exact ⟨g', s, by simp only [evLog, hd, if_true, wantedT, hg]; rw [Option.bind_some]; simp only [h1, Option.bind_some]; exact h, q⟩
theorem WL_skip {ops o l σ Q g} (hd : dstQ n o.dst = true) (hw : wantedT ops σ o = some false) (h : WL P K F n ops l (putT σ.ts σ o.dst noneT) (g ++ [none]) Q) : WL P K F n ops (o :: l) σ g Q := by
  obtain ⟨g', s, h, q⟩ := h
  exact ⟨g', s, by simp only [evLog, hd, if_true, hw]; exact h, q⟩
/-- how a body ends -/
def Told2 (P : Program) (K : Cfg) (fn : Func) (ls : List Lend) (w : Bool) (r : A × List (Option Cs)) : Ex → St → Prop := fun e σ => ∃ r', endC (finish P K fn ls) (e, σ) = some r' ∧ fgt w r' = r
section
variable {K : FuncId → Cfg} {okf : FuncId → Bool} {pr : FuncId → Option (List A → Option (A × List (Option Cs)))}
theorem Fz_intro {f : FuncId} {fn : Func} {body : Code} {xs : List A} {ts : List T} {σ : St} {r : A × List (Option Cs)} (hp : pr f = none) (ho : okf f = true) (hf : P.funcs[f]? = some fn) (hb : fn.body = some body) (hnm : (fn.name == "runtime.NumGoroutine") = false) (hl : xs.length ≤ fn.ntmps) (ht : tellVs st0 xs = (ts, σ))
    (h : W P (K f) (Fz P K okf pr) fn.ntmps body { σ with ts := padT fn.ntmps ts } (Told2 P (K f) fn (lentOf true ts) ((K f).wk f) r)) : Fz P K okf pr f xs = some r := by
  obtain ⟨k, e, σ', h, r', h1, h2⟩ := h
  obtain ⟨j, hj⟩ := evC_rise (Fz_rise P K okf pr) k body h
  refine Fz_of P K okf pr (k := max j k + 1) ?_
  rw [evF, hp]
  simp only [ho, if_true, hf, Option.bind_some, hb]
  rw [if_pos ⟨hnm, hl⟩, ht, evC_le (Nat.le_max_right j k) (hj _ (Nat.le_max_left j k)), Option.bind_some, h1, Option.map_some, h2]
theorem Fz_walk {f : FuncId} {fn : Func} {body : Code} {xs : List A} (w : Bool) (n : Nat) {ts ts' : List T} {σ : St} {r : A × List (Option Cs)} (hk : (K f).wk f = w) (hp : pr f = none) (ho : okf f = true) (hf : P.funcs[f]? = some fn) (hb : fn.body = some body) (hnm : (fn.name == "runtime.NumGoroutine") = false) (hn : fn.ntmps = n) (hl : Nat.ble xs.length n = true) (ht : tellVs st0 xs = (ts, σ)) (hts : padT n ts = ts')
    (h : W P (K f) (Fz P K okf pr) n body ⟨ts', σ.bx, σ.rw⟩ (Told2 P (K f) fn (lentOf true ts) w r)) : Fz P K okf pr f xs = some r := by
  subst hn hts hk
  exact Fz_intro hp ho hf hb hnm (Nat.le_of_ble_eq_true hl) ht h
theorem Fz_pr {f : FuncId} {g} {xs : List A} (hp : pr f = some g) {r} (h : g xs = some r) : Fz P K okf pr f xs = some r := Fz_of P K okf pr (k := 1) (by rw [evF, hp]; exact h)
end
end Go.SX
