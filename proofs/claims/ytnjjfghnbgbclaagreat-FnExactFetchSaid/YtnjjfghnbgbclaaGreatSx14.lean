import Derived.Test.YtnjjfghnbgbclaaGreatSx13
set_option linter.unusedVariables false
set_option linter.unusedSimpArgs false
set_option linter.unusedSectionVars false
namespace Go.SX
variable {P : Program} {w w' w0 : World} {ok ok' : Nat → Prop} {E E' : Env} {B : Bd} {σ σ' : St}

theorem gt_st_ne : ∀ (l : List T) (d t : Nat) (x : T), d ≠ t → gt (st l d x) t = gt l t
  | [], 0, t, x, h => by cases t with | zero => exact absurd rfl h | succ t => rfl
  | [], d + 1, t, x, h => by
    cases t with
    | zero => rfl
    | succ t => simp only [st, gt]; rw [gt_st_ne [] d t x (by omega)]; cases t <;> rfl
  | y :: l, 0, t, x, h => by cases t with | zero => exact absurd rfl h | succ t => rfl
  | y :: l, d + 1, t, x, h => by
    cases t with
    | zero => rfl
    | succ t => simp only [st, gt]; exact gt_st_ne l d t x (by omega)
theorem gt_st_eq : ∀ (l : List T) (d : Nat) (x : T), gt (st l d x) d = x
  | [], 0, x => rfl
  | [], d + 1, x => by simp only [st, gt]; exact gt_st_eq [] d x
  | y :: l, 0, x => rfl
  | y :: l, d + 1, x => by simp only [st, gt]; exact gt_st_eq l d x
theorem Tmps.put {a : Act} (h : Tmps w ok E σ a) {d : Option Tmp} {x : T} {v : Value} (hd : dstQ a.tmps.size d = true) (hx : TRel w ok E x v) : Tmps w ok E (putT σ.ts σ' d x) (a.put d v) := by
  cases d with
  | none => exact h
  | some d =>
    have hlt : d < a.tmps.size := by simpa [dstQ] using hd
    intro t
    by_cases hdt : d = t
    · subst hdt
      simp only [putT, Act.put, gt_st_eq]
      simpa [hlt] using hx
    · simp only [putT, Act.put, gt_st_ne _ _ _ _ hdt]
      have := h t
      simpa [Array.getD_eq_getD_getElem?, Array.getElem?_setIfInBounds_ne hdt] using this
theorem put_size {a : Act} {d : Option Tmp} {v : Value} : (a.put d v).tmps.size = a.tmps.size := by cases d <;> simp [Act.put]
theorem put_defers' {a : Act} {d : Option Tmp} {v : Value} : (a.put d v).defers = a.defers := by cases d <;> rfl
theorem noneT_rel : TRel w ok E noneT undef := ⟨#[], rfl, .nil⟩

/-- how it stands within a call that began at w0 -/
structure Inv (w0 : World) (B : Bd) (E0 : Env) (n : Nat) (σ : St) (a : Act) (w : World) : Prop where
  run : ∃ E ok, Mem w0 B σ E ok w ∧ Tmps w ok E σ a ∧ E0.Le E ∧ Keep w0 w B.okA ok
  size : a.tmps.size = n
  defers : a.defers = []
theorem wanted_ok {a : Act} (hT : Tmps w ok E σ a) {ops : Array Oper} {o : Oper} {b : Bool} (h : wantedT ops σ o = some b) : Region.wanted o (yielded ops a.tmps) = b := by
  unfold wantedT at h
  unfold Region.wanted
  cases hg : o.guard with
  | none => simp only [hg, Option.some.injEq] at h; exact h
  | some g =>
    obtain ⟨j, want⟩ := g
    simp only [hg] at h ⊢
    cases hd : (ops[j]?).bind (·.dst) with
    | none => simp [hd] at h
    | some d =>
      simp only [hd] at h
      have ht := hT d
      unfold yielded
      simp only [hd, Option.bind_some]
      rw [Array.getD_eq_getD_getElem?] at ht
      split at h
      · rename_i v hv
        rw [hv] at ht
        have := ht.sc
        cases hx : a.tmps[d]? with
        | none => rw [hx] at this; simp [undef] at this
        | some u =>
          rw [hx] at this
          simp only [Option.getD_some] at this
          subst this
          simp only [Option.some.injEq] at h
          rw [← h]
          cases v <;> cases want <;> rfl
      · rename_i hv
        rw [hv] at ht
        obtain ⟨vs, e, _⟩ := ht
        simp only [Option.some.injEq] at h
        subst h
        cases hx : a.tmps[d]? with
        | none => rfl
        | some u =>
          rw [hx] at e
          simp only [Option.getD_some] at e
          subst e
          rfl
      · simp at h
theorem Mem.put (M : Mem w0 B σ' E ok w) (ts : List T) (d : Option Tmp) (x : T) : Mem w0 B (putT ts σ' d x) E ok w := M.ts _
theorem Inv.step {E0 : Env} {n : Nat} {a : Act} {ok : Nat → Prop} (hT : Tmps w ok E σ a) (hE : E0.Le E) (hk : Keep w0 w B.okA ok) (hsz : w0.heap.size ≤ w.heap.size) (hn : a.tmps.size = n) (hd : a.defers = []) {d : Option Tmp} {x : T} {v : Value} (hdq : dstQ n d = true) (h : StepR w0 B w ok E σ' x v w') :
    Inv w0 B E0 n (putT σ.ts σ' d x) (a.put d v) w' := by
  obtain ⟨E', ok', h1, h2, h3, h4⟩ := h
  refine ⟨⟨E', ok', h1.put _ _ _, ?_, hE.trans h2, fun k hk1 hk2 => ?_⟩, put_size.trans hn, put_defers'.trans hd⟩
  · exact Tmps.put (fun t => (hT t).keep h3 h2) (by rw [hn]; exact hdq) h4
  · obtain ⟨h5, h6⟩ := hk k hk1 hk2
    obtain ⟨h7, h8⟩ := h3 k h6 (by omega)
    exact ⟨h7.trans h5, h8⟩
/-- one operation of a region, wanted or not -/
def evStep (P : Program) (K : Cfg) (F : Fun) (n : Nat) (ops : Array Oper) (o : Oper) (σ : St) : Option St :=
  if dstQ n o.dst then (wantedT ops σ o).bind fun
    | true => (evOp P K F (ev σ) (hp σ) o).map fun (x, τ) => putT σ.ts τ o.dst x
    | false => some (putT σ.ts σ o.dst noneT)
  else none
theorem evOps_cons (K : Cfg) (F : Fun) (n : Nat) (ops : Array Oper) (o : Oper) (l : List Oper) (σ : St) : evOps P K F n ops (o :: l) σ = (evStep P K F n ops o σ).bind (evOps P K F n ops l) := by
  unfold evStep
  simp only [evOps]
  split
  · cases wantedT ops σ o with
    | none => rfl
    | some b => cases b with
      | true => simp only [Option.bind_some]; cases evOp P K F (ev σ) (hp σ) o <;> rfl
      | false => rfl
  · rfl
theorem evStep_ok {K : Cfg} {F : Fun} (hF : ∀ g, FOk P g (F g)) {E0 : Env} {n : Nat} {ops : Array Oper} {o : Oper} {a : Act} (I : Inv w0 B E0 n σ a w) (h : evStep P K F n ops o σ = some σ') :
    ∀ (next : Act → World → Prop) (Q : Exit → Act → World → Prop), (∀ a' w', Inv w0 B E0 n σ' a' w' → next a' w') → if Region.wanted o (yielded ops a.tmps) then o.wp P a w next Q ∨ (o.asks P a w ∧ LetsOut Q) else next (a.put o.dst undef) w := by
  intro next Q hn
  obtain ⟨⟨E, ok, M, hT, hE, hk⟩, hs, hd⟩ := I
  unfold evStep at h
  split at h
  · rename_i hq
    simp only [Option.bind_eq_some_iff] at h
    obtain ⟨b, hw, h⟩ := h
    rw [wanted_ok hT hw]
    cases b with
    | true =>
      simp only [Option.map_eq_some_iff] at h
      obtain ⟨⟨x, τ⟩, h1, rfl⟩ := h
      exact .inl (evOp_ok hF (M.ts []) (fun x => ev_rel hT x) h1 next Q fun v w' hr => hn _ _ (Inv.step hT hE hk M.fr.size hs hd hq hr))
    | false =>
      simp only [Option.some.injEq] at h
      subst h
      simp only [Bool.false_eq_true, if_false]
      exact hn _ _ (Inv.step hT hE hk M.fr.size hs hd hq (.still M noneT_rel))
  · simp at h
theorem evOps_ok {K : Cfg} {F : Fun} (hF : ∀ g, FOk P g (F g)) {E0 : Env} {n : Nat} {ops : Array Oper} {Q : Exit → Act → World → Prop} : ∀ (l : List Oper) {σ : St} {a : Act} {w : World}, Inv w0 B E0 n σ a w → evOps P K F n ops l σ = some σ' → (∀ a' w', Inv w0 B E0 n σ' a' w' → Q .normal a' w') → wpList P ops Q l a w
  | [], σ, a, w, I, h, hQ => by simp [evOps] at h; subst h; exact hQ _ _ I
  | o :: l, σ, a, w, I, h, hQ => by
    rw [evOps_cons] at h
    obtain ⟨σ1, h1, h2⟩ := Option.bind_eq_some_iff.1 h
    exact evStep_ok hF I h1 (wpList P ops Q l) Q fun a' w' I' => evOps_ok hF l I' h2 hQ

/-! code -/
def LoopIn (P : Program) (c : Code) (Q : Exit → Act → World → Prop) (a : Act) (w : World) : Prop :=
  ∀ (b : Frame) (k : List Item) (cs : List Frame), ∃ e a' w', Q e a' w' ∧ Arrives P (lone (b.at a (.code c :: .inLoop c :: k)) cs w) b k cs e a' w'
theorem wp_of_loopIn {c : Code} {Q : Exit → Act → World → Prop} {a : Act} (h : LoopIn P c Q a w) : (Code.loop c).wp P Q a w :=
  fun b k cs => let ⟨e, a', w', q, r⟩ := h b k cs; ⟨e, a', w', q, .of_steps (.one step_loop) r⟩
theorem loopIn_step {c : Code} {Q : Exit → Act → World → Prop} {a : Act} (h : c.wp P (Exit.then (LoopIn P c Q) Q) a w) : LoopIn P c Q a w := by
  intro b k cs
  obtain ⟨e, a₁, w₁, hq, harr⟩ := h b (.inLoop c :: k) cs
  cases e with
  | normal =>
    obtain ⟨e₂, a₂, w₂, hq₂, harr₂⟩ := hq b k cs
    exact ⟨e₂, a₂, w₂, hq₂, .of_steps (Steps.trans harr (.one step_inLoop)) harr₂⟩
  | exit id => exact ⟨_, a₁, w₁, hq, .pass (x := .inLoop c) rfl (fun _ _ => .inl (by simp)) harr⟩
  | goto l => exact ⟨_, a₁, w₁, hq, .pass (x := .inLoop c) rfl (fun _ _ => .inl (by simp)) harr⟩
  | ret => exact ⟨_, a₁, w₁, hq, .pass (x := .inLoop c) rfl (fun _ _ => .inl (by simp)) harr⟩
  | panic ch => exact ⟨_, a₁, w₁, hq, .pass (x := .inLoop c) rfl (fun _ _ => .inl (by simp)) harr⟩
  | outgrown => exact ⟨_, a₁, w₁, hq, .pass (x := .inLoop c) rfl (fun _ _ => .inl (by simp)) harr⟩
def Ex.out : Ex → Go.Exit
  | .normal => .normal
  | .exit i => .exit i
  | .ret => .ret
/-- regions that draw their order -/
def DrawOk (P : Program) (K : Cfg) (F : Fun) : Prop :=
  ∀ (w0 : World) (B : Bd) (E0 : Env) (n : Nat) (ops : Array Oper) (id : Nat) (Q : Go.Exit → Act → World → Prop) (σ σ' : St) (a : Act) (w : World), Inv w0 B E0 n σ a w → evDraw P K F n ops σ = some σ' → (∀ a' w', Inv w0 B E0 n σ' a' w' → Q .normal a' w') → (Code.region id ops true).wp P Q a w
theorem evC_ok {K : Cfg} {F : Fun} (hF : ∀ g, FOk P g (F g)) (hdr : DrawOk P K F) {E0 : Env} {n : Nat} : ∀ (k : Nat) (c : Code) {σ σ' : St} {ex : Ex} {a : Act} {w : World} {Q : Go.Exit → Act → World → Prop}, Inv w0 B E0 n σ a w → evC P K F n k c σ = some (ex, σ') → (∀ a' w', Inv w0 B E0 n σ' a' w' → Q ex.out a' w') → c.wp P Q a w ∧ ∀ b, c = .loop b → LoopIn P b Q a w
  | 0, _, _, _, _, _, _, _, _, h, _ => by simp [evC] at h
  | k + 1, c, σ, σ', ex, a, w, Q, I, h, hQ => by
    have thenQ : ∀ (f : St → Option (Ex × St)) (r : Ex × St) (next : Act → World → Prop), thenC f r = some (ex, σ') → (∀ σ1 a1 w1, r = (.normal, σ1) → f σ1 = some (ex, σ') → Inv w0 B E0 n σ1 a1 w1 → next a1 w1) → ∀ a' w', Inv w0 B E0 n r.2 a' w' → Exit.then next Q r.1.out a' w' := by
      intro f r next hr hn a' w' I'
      obtain ⟨e, σ1⟩ := r
      cases e with
      | normal => exact hn σ1 a' w' rfl hr I'
      | exit i => simp only [thenC, Option.some.injEq, Prod.mk.injEq] at hr; obtain ⟨rfl, rfl⟩ := hr; exact hQ a' w' I'
      | ret => simp only [thenC, Option.some.injEq, Prod.mk.injEq] at hr; obtain ⟨rfl, rfl⟩ := hr; exact hQ a' w' I'
    cases c <;> simp only [evC, reduceCtorEq] at h
    case skip =>
      simp only [Option.some.injEq, Prod.mk.injEq] at h
      obtain ⟨rfl, rfl⟩ := h
      exact ⟨wp_skip (hQ _ _ I), by simp⟩
    case region id ops d =>
      simp only [Option.map_eq_some_iff, Prod.mk.injEq] at h
      obtain ⟨σ1, h, rfl, rfl⟩ := h
      refine ⟨?_, by simp⟩
      cases d with
      | true => exact hdr w0 B E0 n ops id Q σ σ1 a w I h hQ
      | false => exact wp_region_list (evOps_ok hF _ I h hQ)
    case seq x y =>
      obtain ⟨r, h1, h2⟩ := Option.bind_eq_some_iff.1 h
      refine ⟨wp_seq ?_, by simp⟩
      exact (evC_ok hF hdr k x I h1 (thenQ _ r _ h2 fun σ1 a1 w1 _ h3 I1 => (evC_ok hF hdr k y I1 h3 hQ).1)).1
    case cond x y z =>
      obtain ⟨E, ok, M, hT, _, _⟩ := I.run
      have hx := ev_rel hT x
      split at h
      · rename_i t ht
        rw [ht] at hx
        refine ⟨wp_cond hx.sc ?_, by simp⟩
        cases t with
        | true => exact (evC_ok hF hdr k y I h hQ).1
        | false => exact (evC_ok hF hdr k z I h hQ).1
      · simp at h
    case block id b =>
      simp only [Option.map_eq_some_iff] at h
      obtain ⟨⟨e, σ1⟩, h1, h2⟩ := h
      refine ⟨wp_block ?_, by simp⟩
      refine (evC_ok hF hdr k b I h1 fun a' w' I' => ?_).1
      cases e with
      | normal => simp only [outOf, Prod.mk.injEq] at h2; obtain ⟨rfl, rfl⟩ := h2; exact hQ a' w' I'
      | ret => simp only [outOf, Prod.mk.injEq] at h2; obtain ⟨rfl, rfl⟩ := h2; exact hQ a' w' I'
      | exit i =>
        simp only [outOf] at h2
        simp only [Ex.out, Exit.inBlock]
        split
        · rename_i hi; rw [if_pos hi] at h2; simp only [Prod.mk.injEq] at h2; obtain ⟨rfl, rfl⟩ := h2; exact hQ a' w' I'
        · rename_i hi; rw [if_neg hi] at h2; simp only [Prod.mk.injEq] at h2; obtain ⟨rfl, rfl⟩ := h2; exact hQ a' w' I'
    case loop b =>
      obtain ⟨r, h1, h2⟩ := Option.bind_eq_some_iff.1 h
      have hl : LoopIn P b Q a w := loopIn_step (evC_ok hF hdr k b I h1 (thenQ _ r _ h2 fun σ1 a1 w1 _ h3 I1 => (evC_ok hF hdr k (.loop b) I1 h3 hQ).2 b rfl)).1
      exact ⟨wp_of_loopIn hl, fun b' e => by cases e; exact hl⟩
    case exit i =>
      simp only [Option.some.injEq, Prod.mk.injEq] at h
      obtain ⟨rfl, rfl⟩ := h
      exact ⟨wp_exit (hQ _ _ I), by simp⟩
    case ret =>
      simp only [Option.some.injEq, Prod.mk.injEq] at h
      obtain ⟨rfl, rfl⟩ := h
      exact ⟨wp_ret (hQ _ _ I), by simp⟩
end Go.SX
