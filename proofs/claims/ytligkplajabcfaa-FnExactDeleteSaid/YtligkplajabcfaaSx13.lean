import Derived.Test.YtligkplajabcfaaSx12
set_option linter.unusedVariables false
set_option linter.unusedSimpArgs false
set_option linter.unusedSectionVars false
namespace Go.SX
variable {P : Program} {w w' w0 : World} {ok ok' : Nat → Prop} {E E' : Env} {B : Bd} {σ σ' : St}

/-- what a function does of arguments -/
def Does (P : Program) (g : FuncId) (args : Array Value) (w : World) (R : Value → World → Prop) : Prop :=
  (∃ fn, P.funcs[g]? = some fn ∧ (fn.name == "runtime.NumGoroutine") = false ∧ fn.body.isNone = false ∧ Calls P g args w fun | .returned v, w' => R v w' | _, _ => False) ∨
  (∃ v w', (callFunc g args).run P w = .ok (.value v) w' ∧ R v w')
theorem Does.mono {g : FuncId} {args : Array Value} {R R' : Value → World → Prop} (h : Does P g args w R) (hr : ∀ v w', R v w' → R' v w') : Does P g args w R' := by
  rcases h with ⟨fn, h1, h2, h3, h4⟩ | ⟨v, w', h1, h2⟩
  · refine .inl ⟨fn, h1, h2, h3, h4.mono fun e w' he => ?_⟩
    cases e with
    | returned v => exact hr _ _ he
    | panicked _ => exact he
    | outgrown => exact he
  · exact .inr ⟨v, w', h1, hr _ _ h2⟩
/-- how a call ends -/
def Ends (w : World) (hs : List H) (bs : List Nat) (okc : Nat → Prop) (r : A) (back : List (Option Cs)) (v : Value) (w' : World) : Prop :=
  ∃ ok' bs0 bs1, Fr w (· ∈ bs) w' ∧ Keep w w' okc ok' ∧ (∀ k, ok' k → okc k ∨ k ∈ bs ∨ w.heap.size ≤ k) ∧ RRel w' ok' r v bs0 ∧ BackRel w' ok' hs back bs1 ∧ (bs0 ++ bs1).Nodup ∧ ∀ k ∈ bs0 ++ bs1, ¬ ok' k ∧ (k ∈ bs ∨ w.heap.size ≤ k)
/-- a function's answers are true -/
def FOk (P : Program) (g : FuncId) (f : List A → Option (A × List (Option Cs))) : Prop :=
  ∀ xs r back, f xs = some (r, back) → ∀ w vs hs bs okc, ArgsRel w okc xs vs hs bs → bs.Nodup → (∀ k ∈ bs, ¬ okc k) → Does P g vs.toArray w (Ends w hs bs okc r back)

theorem dead_demotes {x : Lend} (l : List T) (h : Dead σ x) : Dead (demotes σ l) x := by
  have key : ∀ (y : T) {σ : St}, Dead σ x → Dead (demote σ y) x := by
    intro y σ h
    have k2 : ∀ {i q}, rowAt σ i = some q → Dead (setRow σ i (some { q with ow := false, dp := .f })) x := by
      intro i q hq
      cases x with
      | b b => exact h
      | r j =>
        simp only [Dead, rowAt_setH] at h ⊢
        rw [if_neg (by rintro ⟨rfl, _⟩; rw [hq] at h; simp at h)]
        exact h
    unfold demote
    split
    · split
      · rename_i hq; exact k2 hq
      · exact h
    · split
      · rename_i hq; exact k2 hq
      · exact h
    · exact h
  induction l generalizing σ with
  | nil => exact h
  | cons y l ih => exact ih (key y h)
theorem seenC_rel (M : Mem w0 B σ E ok w) {x : T} {v : Value} (h : XRel w ok E x v) : XRel w ok E (seenC σ x) v := by
  cases x <;> try exact h
  rename_i i
  simp only [seenC]
  split
  · rename_i q hq
    split
    · exact h
    · rename_i hc
      obtain ⟨r, hr, rfl⟩ := h
      exact sh_holds (M.sh hr hq (by simpa using hc))
  · exact h
theorem seen1_row (M : Mem w0 B σ E ok w) {md : Bool} {i : Nat} {v : Value} (h : TRel w ok E (.row i) v) : TRel w ok E (seen1 md σ (.row i)) v := by
  simp only [seen1]
  split
  · rename_i q hq
    split
    · rename_i hc
      simp only [Bool.and_eq_true, Bool.not_eq_true'] at hc
      obtain ⟨r, hr, rfl⟩ := h
      exact sh_holds (M.sh hr hq hc.2)
    · exact h
  · exact h
theorem seen1_rel (M : Mem w0 B σ E ok w) {md : Bool} {x : T} {v : Value} (h : TRel w ok E x v) : TRel w ok E (seen1 md σ x) v := by
  cases x
  case ag l =>
    cases md with
    | false => exact h
    | true =>
      obtain ⟨vs, rfl, hv⟩ := h
      refine ⟨vs, rfl, ?_⟩
      have key : ∀ {l : List T} {us : List Value}, All2 (XRel w ok E) l us → All2 (XRel w ok E) (l.map (seenC σ)) us := by
        intro l us h
        induction h with
        | nil => exact .nil
        | cons h _ ih => exact .cons (seenC_rel M h) ih
      exact key hv
  case row i =>
    exact seen1_row M h
  all_goals exact h
theorem all2_seen (M : Mem w0 B σ E ok w) (md : Bool) {l : List T} {vs : List Value} (h : All2 (TRel w ok E) l vs) : All2 (TRel w ok E) (l.map (seen1 md σ)) vs := by
  induction h with
  | nil => exact .nil
  | cons h _ ih => exact .cons (seen1_rel M h) ih
theorem fr_then {w1 : World} {bs : List Nat} (h : Fr w0 B.L w) (k : Fr w (· ∈ bs) w1) (hb : ∀ k ∈ bs, w0.heap.size ≤ k ∨ B.L k) : Fr w0 B.L w1 :=
  ⟨k.os.trans h.os, k.tape.trans h.tape, k.output.trans h.output, Nat.le_trans h.size k.size, fun j hj hl => (k.old j (Nat.lt_of_lt_of_le hj h.size) fun hm => (hb j hm).elim (fun h => by omega) hl).trans (h.old j hj hl)⟩
theorem apply_ok {K : Cfg} {F : Fun} (hF : ∀ g, FOk P g (F g)) (M : Mem w0 B σ E ok w) {x y : T} {args : List T} {fv : Value} {vs : List Value} (hx : TRel w ok E x fv) (ha : All2 (TRel w ok E) args vs) (h : apply K F σ x args = some (y, σ')) :
    ∃ g cap, fv = .func (.func g) #[] cap ∧ Does P g (vs.toArray ++ cap) w fun v w' => StepR w0 B w ok E σ' y v w' := by
  cases x <;> simp only [apply, reduceCtorEq] at h
  rename_i g bs0
  obtain ⟨ks, rfl, hks⟩ := hx
  refine ⟨g, _, rfl, ?_⟩
  split at h
  · rename_i hnd
    simp only [Option.bind_eq_some_iff] at h
    obtain ⟨⟨cs, σ1⟩, hlend, xs, hargs, ⟨r, back⟩, hcall, h⟩ := h
    split at h
    · rename_i hflat
      simp only [Option.map_eq_some_iff, Prod.mk.injEq] at h
      obtain ⟨σ3, htake, rfl, rfl⟩ := h
      have hall : All2 (TRel w ok E) (args.map (seen1 (K.md g) σ) ++ bs0.map (.bp · 0)) (vs ++ ks.map ptr) := by
        refine (all2_seen M _ ha).append ?_
        have : ∀ {a b : List Nat}, All2 (fun b k => E.β[b]? = some k) a b → All2 (TRel w ok E) (a.map (.bp · 0)) (b.map ptr) := by
          intro a b h
          induction h with
          | nil => exact .nil
          | cons h _ ih => exact .cons ⟨_, h, rfl⟩ ih
        exact this hks
      generalize hargsdef : args.map (seen1 (K.md g) σ) ++ bs0.map (.bp · 0) = args' at *
      obtain ⟨hs, bs, hls, hback, ⟨M1, g2, g3, g4, g5⟩, hdead⟩ := lendAll_ok _ M hlend
      obtain ⟨okc, M2, u2, u2', hA⟩ := argsA_ok (K.md g) args' M1 hall hls hback hargs
      have hbs : ∀ k ∈ bs, ¬ ok k ∧ (w0.heap.size ≤ k ∨ B.L k) ∧ k < w.heap.size := by
        intro k hk
        obtain ⟨x, hx⟩ := (g3 k hk).1
        exact M.mine x k hx
      have hokc : ∀ k ∈ bs, ¬ okc k := fun k hk hc => (u2' k hc).elim (hbs k hk).1 (g3 k hk).2
      have hd := hF g xs r back hcall w _ hs bs okc hA g2 hokc
      have e : (vs ++ ks.map ptr).toArray = vs.toArray ++ (ks.map ptr).toArray := by simp
      rw [← e]
      refine hd.mono fun v w' hend => ?_
      obtain ⟨ok', c0, c1, e1, e2, e3, e4, e5, e6, e7⟩ := hend
      have hfr : Fr w0 B.L w' := fr_then M.fr e1 fun k hk => (hbs k hk).2.1
      have hnew : ∀ k ∈ c0 ++ c1, (w0.heap.size ≤ k ∨ B.L k) := fun k hk => (e7 k hk).2.elim (fun h => (hbs k h).2.1) fun h => .inl (Nat.le_trans M.fr.size h)
      -- the rest, whichever way it is seen
      have rest : ∀ (σ2 : St) (okf : Nat → Prop), Mem w0 B σ2 E okf w' → RRel w' okf r v c0 → BackRel w' okf hs back c1 → (∀ k ∈ c0 ++ c1, ¬ okf k) → (∀ k, Muts σ2 E k → Muts σ1 E k) → (∀ x ∈ lentOf (K.md g) args', Dead σ2 x) → takeAll (tellA σ2 r).2 (lentOf (K.md g) args') back = some σ3 → Keep w w' ok okf → StepR w0 B w ok E σ3 (tellA σ2 r).1 v w' := by
        intro σ2 okf M3 hr hb hno hmu hde htk hkeep
        have hfree : Free w0 B okf σ2 E (c0 ++ c1) := ⟨e6, fun k hk => ⟨hno k hk, hnew k hk, fun hm => by
          have hm1 := hmu k hm
          rcases (e7 k hk).2 with h | h
          · exact (g3 k h).2 hm1
          · obtain ⟨x, hx⟩ := hm1
            have := (M1.mine x k hx).2.2
            omega⟩⟩
        obtain ⟨E1, t1, t2⟩ := tellA_ok hr M3 hfree.left
        obtain ⟨E2, M4, hle⟩ := takeAll_ok _ (hls.imp fun _ _ h => h.le t1.2.1) hb t1.1 (hfree.right t1.2.2.1) hnd (fun x hx => by
          obtain ⟨hh, _, hr⟩ := all2_mem hls x hx
          exact (hde x hx).ext hr M3 t1.2.2.2) htk
        exact ⟨E2, okf, M4, t1.2.1.trans hle, hkeep, t2.keep keep_same hle⟩
      cases hn : K.nest g with
      | true =>
        rw [hn] at htake
        simp only [if_true] at htake ⊢
        have hmut2 : ∀ x k, mutAt (demotes σ1 (seenRows args')) E x = some k → mutAt σ1 E x = some k := fun x k hx => mut_demotes _ hx
        have M3 : Mem w0 B (demotes σ1 (seenRows args')) E ok' w' := by
          refine M2.go e2 (fun k hk => ?_) hfr e1.size fun x k hx => ?_
          · rcases e3 k hk with h | h | h
            · exact M2.okin k h
            · exact .inr (hbs k h).2.1
            · exact .inr (.inl (Nat.le_trans M.fr.size h))
          · have hm := M2.mine x k hx
            have hnb : k ∉ bs := fun hb => (g3 k hb).2 ⟨x, hmut2 x k hx⟩
            refine ⟨e1.old k hm.2.2 hnb, fun hk => ?_⟩
            rcases e3 k hk with h | h | h
            · exact hm.1 h
            · exact hnb h
            · have := hm.2.2; omega
        exact rest _ ok' M3 e4 e5 (fun k hk => (e7 k hk).1) (fun k ⟨x, hx⟩ => ⟨x, hmut2 x k hx⟩) (fun x hx => dead_demotes _ (hdead x hx)) htake fun k hk hl => e2 k (u2 k hk) hl
      | false =>
        rw [hn] at htake hflat
        simp only [Bool.false_eq_true, if_false, Bool.false_or, Bool.and_eq_true] at htake hflat ⊢
        have hk2 : Keep w w' ok (lt w ok) := fun k hk hl => ⟨(e2 k (u2 k hk) hl).1, hk, hl⟩
        have M3 : Mem w0 B σ1 E (lt w ok) w' := by
          refine M1.go hk2 (fun k hk => M1.okin k hk.1) hfr e1.size fun x k hx => ?_
          have hm := M1.mine x k hx
          have hnb : k ∉ bs := fun hb => (g3 k hb).2 ⟨x, hx⟩
          exact ⟨e1.old k hm.2.2 hnb, fun hk => hm.1 hk.1⟩
        refine rest _ (lt w ok) M3 (flat_res e4 hflat.1) (flat_back e5 hflat.2) (fun k hk h => ?_) (fun k h => h) hdead htake hk2
        rcases (e7 k hk).2 with hh | hh
        · exact (hbs k hh).1 h.1
        · have := h.2; omega
    · simp at h
  · simp at h

/-! one operation -/
/-- what an operation does, whatever comes next -/
def OpDo (P : Program) (o : Oper) (a : Act) (w : World) (R : Value → World → Prop) : Prop :=
  ∀ (next : Act → World → Prop) (Q : Exit → Act → World → Prop), (∀ v w', R v w' → next (a.put o.dst v) w') → o.wp P a w next Q
theorem opDo_value {o : Oper} {a : Act} {R : Value → World → Prop} {v : Value} (h : (execOp a.eval o).run P w = .ok (.value v) w') (hR : R v w') : OpDo P o a w R :=
  fun next Q hn => by unfold Oper.wp; rw [h]; exact hn v w' hR
theorem opDo_skip {o : Oper} {a : Act} {R : Value → World → Prop} (h : (execOp a.eval o).run P w = .ok .skip w') (hR : R undef w') : OpDo P o a w R :=
  fun next Q hn => by unfold Oper.wp; rw [h]; exact hn undef w' hR
theorem opDo_does {o : Oper} {a : Act} {R : Value → World → Prop} {g : FuncId} {args : Array Value} (h : (execOp a.eval o).run P w = (callFunc g args).run P w) (hD : Does P g args w R) : OpDo P o a w R := by
  rcases hD with ⟨fn, h1, h2, h3, h4⟩ | ⟨v, w', h1, h2⟩
  · intro next Q hn
    unfold Oper.wp
    rw [h]
    have h2' : ¬ (fn.name = "runtime.NumGoroutine") := by simpa using h2
    have h3' : fn.body ≠ none := by intro hn; rw [hn] at h3; simp at h3
    have : (callFunc g args).run P w = .ok (.enter g args) w := by simp [callFunc, Sem.run_bind, run_program, h1, h2', h3']
    rw [this]
    refine h4.mono fun e w' he => ?_
    cases e with
    | returned v => exact hn v w' he
    | panicked _ => exact he.elim
    | outgrown => exact he.elim
  · exact opDo_value (h.trans h1) h2
variable {ρ : Operand → T}
theorem all2_ev {a : Act} (hT : Rho w ok E ρ a) : ∀ (l : List Operand), All2 (TRel w ok E) (l.map ρ) (l.map a.eval)
  | [] => .nil
  | x :: l => .cons (hT x) (all2_ev hT l)
theorem scals_rel {a : Act} (hT : Rho w ok E ρ a) : ∀ (l : List Operand) (vs : List Value), scals ρ l = some vs → vs = l.map a.eval
  | [], vs, h => by simp [scals] at h; exact h
  | x :: l, vs, h => by
    simp only [scals] at h
    split at h
    · rename_i v hv
      simp only [Option.map_eq_some_iff] at h
      obtain ⟨vs', h1, rfl⟩ := h
      have := hT x
      rw [hv] at this
      rw [List.map_cons, scals_rel hT l vs' h1, this.sc]
    · simp at h
theorem all2_parts {a : Act} (hT : Rho w ok E ρ a) : ∀ (l : List (Nat × Operand)), All2 (fun p q => p.1 = q.1 ∧ TRel w ok E p.2 q.2) (l.map fun (i, x) => (i, ρ x)) (l.map fun (i, x) => (i, a.eval x))
  | [] => .nil
  | (i, x) :: l => .cons ⟨rfl, hT x⟩ (all2_parts hT l)
theorem ofV_stepR (M : Mem w0 B σ E ok w) (v : Value) : StepR w0 B w ok E σ (ofV v) v w := .still M (ofV_t v)
theorem asBool_run (b : Bool) : (asBool (.bool b)).run P w = .ok b w := by simp [asBool]
theorem evOp_ok {K : Cfg} {F : Fun} (hF : ∀ g, FOk P g (F g)) (M : Mem w0 B σ E ok w) {a : Act} (hT : Rho w ok E ρ a) {o : Oper} {y : T} (h : evOp P K F ρ σ o = some (y, σ')) :
    OpDo P o a w fun v w' => StepR w0 B w ok E σ' y v w' := by
  unfold evOp at h
  split at h
  case h_1 x ho =>
    simp only [Option.some.injEq, Prod.mk.injEq] at h
    obtain ⟨rfl, rfl⟩ := h
    exact opDo_value (by simp [execOp, ho]) (.still M (hT x))
  case h_2 x ho =>
    simp only [Option.some.injEq, Prod.mk.injEq] at h
    obtain ⟨rfl, rfl⟩ := h
    exact opDo_value (by simp [execOp, ho]) (.still M (hT x))
  case h_3 c x z ho =>
    split at h
    · rename_i t ht
      simp only [Option.some.injEq, Prod.mk.injEq] at h
      obtain ⟨rfl, rfl⟩ := h
      have hc := hT c
      rw [ht] at hc
      refine opDo_value (v := if t then a.eval x else a.eval z) (by simp [execOp, ho, hc.sc, asBool_run]) (.still M ?_)
      cases t
      · exact hT z
      · exact hT x
    · simp at h
  case h_4 t ho =>
    obtain ⟨v, w', h1, h2⟩ := ok_alloc (P := P) (u := .tuple #[]) M h
    exact opDo_value (by simp [execOp, ho, h1]) h2
  case h_5 t x ho =>
    obtain ⟨v, w', h1, h2⟩ := ok_box (P := P) M (hT x) h
    exact opDo_value (by simp [execOp, ho, h1]) h2
  case h_6 t parts ho =>
    obtain ⟨rfl, v, h1, h2⟩ := ok_build (P := P) (w := w) (pv := parts.map fun (i, x) => (i, a.eval x)) (by simpa using all2_parts hT parts.toList) h
    exact opDo_value (by simp [execOp, ho, h1]) (.still M h2)
  case h_7 t len parts ho =>
    obtain ⟨v, w', h1, h2⟩ := ok_buildSlice (P := P) (pv := parts.map fun (i, x) => (i, a.eval x)) M (by simpa using all2_parts hT parts.toList) h
    exact opDo_value (by simp [execOp, ho, h1]) h2
  case h_8 t l c ho =>
    obtain ⟨v, w', h1, h2⟩ := ok_make (P := P) M (hT l) (hT c) h
    exact opDo_value (by simp [execOp, ho, h1]) h2
  case h_9 t x ho =>
    obtain ⟨rfl, v, h1, h2⟩ := ok_load (P := P) M (hT x) h
    exact opDo_value (by simp [execOp, ho, h1]) (.still M h2)
  case h_10 t x z ho =>
    obtain ⟨w', h1, h2⟩ := ok_store (P := P) M (hT x) (hT z) h
    exact opDo_skip (by simp [execOp, ho, h1]) h2
  case h_11 x ho =>
    have hx := hT x
    split at h <;> simp only [Option.some.injEq, Prod.mk.injEq, reduceCtorEq] at h
    · rename_i b o' he
      obtain ⟨rfl, rfl⟩ := h
      rw [he] at hx
      obtain ⟨k, hk, e⟩ := hx
      refine opDo_value (v := a.eval x) (by simp [execOp, ho, e]) (.still M ?_)
      exact ⟨k, hk, e⟩
    · rename_i i n o' he
      obtain ⟨rfl, rfl⟩ := h
      rw [he] at hx
      have hx' := hx
      obtain ⟨r, ad, h1, h2, h3, e⟩ := hx
      exact opDo_value (v := a.eval x) (by simp [execOp, ho, e]) (.still M hx')
    · rename_i l o' he
      obtain ⟨rfl, rfl⟩ := h
      rw [he] at hx
      have hx' := hx
      obtain ⟨ad, f, e, _⟩ := hx
      exact opDo_value (v := a.eval x) (by simp [execOp, ho, e]) (.still M hx')
    · rename_i g bs he
      obtain ⟨rfl, rfl⟩ := h
      rw [he] at hx
      have hx' := hx
      obtain ⟨ks, e, _⟩ := hx
      exact opDo_value (v := a.eval x) (by simp [execOp, ho, e]) (.still M hx')
  case h_12 op t x z pos ho =>
    have hx := hT x
    have hz := hT z
    split at h
    · rename_i l m h1 h2
      rw [h1] at hx; rw [h2] at hz
      obtain ⟨xs, e1, hxs⟩ := hx
      obtain ⟨ys, e2, hys⟩ := hz
      obtain ⟨rfl, v, g1, g2, g3⟩ := ok_eq (P := P) (w := w) (x := x) (y := z) hxs hys h
      exact opDo_value (v := v) (by simp [execOp, ho, e1, e2, g1, g2]) (.still M g3)
    · rename_i u v h1 h2
      rw [h1] at hx; rw [h2] at hz
      simp only [Option.map_eq_some_iff, Prod.mk.injEq] at h
      obtain ⟨r, hr, rfl, rfl⟩ := h
      have := run_pureRun (w := w) _ _ hr
      refine opDo_value (v := r) ?_ (ofV_stepR M r)
      simp only [execOp, ho, hx.sc, hz.sc]
      rw [Sem.run_bind, this]; rfl
    · simp at h
  case h_13 op t x ho =>
    have hx := hT x
    split at h
    · rename_i u h1
      rw [h1] at hx
      simp only [Option.map_eq_some_iff, Prod.mk.injEq] at h
      obtain ⟨r, hr, rfl, rfl⟩ := h
      exact opDo_value (v := r) (by simp [execOp, ho, hx.sc, run_pureRun (w := w) _ _ hr]) (ofV_stepR M r)
    · simp at h
  case h_14 src dst x ho =>
    obtain ⟨rfl, v, h1, h2⟩ := ok_conv (P := P) M (hT x) h
    exact opDo_value (by simp [execOp, ho, h1]) (.still M h2)
  case h_15 t x lo hi mx ho =>
    split at h
    · rename_i hm
      have : mx = none := by simpa using hm
      subst this
      obtain ⟨rfl, v, h1, h2⟩ := ok_slice (P := P) M hT (hT x) h
      exact opDo_value (by simp [execOp, ho, h1]) (.still M h2)
    · simp at h
  case h_16 s x f ho =>
    obtain ⟨rfl, v, h1, h2⟩ := ok_fieldAddr (P := P) (w := w) (hT x) h
    exact opDo_value (by simp [execOp, ho, h1]) (.still M h2)
  case h_17 s x f ho =>
    obtain ⟨rfl, v, h1, h2⟩ := ok_field (P := P) (w := w) (hT x) h
    exact opDo_value (by simp [execOp, ho, h1]) (.still M h2)
  case h_18 t x ix ho =>
    obtain ⟨rfl, v, h1, h2⟩ := ok_indexAddr (P := P) M (hT x) (hT ix) h
    exact opDo_value (by simp [execOp, ho, h1]) (.still M h2)
  case h_19 t x ix ho =>
    have hx := hT x
    have hz := hT ix
    split at h
    · rename_i u v h1 h2
      rw [h1] at hx; rw [h2] at hz
      simp only [Option.map_eq_some_iff, Prod.mk.injEq] at h
      obtain ⟨r, hr, rfl, rfl⟩ := h
      exact opDo_value (v := r) (by simp [execOp, ho, hx.sc, hz.sc, run_pureRun (w := w) _ _ hr]) (ofV_stepR M r)
    · simp at h
  case h_20 x i ho =>
    have hx := hT x
    split at h
    · rename_i l h1
      rw [h1] at hx
      simp only [Option.map_eq_some_iff, Prod.mk.injEq] at h
      obtain ⟨y', hy, rfl, rfl⟩ := h
      obtain ⟨vs, e, hl⟩ := hx
      obtain ⟨v, h2, h3⟩ := hl.get _ _ hy
      rw [Array.getElem?_toList] at h2
      exact opDo_value (v := v) (by simp [execOp, ho, e, Instr.extract, h2]) (.still M h3.t)
    · simp at h
  case h_21 f first cap ho =>
    split at h
    · rename_i hfe
      simp only [Option.map_eq_some_iff, Prod.mk.injEq] at h
      obtain ⟨bs, hbs, rfl, rfl⟩ := h
      have hfirst : first = #[] := by simpa using hfe
      subst hfirst
      have key : ∀ (l : List Operand) (bs : List Nat), (l.mapM fun x => bp0 (ρ x)) = some bs → ∃ ks, l.map a.eval = ks.map ptr ∧ All2 (fun b k => E.β[b]? = some k) bs ks := by
        intro l
        induction l with
        | nil => intro bs h; simp at h; subst h; exact ⟨[], rfl, .nil⟩
        | cons x l ih =>
          intro bs h
          simp only [List.mapM_cons, bind, Option.bind_eq_some_iff, pure, Option.some.injEq] at h
          obtain ⟨b, h1, bs', h2, rfl⟩ := h
          obtain ⟨ks, h3, h4⟩ := ih bs' h2
          have hx := hT x
          unfold bp0 at h1
          split at h1
          · rename_i b' he
            simp only [Option.some.injEq] at h1
            subst h1
            rw [he] at hx
            obtain ⟨k, hk, e⟩ := hx
            exact ⟨k :: ks, by simp [h3, e, ptr], .cons hk h4⟩
          · simp at h1
      obtain ⟨ks, e, hk⟩ := key _ _ hbs
      have e2 : cap.map a.eval = (ks.map ptr).toArray := by
        apply Array.ext'
        simpa using e
      refine opDo_value (v := .func (.func f) #[] (ks.map ptr).toArray) (by simp [execOp, ho, Instr.makeFunc, e2]) (.still M ⟨ks, rfl, hk⟩)
    · simp at h
  case h_22 c ho =>
    split at h
    · rename_i f hc
      obtain ⟨g, cap, e, hD⟩ := apply_ok hF M (hT f) (all2_ev hT c.args.toList) h
      refine opDo_does (g := g) (args := c.args.map a.eval ++ cap) ?_ (by have e2 : c.args.map a.eval = (c.args.toList.map a.eval).toArray := by apply Array.ext'; simp
                                                                          rw [e2]; exact hD)
      simp [execOp, ho, resolve, hc, e, Deferred.ofValue, invoke]
    · rename_i hc
      split at h
      · rename_i s x t u h1 h2
        split at h
        · rename_i hu
          have hu' : ∃ e', P.underlying u = some (.slice e') := by
            have : elOf P u ≠ none := by
              rcases hu with hu | hu
              · intro hn
                rw [hn] at hu
                unfold opAppend at h
                split at h
                · simp [opAppendD, ← hu] at h
                · simp [opAppend0, ← hu] at h
              · exact hu
            cases he : elOf P u with
            | none => exact absurd he this
            | some e' => exact ⟨e', und_elOf he⟩
          obtain ⟨e', hu'⟩ := hu'
          obtain ⟨v, w', h3, h4⟩ := ok_append (P := P) (ty := o.type) M hu' (hT s) (hT x) h
          have e1 : c.args = #[s, x] := by apply Array.ext'; simpa using h1
          have e2 : c.argTypes = #[t, u] := by apply Array.ext'; simpa using h2
          exact opDo_value (v := v) (w' := w') (by simp [execOp, ho, resolve, hc, invoke, builtin, e1, e2, h3]) h4
        · simp at h
      · simp at h
    · rename_i hc
      split at h
      · rename_i x t h1 h2
        have e1 : c.args = #[x] := by apply Array.ext'; simpa using h1
        have e2 : c.argTypes = #[t] := by apply Array.ext'; simpa using h2
        have hx := hT x
        split at h
        · rename_i s hs
          rw [hs] at hx
          split at h
          · rename_i hst
            simp only [Option.some.injEq, Prod.mk.injEq] at h
            obtain ⟨rfl, rfl⟩ := h
            have hst' : P.underlying t = some .string := by simpa using hst
            refine opDo_value (v := .int .i64 s.size) ?_ (.still M (Holds.s _ rfl))
            simp [execOp, ho, resolve, hc, invoke, builtin, e1, e2, hx.sc, Builtin.len_, run_und hst', goInt]
          · simp at h
        · simp only [Option.bind_eq_some_iff, Option.map_eq_some_iff, Prod.mk.injEq] at h
          obtain ⟨e, he, l, hl, rfl, rfl⟩ := h
          have := ok_len (P := P) (ty := o.type) M hx he hl
          refine opDo_value (v := .int .i64 l.length) ?_ (.still M (Holds.s _ rfl))
          simp [execOp, ho, resolve, hc, invoke, builtin, e1, e2, this]
      · simp at h
    · rename_i hc
      split at h
      · rename_i x t h1 h2
        have e1 : c.args = #[x] := by apply Array.ext'; simpa using h1
        have e2 : c.argTypes = #[t] := by apply Array.ext'; simpa using h2
        obtain ⟨w', h3, h4⟩ := ok_clear (P := P) (ty := o.type) M (hT x) h
        exact opDo_value (v := .tuple #[]) (w' := w') (by simp [execOp, ho, resolve, hc, invoke, builtin, e1, e2, h3]) h4
      · simp at h
    · rename_i b _ _ _ hc
      split at h
      · rename_i hb
        simp only [Option.bind_eq_some_iff, Option.map_eq_some_iff, Prod.mk.injEq] at h
        obtain ⟨vs, hvs, r, hr, rfl, rfl⟩ := h
        have hvs' := scals_rel hT _ _ hvs
        have e1 : c.args.map a.eval = vs.toArray := by rw [hvs']; apply Array.ext'; simp
        have := run_pureRun (w := w) _ _ hr
        refine opDo_value (v := r) ?_ (ofV_stepR M r)
        cases b <;> simp only [isBuiltin2, Bool.false_eq_true] at hb
        · simp only at this
          simp [execOp, ho, resolve, hc, invoke, builtin, e1, this]
        · simp only at this
          simp [execOp, ho, resolve, hc, invoke, builtin, e1, this]
      · simp at h
    · simp at h
  case h_23 => simp at h
end Go.SX
