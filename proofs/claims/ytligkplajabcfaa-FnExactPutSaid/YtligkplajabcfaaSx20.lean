import Derived.Test.YtligkplajabcfaaSx18
import Derived.Below
set_option linter.unusedVariables false
set_option linter.unusedSimpArgs false
set_option linter.unusedSectionVars false
namespace Go.SX
variable {P : Program} {K : Cfg} {F : Fun} {n : Nat} {ops : Array Oper} {σ σ' τ τ' : St}

theorem ev_ts (h : σ.ts = τ.ts) : ev σ = ev τ := by funext z; cases z <;> simp only [ev, h]
theorem ev_put {o : Oper} {ts : List T} {d : Option Tmp} {x : T} (h : ∀ t, d = some t → t ∉ o.looksAt ops) : ∀ z ∈ o.op.operands, ev (putT ts τ d x) z = ev (⟨ts, τ.bx, τ.rw⟩ : St) z := by
  intro z hz
  cases d with
  | none => rfl
  | some d =>
    cases z with
    | tmp t =>
      have hne : d ≠ t := fun e => h d rfl (by
        subst e
        exact List.mem_append_left _ (List.mem_filterMap.2 ⟨.tmp d, by simpa using hz, rfl⟩))
      exact gt_st_ne _ _ _ _ hne
    | _ => rfl
theorem wanted_putT {o : Oper} {ts : List T} {d : Option Tmp} {x : T} (h : ∀ t, d = some t → t ∉ o.looksAt ops) : wantedT ops (putT ts τ d x) o = wantedT ops ⟨ts, τ.bx, τ.rw⟩ o := by
  unfold wantedT
  cases hg : o.guard with
  | none => rfl
  | some gw =>
    obtain ⟨g, want⟩ := gw
    simp only
    cases ht : (ops[g]?).bind (·.dst) with
    | none => rfl
    | some t =>
      cases d with
      | none => rfl
      | some d =>
        have hne : d ≠ t := fun e => h d rfl (by subst e; simp [Oper.looksAt, hg, ht])
        simp only [putT, gt_st_ne _ _ _ _ hne]
theorem wanted_ts {o : Oper} (h : σ.ts = τ.ts) : wantedT ops σ o = wantedT ops τ o := by unfold wantedT; rw [h]
theorem st_comm : ∀ (l : List T) (i j : Nat) (x y : T), i ≠ j → st (st l i x) j y = st (st l j y) i x
  | [], 0, 0, _, _, h => absurd rfl h
  | [], 0, j + 1, _, _, _ => rfl
  | [], i + 1, 0, _, _, _ => rfl
  | [], i + 1, j + 1, x, y, h => by simp only [st]; rw [st_comm [] i j x y (by omega)]
  | _ :: _, 0, 0, _, _, h => absurd rfl h
  | _ :: l, 0, j + 1, _, _, _ => rfl
  | _ :: l, i + 1, 0, _, _, _ => rfl
  | _ :: l, i + 1, j + 1, x, y, h => by simp only [st]; rw [st_comm l i j x y (by omega)]
theorem rd_congr {ρ ρ' : Operand → T} {o : Oper} (h : ∀ z ∈ o.op.operands, ρ z = ρ' z) : rdOf ρ o = rdOf ρ' o := by
  unfold rdOf
  have : ∀ l : List Operand, (∀ z ∈ l, ρ z = ρ' z) → (l.flatMap fun x => refs (ρ x)) = l.flatMap fun x => refs (ρ' x) := by
    intro l
    induction l with
    | nil => intro _; rfl
    | cons a l ih => intro h; simp only [List.flatMap_cons, h a (by simp), ih fun z hz => h z (by simp [hz])]
  exact this _ fun z hz => h z (by simpa using hz)
theorem turns_mem {ρ : Operand → T} {c : Call} : ∀ z ∈ turns ρ σ c, z ∈ (Op.call c).operands := by
  obtain ⟨callee, args, ats⟩ := c
  intro z hz
  unfold turns at hz
  split at hz
  · rename_i h1 h2
    simp only at h1 h2
    subst h1
    simp only [Op.operands, Call.operands]
    rw [← Array.mem_toList_iff]
    split at hz <;> simp_all
  · simpa using hz
theorem turns_congr {ρ ρ' : Operand → T} {c : Call} (h : ∀ z ∈ (Op.call c).operands, ρ z = ρ' z) : turns ρ σ c = turns ρ' σ c := by
  obtain ⟨callee, args, ats⟩ := c
  unfold turns
  split
  · rename_i h1 h2
    simp only at h1 h2
    subst h1
    rename_i s0 x0
    have hm : x0 ∈ args.toList := by rw [h2]; simp
    rw [h x0 (by simp only [Op.operands, Call.operands]; simpa using hm)]
  · rfl
theorem wr_congr {ρ ρ' : Operand → T} {o : Oper} (h : ∀ z ∈ o.op.operands, ρ z = ρ' z) : wrOf ρ σ o = wrOf ρ' σ o := by
  have key : ∀ (f : T → List Lend) (l : List Operand), (∀ z ∈ l, ρ z = ρ' z) → (l.flatMap fun x => f (ρ x)) = l.flatMap fun x => f (ρ' x) := by
    intro f l
    induction l with
    | nil => intro _; rfl
    | cons a l ih => intro h; simp only [List.flatMap_cons, h a (by simp), ih fun z hz => h z (by simp [hz])]
  unfold wrOf
  split
  · rename_i c e
    rw [e] at h
    rw [← turns_congr h, key argRefs _ fun z hz => h z (turns_mem z hz)]
  · rw [key refsW _ fun z hz => h z (by simpa using hz)]
  · rename_i t a x e
    rw [h a (by rw [e]; simp [Op.operands]), h x (by rw [e]; simp [Op.operands])]
  · rw [key refs _ fun z hz => h z (by simpa using hz)]

/-! one step, told apart -/
def StepX (P : Program) (K : Cfg) (F : Fun) (ops : Array Oper) (o : Oper) (σ : St) (x : T) (τ : St) : Prop :=
  (wantedT ops σ o = some false ∧ x = noneT ∧ τ = hp σ) ∨ (wantedT ops σ o = some true ∧ evOp P K F (ev σ) (hp σ) o = some (x, τ))
theorem evStep_iff {o : Oper} : evStep P K F n ops o σ = some σ' ↔ dstQ n o.dst = true ∧ ∃ x τ, StepX P K F ops o σ x τ ∧ σ' = putT σ.ts τ o.dst x := by
  unfold evStep StepX
  constructor
  · intro h
    split at h
    · rename_i hq
      refine ⟨hq, ?_⟩
      simp only [Option.bind_eq_some_iff] at h
      obtain ⟨b, hb, h⟩ := h
      cases b with
      | true =>
        simp only [Option.map_eq_some_iff] at h
        obtain ⟨⟨x, τ⟩, h1, h2⟩ := h
        exact ⟨x, τ, .inr ⟨hb, h1⟩, h2.symm⟩
      | false =>
        simp only [Option.some.injEq] at h
        exact ⟨noneT, hp σ, .inl ⟨hb, rfl, rfl⟩, h.symm⟩
    · simp at h
  · rintro ⟨hq, x, τ, h, rfl⟩
    rw [if_pos hq]
    rcases h with ⟨hb, rfl, rfl⟩ | ⟨hb, h⟩
    · rw [hb]; rfl
    · rw [hb]; simp only [Option.bind_some, h, Option.map_some]
/-- it looks at nothing else -/
structure Looks (ops : Array Oper) (o : Oper) (σ σ' : St) : Prop where
  e : ∀ z ∈ o.op.operands, ev σ' z = ev σ z
  w : wantedT ops σ' o = wantedT ops σ o
theorem looks_put {o : Oper} {d : Option Tmp} {x : T} (h : ∀ t, d = some t → t ∉ o.looksAt ops) (τ : St) : Looks ops o σ (putT σ.ts τ d x) :=
  ⟨fun z hz => (ev_put h z hz).trans (congrFun (ev_ts (σ := ⟨σ.ts, τ.bx, τ.rw⟩) (τ := σ) rfl) z), (wanted_putT h).trans (wanted_ts rfl)⟩
theorem StepX.slots {o : Oper} {x : T} (hl : Looks ops o σ σ') (hh : hp σ' = hp σ) (h : StepX P K F ops o σ x τ) : StepX P K F ops o σ' x τ := by
  rcases h with ⟨h1, h2, h3⟩ | ⟨h1, h2⟩
  · exact .inl ⟨hl.w.trans h1, h2, h3.trans hh.symm⟩
  · exact .inr ⟨hl.w.trans h1, by rw [hh, evOp_congr o hl.e]; exact h2⟩
theorem StepX.quiet {o : Oper} {x : T} (h : StepX P K F ops o σ x τ) (hs : still o.op = true ∨ wantedT ops σ o = some false) : τ = hp σ := by
  rcases h with ⟨_, _, h3⟩ | ⟨h1, h2⟩
  · exact h3
  · rcases hs with hs | hs
    · exact evOp_still hs h2
    · rw [h1] at hs; simp at hs
theorem StepX.agree {o : Oper} {x : T} (hl : Looks ops o σ σ') (hs : still o.op = true) (hh : hangs o.op = true → wantedT ops σ o = some true → ∀ r ∈ rdOf (ev σ) o, Agree σ σ' r) (h : StepX P K F ops o σ x τ) : StepX P K F ops o σ' x (hp σ') := by
  rcases h with ⟨h1, h2, h3⟩ | ⟨h1, h2⟩
  · exact .inl ⟨hl.w.trans h1, h2, rfl⟩
  · exact .inr ⟨hl.w.trans h1, by
      rw [evOp_congr o hl.e]
      exact evOp_agree hs (fun hg r hr => by have := hh hg h1 r hr; cases r <;> exact this) h2⟩
def LogOk (ops : Array Oper) (g : List Entry) (i : Nat) (o : Oper) (σ : St) : Prop :=
  wantedT ops σ o = some true → ∃ rd wr lb lr, g.getD i none = some (rd, wr, lb, lr) ∧ rdOf (ev σ) o = rd ∧ (still o.op = false → wrOf (ev σ) (hp σ) o = wr ∧ σ.bx.length = lb ∧ σ.rw.length = lr)
theorem LogOk.slots {g : List Entry} {i : Nat} {o : Oper} (hl : Looks ops o σ σ') (hh : still o.op = true ∨ hp σ' = hp σ) (h : LogOk ops g i o σ) : LogOk ops g i o σ' := by
  intro hw
  obtain ⟨rd, wr, lb, lr, h1, h2, h3⟩ := h (hl.w.symm.trans hw)
  refine ⟨rd, wr, lb, lr, h1, (rd_congr hl.e).trans h2, fun hs => ?_⟩
  rcases hh with hh | hh
  · rw [hs] at hh; simp at hh
  · obtain ⟨h4, h5, h6⟩ := h3 hs
    have e1 : (hp σ').bx = (hp σ).bx := congrArg St.bx hh
    have e2 : (hp σ').rw = (hp σ).rw := congrArg St.rw hh
    exact ⟨by rw [hh, wr_congr hl.e]; exact h4, (congrArg List.length e1).trans h5, (congrArg List.length e2).trans h6⟩
theorem agree_frame {x : Entry} {y : Entry} {rd wr rd' wr' : List Lend} {lb lr lb' lr' : Nat} {V : List Lend} (hc : clearQ x y = true) (hx : x = some (rd, wr, lb, lr)) (hy : y = some (rd', wr', lb', lr')) (hS : Same V σ τ) (hV : V = wr') (hb : σ.bx.length = lb') (hr : σ.rw.length = lr') : ∀ r ∈ rd, Agree σ τ r := by
  subst hx hy hV
  intro r hrd
  simp only [clearQ, List.all_eq_true, Bool.and_eq_true, Bool.not_eq_true', List.contains_eq_mem, decide_eq_false_iff_not] at hc
  obtain ⟨h1, h2⟩ := hc r hrd
  cases r with
  | b b => exact hS.b b (by simp [inRange] at h2; omega) h1
  | r i => exact hS.r i (by simp [inRange] at h2; omega) h1
theorem swap {g : List Entry} {k j : Nat} {ok oj : Oper} {xk xj : T} {τk : St} (hap : ok.apart ops oj = true) (hs : still ok.op = true ∨ still oj.op = true)
    (hc1 : hangs ok.op = true → still oj.op = false → clearQ (g.getD k none) (g.getD j none) = true) (hc2 : hangs oj.op = true → still ok.op = false → clearQ (g.getD j none) (g.getD k none) = true)
    (S1 : StepX P K F ops ok σ xk τk) (L1 : LogOk ops g k ok σ) (S2 : StepX P K F ops oj (putT σ.ts τk ok.dst xk) xj τ) (L2 : LogOk ops g j oj (putT σ.ts τk ok.dst xk)) :
    ∃ τj τ', StepX P K F ops oj σ xj τj ∧ LogOk ops g j oj σ ∧ StepX P K F ops ok (putT σ.ts τj oj.dst xj) xk τ' ∧ LogOk ops g k ok (putT σ.ts τj oj.dst xj) ∧ putT (putT σ.ts τj oj.dst xj).ts τ' ok.dst xk = putT (putT σ.ts τk ok.dst xk).ts τ oj.dst xj := by
  obtain ⟨a1, a2, a3⟩ := Oper.apart_spec hap
  have lj : Looks ops oj σ (putT σ.ts τk ok.dst xk) := looks_put a1 τk
  have lj' : Looks ops oj (putT σ.ts τk ok.dst xk) σ := ⟨fun z hz => (lj.e z hz).symm, lj.w.symm⟩
  have lk : ∀ τj, Looks ops ok σ (putT σ.ts τj oj.dst xj) := fun τj => looks_put a3 τj
  have hts : ∀ (τ1 τ2 τ3 τ4 : St), τ2.bx = τ4.bx → τ2.rw = τ4.rw → putT (putT σ.ts τ1 oj.dst xj).ts τ2 ok.dst xk = putT (putT σ.ts τ3 ok.dst xk).ts τ4 oj.dst xj := by
    intro τ1 τ2 τ3 τ4 e1 e2
    simp only [putT, e1, e2, St.mk.injEq, and_true]
    cases h1 : ok.dst with
    | none => rfl
    | some d =>
      cases h2 : oj.dst with
      | none => rfl
      | some e => exact st_comm _ _ _ _ _ fun he => a2 d h1 (by rw [h2, he])
  by_cases hq : still ok.op = true ∨ wantedT ops σ ok = some false
  · -- the first leaves all as it is
    have e := S1.quiet hq
    subst e
    have hh : hp σ = hp (putT σ.ts (hp σ) ok.dst xk) := rfl
    have S2' := S2.slots lj' hh
    have L2' := L2.slots lj' (.inr hh)
    refine ⟨τ, hp (putT σ.ts τ oj.dst xj), S2', L2', ?_, ?_, hts _ _ _ _ rfl rfl⟩
    · rcases hq with hq | hq
      · refine S1.agree (lk τ) hq fun hg hw r hr => ?_
        by_cases hqj : still oj.op = true ∨ wantedT ops σ oj = some false
        · have e := S2'.quiet hqj
          subst e
          cases r <;> rfl
        · obtain ⟨rd, wr, lb, lr, g1, g2, g3⟩ := L1 hw
          have hsj : still oj.op = false := by cases h : still oj.op with | false => rfl | true => exact absurd (.inl h) hqj
          rcases S2' with ⟨w1, _⟩ | ⟨w1, w2⟩
          · exact absurd (.inr w1) hqj
          · obtain ⟨rd', wr', lb', lr', g1', g2', g3'⟩ := L2' w1
            obtain ⟨g4, g5, g6⟩ := g3' hsj
            have := agree_frame (σ := hp σ) (hc1 hg hsj) g1 g1' (evOp_frame hsj w2) g4 g5 g6 r (by rw [← g2]; exact hr)
            cases r <;> exact this
      · have := S1
        rcases this with ⟨_, h2, _⟩ | ⟨h1, _⟩
        · exact .inl ⟨(lk τ).w.trans hq, h2, rfl⟩
        · rw [hq] at h1; simp at h1
    · rcases hq with hq | hq
      · exact L1.slots (lk τ) (.inl hq)
      · intro hw; rw [(lk τ).w, hq] at hw; simp at hw
  · -- the first acts: the other doesn't
    have hsk : still ok.op = false := by cases h : still ok.op with | false => rfl | true => exact absurd (.inl h) hq
    have hsj : still oj.op = true := by rcases hs with h | h; rw [hsk] at h; simp at h; exact h
    have e := S2.quiet (.inl hsj)
    subst e
    rcases S1 with ⟨w1, _⟩ | ⟨w1, w2⟩
    · exact absurd (.inr w1) hq
    · have S1 : StepX P K F ops ok σ xk τk := .inr ⟨w1, w2⟩
      obtain ⟨rd', wr', lb', lr', g1', g2', g3'⟩ := L1 w1
      obtain ⟨g4, g5, g6⟩ := g3' hsk
      have S2' : StepX P K F ops oj σ xj (hp σ) := by
        refine S2.agree lj' hsj fun hg hw r hr => ?_
        obtain ⟨rd, wr, lb, lr, g1, g2, _⟩ := L2 hw
        have := agree_frame (σ := hp σ) (hc2 hg hsk) g1 g1' (evOp_frame hsk w2) g4 g5 g6 r (by rw [← g2]; exact hr)
        cases r <;> exact Eq.symm this
      exact ⟨hp σ, τk, S2', L2.slots lj' (.inl hsj), S1.slots (lk _) rfl, L1.slots (lk _) (.inr rfl), hts _ _ _ _ rfl rfl⟩

/-! whatever order is picked -/
def SAny (P : Program) (K : Cfg) (F : Fun) (n : Nat) (ops : Array Oper) (g : List Entry) (τ : St) : Nat → Array Bool → St → Prop
  | 0, listed, σ => Region.ready .any ops listed = [] ∧ σ = τ
  | fuel + 1, listed, σ => (Region.ready .any ops listed = [] → σ = τ) ∧ ∀ i ∈ Region.ready .any ops listed, ∀ o, ops[i]? = some o → dstQ n o.dst = true ∧ ∃ x t, StepX P K F ops o σ x t ∧ LogOk ops g i o σ ∧ SAny P K F n ops g τ fuel (listed.setIfInBounds i true) (putT σ.ts t o.dst x)
theorem hangs_still {op : Op} (h : hangs op = true) : still op = true := by
  unfold hangs at h
  split at h <;> first | rfl | simp at h
def Closed (ops : Array Oper) (listed : Array Bool) : Prop := ∀ j k, listed.getD j false = true → ordQ (Region.before ops).toList j k = true → k < ops.size → listed.getD k false = true
theorem cert_spec (hc : certQ ops = true) {j k : Nat} {oj : Oper} (hj : ops[j]? = some oj) (hk : k < ops.size) (ho : ordQ (Region.before ops).toList j k = true) : ∃ e ∈ oj.after, Region.binds .any e = true ∧ (e.on = k ∨ ordQ (Region.before ops).toList e.on k = true) := by
  have hlt := (Array.getElem?_eq_some_iff.1 hj).1
  simp only [certQ, List.all_eq_true, List.mem_range] at hc
  have := hc j hlt k hk
  rw [ho] at this
  simp only [Bool.not_true, Bool.false_or, opAt, hj, Option.getD_some, Array.any_eq_true', Bool.and_eq_true, Bool.or_eq_true, beq_iff_eq] at this
  exact this
theorem closed_set (hc : certQ ops = true) {listed : Array Bool} (hl : Closed ops listed) {j : Nat} (hj : j ∈ Region.ready .any ops listed) : Closed ops (listed.setIfInBounds j true) := by
  intro a k ha ho hk
  by_cases hja : j = a
  · subst hja
    obtain ⟨_, oj, hoj, hall⟩ := mem_ready.1 hj
    obtain ⟨e, he, hb, h⟩ := cert_spec hc hoj hk ho
    have h1 := hall e he hb
    rcases h with rfl | h
    · exact getD_set_true h1
    · exact getD_set_true (hl _ _ h1 h hk)
  · rw [getD_set_ne false hja] at ha
    exact getD_set_true (hl a k ha ho hk)
theorem sany_first (hcert : certQ ops = true) (hsp : spined ops = true) {g : List Entry} (hg : (unord ops).all (apartQ ops g) = true) {i : Nat} {oi : Oper} (hi : ops[i]? = some oi) (hdi : dstQ n oi.dst = true) : ∀ (fuel : Nat) (listed : Array Bool) (σ : St) (v : T) (t : St),
    Closed ops listed → (∀ j, listed.getD j true = false → i ≤ j) →
    (∀ j oj, ops[j]? = some oj → j ≠ i → listed.getD j true = false → (∀ e ∈ oj.after, Region.binds .any e = true → e.on ≠ i) → oi.apart ops oj = true) →
    i ∈ Region.ready .any ops listed → StepX P K F ops oi σ v t → LogOk ops g i oi σ →
    SAny P K F n ops g τ fuel (listed.setIfInBounds i true) (putT σ.ts t oi.dst v) → SAny P K F n ops g τ (fuel + 1) listed σ := by
  intro fuel
  induction fuel with
  | zero =>
    intro listed σ v t _ _ _ hr S L H
    refine ⟨fun h => (by rw [h] at hr; cases hr), fun j hj o ho => ?_⟩
    by_cases hji : j = i
    · subst hji; rw [hi] at ho; cases ho; exact ⟨hdi, v, t, S, L, H⟩
    · have := ready_mono hj hji
      rw [H.1] at this
      cases this
  | succ fuel ih =>
    intro listed σ v t hcl hge hfree hr S L H
    refine ⟨fun h => (by rw [h] at hr; cases hr), fun j hj oj hoj => ?_⟩
    by_cases hji : j = i
    · subst hji; rw [hi] at hoj; cases hoj; exact ⟨hdi, v, t, S, L, H⟩
    · obtain ⟨hdj, xj, tj, Sj, Lj, Hj⟩ := H.2 j (ready_mono hj hji) oj hoj
      obtain ⟨hjun, oj', hoj', hall⟩ := mem_ready.1 hj
      rw [hoj] at hoj'; cases hoj'
      have hiun := (mem_ready.1 hr).1
      have hisz := (Array.getElem?_eq_some_iff.1 hi).1
      have hjsz := (Array.getElem?_eq_some_iff.1 hoj).1
      have hinot : listed.getD i false ≠ true := by
        intro h1
        rcases Nat.lt_or_ge i listed.size with h' | h'
        · simp [h'] at hiun h1; rw [hiun] at h1; cases h1
        · simp [Array.getElem?_eq_none h'] at h1
      have hnot : ∀ e ∈ oj.after, Region.binds .any e = true → e.on ≠ i := fun e he hb heq => hinot (heq ▸ hall e he hb)
      have hord : ordQ (Region.before ops).toList j i = false := by
        cases h : ordQ (Region.before ops).toList j i with
        | false => rfl
        | true =>
          obtain ⟨e, he, hb, h2⟩ := cert_spec hcert hoj hisz h
          rcases h2 with h2 | h2
          · exact absurd h2 (hnot e he hb)
          · exact absurd (hcl _ _ (hall e he hb) h2 hisz) hinot
      have hij : i < j := by have := hge j hjun; omega
      have ei : opAt ops i = oi := by simp [opAt, hi]
      have ej : opAt ops j = oj := by simp [opAt, hoj]
      have hst : still oi.op = true ∨ still oj.op = true := by
        simp only [spined, List.all_eq_true, List.mem_range] at hsp
        have := hsp j hjsz i hij
        rw [ei, ej, hord] at this
        simpa using this
      have hmem : ((hangs oi.op && !still oj.op) || (!still oi.op && hangs oj.op)) = true → apartQ ops g (i, j) = true := by
        intro h
        refine List.all_eq_true.1 hg (i, j) ?_
        simp only [unord]
        refine List.mem_flatMap.2 ⟨j, List.mem_range.2 hjsz, List.mem_filterMap.2 ⟨i, List.mem_range.2 hij, ?_⟩⟩
        rw [hord, ei, ej]
        simp only [Bool.false_eq_true, if_false]
        rw [if_pos h]
      obtain ⟨τj, τ', S1, L1, S2, L2, e⟩ := swap (hfree j oj hoj hji hjun hnot) hst
        (fun h1 h2 => by have := hmem (by simp [h1, h2]); simpa only [apartQ, ei, ej, hangs_still h1, if_true] using this)
        (fun h1 h2 => by have := hmem (by simp [h1, h2]); simpa only [apartQ, ei, ej, h2, Bool.false_eq_true, if_false] using this) S L Sj Lj
      refine ⟨hdj, xj, τj, S1, L1, ?_⟩
      have hge' : ∀ k, (listed.setIfInBounds j true).getD k true = false → listed.getD k true = false := fun k hk => by
        by_cases hjk : j = k
        · subst hjk; exact hjun
        · rw [getD_set_ne true hjk] at hk; exact hk
      refine ih (listed.setIfInBounds j true) _ v τ' (closed_set hcert hcl hj) (fun k hk => hge k (hge' k hk)) (fun k okk hk hki hun hno => hfree k okk hk hki (hge' k hun) hno) (ready_mono hr (Ne.symm hji)) S2 L2 ?_
      rw [Array.setIfInBounds_comm _ _ hji, e]
      exact Hj
theorem evLog_get {F : Fun} : ∀ (l : List Oper) {σ τ : St} {g0 g : List Entry}, evLog P K F n ops l σ g0 = some (g, τ) → ∃ g', g = g0 ++ g'
  | [], σ, τ, g0, g, h => by simp [evLog] at h; exact ⟨[], by simp [h.1]⟩
  | o :: l, σ, τ, g0, g, h => by
    rw [evLog_cons] at h
    obtain ⟨b, hb, h⟩ := Option.bind_eq_some_iff.1 h
    obtain ⟨σ1, h1, h2⟩ := Option.bind_eq_some_iff.1 h
    obtain ⟨g', e⟩ := evLog_get l h2
    exact ⟨_, by rw [e, List.append_assoc]⟩
theorem sany_lex (hcert : certQ ops = true) (hsp : spined ops = true) {g : List Entry} (hg : (unord ops).all (apartQ ops g) = true) : ∀ (l : List Oper) (k : Nat) (listed : Array Bool) (σ : St) (g0 : List Entry), (∀ j, l[j]? = ops[k + j]?) → g0.length = k →
    Region.lexFrom .any ops l.length k listed = true → Closed ops listed → (∀ j, listed.getD j true = false → k ≤ j) → evLog P K F n ops l σ g0 = some (g, τ) → SAny P K F n ops g τ l.length listed σ
  | [], k, listed, σ, g0, _, _, hB, _, _, h => by
    simp [evLog] at h
    exact ⟨by simpa [Region.lexFrom] using hB, h.2⟩
  | o :: l, k, listed, σ, g0, hl, hlen, hB, hcl, hge, h => by
    have h0 : ops[k]? = some o := by simpa using (hl 0).symm
    simp only [List.length_cons, Region.lexFrom, Bool.and_eq_true] at hB
    obtain ⟨⟨hr, hf⟩, hB'⟩ := hB
    rw [evLog_cons] at h
    obtain ⟨b, hb, h⟩ := Option.bind_eq_some_iff.1 h
    obtain ⟨σ1, h1, h2⟩ := Option.bind_eq_some_iff.1 h
    obtain ⟨hd, x, t, S, rfl⟩ := evStep_iff.1 h1
    have hrd : k ∈ Region.ready .any ops listed := by simpa using hr
    have L : LogOk ops g k o σ := by
      intro hw
      rw [hb] at hw
      simp only [Option.some.injEq] at hw
      subst hw
      obtain ⟨g', e⟩ := evLog_get l h2
      refine ⟨_, _, _, _, ?_, rfl, fun _ => ⟨rfl, rfl, rfl⟩⟩
      rw [e, List.getD_eq_getElem?_getD, List.append_assoc, List.getElem?_append_right (by omega), hlen]
      simp [entry]
    refine sany_first hcert hsp hg h0 hd l.length listed σ x t hcl hge (Region.free_spec h0 hf) hrd S L ?_
    refine sany_lex hcert hsp hg l (k + 1) _ _ _ (fun j => by have := hl (j + 1); simpa [Nat.add_assoc, Nat.add_comm 1 j] using this) (by simp [hlen]) hB' (closed_set hcert hcl hrd) (fun j hj => ?_) h2
    by_cases hkj : k = j
    · subst hkj
      have hun := (mem_ready.1 hrd).1
      rcases Nat.lt_or_ge k listed.size with h' | h'
      · simp [h'] at hj
      · simp [Array.getElem?_eq_none h'] at hun
    · rw [getD_set_ne true hkj] at hj
      have := hge j hj; omega
theorem evLog_of {F : Fun} : ∀ (l : List Oper) {σ τ : St} (g0 : List Entry), evOps P K F n ops l σ = some τ → ∃ g, evLog P K F n ops l σ g0 = some (g, τ)
  | [], σ, τ, g0, h => by simp [evOps] at h; exact ⟨g0, by simp [evLog, h]⟩
  | o :: l, σ, τ, g0, h => by
    rw [evOps_cons] at h
    obtain ⟨σ1, h1, h2⟩ := Option.bind_eq_some_iff.1 h
    obtain ⟨hd, x, t, S, e⟩ := evStep_iff.1 h1
    have hb : ∃ b, wantedT ops σ o = some b := by rcases S with ⟨h, _⟩ | ⟨h, _⟩ <;> exact ⟨_, h⟩
    obtain ⟨b, hb⟩ := hb
    obtain ⟨g, h3⟩ := evLog_of l (g0 ++ [if b then entry σ o else none]) h2
    exact ⟨g, by rw [evLog_cons, hb]; simp only [Option.bind_some, h1]; exact h3⟩
theorem sany_ok (hF : ∀ g, FOk P g (F g)) {w0 : World} {B : Bd} {E0 : Env} {g : List Entry} {Q : Go.Exit → Act → World → Prop} (hQ : ∀ a' w', Inv w0 B E0 n τ a' w' → Q .normal a' w') : ∀ (fuel : Nat) (listed : Array Bool) (σ : St) (a : Act) (w : World), SAny P K F n ops g τ fuel listed σ → Inv w0 B E0 n σ a w → wpAny P .any ops Q fuel listed a w
  | 0, _, σ, a, w, h, I => ⟨h.1, hQ _ _ (h.2 ▸ I)⟩
  | fuel + 1, listed, σ, a, w, h, I => ⟨fun h0 => hQ _ _ (h.1 h0 ▸ I), fun i hi => by
      unfold wpOp
      cases ho : ops[i]? with
      | none => simp only [mem_ready, ho] at hi; obtain ⟨_, _, h1, _⟩ := hi; simp at h1
      | some o =>
        obtain ⟨hd, x, t, S, _, H⟩ := h.2 i hi o ho
        exact evStep_ok hF I (evStep_iff.2 ⟨hd, x, t, S, rfl⟩) _ Q fun a' w' I' => sany_ok hF hQ fuel _ _ a' w' H I'⟩
theorem Inv.drew {w0 w : World} {B : Bd} {E0 : Env} {a : Act} (I : Inv w0 B E0 n σ a w) : Inv w0 B E0 n σ a { w with drawn := w.drawn + 1 } := by
  obtain ⟨⟨E, ok, M, hT, hE, hk⟩, h1, h2⟩ := I
  obtain ⟨M', k'⟩ := M.drew
  exact ⟨⟨E, ok, M', fun t => (hT t).keep k' (.refl _), hE, fun k a b => hk k a b⟩, h1, h2⟩
theorem sany_of {F : Fun} {σ σ' : St} (h : evDraw0 P K F n ops σ = some σ') : ∃ g, SAny P K F n ops g σ' ops.size (Array.replicate ops.size false) σ := by
  unfold evDraw0 at h
  split at h
  · rename_i hd
    simp only [drawQ, Bool.and_eq_true] at hd
    obtain ⟨⟨hsp, hcert⟩, hB⟩ := hd
    have key : ∃ g, evLog P K F n ops ops.toList σ [] = some (g, σ') ∧ (unord ops).all (apartQ ops g) = true := by
      split at h
      · rename_i hu
        obtain ⟨g, hg⟩ := evLog_of _ [] h
        exact ⟨g, hg, by rw [hu]; rfl⟩
      · obtain ⟨⟨g, τ⟩, h1, h2⟩ := Option.bind_eq_some_iff.1 h
        simp only at h2
        split at h2
        · rename_i ha; simp only [Option.some.injEq] at h2; subst h2; exact ⟨g, h1, ha⟩
        · simp at h2
    obtain ⟨g, h1, h2⟩ := key
    simp only [Region.lexB, Bool.and_eq_true] at hB
    have := sany_lex hcert hsp h2 ops.toList 0 (Array.replicate ops.size false) σ [] (by simp) rfl (by simpa using hB.2) (fun j k h => by
      rcases Nat.lt_or_ge j ops.size with h' | h'
      · simp [h'] at h
      · simp [h'] at h) (fun _ _ => Nat.zero_le _) h1
    exact ⟨g, by simpa using this⟩
  · simp at h

/-! rooms that are taken early -/
section
variable {w0 w w' : World} {B : Bd} {E E' E0 : Env} {ok ok' : Nat → Prop} {a : Act}
theorem Mem.base (M : Mem w0 B σ E ok w) : Mem w ⟨Muts σ E, ok⟩ σ E ok w :=
  ⟨⟨rfl, rfl, rfl, Nat.le_refl _, fun _ _ _ => rfl⟩, fun _ h => .inl h, M.lb, M.lr, M.box, M.raw, fun x k h => ⟨(M.mine x k h).1, .inr ⟨x, h⟩, (M.mine x k h).2.2⟩, M.dis⟩
theorem Mem.unbase (M : Mem w0 B σ E ok w) (N : Mem w ⟨Muts σ E, ok⟩ τ E' ok' w') : Mem w0 B τ E' ok' w' := by
  have hL : ∀ k, Muts σ E k → w0.heap.size ≤ k ∨ B.L k := fun k ⟨x, hx⟩ => (M.mine x k hx).2.1
  refine ⟨⟨N.fr.os.trans M.fr.os, N.fr.tape.trans M.fr.tape, N.fr.output.trans M.fr.output, Nat.le_trans M.fr.size N.fr.size, fun k hk hl => ?_⟩, fun k h => ?_, N.lb, N.lr, N.box, N.raw, fun x k h => ?_, N.dis⟩
  · refine (N.fr.old k (Nat.lt_of_lt_of_le hk M.fr.size) fun h => ?_).trans (M.fr.old k hk hl)
    rcases hL k h with h | h
    · omega
    · exact hl h
  · rcases N.okin k h with h | h | h
    · exact M.okin k h
    · exact .inr (.inl (Nat.le_trans M.fr.size h))
    · exact .inr (hL k h)
  · obtain ⟨h1, h2, h3⟩ := N.mine x k h
    refine ⟨h1, ?_, h3⟩
    rcases h2 with h2 | h2
    · exact .inl (Nat.le_trans M.fr.size h2)
    · exact hL k h2
theorem zc_views {σ τ : St} : ∀ {l : List T}, l.all zcell = true → views σ l = views τ l
  | [], _ => rfl
  | x :: l, h => by
    simp only [List.all_cons, Bool.and_eq_true] at h
    have ih := zc_views (σ := σ) (τ := τ) h.2
    cases x <;> try (simp [zcell] at h; done)
    all_goals simp only [views, view, elems, ih]
theorem zc_holds {w : World} {ok : Nat → Prop} {E : Env} {σ : St} : ∀ {l : List T} {us : List Value} {cs : List C}, l.all zcell = true → All2 (XRel w ok E) l us → views σ l = some cs → ∀ w' ok', All2 (Holds w' ok') cs us
  | [], us, cs, _, hx, h, w', ok' => by cases hx; simp [views] at h; subst h; exact .nil
  | x :: l, us, cs, hz, hx, h, w', ok' => by
    simp only [List.all_cons, Bool.and_eq_true] at hz
    cases hx with
    | cons h1 h2 =>
      simp only [views, Option.bind_eq_some_iff, Option.map_eq_some_iff] at h
      obtain ⟨c, hc, cs', hcs, rfl⟩ := h
      refine .cons ?_ (zc_holds hz.2 h2 hcs w' ok')
      have hz1 := hz.1
      cases x <;> try (simp [zcell] at hz1; done)
      case c x =>
        cases x with
        | r l => simp [zcell] at hz1
        | s v =>
          simp only [view, Option.some.injEq] at hc
          subst hc
          simp only [XRel] at h1
          cases h1 with
          | s _ h => exact .s _ h
      case nil =>
        simp only [view, elems, Option.map_some, Option.some.injEq] at hc
        subst hc
        simp only [XRel] at h1
        subst h1
        exact .r [] none 0 0 0 (fun _ _ => undef) rfl (Nat.le_refl _) (by simp) (fun i j h => by omega) (by simp)
theorem constSlice_op {t : TypeId} {len : Nat} {parts : List (Nat × T)} {q : Row} (h : constSlice P t len parts = some q) (τ : St) : opBuildSlice P false τ t len parts = some (newRow τ q) := by
  unfold constSlice at h
  simp only [Option.bind_eq_some_iff] at h
  obtain ⟨e, he, i, hi, z, hz, zl, hzl, h⟩ := h
  split at h
  · rename_i hc
    obtain ⟨l, hl, h⟩ := Option.bind_eq_some_iff.1 h
    split at h
    · rename_i ha
      obtain ⟨cs, hcs, rfl⟩ := Option.map_eq_some_iff.1 h
      rw [zc_views (τ := τ) ha] at hcs
      simp only [opBuildSlice, he, hi, hz, hzl, Option.bind_some]
      rw [if_pos hc, hl]
      simp only [Option.bind_some, Bool.false_eq_true, if_false, hcs, Option.map_some, (zc_digs l ha hcs).2]
    · simp at h
  · simp at h
theorem constSlice_run {t : TypeId} {len : Nat} {parts : List (Nat × T)} {pv : Array (Nat × Value)} {q : Row} (hp : All2 (fun p q => p.1 = q.1 ∧ TRel (w := w) (ok := fun _ => False) (E := ⟨[], [], fun _ => []⟩) p.2 q.2) parts pv.toList) (h : constSlice P t len parts = some q) :
    ∃ zs e, (Instr.buildSlice t len pv).run P w = .ok (.slice (some ⟨w.heap.size, 0, none⟩) len len) (w.alloc (.cells zs e)) ∧ ∀ ok, RowOk (w.alloc (.cells zs e)) ok [] ⟨some ⟨w.heap.size, 0, none⟩, len, len, q.sz, some w.heap.size⟩ q := by
  unfold constSlice at h
  simp only [Option.bind_eq_some_iff] at h
  obtain ⟨e, he, i, hi, z, hz, zl, hzl, h⟩ := h
  split at h
  · rename_i hc
    obtain ⟨l, hl, h⟩ := Option.bind_eq_some_iff.1 h
    split at h
    · rename_i ha
      obtain ⟨cs, hcs, rfl⟩ := Option.map_eq_some_iff.1 h
      obtain ⟨h0, hzlen, hbig, _⟩ := hc
      have hzr := (constT_rel (w := w) (ok := fun _ => False) (E := ⟨[], [], fun _ => []⟩) z).flat hzl
      have hzs : z.cells.size = i.size := by rw [← hzlen, hzr.len]; simp
      have hzero := zeros_rel len hzr
      rw [hzs] at hzero
      obtain ⟨zs', h1, h2⟩ := fill_rel parts pv.toList _ l _ hp hzero hl
      have hll : zs'.size = len * i.size := by
        have e1 := h2.len
        simp only [Array.length_toList] at e1
        have e2 : l.length = len * i.size := by
          have : ∀ (ps : List (Nat × T)) (cs l : List T), fillT (fun j => some (j * i.size, i.size)) cs ps = some l → l.length = cs.length := by
            intro ps
            induction ps with
            | nil => intro cs l h; simp [fillT] at h; rw [h]
            | cons p ps ih =>
              intro cs l h
              obtain ⟨a, x⟩ := p
              simp only [fillT, Option.bind_eq_some_iff, Option.some.injEq] at h
              obtain ⟨_, rfl, x', hx', h⟩ := h
              split at h
              · simp only [Option.bind_eq_some_iff] at h
                obtain ⟨cs', hcs', h⟩ := h
                rw [ih _ _ h]
                unfold splice at hcs'
                split at hcs'
                · simp only [Option.some.injEq] at hcs'; rw [← hcs']; simp; omega
                · simp at hcs'
              · simp at h
          rw [this _ _ _ hl, flat_rep_len, hzlen]
        omega
      have hrun : (Instr.buildSlice t len pv).run P w = .ok (.slice (some ⟨w.heap.size, 0, none⟩) len len) (w.alloc (.cells zs' e)) := by
        have hu := und_elOf he
        have hb' : ¬ (2 ^ 24 < len * i.size) := by omega
        by_cases hl0 : len * i.size = 0
        · have hlen : len = 0 := by rcases Nat.mul_eq_zero.1 hl0 with h | h <;> omega
          subst hlen
          have e1 : ∀ g : Nat → Value, (Array.range 0).map g = #[] := fun g => by simp [Array.range_zero']
          rw [Nat.zero_mul, e1] at h1
          simp [Instr.buildSlice, run_und hu, sizeOf, typeInfo, hi, Go.newRow, e1, h1]
        · simp [Instr.buildSlice, run_und hu, sizeOf, typeInfo, hi, Go.newRow, hb', hl0, zeroValue, hz, hzs, h1]
      refine ⟨zs', e, hrun, fun ok => ⟨rfl, ?_⟩⟩
      have hv := zc_holds ha h2 hcs (w.alloc (.cells zs' e)) ok
      have hcl : cs.length = len * i.size := by rw [hv.len]; simpa using hll
      simp only [if_true]
      refine ⟨chunk_len _ _, Nat.le_refl _, chunk_wide _ _ hcl, fun h => by simp at h; omega, 0, e, zs', rfl, push_new, by simp; omega, fun a b el c ha hb => ?_⟩
      obtain ⟨u, h3, h4⟩ := hv.get _ _ (chunk_get _ _ _ _ _ _ ha hb)
      exact ⟨u, by simpa using h3, h4⟩
    · simp at h
  · simp at h
/-- what is taken, told later: a box or a row -/
def newP (σ : St) : List T ⊕ Row → T × St
  | .inl l => newBox σ l
  | .inr q => newRow σ q
theorem roomVal_ev {F : Fun} {o : Oper} {p : List T ⊕ Row} (hr : roomQ o = true) (h : roomVal P K o = some p) (σ τ : St) : evOp P K F (ev σ) τ o = some (newP τ p) := by
  obtain ⟨dst, op, type, pos, after, guard⟩ := o
  unfold roomQ at hr
  simp only at hr
  split at hr
  · rename_i t h1 h2 h3
    unfold roomVal at h
    simp only [Option.bind_eq_some_iff, Option.map_eq_some_iff] at h
    obtain ⟨ti, hi, z, hz, l, hl, rfl⟩ := h
    simp only [evOp, opAlloc, hi, hz, hl, Option.bind_some, Option.map_some, newP]
  · rename_i t len parts d
    unfold roomVal at h
    simp only at h
    split at h
    · simp at h
    · rename_i hdp
      obtain ⟨q, hq, rfl⟩ := Option.map_eq_some_iff.1 h
      have e : (parts.toList.map fun p => (p.1, ev σ p.2)) = parts.toList.map fun p => (p.1, ev ⟨[], [], []⟩ p.2) := by
        refine List.map_congr_left fun p hp => ?_
        have := List.all_eq_true.1 hr p hp
        obtain ⟨a, x⟩ := p
        cases x <;> simp_all [constQ, ev]
      have hdp' : K.dp t = false := by simpa using hdp
      simp only [evOp, hdp', newP]
      have e' : (parts.toList.map fun (x : Nat × Operand) => match x with | (i, x) => (i, ev σ x)) = parts.toList.map fun (x : Nat × Operand) => match x with | (i, x) => (i, ev ⟨[], [], []⟩ x) := e
      rw [e']
      exact constSlice_op hq τ
  · simp at hr
def PendV (w : World) (ok : Nat → Prop) (E : Env) (v : Value) (k : Nat) : List T ⊕ Row → Prop
  | .inl l => v = ptr k ∧ BoxOk w ok E k l
  | .inr q => q.ow = true ∧ q.dp = .f ∧ ∃ r : RV, r.κ = some k ∧ v = .slice r.a r.n r.cap ∧ RowOk w ok [] r q
theorem PendV.keep {w w' : World} {ok ok' : Nat → Prop} {E E' : Env} {v : Value} {k : Nat} {p : List T ⊕ Row} (hk : Keep w w' ok ok') (hE : E.Le E') (hs : w'.heap[k]? = w.heap[k]?) (h : PendV w ok E v k p) : PendV w' ok' E' v k p := by
  cases p with
  | inl l => exact ⟨h.1, h.2.keep hk hE hs⟩
  | inr q =>
    obtain ⟨h1, h2, r, h3, h4, h5⟩ := h
    exact ⟨h1, h2, r, h3, h4, h5.keep hk (fun k' _ e => by rw [h3] at e; cases e; exact hs) (by simp)⟩
structure PendAt (P : Program) (K : Cfg) (F : Fun) (w0 : World) (B : Bd) (ops : Array Oper) (σ : St) (E : Env) (ok : Nat → Prop) (w : World) (a : Act) (j k : Nat) : Prop where
  op : ∃ o d p, ops[j]? = some o ∧ roomQ o = true ∧ o.dst = some d ∧ (∀ σ τ, evOp P K F (ev σ) τ o = some (newP τ p)) ∧ PendV w ok E (a.tmps.getD d undef) k p
  nok : ¬ ok k
  new : w0.heap.size ≤ k ∨ B.L k
  lt : k < w.heap.size
  nm : ∀ x, mutAt σ E x ≠ some k
structure PInv (P : Program) (K : Cfg) (F : Fun) (w0 : World) (B : Bd) (E0 : Env) (n : Nat) (ops : Array Oper) (pd : Nat → Option Nat) (σ : St) (a : Act) (w : World) : Prop where
  run : ∃ E ok, Mem w0 B σ E ok w ∧ Tmps w ok E σ a ∧ E0.Le E ∧ Keep w0 w B.okA ok ∧ ∀ j k, pd j = some k → PendAt P K F w0 B ops σ E ok w a j k
  size : a.tmps.size = n
  defers : a.defers = []
  inj : ∀ i j k, pd i = some k → pd j = some k → i = j
theorem room_spec {o : Oper} (h : roomQ o = true) : o.guard = none ∧ ∃ d, o.dst = some d := by
  unfold roomQ at h
  split at h
  · rename_i h1 h2 h3; exact ⟨h2, _, h3⟩
  · rename_i h1 h2 h3; exact ⟨h2, _, h3⟩
  · simp at h
theorem PInv.start {ds : List Tmp} (I : Inv w0 B E0 n σ a w) : PInv P K F w0 B E0 n ops (fun _ => none) (clr ds σ) a w := by
  obtain ⟨⟨E, ok, M, hT, hE, hk⟩, h1, h2⟩ := I
  refine ⟨⟨E, ok, M.ts _, ?_, hE, hk, by simp⟩, h1, h2, by simp⟩
  have key : ∀ (ds : List Tmp) (l : List T), (∀ t, TRel w ok E (gt l t) (a.tmps.getD t undef)) → ∀ t, TRel w ok E (gt (ds.foldl (fun ts d => st ts d .no) l) t) (a.tmps.getD t undef) := by
    intro ds
    induction ds with
    | nil => intro l h; exact h
    | cons d ds ih =>
      intro l h
      refine ih _ fun t => ?_
      by_cases hd : d = t
      · subst hd; rw [gt_st_eq]; trivial
      · rw [gt_st_ne _ _ _ _ hd]; exact h t
  exact key ds _ hT
theorem PInv.inv {pd : Nat → Option Nat} (I : PInv P K F w0 B E0 n ops pd σ a w) : Inv w0 B E0 n σ a w :=
  let ⟨E, ok, M, hT, hE, hk, _⟩ := I.run; ⟨⟨E, ok, M, hT, hE, hk⟩, I.size, I.defers⟩
theorem PInv.mat {pd : Nat → Option Nat} {j k : Nat} {o : Oper} {x : T} {t : St} (I : PInv P K F w0 B E0 n ops pd σ a w) (hj : pd j = some k) (ho : ops[j]? = some o) (S : StepX P K F (late ops) (lateOp ops j o) σ x t) :
    PInv P K F w0 B E0 n ops (fun i => if i = j then none else pd i) (putT σ.ts t o.dst x) a w := by
  obtain ⟨⟨E, ok, M, hT, hE, hk, hp⟩, h1, h2, h3⟩ := I
  obtain ⟨⟨o', d, p, e1, e2, e4, e5, e6⟩, nok, new, hlt, nm⟩ := hp j k hj
  rw [ho] at e1; cases e1
  obtain ⟨hg, _⟩ := room_spec e2
  have hx : newP ((⟨[], σ.bx, σ.rw⟩ : St)) p = (x, t) := by
    rcases S with ⟨hw, _⟩ | ⟨_, hw⟩
    · rw [wanted_late] at hw; simp [wantedT, hg] at hw
    · rw [evOp_late, e5] at hw
      exact Option.some.inj hw
  have key : ∃ E', Mem w0 B (newP (⟨[], σ.bx, σ.rw⟩ : St) p).2 E' ok w ∧ E.Le E' ∧ TRel w ok E' (newP (⟨[], σ.bx, σ.rw⟩ : St) p).1 (a.tmps.getD d undef) ∧ ∀ j', Muts (newP (⟨[], σ.bx, σ.rw⟩ : St) p).2 E' j' → Muts (⟨[], σ.bx, σ.rw⟩ : St) E j' ∨ j' = k := by
    cases p with
    | inl l =>
      obtain ⟨e6, e7⟩ := e6
      obtain ⟨m1, hle, m3⟩ := (M.ts []).newB e7 nok new nm
      exact ⟨_, m1, hle, by rw [e6]; exact m3, fun j' hm => mut_newBox (M.ts []) hm⟩
    | inr q =>
      obtain ⟨e6, e7, r, e8, e9, e10⟩ := e6
      obtain ⟨m1, hle, m3⟩ := (M.ts []).newR e7 e10 fun k' _ hk' => by
        rw [e8] at hk'; cases hk'; exact ⟨nok, new, nm⟩
      refine ⟨_, m1, hle, by rw [e9]; exact m3, fun j' hm => ?_⟩
      rcases mut_newRow (M.ts []) hm with h | h | h
      · exact .inl h
      · rw [e8] at h; cases h; exact .inr rfl
      · exact absurd e7 h.1
  rw [hx] at key
  obtain ⟨E', m1, hle, m3, hmut⟩ := key
  refine ⟨⟨E', ok, m1.put _ _ _, ?_, hE.trans hle, hk, fun i k' hi => ?_⟩, h1, h2, fun i i' k' hi hi' => ?_⟩
  · intro s
    rw [e4]
    by_cases hd : d = s
    · subst hd; simp only [putT, gt_st_eq]; exact m3
    · simp only [putT, gt_st_ne _ _ _ _ hd]; exact (hT s).keep keep_refl hle
  · by_cases hij : i = j
    · simp [hij] at hi
    · rw [if_neg hij] at hi
      obtain ⟨⟨o2, d2, p2, f1, f2, f4, f5, f6⟩, nok2, new2, hlt2, nm2⟩ := hp i k' hi
      refine ⟨⟨o2, d2, p2, f1, f2, f4, f5, f6.keep keep_refl hle rfl⟩, nok2, new2, hlt2, fun y hy => ?_⟩
      rcases hmut k' ⟨y, hy⟩ with ⟨z, hz⟩ | rfl
      · exact nm2 z hz
      · exact hij (h3 i j _ hi hj)
  · by_cases hij : i = j
    · simp [hij] at hi
    · by_cases hij' : i' = j
      · simp [hij'] at hi'
      · rw [if_neg hij] at hi; rw [if_neg hij'] at hi'; exact h3 i i' k' hi hi'
theorem PInv.next {pd : Nat → Option Nat} {o : Oper} {x : T} {v : Value} {t : St} (hqd : dstQ n o.dst = true) (M : Mem w0 B σ E ok w) (hT : Tmps w ok E σ a) (hE : E0.Le E) (hk : Keep w0 w B.okA ok) (hp : ∀ j k, pd j = some k → PendAt P K F w0 B ops σ E ok w a j k) (h1 : a.tmps.size = n) (h2 : a.defers = []) (h3 : ∀ i j k, pd i = some k → pd j = some k → i = j)
    (hd : ∀ j k oj, pd j = some k → ops[j]? = some oj → oj.dst ≠ o.dst) (hr : StepR w ⟨Muts σ E, ok⟩ w ok E t x v w') : PInv P K F w0 B E0 n ops pd (putT σ.ts t o.dst x) (a.put o.dst v) w' := by
  obtain ⟨E', ok', M', hE', hk', ht⟩ := hr
  refine ⟨⟨E', ok', (M.unbase M').put _ _ _, ?_, hE.trans hE', fun k c1 c2 => ?_, fun j k hj => ?_⟩, put_size.trans h1, put_defers'.trans h2, h3⟩
  · exact Tmps.put (fun s => (hT s).keep hk' hE') (by rw [h1]; exact hqd) ht
  · obtain ⟨h5, h6⟩ := hk k c1 c2
    obtain ⟨h7, h8⟩ := hk' k h6 (Nat.lt_of_lt_of_le c2 M.fr.size)
    exact ⟨h7.trans h5, h8⟩
  · obtain ⟨⟨o2, d2, p2, f1, f2, f4, f5, f6⟩, nok2, new2, hlt2, nm2⟩ := hp j k hj
    have hnm : ¬ Muts σ E k := fun ⟨z, hz⟩ => nm2 z hz
    have hs := M'.fr.old k hlt2 hnm
    refine ⟨⟨o2, d2, p2, f1, f2, f4, f5, ?_⟩, fun h => ?_, new2, Nat.lt_of_lt_of_le hlt2 M'.fr.size, fun y hy => ?_⟩
    · have hne := hd j k o2 hj f1
      rw [f4] at hne
      have f6 := f6.keep hk' hE' hs
      cases ho : o.dst with
      | none => exact f6
      | some d =>
        rw [ho] at hne
        have hdd : d ≠ d2 := fun e => hne (by rw [e])
        have e : (a.put (some d) v).tmps.getD d2 undef = a.tmps.getD d2 undef := by
          simp [Act.put, Array.getD_eq_getD_getElem?, Array.getElem?_setIfInBounds_ne hdd]
        rw [e]; exact f6
    · rcases M'.okin k h with h | h | h
      · exact nok2 h
      · omega
      · exact hnm h
    · rcases (M'.mine y k hy).2.1 with h | h
      · omega
      · exact hnm h
theorem PInv.step (hF : ∀ g, FOk P g (F g)) {pd : Nat → Option Nat} {o : Oper} {σ1 : St} (I : PInv P K F w0 B E0 n ops pd σ a w) (h : evStep P K F n ops o σ = some σ1)
    (hd : ∀ j k oj, pd j = some k → ops[j]? = some oj → oj.dst ≠ o.dst) :
    ∀ (next : Act → World → Prop) (Q : Go.Exit → Act → World → Prop), (∀ a' w', PInv P K F w0 B E0 n ops pd σ1 a' w' → next a' w') → if Region.wanted o (yielded ops a.tmps) then o.wp P a w next Q ∨ (o.asks P a w ∧ LetsOut Q) else next (a.put o.dst undef) w := by
  intro next Q hn
  obtain ⟨⟨E, ok, M, hT, hE, hk, hp⟩, h1, h2, h3⟩ := I
  unfold evStep at h
  split at h
  · rename_i hq
    simp only [Option.bind_eq_some_iff] at h
    obtain ⟨b, hw, h⟩ := h
    rw [wanted_ok hT hw]
    cases b with
    | true =>
      simp only [Option.map_eq_some_iff] at h
      obtain ⟨⟨x, t⟩, h4, rfl⟩ := h
      refine .inl (evOp_ok hF (M.base.ts []) (fun x => ev_rel hT x) h4 next Q fun v w' hr => hn _ _ ?_)
      exact PInv.next hq M hT hE hk hp h1 h2 h3 hd hr
    | false =>
      simp only [Option.some.injEq] at h
      subst h
      simp only [Bool.false_eq_true, if_false]
      exact hn _ _ (PInv.next hq M hT hE hk hp h1 h2 h3 hd (.still M.base noneT_rel))
  · simp at h
theorem all2_const {w : World} {ok : Nat → Prop} {E : Env} {a : Act} : ∀ (l : List (Nat × Operand)), l.all (fun p => constQ p.2) = true → All2 (fun p q => p.1 = q.1 ∧ TRel w ok E p.2 q.2) (l.map fun (x : Nat × Operand) => match x with | (i, x) => (i, ev ⟨[], [], []⟩ x)) (l.map fun (x : Nat × Operand) => match x with | (i, x) => (i, a.eval x))
  | [], _ => .nil
  | (i, x) :: l, h => by
    simp only [List.all_cons, Bool.and_eq_true] at h
    refine .cons ⟨rfl, ?_⟩ (all2_const l h.2)
    have h1 := h.1
    cases x <;> try (simp [constQ] at h1; done)
    exact constT_rel _
theorem PInv.take {pd : Nat → Option Nat} {i : Nat} {o : Oper} (I : PInv P K F w0 B E0 n ops pd σ a w) (ho : ops[i]? = some o) (hr : roomQ o = true) (hq : dstQ n o.dst = true) (hok : (roomVal P K o).isSome = true) (hno : ∀ d, o.dst = some d → gt σ.ts d = .no)
    (hpn : pd i = none) (hd : ∀ j oj, ops[j]? = some oj → j ≠ i → oj.dst ≠ o.dst) :
    ∀ (next : Act → World → Prop) (Q : Go.Exit → Act → World → Prop), (∀ a' w' k, PInv P K F w0 B E0 n ops (fun j => if j = i then some k else pd j) σ a' w' → next a' w') → if Region.wanted o (yielded ops a.tmps) then o.wp P a w next Q ∨ (o.asks P a w ∧ LetsOut Q) else next (a.put o.dst undef) w := by
  intro next Q hn
  obtain ⟨⟨E, ok, M, hT, hE, hk, hp⟩, h1, h2, h3⟩ := I
  obtain ⟨e2, d, e3⟩ := room_spec hr
  have hw : Region.wanted o (yielded ops a.tmps) = true := by unfold Region.wanted; rw [e2]
  rw [if_pos hw]
  obtain ⟨p, hp0⟩ := Option.isSome_iff_exists.1 hok
  have hev := fun σ τ => roomVal_ev (F := F) hr hp0 σ τ
  have key : ∃ c e v, (execOp a.eval o).run P w = .ok (.value v) (w.alloc (.cells c e)) ∧ PendV (w.alloc (.cells c e)) (lt w ok) E v w.heap.size p := by
    have hr0 := hr
    unfold roomQ at hr
    split at hr
    · rename_i ty d' g1 g2 g3
      unfold roomVal at hp0
      rw [g1] at hp0
      simp only [Option.bind_eq_some_iff, Option.map_eq_some_iff] at hp0
      obtain ⟨ti, hi, z, hz, l, hl, rfl⟩ := hp0
      have hrun : (Instr.alloc ty true (.tuple #[])).run P w = .ok (ptr w.heap.size) (w.alloc (.cells z.cells ty)) := by
        simp [Instr.alloc, run_zero hi hz, newVar, Go.newRow]; rfl
      exact ⟨z.cells, ty, ptr w.heap.size, by simp [execOp, g1, hrun], rfl, ty, z.cells, push_new, ((constT_rel (w := w) (ok := ok) (E := E) z).flat hl).imp fun _ _ h => h.keep (keep_push _) (.refl _)⟩
    · rename_i t len parts d' g1 g2 g3
      unfold roomVal at hp0
      rw [g1] at hp0
      simp only at hp0
      split at hp0
      · simp at hp0
      · obtain ⟨q, hq', rfl⟩ := Option.map_eq_some_iff.1 hp0
        obtain ⟨zs, e, hrun, hrow⟩ := constSlice_run (P := P) (w := w) (pv := parts.map fun (x : Nat × Operand) => match x with | (i, x) => (i, a.eval x)) (by simpa using all2_const (a := a) parts.toList hr) hq'
        have hq2 : q.ow = true ∧ q.dp = .f := by
          unfold constSlice at hq'
          simp only [Option.bind_eq_some_iff] at hq'
          obtain ⟨_, _, _, _, _, _, _, _, hq'⟩ := hq'
          split at hq'
          · obtain ⟨_, _, hq'⟩ := Option.bind_eq_some_iff.1 hq'
            split at hq'
            · obtain ⟨_, _, rfl⟩ := Option.map_eq_some_iff.1 hq'; exact ⟨rfl, rfl⟩
            · simp at hq'
          · simp at hq'
        exact ⟨zs, e, _, by simp [execOp, g1, hrun], hq2.1, hq2.2, _, rfl, rfl, hrow _⟩
    · simp at hr
  obtain ⟨c, e, v0, hrun, hpv⟩ := key
  refine .inl (opDo_value (R := fun v w' => v = v0 ∧ w' = w.alloc (.cells c e)) hrun ⟨rfl, rfl⟩ next Q fun v w' hv => ?_)
  obtain ⟨rfl, rfl⟩ := hv
  refine hn _ _ w.heap.size ⟨⟨E, lt w ok, M.push _, ?_, hE, fun k c1 c2 => ?_, fun j k hj => ?_⟩, put_size.trans h1, put_defers'.trans h2, fun j j' k hj hj' => ?_⟩
  · intro s
    rw [e3]
    by_cases hds : d = s
    · subst hds; rw [hno d e3]; trivial
    · have hh := (hT s).keep (keep_push (ok := ok) (.cells c e)) (.refl _)
      simp only [Act.put]
      simpa [Array.getD_eq_getD_getElem?, Array.getElem?_setIfInBounds_ne hds] using hh
  · obtain ⟨h5, h6⟩ := hk k c1 c2
    exact ⟨(push_same (Nat.lt_of_lt_of_le c2 M.fr.size)).trans h5, h6, Nat.lt_of_lt_of_le c2 M.fr.size⟩
  · by_cases hji : j = i
    · subst hji
      rw [if_pos rfl] at hj
      cases hj
      refine ⟨⟨o, d, p, ho, hr, e3, hev, ?_⟩, fun h => by have := h.2; omega, .inl M.fr.size, by simp, fun y hy => ?_⟩
      · have hdl : d < a.tmps.size := by rw [h1]; simpa [dstQ, e3] using hq
        have ev0 : (a.put o.dst v).tmps.getD d undef = v := by
          rw [e3]
          simp [Act.put, Array.getD_eq_getD_getElem?, hdl]
        rw [ev0]; exact hpv
      · have := (M.mine y _ hy).2.2; omega
    · rw [if_neg hji] at hj
      obtain ⟨⟨o2, d2, p2, f1, f2, f4, f5, f6⟩, nok2, new2, hlt2, nm2⟩ := hp j k hj
      refine ⟨⟨o2, d2, p2, f1, f2, f4, f5, ?_⟩, fun h => nok2 h.1, new2, by simp; omega, nm2⟩
      have hne := hd j o2 f1 hji
      rw [f4, e3] at hne
      have hdd : d ≠ d2 := fun e => hne (by rw [e])
      have ev2 : (a.put o.dst v).tmps.getD d2 undef = a.tmps.getD d2 undef := by
        rw [e3]
        simp [Act.put, Array.getD_eq_getD_getElem?, Array.getElem?_setIfInBounds_ne hdd]
      rw [ev2]; exact f6.keep (keep_push _) (.refl _) (push_same hlt2)
  · have hlt' : ∀ j k, pd j = some k → k < w.heap.size := fun j k h => (hp j k h).lt
    by_cases c1 : j = i <;> by_cases c2 : j' = i
    · rw [c1, c2]
    · rw [if_pos c1] at hj; rw [if_neg c2] at hj'; cases hj; have := hlt' _ _ hj'; omega
    · rw [if_neg c1] at hj; rw [if_pos c2] at hj'; cases hj'; have := hlt' _ _ hj; omega
    · rw [if_neg c1] at hj; rw [if_neg c2] at hj'; exact h3 _ _ _ hj hj'
end

/-- how it stands, some rooms taken early -/
def SA (P : Program) (K : Cfg) (F : Fun) (n : Nat) (ops : Array Oper) (g : List Entry) (τ : St) (lp : Array Bool) (σ : St) : Prop := ∃ f, SAny P K F n ops g τ f lp σ
theorem SA.step {F : Fun} {g : List Entry} {lp : Array Bool} (h : SA P K F n ops g τ lp σ) {i : Nat} (hi : i ∈ Region.ready .any ops lp) {o : Oper} (ho : ops[i]? = some o) :
    dstQ n o.dst = true ∧ ∃ x t, StepX P K F ops o σ x t ∧ SA P K F n ops g τ (lp.setIfInBounds i true) (putT σ.ts t o.dst x) := by
  obtain ⟨f, h⟩ := h
  cases f with
  | zero => rw [h.1] at hi; cases hi
  | succ f =>
    obtain ⟨h1, x, t, h2, _, h3⟩ := h.2 i hi o ho
    exact ⟨h1, x, t, h2, f, h3⟩
theorem SA.fin {F : Fun} {g : List Entry} {lp : Array Bool} (h : SA P K F n ops g τ lp σ) (hr : Region.ready .any ops lp = []) : σ = τ := by
  obtain ⟨f, h⟩ := h
  cases f with
  | zero => exact h.2
  | succ f => exact h.1 hr
def LQ (l : Array Bool) (j : Nat) : Prop := l.getD j false = true
theorem unl {l : Array Bool} {j : Nat} : l.getD j true = false ↔ j < l.size ∧ ¬ LQ l j := by
  unfold LQ
  rcases Nat.lt_or_ge j l.size with h | h
  · simp [h]
  · simp [Array.getElem?_eq_none h]; omega
theorem LQ.set {l : Array Bool} {i j : Nat} (hi : i < l.size) : LQ (l.setIfInBounds i true) j ↔ j = i ∨ LQ l j := by
  unfold LQ
  by_cases h : i = j
  · subst h; simp [hi]
  · rw [getD_set_ne false h]
    constructor
    · exact .inr
    · rintro (h' | h')
      · exact absurd h'.symm h
      · exact h'
/-- what the check of such a region tells -/
structure LateS (ops : Array Oper) : Prop where
  cert : certQ ops = true
  back : ∀ (j : Nat) (o : Oper) (e : Edge), ops[j]? = some o → e ∈ o.after → Region.binds .any e = true → e.on < j
  reach : ∀ (j : Nat) (o : Oper) (e : Edge), ops[j]? = some o → e ∈ o.after → Region.binds .any e = true → roomQ (opAt ops e.on) = true → ordQ (Region.before ops).toList j e.on = true
  dst : ∀ (j k : Nat) (o o' : Oper), ops[j]? = some o → ops[k]? = some o' → roomQ o = true → k ≠ j → o'.dst ≠ o.dst
  roomE : ∀ (j : Nat) (o : Oper) (e : Edge), ops[j]? = some o → roomQ o = true → e ∈ o.after → Region.binds .any e = true → roomQ (opAt ops e.on) = false
  wait : ∀ (j : Nat) (o : Oper) (x i : Nat), ops[j]? = some o → roomQ o = true → x < ops.size → ordQ (Region.before ops).toList x j = true → i ∈ waits ops j → ordQ (Region.before ops).toList x i = true
theorem late_spec (h : lateQ ops = true) : LateS ops := by
  simp only [lateQ, Bool.and_eq_true, List.all_eq_true, List.mem_range] at h
  obtain ⟨hc, h⟩ := h
  have lt : ∀ {j o}, ops[j]? = some o → j < ops.size ∧ opAt ops j = o := fun h => ⟨(Array.getElem?_eq_some_iff.1 h).1, by simp [opAt, h]⟩
  have edge : ∀ j o e, ops[j]? = some o → e ∈ o.after → Region.binds .any e = true → e.on < j ∧ (roomQ (opAt ops e.on) = true → ordQ (Region.before ops).toList j e.on = true) := by
    intro j o e ho he hb
    obtain ⟨h1, h2⟩ := lt ho
    have := (h j h1).1
    rw [h2, Array.all_eq_true_iff_forall_mem] at this
    have := this e he
    rw [hb] at this
    simp only [Bool.not_true, Bool.false_or, Bool.and_eq_true, decide_eq_true_eq, Bool.or_eq_true, Bool.not_eq_true'] at this
    exact ⟨this.1, fun hr => this.2.resolve_left (by rw [hr]; simp)⟩
  have room : ∀ {j o}, ops[j]? = some o → roomQ o = true → _ := fun {j o} ho hr => by
    obtain ⟨h1, h2⟩ := lt ho
    have := (h j h1).2
    rw [h2, hr] at this
    simp only [Bool.not_true, Bool.false_or, Bool.and_eq_true, List.all_eq_true, List.mem_range] at this
    exact this
  refine ⟨hc, fun j o e a b c => (edge j o e a b c).1, fun j o e a b c => (edge j o e a b c).2, fun j k o o' ho ho' hr hk => ?_, fun j o e ho hr he hb => ?_, fun j o x i ho hr hx hxj hi => ?_⟩
  · have := (room ho hr).1.1 k (lt ho').1
    rw [(lt ho').2] at this
    simpa [hk] using this
  · have := (room ho hr).1.2
    rw [Array.all_eq_true_iff_forall_mem] at this
    have := this e he
    rw [hb] at this
    simpa using this
  · have := (room ho hr).2 x hx
    rw [hxj] at this
    simp only [Bool.not_true, Bool.false_or, List.all_eq_true] at this
    exact this i hi
section
variable {w0 w w' : World} {B : Bd} {E0 : Env} {a : Act} {g : List Entry} {F : Fun}
/-- what is taken and not yet told -/
structure Half (P : Program) (K : Cfg) (F : Fun) (w0 : World) (B : Bd) (E0 : Env) (n : Nat) (ops : Array Oper) (g : List Entry) (τ : St) (l lp : Array Bool) (pd : Nat → Option Nat) (σ : St) (a : Act) (w : World) : Prop where
  sa : SA P K F n (late ops) g τ lp σ
  inv : PInv P K F w0 B E0 n ops pd σ a w
  s1 : l.size = ops.size
  s2 : lp.size = ops.size
  both : ∀ j, LQ l j ↔ LQ lp j ∨ pd j ≠ none
  not : ∀ j, pd j ≠ none → ¬ LQ lp j
  clear : ∀ j o d, ops[j]? = some o → roomQ o = true → o.dst = some d → ¬ LQ lp j → gt σ.ts d = .no
theorem Half.room {l lp : Array Bool} {pd : Nat → Option Nat} (H : Half P K F w0 B E0 n ops g τ l lp pd σ a w) {j : Nat} (h : pd j ≠ none) : ∃ o, ops[j]? = some o ∧ roomQ o = true := by
  obtain ⟨k, hk⟩ := Option.ne_none_iff_exists'.1 h
  obtain ⟨E, ok, _, _, _, _, hp⟩ := H.inv.run
  obtain ⟨⟨o, _, _, h1, h2, _⟩, _⟩ := hp j k hk
  exact ⟨o, h1, h2⟩
theorem opAt_of {j : Nat} {o : Oper} (h : ops[j]? = some o) : opAt ops j = o := by simp [opAt, h]
/-- one room is told -/
theorem Half.tell (L : LateS ops) {l lp : Array Bool} {pd : Nat → Option Nat} (H : Half P K F w0 B E0 n ops g τ l lp pd σ a w) {m : Nat} {o : Oper} (hm : pd m ≠ none) (ho : ops[m]? = some o) (hr : roomQ o = true)
    (hedge : ∀ e ∈ o.after, Region.binds .any e = true → LQ lp e.on) (hwait : ∀ i ∈ waits ops m, LQ lp i) :
    ∃ lp' σ', Half P K F w0 B E0 n ops g τ l lp' (fun i => if i = m then none else pd i) σ' a w := by
  obtain ⟨k, hk⟩ := Option.ne_none_iff_exists'.1 hm
  have hlt : m < ops.size := (Array.getElem?_eq_some_iff.1 ho).1
  have ho' : (late ops)[m]? = some (lateOp ops m o) := by rw [late_get, ho]; rfl
  have hready : m ∈ Region.ready .any (late ops) lp := by
    refine mem_ready.2 ⟨unl.2 ⟨by rw [H.s2]; exact hlt, H.not m hm⟩, _, ho', fun e he hb => ?_⟩
    simp only [lateOp, hr, if_true] at he
    rcases Array.mem_append.1 he with he | he
    · exact hedge e he hb
    · simp only [List.mem_toArray, List.mem_map] at he
      obtain ⟨i, hi, rfl⟩ := he
      exact hwait i hi
  obtain ⟨_, x, t, S, hsa⟩ := H.sa.step hready ho'
  rw [(lateOp_eq ops m o).2.1] at hsa
  refine ⟨_, _, ⟨hsa, H.inv.mat hk ho S, H.s1, by simp [H.s2], fun j => ?_, fun j hj => ?_, fun j oj d h1 h2 h3 h4 => ?_⟩⟩
  · rw [H.both j, LQ.set (by rw [H.s2]; exact hlt)]
    by_cases hjm : j = m
    · subst hjm; simp [hm]
    · simp [hjm]
  · rw [LQ.set (by rw [H.s2]; exact hlt)]
    by_cases hjm : j = m
    · simp [hjm] at hj
    · rw [if_neg hjm] at hj; rintro (h | h)
      · exact hjm h
      · exact H.not j hj h
  · rw [LQ.set (by rw [H.s2]; exact hlt)] at h4
    have hjm : m ≠ j := fun e => h4 (.inl e.symm)
    have h5 := H.clear j oj d h1 h2 h3 fun h => h4 (.inr h)
    have hne := L.dst j m oj o h1 ho h2 hjm
    cases hd : o.dst with
    | none => exact h5
    | some d' =>
      rw [hd, h3] at hne
      simp only [putT, gt_st_ne _ _ _ _ (fun e : d' = d => hne (by rw [e]))]; exact h5
/-- all rooms that are asked for are told -/
theorem Half.tellAll (L : LateS ops) (S : Nat → Prop) {l : Array Bool} {pd : Nat → Option Nat} {lp : Array Bool} (H : Half P K F w0 B E0 n ops g τ l lp pd σ a w)
    (hedge : ∀ j o, pd j ≠ none → ops[j]? = some o → ∀ e ∈ o.after, Region.binds .any e = true → LQ l e.on)
    (hwait : ∀ j, pd j ≠ none → S j → ∀ i ∈ waits ops j, LQ l i ∧ (roomQ (opAt ops i) = true → S i)) :
    ∀ m, ∃ lp' pd' σ', Half P K F w0 B E0 n ops g τ l lp' pd' σ' a w ∧ (∀ j, pd' j ≠ none → pd j ≠ none) ∧ ∀ j, j < m → S j → pd' j = none
  | 0 => ⟨lp, pd, σ, H, fun _ h => h, fun _ h => by omega⟩
  | m + 1 => by
    obtain ⟨lp', pd', σ', H', hsub, hnone⟩ := Half.tellAll L S H hedge hwait m
    by_cases hc : S m ∧ pd' m ≠ none
    · obtain ⟨hS, hm⟩ := hc
      obtain ⟨o, ho, hr⟩ := H'.room hm
      have hm0 := hsub m hm
      obtain ⟨lp2, σ2, H2⟩ := H'.tell L hm ho hr (fun e he hb => by
          refine ((H'.both _).1 (hedge m o hm0 ho e he hb)).resolve_right fun hp => ?_
          obtain ⟨o2, ho2, hr2⟩ := H'.room hp
          have := L.roomE m o e ho hr he hb
          rw [opAt_of ho2, hr2] at this
          cases this) fun i hi => by
          obtain ⟨h1, h2⟩ := hwait m hm0 hS i hi
          refine ((H'.both _).1 h1).resolve_right fun hp => ?_
          obtain ⟨o2, ho2, hr2⟩ := H'.room hp
          have hlt : i < m := by
            unfold waits at hi
            exact List.mem_range.1 (List.mem_filter.1 hi).1
          exact hp (hnone i hlt (h2 (by rw [opAt_of ho2]; exact hr2)))
      refine ⟨lp2, _, σ2, H2, fun j hj => ?_, fun j hj hSj => ?_⟩
      · by_cases hjm : j = m
        · simp [hjm] at hj
        · rw [if_neg hjm] at hj; exact hsub j hj
      · by_cases hjm : j = m
        · simp [hjm]
        · rw [if_neg hjm]; exact hnone j (by omega) hSj
    · refine ⟨lp', pd', σ', H', hsub, fun j hj hSj => ?_⟩
      by_cases hjm : j = m
      · subst hjm
        exact Classical.byContradiction fun h => hc ⟨hSj, h⟩
      · exact hnone j (by omega) hSj
theorem cnt_set {l : List Bool} {i : Nat} (h : l[i]? = some false) : (l.set i true).count false + 1 = l.count false := by
  induction l generalizing i with
  | nil => simp at h
  | cons b l ih =>
    cases i with
    | zero => simp at h; subst h; simp
    | succ i => simp only [List.set_cons_succ, List.count_cons]; have := ih (i := i) (by simpa using h); omega
theorem late_any (L : LateS ops) (hro : roomsOk P K n ops = true) (hF : ∀ g, FOk P g (F g)) {Q : Go.Exit → Act → World → Prop} (hQ : ∀ a' w', Inv w0 B E0 n τ a' w' → Q .normal a' w') :
    ∀ (fuel : Nat) (l lp : Array Bool) (pd : Nat → Option Nat) (σ : St) (a : Act) (w : World), Half P K F w0 B E0 n ops g τ l lp pd σ a w → Closed ops l →
      (∀ j o, pd j ≠ none → ops[j]? = some o → ∀ e ∈ o.after, Region.binds .any e = true → LQ l e.on) → l.toList.count false ≤ fuel → wpAny P .any ops Q fuel l a w := by
  have stop : ∀ (l lp : Array Bool) (pd : Nat → Option Nat) (σ : St) (a : Act) (w : World), Half P K F w0 B E0 n ops g τ l lp pd σ a w →
      (∀ j o, pd j ≠ none → ops[j]? = some o → ∀ e ∈ o.after, Region.binds .any e = true → LQ l e.on) → Region.ready .any ops l = [] → Q .normal a w := by
    intro l lp pd σ a w H hE hr
    have hall : ∀ i, i < ops.size → LQ l i := by
      intro i
      induction i using Nat.strongRecOn with
      | _ i ih =>
        intro hi
        refine Classical.byContradiction fun hn => ?_
        have ho : ops[i]? = some ops[i] := Array.getElem?_eq_getElem hi
        have : i ∈ Region.ready .any ops l := mem_ready.2 ⟨unl.2 ⟨by rw [H.s1]; exact hi, hn⟩, _, ho, fun e he hb => by
          have := L.back i _ e ho he hb
          exact ih e.on this (by omega)⟩
        rw [hr] at this
        cases this
    have wlt : ∀ {j i}, i ∈ waits ops j → i < j := fun h => List.mem_range.1 (List.mem_filter.1 h).1
    obtain ⟨lp', pd', σ', H', hsub, hnone⟩ := H.tellAll L (fun _ => True) hE (fun j hj _ i hi => by
      obtain ⟨o, ho, _⟩ := H.room hj
      have := (Array.getElem?_eq_some_iff.1 ho).1
      exact ⟨hall i (by have := wlt hi; omega), fun _ => trivial⟩) ops.size
    have hpn : ∀ j, pd' j = none := fun j => Classical.byContradiction fun h => by
      obtain ⟨o, ho, _⟩ := H'.room h
      exact h (hnone j (Array.getElem?_eq_some_iff.1 ho).1 trivial)
    have hr2 : Region.ready .any (late ops) lp' = [] := by
      refine List.eq_nil_iff_forall_not_mem.2 fun i hi => ?_
      have h1 := unl.1 (mem_ready.1 hi).1
      rw [H'.s2] at h1
      exact h1.2 (((H'.both i).1 (hall i h1.1)).resolve_right fun h => h (hpn i))
    have := H'.sa.fin hr2
    subst this
    exact hQ _ _ H'.inv.inv
  intro fuel
  induction fuel with
  | zero =>
    intro l lp pd σ a w H hcl hE hc
    have hr : Region.ready .any ops l = [] := by
      refine List.eq_nil_iff_forall_not_mem.2 fun i hi => ?_
      have h1 := unl.1 (mem_ready.1 hi).1
      have h2 : l.toList[i]? = some false := by
        have : l[i] = false := by have := h1.2; unfold LQ at this; simpa [h1.1] using this
        simp [h1.1, this]
      have : 0 < l.toList.count false := List.count_pos_iff.2 (List.mem_of_getElem? h2)
      omega
    exact ⟨hr, stop l lp pd σ a w H hE hr⟩
  | succ fuel ih =>
    intro l lp pd σ a w H hcl hE hc
    refine ⟨stop l lp pd σ a w H hE, fun i hi => ?_⟩
    obtain ⟨hun, o, ho, hall⟩ := mem_ready.1 hi
    obtain ⟨hil, hnl⟩ := unl.1 hun
    have hlt : i < ops.size := (Array.getElem?_eq_some_iff.1 ho).1
    have hcl' := closed_set L.cert hcl hi
    have hcnt : (l.setIfInBounds i true).toList.count false ≤ fuel := by
      have h2 : l.toList[i]? = some false := by
        have : l[i] = false := by have := hnl; unfold LQ at this; simpa [hil] using this
        simp [hil, this]
      have := cnt_set h2
      simp only [Array.toList_setIfInBounds]
      omega
    have hset : ∀ {j}, LQ l j → LQ (l.setIfInBounds i true) j := fun h => (LQ.set hil).2 (.inr h)
    have hpi : pd i = none := Classical.byContradiction fun h => hnl ((H.both i).2 (.inr h))
    unfold wpOp
    simp only [ho]
    cases hr : roomQ o with
    | true =>
      have hrk := List.all_eq_true.1 hro o (Array.mem_toList_iff.2 (Array.mem_of_getElem? ho))
      rw [hr] at hrk
      simp only [Bool.not_true, Bool.false_or, Bool.and_eq_true] at hrk
      refine H.inv.take ho hr hrk.1 hrk.2 (fun d hd => H.clear i o d ho hr hd fun h => hnl ((H.both i).2 (.inl h))) hpi (fun j oj hj hne => L.dst i j o oj ho hj hr hne) _ Q fun a' w' k I => ?_
      refine ih _ lp _ σ a' w' ⟨H.sa, I, by simp [H.s1], H.s2, fun j => ?_, fun j hj => ?_, H.clear⟩ hcl' (fun j oj hj hoj e he hb => hset ?_) hcnt
      · rw [LQ.set hil, H.both j]
        by_cases hji : j = i
        · subst hji; simp
        · simp [hji]
      · by_cases hji : j = i
        · subst hji; exact fun h => hnl ((H.both j).2 (.inl h))
        · rw [if_neg hji] at hj; exact H.not j hj
      · by_cases hji : j = i
        · subst hji; rw [ho] at hoj; cases hoj; exact hall e he hb
        · rw [if_neg hji] at hj; exact hE j oj hj hoj e he hb
    | false =>
      have hreach : ∀ c, c < ops.size → ordQ (Region.before ops).toList i c = true → LQ l c := by
        intro c hc' hord
        obtain ⟨e, he, hb, h⟩ := cert_spec L.cert ho hc' hord
        have h1 := hall e he hb
        rcases h with rfl | h
        · exact h1
        · exact hcl _ _ h1 h hc'
      obtain ⟨lp', pd', σ', H', hsub, hnone⟩ := H.tellAll L (fun j => ordQ (Region.before ops).toList i j = true) hE (fun j hj hS c hc' => by
        obtain ⟨oj, hoj, hrj⟩ := H.room hj
        have h1 := L.wait j oj i c hoj hrj hlt hS hc'
        have h2 : c < j := List.mem_range.1 (List.mem_filter.1 hc').1
        have := (Array.getElem?_eq_some_iff.1 hoj).1
        exact ⟨hreach c (by omega) h1, fun _ => h1⟩) ops.size
      have hpi' : pd' i = none := Classical.byContradiction fun h => hsub i h hpi
      have hnl' : ¬ LQ lp' i := fun h => hnl ((H'.both i).2 (.inl h))
      have ho' : (late ops)[i]? = some o := by rw [late_get, ho]; simp [lateOp, hr]
      have hready : i ∈ Region.ready .any (late ops) lp' := by
        refine mem_ready.2 ⟨unl.2 ⟨by rw [H'.s2]; exact hlt, hnl'⟩, o, ho', fun e he hb => ?_⟩
        refine ((H'.both _).1 (hall e he hb)).resolve_right fun hp => ?_
        obtain ⟨o2, ho2, hr2⟩ := H'.room hp
        exact hp (hnone _ (Array.getElem?_eq_some_iff.1 ho2).1 (L.reach i o e ho he hb (by rw [opAt_of ho2]; exact hr2)))
      obtain ⟨hdq, x, t, S, hsa⟩ := H'.sa.step hready ho'
      have hlo : lateOp ops i o = o := by simp [lateOp, hr]
      have S' : StepX P K F ops o σ' x t := by
        unfold StepX at S ⊢
        have hw := wanted_late ops i o σ'
        rw [hlo] at hw
        rw [hw] at S
        exact S
      have hev : evStep P K F n ops o σ' = some (putT σ'.ts t o.dst x) := evStep_iff.2 ⟨hdq, x, t, S', rfl⟩
      refine H'.inv.step hF hev (fun j k oj hj hoj => ?_) _ Q fun a' w' I => ?_
      · obtain ⟨o2, ho2, hr2⟩ := H'.room (j := j) (by rw [hj]; simp)
        rw [hoj] at ho2; cases ho2
        exact fun e => L.dst j i oj o hoj ho hr2 (fun e => by subst e; rw [hj] at hpi'; cases hpi') e.symm
      · refine ih _ (lp'.setIfInBounds i true) pd' _ a' w' ⟨hsa, I, by simp [H'.s1], by simp [H'.s2], fun j => ?_, fun j hj => ?_, fun j oj d h1 h2 h3 h4 => ?_⟩ hcl' (fun j oj hj hoj e he hb => hset (hE j oj (hsub j hj) hoj e he hb)) hcnt
        · rw [LQ.set hil, LQ.set (by rw [H'.s2]; exact hlt), H'.both j, or_assoc]
        · rw [LQ.set (by rw [H'.s2]; exact hlt)]
          rintro (h | h)
          · subst h; exact hj hpi'
          · exact H'.not j hj h
        · rw [LQ.set (by rw [H'.s2]; exact hlt)] at h4
          have h5 := H'.clear j oj d h1 h2 h3 fun h => h4 (.inr h)
          have hne := L.dst j i oj o h1 ho h2 (fun e => h4 (.inl e.symm))
          cases hd : o.dst with
          | none => exact h5
          | some d' =>
            rw [hd, h3] at hne
            simp only [putT, gt_st_ne _ _ _ _ (fun e : d' = d => hne (by rw [e]))]; exact h5
end
theorem roomDs_no {j : Nat} {o : Oper} {d : Tmp} (ho : ops[j]? = some o) (hr : roomQ o = true) (hd : o.dst = some d) (σ : St) : gt (clr (roomDs ops) σ).ts d = .no := by
  have hm : d ∈ roomDs ops := List.mem_filterMap.2 ⟨o, Array.mem_toList_iff.2 (Array.mem_of_getElem? ho), by simp [hr, hd]⟩
  have stay : ∀ (ds : List Tmp) (l : List T), gt l d = .no → gt (ds.foldl (fun ts d => st ts d .no) l) d = .no := by
    intro ds
    induction ds with
    | nil => intro l h; exact h
    | cons e ds ih =>
      intro l h
      refine ih _ ?_
      by_cases hed : e = d
      · subst hed; exact gt_st_eq _ _ _
      · rw [gt_st_ne _ _ _ _ hed]; exact h
  have key : ∀ (ds : List Tmp) (l : List T), d ∈ ds → gt (ds.foldl (fun ts d => st ts d .no) l) d = .no := by
    intro ds
    induction ds with
    | nil => intro l h; cases h
    | cons e ds ih =>
      intro l h
      rcases List.mem_cons.1 h with rfl | h
      · exact stay ds _ (gt_st_eq _ _ _)
      · exact ih _ h
  exact key _ _ hm
/-- an order of all of them -/
structure PermS (p : List Nat) (n : Nat) : Prop where
  len : p.length = n
  lt : ∀ k, k < n → p.getD k 0 < n
  back : ∀ i, i < n → p.idxOf i < n ∧ p.getD (p.idxOf i) 0 = i
  forth : ∀ k, k < n → p.idxOf (p.getD k 0) = k
  out : ∀ i, n ≤ i → p.idxOf i = n
theorem permQ_spec {p : List Nat} {n : Nat} (h : permQ p n = true) : PermS p n := by
  simp only [permQ, Bool.and_eq_true, List.all_eq_true, decide_eq_true_eq, List.mem_range] at h
  obtain ⟨⟨⟨h1, h2⟩, h3⟩, h4⟩ := h
  have h1 := Nat.eq_of_beq_eq_true h1
  have get : ∀ k, k < n → ∃ hk : k < p.length, p.getD k 0 = p[k] := fun k hk => ⟨by omega, by rw [List.getD_eq_getElem?_getD, List.getElem?_eq_getElem (by omega)]; rfl⟩
  refine ⟨h1, fun k hk => ?_, fun i hi => ?_, fun k hk => ?_, fun i hi => ?_⟩
  · obtain ⟨hk', e⟩ := get k hk
    rw [e]; exact h3 _ (List.getElem_mem hk')
  · have hm : i ∈ p := by simpa using h4 i hi
    have hlt := List.idxOf_lt_length_of_mem hm
    refine ⟨by omega, ?_⟩
    obtain ⟨hk', e⟩ := get (p.idxOf i) (by omega)
    rw [e]; exact List.getElem_idxOf hk'
  · obtain ⟨hk', e⟩ := get k hk
    rw [e]
    have hm : p[k] ∈ p := List.getElem_mem hk'
    have hlt := List.idxOf_lt_length_of_mem hm
    exact (List.getElem_inj (h₀ := hlt) (h₁ := hk') h2).1 (List.getElem_idxOf hlt)
  · have : i ∉ p := fun hm => by have := h3 i hm; omega
    rw [← h1]; exact List.idxOf_eq_length this
theorem hoist_get {p : List Nat} (h : PermS p ops.size) {i : Nat} {o : Oper} (ho : ops[i]? = some o) : (hoist p ops)[p.idxOf i]? = some (renO p o) := by
  have hi := (Array.getElem?_eq_some_iff.1 ho).1
  obtain ⟨h1, h2⟩ := h.back i hi
  have hl : p.idxOf i < p.length := by rw [h.len]; exact h1
  have e : p[p.idxOf i] = i := by rw [List.getD_eq_getElem?_getD, List.getElem?_eq_getElem hl] at h2; exact h2
  simp only [hoist, List.getElem?_toArray, List.getElem?_map, List.getElem?_eq_getElem hl, e, Option.map_some, opAt, ho, Option.getD_some]
theorem hoist_dst {p : List Nat} (h : PermS p ops.size) (j : Nat) : ((hoist p ops)[p.idxOf j]?).bind (fun o : Oper => o.dst) = (ops[j]?).bind (fun o : Oper => o.dst) := by
  rcases Nat.lt_or_ge j ops.size with hj | hj
  · rw [hoist_get h (Array.getElem?_eq_getElem hj), Array.getElem?_eq_getElem hj]; rfl
  · rw [h.out j hj]
    have e : (hoist p ops)[ops.size]? = none := Array.getElem?_eq_none (by simp [hoist, h.len])
    rw [e, Array.getElem?_eq_none hj]
theorem hoist_any {p : List Nat} (h : PermS p ops.size) {Q : Go.Exit → Act → World → Prop} : ∀ (fuel : Nat) (l lp : Array Bool) (a : Act) (w : World), l.size = ops.size → lp.size = ops.size → (∀ k, k < ops.size → lp.getD k true = l.getD (p.getD k 0) true) → wpAny P .any (hoist p ops) Q fuel lp a w → wpAny P .any ops Q fuel l a w := by
  have rdy : ∀ (l lp : Array Bool), l.size = ops.size → lp.size = ops.size → (∀ k, k < ops.size → lp.getD k true = l.getD (p.getD k 0) true) → ∀ i, i ∈ Region.ready .any ops l → p.idxOf i ∈ Region.ready .any (hoist p ops) lp := by
    intro l lp hl hlp hr i hi
    obtain ⟨h1, o, ho, h2⟩ := mem_ready.1 hi
    have hi' := (Array.getElem?_eq_some_iff.1 ho).1
    obtain ⟨b1, b2⟩ := h.back i hi'
    have conv : ∀ j, j < ops.size → lp.getD (p.idxOf j) true = l.getD j true := fun j hj => by
      obtain ⟨c1, c2⟩ := h.back j hj
      rw [hr _ c1, c2]
    refine mem_ready.2 ⟨by rw [conv i hi']; exact h1, _, hoist_get h ho, fun e he hb => ?_⟩
    simp only [renO, Array.mem_map] at he
    obtain ⟨e0, he0, rfl⟩ := he
    have h3 := h2 e0 he0 hb
    show lp.getD (p.idxOf e0.on) false = true
    rcases Nat.lt_or_ge e0.on ops.size with hj | hj
    · have h4 := conv e0.on hj
      obtain ⟨c1, _⟩ := h.back e0.on hj
      have x1 : lp.getD (p.idxOf e0.on) false = lp.getD (p.idxOf e0.on) true := by simp [hlp, c1]
      have x2 : l.getD e0.on false = l.getD e0.on true := by simp [hl, hj]
      rw [x1, h4, ← x2]; exact h3
    · rw [Array.getD_eq_getD_getElem?, Array.getElem?_eq_none (by omega)] at h3
      simp at h3
  have rdy' : ∀ (l lp : Array Bool), l.size = ops.size → lp.size = ops.size → (∀ k, k < ops.size → lp.getD k true = l.getD (p.getD k 0) true) → Region.ready .any ops l = [] → Region.ready .any (hoist p ops) lp = [] := by
    intro l lp hl hlp hr hn
    refine List.eq_nil_iff_forall_not_mem.2 fun k hk => ?_
    obtain ⟨h1, o', ho', h2⟩ := mem_ready.1 hk
    have hk' : k < ops.size := by have := (Array.getElem?_eq_some_iff.1 ho').1; simpa [hoist, h.len] using this
    have hpk := h.lt k hk'
    have ho : ops[p.getD k 0]? = some ops[p.getD k 0] := Array.getElem?_eq_getElem hpk
    have hg := hoist_get h ho
    rw [h.forth k hk', ho'] at hg
    cases hg
    have : p.getD k 0 ∈ Region.ready .any ops l := by
      refine mem_ready.2 ⟨by rw [← hr k hk']; exact h1, _, ho, fun e he hb => ?_⟩
      have h3 := h2 { e with on := p.idxOf e.on } (by simp only [renO, Array.mem_map]; exact ⟨e, he, rfl⟩) hb
      simp only at h3
      rcases Nat.lt_or_ge e.on ops.size with hj | hj
      · obtain ⟨c1, c2⟩ := h.back e.on hj
        have h4 := hr _ c1
        rw [c2] at h4
        have x1 : lp.getD (p.idxOf e.on) false = lp.getD (p.idxOf e.on) true := by simp [hlp, c1]
        have x2 : l.getD e.on false = l.getD e.on true := by simp [hl, hj]
        rw [x2, ← h4, ← x1]; exact h3
      · rw [h.out _ hj, Array.getD_eq_getD_getElem?, Array.getElem?_eq_none (by omega)] at h3
        simp at h3
    rw [hn] at this
    cases this
  intro fuel
  induction fuel with
  | zero =>
    intro l lp a w hl hlp hr H
    refine ⟨?_, H.2⟩
    refine List.eq_nil_iff_forall_not_mem.2 fun i hi => ?_
    have := rdy l lp hl hlp hr i hi
    rw [H.1] at this
    cases this
  | succ fuel ih =>
    intro l lp a w hl hlp hr H
    refine ⟨fun hn => H.1 (rdy' l lp hl hlp hr hn), fun i hi => ?_⟩
    have hq := H.2 _ (rdy l lp hl hlp hr i hi)
    obtain ⟨_, o, ho, _⟩ := mem_ready.1 hi
    have hi' := (Array.getElem?_eq_some_iff.1 ho).1
    obtain ⟨b1, b2⟩ := h.back i hi'
    have next : ∀ a w, wpAny P .any (hoist p ops) Q fuel (lp.setIfInBounds (p.idxOf i) true) a w → wpAny P .any ops Q fuel (l.setIfInBounds i true) a w := fun a w H' => by
      refine ih _ _ a w (by simp [hl]) (by simp [hlp]) (fun k hk => ?_) H'
      have hpk := h.lt k hk
      by_cases hki : k = p.idxOf i
      · subst hki
        rw [b2]
        simp [hl, hlp, b1, hi']
      · have hne : p.getD k 0 ≠ i := fun e => hki (by rw [← e, h.forth k hk])
        rw [getD_set_ne true (fun e => hki e.symm), getD_set_ne true (fun e => hne e.symm)]
        exact hr k hk
    unfold wpOp at hq ⊢
    rw [hoist_get h ho] at hq
    simp only [ho] at hq ⊢
    have hw : Region.wanted (renO p o) (yielded (hoist p ops) a.tmps) = Region.wanted o (yielded ops a.tmps) := by
      unfold Region.wanted renO
      simp only
      cases o.guard with
      | none => rfl
      | some g =>
        simp only [Option.map_some]
        have : yielded (hoist p ops) a.tmps (p.idxOf g.1) = yielded ops a.tmps g.1 := by
          have hd := hoist_dst h g.1
          unfold yielded
          simp only [hd]
        rw [this]
    rw [hw] at hq
    split
    · rename_i hw1
      rw [if_pos hw1] at hq
      rcases hq with hq | hq
      · exact .inl (Oper.wp_mono (o := o) next hq)
      · exact .inr hq
    · rename_i hw1
      rw [if_neg hw1] at hq
      exact next _ _ hq
theorem draw_ok (hm : P.follows .mixedOrders = true) (hF : ∀ g, FOk P g (F g)) : DrawOk P K F := by
  intro w0 B E0 n ops id Q σ σ' a w I h hQ
  unfold evDraw at h
  split at h
  · rename_i hl
    simp only [lateOk, Bool.and_eq_true] at hl
    obtain ⟨⟨⟨_, hlq⟩, hro⟩, _⟩ := hl
    obtain ⟨g, hs⟩ := sany_of h
    have hsz : (late ops).size = ops.size := by simp [late]
    have no : ∀ j, ¬ LQ (Array.replicate ops.size false) j := fun j h => by
      unfold LQ at h
      rcases Nat.lt_or_ge j ops.size with h' | h'
      · simp [h'] at h
      · simp [h'] at h
    refine wp_region_any hm (late_any (late_spec hlq) hro hF hQ ops.size _ _ (fun _ => none) (clr (roomDs ops) σ) a _ ⟨⟨_, by rw [hsz] at hs; exact hs⟩, .start I.drew, by simp, by simp, fun j => ?_, by simp, fun j o d h1 h2 h3 _ => roomDs_no h1 h2 h3 σ⟩ (fun j k h => absurd h (no j)) (by simp) (by simp))
    simp [no j]
  · split at h
    · rename_i hl
      simp only [hoistOk, Bool.and_eq_true] at hl
      obtain ⟨⟨_, hpq⟩, hl⟩ := hl
      have hps := permQ_spec hpq
      generalize hoistP ops = p at h hl hps
      simp only [lateOk, Bool.and_eq_true] at hl
      obtain ⟨⟨⟨_, hlq⟩, hro⟩, _⟩ := hl
      obtain ⟨g, hs⟩ := sany_of h
      have hsz0 : (hoist p ops).size = ops.size := by simp [hoist, hps.len]
      have hsz : (late (hoist p ops)).size = (hoist p ops).size := by simp [late]
      have no : ∀ j, ¬ LQ (Array.replicate (hoist p ops).size false) j := fun j h => by
        unfold LQ at h
        rcases Nat.lt_or_ge j (hoist p ops).size with h' | h'
        · simp [h'] at h
        · simp [h'] at h
      refine wp_region_any hm (hoist_any hps ops.size _ _ a _ (by simp) (by simp [hsz0]) (fun k hk => ?_) (late_any (late_spec hlq) hro hF hQ ops.size (Array.replicate (hoist p ops).size false) _ (fun _ => none) (clr (roomDs (hoist p ops)) σ) a _ ⟨⟨_, by rw [hsz] at hs; exact hs⟩, .start I.drew, by simp, by simp, fun j => ?_, by simp, fun j o d h1 h2 h3 _ => roomDs_no h1 h2 h3 σ⟩ (fun j k h => absurd h (no j)) (by simp) (by simp [hsz0])))
      · have := hps.lt _ hk
        rw [List.getD_eq_getElem?_getD] at this
        simp [Array.getD_eq_getD_getElem?, hsz0, hk, this]
      · simp [no j]
    · obtain ⟨g, hs⟩ := sany_of h
      exact wp_region_any hm (sany_ok (K := K) (g := g) hF hQ _ _ σ a _ hs I.drew)
/-- a function's answers are true -/
theorem Fz_true {K : FuncId → Cfg} (hm : P.follows .mixedOrders = true) (okf : FuncId → Bool) (pr : FuncId → Option (Fun → List A → Option (A × List (Option Cs)))) (hpr : ∀ f g, pr f = some g → ∀ F, (∀ h, FOk P h (F h)) → FOk P f (g F)) (f : FuncId) : FOk P f (Fz P K okf pr f) :=
  Fz_ok P K okf pr hpr (fun _ _ hF => draw_ok hm hF) f
end Go.SX

set_option linter.unusedVariables false
set_option linter.unusedSimpArgs false
set_option linter.unusedSectionVars false
namespace Go.SX
open Go.RowKit (Below)
variable {P : Program} {K : FuncId → Cfg}

/-- what is there -/
def There (w : World) : Nat → Prop := fun k => k < w.heap.size
theorem law_run (hm : P.follows .mixedOrders = true) {okf : FuncId → Bool} {pr : FuncId → Option (Fun → List A → Option (A × List (Option Cs)))} (hpr : ∀ f g, pr f = some g → ∀ F, (∀ h, FOk P h (F h)) → FOk P f (g F)) {f : FuncId} {fn : Func} (hf : P.funcs[f]? = some fn) (hn : (fn.name == "runtime.NumGoroutine") = false) (hb : fn.body.isNone = false)
    {xs : List A} {b : Bool} {o : Option Sz} {back : List (Option Cs)} (h : Fz P K okf pr f xs = some (.c (.s (.bool b)) o, back)) {w : World} {vs : List Value} {hs : List H} (hA : ArgsRel w (There w) xs vs hs []) :
    Calls P f vs.toArray w fun e w' => e = .returned (.bool b) ∧ Below w.heap.size w w' := by
  rcases Fz_true hm okf pr hpr f xs _ back h w vs hs [] (There w) hA List.nodup_nil (by simp) with ⟨_, _, _, _, hc⟩ | ⟨v, w', hr, _⟩
  · refine hc.mono fun e w' he => ?_
    cases e with
    | returned v =>
      obtain ⟨ok', b0, b1, e1, e2, _, e4, _⟩ := he
      obtain ⟨hs', e4⟩ := e4
      have hv : v = .bool b := by
        cases e4 with
        | sh h _ => cases h; rfl
      exact ⟨by rw [hv], ⟨e1.os, e1.tape, e1.output, e1.size, fun k hk => e1.old k hk (by simp)⟩⟩
    | panicked _ => exact he.elim
    | outgrown => exact he.elim
  · have hn' : ¬ (fn.name = "runtime.NumGoroutine") := by simpa using hn
    have hb' : fn.body ≠ none := by intro e; rw [e] at hb; simp at hb
    simp [callFunc, run_program, hf, hn', hb'] at hr
end Go.SX
