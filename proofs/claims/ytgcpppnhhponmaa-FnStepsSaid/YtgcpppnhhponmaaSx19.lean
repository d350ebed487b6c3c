import Derived.Test.YtgcpppnhhponmaaSx18
set_option linter.unusedVariables false
set_option linter.unusedSimpArgs false
set_option linter.unusedSectionVars false
namespace Go.SX
variable {P : Program} {K : Cfg} {F : Fun} {n : Nat} {ops : Array Oper} {σ σ' τ τ' : St}

theorem ev_ts (h : σ.ts = τ.ts) : ev σ = ev τ := by funext z; cases z <;> simp only [ev, h]
theorem ev_put {o : Oper} {ts : List T} {d : Option Tmp} {x : T} (h : ∀ t, d = some t → t ∉ o.looksAt ops) : ∀ z ∈ o.op.operands, ev (putT ts τ d x) z = ev (⟨ts, τ.bx, τ.rw⟩ : St) z := by
  intro z hz
  cases d with
  | none => rfl
  | some d =>
    cases z with
    | tmp t =>
      have hne : d ≠ t := fun e => h d rfl (by
        subst e
        exact List.mem_append_left _ (List.mem_filterMap.2 ⟨.tmp d, by simpa using hz, rfl⟩))
      exact gt_st_ne _ _ _ _ hne
    | _ => rfl
theorem wanted_putT {o : Oper} {ts : List T} {d : Option Tmp} {x : T} (h : ∀ t, d = some t → t ∉ o.looksAt ops) : wantedT ops (putT ts τ d x) o = wantedT ops ⟨ts, τ.bx, τ.rw⟩ o := by
  unfold wantedT
  cases hg : o.guard with
  | none => rfl
  | some gw =>
    obtain ⟨g, want⟩ := gw
    simp only
    cases ht : (ops[g]?).bind (·.dst) with
    | none => rfl
    | some t =>
      cases d with
      | none => rfl
      | some d =>
        have hne : d ≠ t := fun e => h d rfl (by subst e; simp [Oper.looksAt, hg, ht])
        simp only [putT, gt_st_ne _ _ _ _ hne]
theorem wanted_ts {o : Oper} (h : σ.ts = τ.ts) : wantedT ops σ o = wantedT ops τ o := by unfold wantedT; rw [h]
theorem st_comm : ∀ (l : List T) (i j : Nat) (x y : T), i ≠ j → st (st l i x) j y = st (st l j y) i x
  | [], 0, 0, _, _, h => absurd rfl h
  | [], 0, j + 1, _, _, _ => rfl
  | [], i + 1, 0, _, _, _ => rfl
  | [], i + 1, j + 1, x, y, h => by simp only [st]; rw [st_comm [] i j x y (by omega)]
  | _ :: _, 0, 0, _, _, h => absurd rfl h
  | _ :: l, 0, j + 1, _, _, _ => rfl
  | _ :: l, i + 1, 0, _, _, _ => rfl
  | _ :: l, i + 1, j + 1, x, y, h => by simp only [st]; rw [st_comm l i j x y (by omega)]
theorem rd_congr {ρ ρ' : Operand → T} {o : Oper} (h : ∀ z ∈ o.op.operands, ρ z = ρ' z) : rdOf ρ o = rdOf ρ' o := by
  unfold rdOf
  have : ∀ l : List Operand, (∀ z ∈ l, ρ z = ρ' z) → (l.flatMap fun x => refs (ρ x)) = l.flatMap fun x => refs (ρ' x) := by
    intro l
    induction l with
    | nil => intro _; rfl
    | cons a l ih => intro h; simp only [List.flatMap_cons, h a (by simp), ih fun z hz => h z (by simp [hz])]
  exact this _ fun z hz => h z (by simpa using hz)
theorem wr_congr {ρ ρ' : Operand → T} {o : Oper} (h : ∀ z ∈ o.op.operands, ρ z = ρ' z) : wrOf ρ σ o = wrOf ρ' σ o := by
  have key : ∀ (f : T → List Lend) (l : List Operand), (∀ z ∈ l, ρ z = ρ' z) → (l.flatMap fun x => f (ρ x)) = l.flatMap fun x => f (ρ' x) := by
    intro f l
    induction l with
    | nil => intro _; rfl
    | cons a l ih => intro h; simp only [List.flatMap_cons, h a (by simp), ih fun z hz => h z (by simp [hz])]
  unfold wrOf
  split
  · rw [key argRefs _ fun z hz => h z (by simpa using hz)]
  · rw [key refs _ fun z hz => h z (by simpa using hz)]

/-! one step, told apart -/
def StepX (P : Program) (K : Cfg) (F : Fun) (ops : Array Oper) (o : Oper) (σ : St) (x : T) (τ : St) : Prop :=
  (wantedT ops σ o = some false ∧ x = noneT ∧ τ = hp σ) ∨ (wantedT ops σ o = some true ∧ evOp P K F (ev σ) (hp σ) o = some (x, τ))
theorem evStep_iff {o : Oper} : evStep P K F n ops o σ = some σ' ↔ dstQ n o.dst = true ∧ ∃ x τ, StepX P K F ops o σ x τ ∧ σ' = putT σ.ts τ o.dst x := by
  unfold evStep StepX
  constructor
  · intro h
    split at h
    · rename_i hq
      refine ⟨hq, ?_⟩
      simp only [Option.bind_eq_some_iff] at h
      obtain ⟨b, hb, h⟩ := h
      cases b with
      | true =>
        simp only [Option.map_eq_some_iff] at h
        obtain ⟨⟨x, τ⟩, h1, h2⟩ := h
        exact ⟨x, τ, .inr ⟨hb, h1⟩, h2.symm⟩
      | false =>
        simp only [Option.some.injEq] at h
        exact ⟨noneT, hp σ, .inl ⟨hb, rfl, rfl⟩, h.symm⟩
    · simp at h
  · rintro ⟨hq, x, τ, h, rfl⟩
    rw [if_pos hq]
    rcases h with ⟨hb, rfl, rfl⟩ | ⟨hb, h⟩
    · rw [hb]; rfl
    · rw [hb]; simp only [Option.bind_some, h, Option.map_some]
/-- it looks at nothing else -/
structure Looks (ops : Array Oper) (o : Oper) (σ σ' : St) : Prop where
  e : ∀ z ∈ o.op.operands, ev σ' z = ev σ z
  w : wantedT ops σ' o = wantedT ops σ o
theorem looks_put {o : Oper} {d : Option Tmp} {x : T} (h : ∀ t, d = some t → t ∉ o.looksAt ops) (τ : St) : Looks ops o σ (putT σ.ts τ d x) :=
  ⟨fun z hz => (ev_put h z hz).trans (congrFun (ev_ts (σ := ⟨σ.ts, τ.bx, τ.rw⟩) (τ := σ) rfl) z), (wanted_putT h).trans (wanted_ts rfl)⟩
theorem StepX.slots {o : Oper} {x : T} (hl : Looks ops o σ σ') (hh : hp σ' = hp σ) (h : StepX P K F ops o σ x τ) : StepX P K F ops o σ' x τ := by
  rcases h with ⟨h1, h2, h3⟩ | ⟨h1, h2⟩
  · exact .inl ⟨hl.w.trans h1, h2, h3.trans hh.symm⟩
  · exact .inr ⟨hl.w.trans h1, by rw [hh, evOp_congr o hl.e]; exact h2⟩
theorem StepX.quiet {o : Oper} {x : T} (h : StepX P K F ops o σ x τ) (hs : still o.op = true ∨ wantedT ops σ o = some false) : τ = hp σ := by
  rcases h with ⟨_, _, h3⟩ | ⟨h1, h2⟩
  · exact h3
  · rcases hs with hs | hs
    · exact evOp_still hs h2
    · rw [h1] at hs; simp at hs
theorem StepX.agree {o : Oper} {x : T} (hl : Looks ops o σ σ') (hs : still o.op = true) (hh : hangs o.op = true → wantedT ops σ o = some true → ∀ r ∈ rdOf (ev σ) o, Agree σ σ' r) (h : StepX P K F ops o σ x τ) : StepX P K F ops o σ' x (hp σ') := by
  rcases h with ⟨h1, h2, h3⟩ | ⟨h1, h2⟩
  · exact .inl ⟨hl.w.trans h1, h2, rfl⟩
  · exact .inr ⟨hl.w.trans h1, by
      rw [evOp_congr o hl.e]
      exact evOp_agree hs (fun hg r hr => by have := hh hg h1 r hr; cases r <;> exact this) h2⟩
def LogOk (ops : Array Oper) (g : List Entry) (i : Nat) (o : Oper) (σ : St) : Prop :=
  wantedT ops σ o = some true → ∃ rd wr lb lr, g.getD i none = some (rd, wr, lb, lr) ∧ rdOf (ev σ) o = rd ∧ (still o.op = false → wrOf (ev σ) (hp σ) o = wr ∧ σ.bx.length = lb ∧ σ.rw.length = lr)
theorem LogOk.slots {g : List Entry} {i : Nat} {o : Oper} (hl : Looks ops o σ σ') (hh : still o.op = true ∨ hp σ' = hp σ) (h : LogOk ops g i o σ) : LogOk ops g i o σ' := by
  intro hw
  obtain ⟨rd, wr, lb, lr, h1, h2, h3⟩ := h (hl.w.symm.trans hw)
  refine ⟨rd, wr, lb, lr, h1, (rd_congr hl.e).trans h2, fun hs => ?_⟩
  rcases hh with hh | hh
  · rw [hs] at hh; simp at hh
  · obtain ⟨h4, h5, h6⟩ := h3 hs
    have e1 : (hp σ').bx = (hp σ).bx := congrArg St.bx hh
    have e2 : (hp σ').rw = (hp σ).rw := congrArg St.rw hh
    exact ⟨by rw [hh, wr_congr hl.e]; exact h4, (congrArg List.length e1).trans h5, (congrArg List.length e2).trans h6⟩
theorem agree_frame {x : Entry} {y : Entry} {rd wr rd' wr' : List Lend} {lb lr lb' lr' : Nat} {V : List Lend} (hc : clearQ x y = true) (hx : x = some (rd, wr, lb, lr)) (hy : y = some (rd', wr', lb', lr')) (hS : Same V σ τ) (hV : V = wr') (hb : σ.bx.length = lb') (hr : σ.rw.length = lr') : ∀ r ∈ rd, Agree σ τ r := by
  subst hx hy hV
  intro r hrd
  simp only [clearQ, List.all_eq_true, Bool.and_eq_true, Bool.not_eq_true', List.contains_eq_mem, decide_eq_false_iff_not] at hc
  obtain ⟨h1, h2⟩ := hc r hrd
  cases r with
  | b b => exact hS.b b (by simp [inRange] at h2; omega) h1
  | r i => exact hS.r i (by simp [inRange] at h2; omega) h1
theorem agree_symm {r : Lend} (h : Agree σ τ r) : Agree τ σ r := by cases r <;> exact Eq.symm h
theorem swap {g : List Entry} {k j : Nat} {ok oj : Oper} {xk xj : T} {τk : St} (hap : ok.apart ops oj = true) (hs : still ok.op = true ∨ still oj.op = true)
    (hc1 : hangs ok.op = true → still oj.op = false → clearQ (g.getD k none) (g.getD j none) = true) (hc2 : hangs oj.op = true → still ok.op = false → clearQ (g.getD j none) (g.getD k none) = true)
    (S1 : StepX P K F ops ok σ xk τk) (L1 : LogOk ops g k ok σ) (S2 : StepX P K F ops oj (putT σ.ts τk ok.dst xk) xj τ) (L2 : LogOk ops g j oj (putT σ.ts τk ok.dst xk)) :
    ∃ τj τ', StepX P K F ops oj σ xj τj ∧ LogOk ops g j oj σ ∧ StepX P K F ops ok (putT σ.ts τj oj.dst xj) xk τ' ∧ LogOk ops g k ok (putT σ.ts τj oj.dst xj) ∧ putT (putT σ.ts τj oj.dst xj).ts τ' ok.dst xk = putT (putT σ.ts τk ok.dst xk).ts τ oj.dst xj := by
  obtain ⟨a1, a2, a3⟩ := Oper.apart_spec hap
  have lj : Looks ops oj σ (putT σ.ts τk ok.dst xk) := looks_put a1 τk
  have lj' : Looks ops oj (putT σ.ts τk ok.dst xk) σ := ⟨fun z hz => (lj.e z hz).symm, lj.w.symm⟩
  have lk : ∀ τj, Looks ops ok σ (putT σ.ts τj oj.dst xj) := fun τj => looks_put a3 τj
  have hts : ∀ (τ1 τ2 τ3 τ4 : St), τ2.bx = τ4.bx → τ2.rw = τ4.rw → putT (putT σ.ts τ1 oj.dst xj).ts τ2 ok.dst xk = putT (putT σ.ts τ3 ok.dst xk).ts τ4 oj.dst xj := by
    intro τ1 τ2 τ3 τ4 e1 e2
    simp only [putT, e1, e2, St.mk.injEq, and_true]
    cases h1 : ok.dst with
    | none => rfl
    | some d =>
      cases h2 : oj.dst with
      | none => rfl
      | some e => exact st_comm _ _ _ _ _ fun he => a2 d h1 (by rw [h2, he])
  by_cases hq : still ok.op = true ∨ wantedT ops σ ok = some false
  · -- the first leaves all as it is
    have e := S1.quiet hq
    subst e
    have hh : hp σ = hp (putT σ.ts (hp σ) ok.dst xk) := rfl
    have S2' := S2.slots lj' hh
    have L2' := L2.slots lj' (.inr hh)
    refine ⟨τ, hp (putT σ.ts τ oj.dst xj), S2', L2', ?_, ?_, hts _ _ _ _ rfl rfl⟩
    · rcases hq with hq | hq
      · refine S1.agree (lk τ) hq fun hg hw r hr => ?_
        by_cases hqj : still oj.op = true ∨ wantedT ops σ oj = some false
        · have e := S2'.quiet hqj
          subst e
          cases r <;> rfl
        · obtain ⟨rd, wr, lb, lr, g1, g2, g3⟩ := L1 hw
          have hsj : still oj.op = false := by cases h : still oj.op with | false => rfl | true => exact absurd (.inl h) hqj
          rcases S2' with ⟨w1, _⟩ | ⟨w1, w2⟩
          · exact absurd (.inr w1) hqj
          · obtain ⟨rd', wr', lb', lr', g1', g2', g3'⟩ := L2' w1
            obtain ⟨g4, g5, g6⟩ := g3' hsj
            have := agree_frame (σ := hp σ) (hc1 hg hsj) g1 g1' (evOp_frame hsj w2) g4 g5 g6 r (by rw [← g2]; exact hr)
            cases r <;> exact this
      · have := S1
        rcases this with ⟨_, h2, _⟩ | ⟨h1, _⟩
        · exact .inl ⟨(lk τ).w.trans hq, h2, rfl⟩
        · rw [hq] at h1; simp at h1
    · rcases hq with hq | hq
      · exact L1.slots (lk τ) (.inl hq)
      · intro hw; rw [(lk τ).w, hq] at hw; simp at hw
  · -- the first acts: the other doesn't
    have hsk : still ok.op = false := by cases h : still ok.op with | false => rfl | true => exact absurd (.inl h) hq
    have hsj : still oj.op = true := by rcases hs with h | h; rw [hsk] at h; simp at h; exact h
    have e := S2.quiet (.inl hsj)
    subst e
    rcases S1 with ⟨w1, _⟩ | ⟨w1, w2⟩
    · exact absurd (.inr w1) hq
    · have S1 : StepX P K F ops ok σ xk τk := .inr ⟨w1, w2⟩
      obtain ⟨rd', wr', lb', lr', g1', g2', g3'⟩ := L1 w1
      obtain ⟨g4, g5, g6⟩ := g3' hsk
      have S2' : StepX P K F ops oj σ xj (hp σ) := by
        refine S2.agree lj' hsj fun hg hw r hr => ?_
        obtain ⟨rd, wr, lb, lr, g1, g2, _⟩ := L2 hw
        have := agree_frame (σ := hp σ) (hc2 hg hsk) g1 g1' (evOp_frame hsk w2) g4 g5 g6 r (by rw [← g2]; exact hr)
        cases r <;> exact Eq.symm this
      exact ⟨hp σ, τk, S2', L2.slots lj' (.inl hsj), S1.slots (lk _) rfl, L1.slots (lk _) (.inr rfl), hts _ _ _ _ rfl rfl⟩

/-! whatever order is picked -/
def SAny (P : Program) (K : Cfg) (F : Fun) (n : Nat) (ops : Array Oper) (g : List Entry) (τ : St) : Nat → Array Bool → St → Prop
  | 0, listed, σ => Region.ready .any ops listed = [] ∧ σ = τ
  | fuel + 1, listed, σ => (Region.ready .any ops listed = [] → σ = τ) ∧ ∀ i ∈ Region.ready .any ops listed, ∀ o, ops[i]? = some o → dstQ n o.dst = true ∧ ∃ x t, StepX P K F ops o σ x t ∧ LogOk ops g i o σ ∧ SAny P K F n ops g τ fuel (listed.setIfInBounds i true) (putT σ.ts t o.dst x)
theorem hangs_still {op : Op} (h : hangs op = true) : still op = true := by
  unfold hangs at h
  split at h <;> first | rfl | simp at h
def Closed (ops : Array Oper) (listed : Array Bool) : Prop := ∀ j k, listed.getD j false = true → ordQ (Region.before ops).toList j k = true → k < ops.size → listed.getD k false = true
theorem cert_spec (hc : certQ ops = true) {j k : Nat} {oj : Oper} (hj : ops[j]? = some oj) (hk : k < ops.size) (ho : ordQ (Region.before ops).toList j k = true) : ∃ e ∈ oj.after, Region.binds .any e = true ∧ (e.on = k ∨ ordQ (Region.before ops).toList e.on k = true) := by
  have hlt := (Array.getElem?_eq_some_iff.1 hj).1
  simp only [certQ, List.all_eq_true, List.mem_range] at hc
  have := hc j hlt k hk
  rw [ho] at this
  simp only [Bool.not_true, Bool.false_or, opAt, hj, Option.getD_some, Array.any_eq_true', Bool.and_eq_true, Bool.or_eq_true, beq_iff_eq] at this
  exact this
theorem closed_set (hc : certQ ops = true) {listed : Array Bool} (hl : Closed ops listed) {j : Nat} (hj : j ∈ Region.ready .any ops listed) : Closed ops (listed.setIfInBounds j true) := by
  intro a k ha ho hk
  by_cases hja : j = a
  · subst hja
    obtain ⟨_, oj, hoj, hall⟩ := mem_ready.1 hj
    obtain ⟨e, he, hb, h⟩ := cert_spec hc hoj hk ho
    have h1 := hall e he hb
    rcases h with rfl | h
    · exact getD_set_true h1
    · exact getD_set_true (hl _ _ h1 h hk)
  · rw [getD_set_ne false hja] at ha
    exact getD_set_true (hl a k ha ho hk)
theorem sany_first (hcert : certQ ops = true) (hsp : spined ops = true) {g : List Entry} (hg : (unord ops).all (apartQ ops g) = true) {i : Nat} {oi : Oper} (hi : ops[i]? = some oi) (hdi : dstQ n oi.dst = true) : ∀ (fuel : Nat) (listed : Array Bool) (σ : St) (v : T) (t : St),
    Closed ops listed → (∀ j, listed.getD j true = false → i ≤ j) →
    (∀ j oj, ops[j]? = some oj → j ≠ i → listed.getD j true = false → (∀ e ∈ oj.after, Region.binds .any e = true → e.on ≠ i) → oi.apart ops oj = true) →
    i ∈ Region.ready .any ops listed → StepX P K F ops oi σ v t → LogOk ops g i oi σ →
    SAny P K F n ops g τ fuel (listed.setIfInBounds i true) (putT σ.ts t oi.dst v) → SAny P K F n ops g τ (fuel + 1) listed σ := by
  intro fuel
  induction fuel with
  | zero =>
    intro listed σ v t _ _ _ hr S L H
    refine ⟨fun h => (by rw [h] at hr; cases hr), fun j hj o ho => ?_⟩
    by_cases hji : j = i
    · subst hji; rw [hi] at ho; cases ho; exact ⟨hdi, v, t, S, L, H⟩
    · have := ready_mono hj hji
      rw [H.1] at this
      cases this
  | succ fuel ih =>
    intro listed σ v t hcl hge hfree hr S L H
    refine ⟨fun h => (by rw [h] at hr; cases hr), fun j hj oj hoj => ?_⟩
    by_cases hji : j = i
    · subst hji; rw [hi] at hoj; cases hoj; exact ⟨hdi, v, t, S, L, H⟩
    · obtain ⟨hdj, xj, tj, Sj, Lj, Hj⟩ := H.2 j (ready_mono hj hji) oj hoj
      obtain ⟨hjun, oj', hoj', hall⟩ := mem_ready.1 hj
      rw [hoj] at hoj'; cases hoj'
      have hiun := (mem_ready.1 hr).1
      have hisz := (Array.getElem?_eq_some_iff.1 hi).1
      have hjsz := (Array.getElem?_eq_some_iff.1 hoj).1
      have hinot : listed.getD i false ≠ true := by
        intro h1
        rcases Nat.lt_or_ge i listed.size with h' | h'
        · simp [h'] at hiun h1; rw [hiun] at h1; cases h1
        · simp [Array.getElem?_eq_none h'] at h1
      have hnot : ∀ e ∈ oj.after, Region.binds .any e = true → e.on ≠ i := fun e he hb heq => hinot (heq ▸ hall e he hb)
      have hord : ordQ (Region.before ops).toList j i = false := by
        cases h : ordQ (Region.before ops).toList j i with
        | false => rfl
        | true =>
          obtain ⟨e, he, hb, h2⟩ := cert_spec hcert hoj hisz h
          rcases h2 with h2 | h2
          · exact absurd h2 (hnot e he hb)
          · exact absurd (hcl _ _ (hall e he hb) h2 hisz) hinot
      have hij : i < j := by have := hge j hjun; omega
      have ei : opAt ops i = oi := by simp [opAt, hi]
      have ej : opAt ops j = oj := by simp [opAt, hoj]
      have hst : still oi.op = true ∨ still oj.op = true := by
        simp only [spined, List.all_eq_true, List.mem_range] at hsp
        have := hsp j hjsz i hij
        rw [ei, ej, hord] at this
        simpa using this
      have hmem : ((hangs oi.op && !still oj.op) || (!still oi.op && hangs oj.op)) = true → apartQ ops g (i, j) = true := by
        intro h
        refine List.all_eq_true.1 hg (i, j) ?_
        simp only [unord]
        refine List.mem_flatMap.2 ⟨j, List.mem_range.2 hjsz, List.mem_filterMap.2 ⟨i, List.mem_range.2 hij, ?_⟩⟩
        rw [hord, ei, ej]
        simp only [Bool.false_eq_true, if_false]
        rw [if_pos h]
      obtain ⟨τj, τ', S1, L1, S2, L2, e⟩ := swap (hfree j oj hoj hji hjun hnot) hst
        (fun h1 h2 => by have := hmem (by simp [h1, h2]); simpa only [apartQ, ei, ej, hangs_still h1, if_true] using this)
        (fun h1 h2 => by have := hmem (by simp [h1, h2]); simpa only [apartQ, ei, ej, h2, Bool.false_eq_true, if_false] using this) S L Sj Lj
      refine ⟨hdj, xj, τj, S1, L1, ?_⟩
      have hge' : ∀ k, (listed.setIfInBounds j true).getD k true = false → listed.getD k true = false := fun k hk => by
        by_cases hjk : j = k
        · subst hjk; exact hjun
        · rw [getD_set_ne true hjk] at hk; exact hk
      refine ih (listed.setIfInBounds j true) _ v τ' (closed_set hcert hcl hj) (fun k hk => hge k (hge' k hk)) (fun k okk hk hki hun hno => hfree k okk hk hki (hge' k hun) hno) (ready_mono hr (Ne.symm hji)) S2 L2 ?_
      rw [Array.setIfInBounds_comm _ _ hji, e]
      exact Hj
theorem evLog_get {F : Fun} : ∀ (l : List Oper) {σ τ : St} {g0 g : List Entry}, evLog P K F n ops l σ g0 = some (g, τ) → ∃ g', g = g0 ++ g'
  | [], σ, τ, g0, g, h => by simp [evLog] at h; exact ⟨[], by simp [h.1]⟩
  | o :: l, σ, τ, g0, g, h => by
    rw [evLog_cons] at h
    obtain ⟨b, hb, h⟩ := Option.bind_eq_some_iff.1 h
    obtain ⟨σ1, h1, h2⟩ := Option.bind_eq_some_iff.1 h
    obtain ⟨g', e⟩ := evLog_get l h2
    exact ⟨_, by rw [e, List.append_assoc]⟩
theorem sany_lex (hcert : certQ ops = true) (hsp : spined ops = true) {g : List Entry} (hg : (unord ops).all (apartQ ops g) = true) : ∀ (l : List Oper) (k : Nat) (listed : Array Bool) (σ : St) (g0 : List Entry), (∀ j, l[j]? = ops[k + j]?) → g0.length = k →
    Region.lexFrom .any ops l.length k listed = true → Closed ops listed → (∀ j, listed.getD j true = false → k ≤ j) → evLog P K F n ops l σ g0 = some (g, τ) → SAny P K F n ops g τ l.length listed σ
  | [], k, listed, σ, g0, _, _, hB, _, _, h => by
    simp [evLog] at h
    exact ⟨by simpa [Region.lexFrom] using hB, h.2⟩
  | o :: l, k, listed, σ, g0, hl, hlen, hB, hcl, hge, h => by
    have h0 : ops[k]? = some o := by simpa using (hl 0).symm
    simp only [List.length_cons, Region.lexFrom, Bool.and_eq_true] at hB
    obtain ⟨⟨hr, hf⟩, hB'⟩ := hB
    rw [evLog_cons] at h
    obtain ⟨b, hb, h⟩ := Option.bind_eq_some_iff.1 h
    obtain ⟨σ1, h1, h2⟩ := Option.bind_eq_some_iff.1 h
    obtain ⟨hd, x, t, S, rfl⟩ := evStep_iff.1 h1
    have hrd : k ∈ Region.ready .any ops listed := by simpa using hr
    have L : LogOk ops g k o σ := by
      intro hw
      rw [hb] at hw
      simp only [Option.some.injEq] at hw
      subst hw
      obtain ⟨g', e⟩ := evLog_get l h2
      refine ⟨_, _, _, _, ?_, rfl, fun _ => ⟨rfl, rfl, rfl⟩⟩
      rw [e, List.getD_eq_getElem?_getD, List.append_assoc, List.getElem?_append_right (by omega), hlen]
      simp [entry]
    refine sany_first hcert hsp hg h0 hd l.length listed σ x t hcl hge (Region.free_spec h0 hf) hrd S L ?_
    refine sany_lex hcert hsp hg l (k + 1) _ _ _ (fun j => by have := hl (j + 1); simpa [Nat.add_assoc, Nat.add_comm 1 j] using this) (by simp [hlen]) hB' (closed_set hcert hcl hrd) (fun j hj => ?_) h2
    by_cases hkj : k = j
    · subst hkj
      have hun := (mem_ready.1 hrd).1
      rcases Nat.lt_or_ge k listed.size with h' | h'
      · simp [h'] at hj
      · simp [Array.getElem?_eq_none h'] at hun
    · rw [getD_set_ne true hkj] at hj
      have := hge j hj; omega
theorem evLog_of {F : Fun} : ∀ (l : List Oper) {σ τ : St} (g0 : List Entry), evOps P K F n ops l σ = some τ → ∃ g, evLog P K F n ops l σ g0 = some (g, τ)
  | [], σ, τ, g0, h => by simp [evOps] at h; exact ⟨g0, by simp [evLog, h]⟩
  | o :: l, σ, τ, g0, h => by
    rw [evOps_cons] at h
    obtain ⟨σ1, h1, h2⟩ := Option.bind_eq_some_iff.1 h
    obtain ⟨hd, x, t, S, e⟩ := evStep_iff.1 h1
    have hb : ∃ b, wantedT ops σ o = some b := by rcases S with ⟨h, _⟩ | ⟨h, _⟩ <;> exact ⟨_, h⟩
    obtain ⟨b, hb⟩ := hb
    obtain ⟨g, h3⟩ := evLog_of l (g0 ++ [if b then entry σ o else none]) h2
    exact ⟨g, by rw [evLog_cons, hb]; simp only [Option.bind_some, h1]; exact h3⟩
theorem sany_ok (hF : ∀ g, FOk P g (F g)) {w0 : World} {B : Bd} {E0 : Env} {g : List Entry} {Q : Go.Exit → Act → World → Prop} (hQ : ∀ a' w', Inv w0 B E0 n τ a' w' → Q .normal a' w') : ∀ (fuel : Nat) (listed : Array Bool) (σ : St) (a : Act) (w : World), SAny P K F n ops g τ fuel listed σ → Inv w0 B E0 n σ a w → wpAny P .any ops Q fuel listed a w
  | 0, _, σ, a, w, h, I => ⟨h.1, hQ _ _ (h.2 ▸ I)⟩
  | fuel + 1, listed, σ, a, w, h, I => ⟨fun h0 => hQ _ _ (h.1 h0 ▸ I), fun i hi => by
      unfold wpOp
      cases ho : ops[i]? with
      | none => simp only [mem_ready, ho] at hi; obtain ⟨_, _, h1, _⟩ := hi; simp at h1
      | some o =>
        obtain ⟨hd, x, t, S, _, H⟩ := h.2 i hi o ho
        exact evStep_ok hF I (evStep_iff.2 ⟨hd, x, t, S, rfl⟩) _ Q fun a' w' I' => sany_ok hF hQ fuel _ _ a' w' H I'⟩
theorem Inv.drew {w0 w : World} {B : Bd} {E0 : Env} {a : Act} (I : Inv w0 B E0 n σ a w) : Inv w0 B E0 n σ a { w with drawn := w.drawn + 1 } := by
  obtain ⟨⟨E, ok, M, hT, hE, hk⟩, h1, h2⟩ := I
  obtain ⟨M', k'⟩ := M.drew
  exact ⟨⟨E, ok, M', fun t => (hT t).keep k' (.refl _), hE, fun k a b => hk k a b⟩, h1, h2⟩
theorem draw_ok (hm : P.follows .mixedOrders = true) (hF : ∀ g, FOk P g (F g)) : DrawOk P K F := by
  intro w0 B E0 n ops id Q σ σ' a w I h hQ
  unfold evDraw at h
  split at h
  · rename_i hd
    simp only [drawQ, Bool.and_eq_true] at hd
    obtain ⟨⟨hsp, hcert⟩, hB⟩ := hd
    have key : ∃ g, evLog P K F n ops ops.toList σ [] = some (g, σ') ∧ (unord ops).all (apartQ ops g) = true := by
      split at h
      · rename_i hu
        obtain ⟨g, hg⟩ := evLog_of _ [] h
        exact ⟨g, hg, by rw [hu]; rfl⟩
      · obtain ⟨⟨g, τ⟩, h1, h2⟩ := Option.bind_eq_some_iff.1 h
        simp only at h2
        split at h2
        · rename_i ha; simp only [Option.some.injEq] at h2; subst h2; exact ⟨g, h1, ha⟩
        · simp at h2
    obtain ⟨g, h1, h2⟩ := key
    simp only [Region.lexB, Bool.and_eq_true] at hB
    refine wp_region_any hm (sany_ok (K := K) (g := g) hF hQ _ _ σ a _ ?_ I.drew)
    have := sany_lex hcert hsp h2 ops.toList 0 (Array.replicate ops.size false) σ [] (by simp) rfl (by simpa using hB.2) (fun j k h => by
      rcases Nat.lt_or_ge j ops.size with h' | h'
      · simp [h'] at h
      · simp [h'] at h) (fun _ _ => Nat.zero_le _) h1
    simpa using this
  · simp at h
/-- a function's answers are true -/
theorem Fz_true (hm : P.follows .mixedOrders = true) (okf : FuncId → Bool) (pr : FuncId → Option (List A → Option (A × List (Option Cs)))) (hpr : ∀ f g, pr f = some g → FOk P f g) (f : FuncId) : FOk P f (Fz P K okf pr f) :=
  Fz_ok P K okf pr hpr (fun _ hF => draw_ok hm hF) f
end Go.SX
