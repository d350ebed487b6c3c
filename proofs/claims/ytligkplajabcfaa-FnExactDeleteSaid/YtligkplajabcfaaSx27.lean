import Derived.Test.YtligkplajabcfaaSx26
set_option linter.unusedVariables false
set_option linter.unusedSimpArgs false
set_option linter.unusedSectionVars false
set_option linter.unusedVariables false
set_option linter.unusedSimpArgs false
namespace Go.SX
variable {P : Program} {K : Cfg} {F : Fun} {n : Nat} {ops : Array Oper} {σ : St}

theorem flat_no {x : T} {l} (h : flat x = some l) : x ≠ .no := by rintro rfl; simp [flat] at h
theorem elems_no {σ : St} {x : T} {l} (h : elems σ x = some l) : x ≠ .no := by rintro rfl; simp [elems] at h
theorem hang_no {ρ : Operand → T} {σ : St} (o : Oper) {r} (h : evOp P K F ρ σ o = some r) (hh : hangs o.op = true) : ∀ x ∈ o.op.operands.toList, ρ x ≠ .no := by
  obtain ⟨dst, op, type, pos, after, guard⟩ := o
  cases op <;> try (simp only [hangs, reduceCtorEq, Bool.false_eq_true] at hh; done)
  case load t a =>
    simp only [Op.operands, List.mem_singleton]
    rintro x rfl e
    simp [evOp, opLoad, e, cells] at h
  case convert s d a =>
    simp only [Op.operands, List.mem_singleton]
    rintro x rfl e
    simp only [evOp, e, opConv, show deepT σ T.no = false from rfl, Bool.false_eq_true, if_false] at h
    split at h
    · simp [elems] at h
    · simp at h
  case slice t x lo hi mx =>
    simp only [evOp] at h
    split at h
    · rename_i hm
      have hm' : mx = none := by cases mx <;> simp_all
      subst hm'
      intro y hy
      simp only [Op.operands, Option.toArray, Array.append_empty, Array.toList_append, List.mem_append] at hy
      have hopt : ∀ (lo : Option Operand) {w : Option Value}, (match (motive := Option Operand → Option (Option Value)) lo with | none => some none | some y => (match ρ y with | .c (.s v) => some (some v) | _ => none)) = some w → ∀ y, lo = some y → ρ y ≠ .no := by
        rintro _ w h y rfl e
        simp [e] at h
      have hb : ∀ (lo : Option Operand) (d : Nat) {w}, bound ρ lo d = some w → ∀ y, lo = some y → ρ y ≠ .no := by
        rintro _ d w h y rfl e
        simp [bound, e] at h
      have hx : ρ x ≠ .no ∧ (∀ y, lo = some y → ρ y ≠ .no) ∧ (∀ y, hi = some y → ρ y ≠ .no) := by
        generalize hu : ρ x = u at h
        have row : ((elOf P t).bind fun e => (szOf P e).bind fun n => (elems σ u).bind fun l => (bound ρ hi l.length).bind fun h => (bound ρ lo 0).bind fun lo =>
          if lo ≤ h ∧ h ≤ l.length then (match u with
            | .c (.r xs) => if wide n xs then some (.c (.r (cut xs lo h)), σ) else none
            | .nil => some (.nil, σ)
            | .row i => (rowAt σ i).bind fun r => if r.sz = n then some (.sl i lo h, σ) else none
            | .sl i a _ => (rowAt σ i).bind fun r => if r.sz = n then some (.sl i (a + lo) (a + h), σ) else none
            | _ => none)
          else none) = some r → u ≠ .no ∧ (∀ y, lo = some y → ρ y ≠ .no) ∧ (∀ y, hi = some y → ρ y ≠ .no) := by
          intro h
          obtain ⟨e, he, h⟩ := Option.bind_eq_some_iff.1 h
          obtain ⟨n, hn, h⟩ := Option.bind_eq_some_iff.1 h
          obtain ⟨l, hl, h⟩ := Option.bind_eq_some_iff.1 h
          obtain ⟨b, hb', h⟩ := Option.bind_eq_some_iff.1 h
          obtain ⟨a, ha', h⟩ := Option.bind_eq_some_iff.1 h
          exact ⟨elems_no hl, hb lo _ ha', hb hi _ hb'⟩
        cases u with
        | c c => cases c with
          | s v =>
            simp only [opSlice] at h
            obtain ⟨a, ha, h⟩ := Option.bind_eq_some_iff.1 h
            obtain ⟨b, hb, h⟩ := Option.bind_eq_some_iff.1 h
            exact ⟨by simp, hopt lo ha, hopt hi hb⟩
          | r l => exact row h
        | _ => exact row h
      rcases hy with (hy | hy) | hy
      · simp only [List.mem_singleton] at hy; subst hy; exact hx.1
      · cases lo with
        | none => simp at hy
        | some z => simp at hy; subst hy; exact hx.2.1 _ rfl
      · cases hi with
        | none => simp at hy
        | some z => simp at hy; subst hy; exact hx.2.2 _ rfl
    · simp at h
  case indexAddr t x ix =>
    simp only [evOp, opIndexAddr] at h
    obtain ⟨e, he, h⟩ := Option.bind_eq_some_iff.1 h
    obtain ⟨n, hn, h⟩ := Option.bind_eq_some_iff.1 h
    intro y hy
    simp only [Op.operands, List.mem_cons, List.not_mem_nil, or_false] at hy
    split at h
    · simp at h
    · rcases hy with rfl | rfl
      · intro e; rw [e] at h; split at h <;> simp_all
      · intro e; rw [e] at h; simp at h
  case call c =>
    obtain ⟨callee, args, ats⟩ := c
    cases callee with
    | value fo => simp [hangs] at hh
    | invoke => simp [hangs] at hh
    | builtin b =>
    cases b <;> simp only [hangs, Bool.false_eq_true, reduceCtorEq] at hh
    intro y hy
    simp only [Op.operands, Call.operands, Array.empty_append] at hy
    simp only [evOp] at h
    split at h
    · rename_i x t e1 e2
      rw [e1] at hy
      simp only [List.mem_singleton] at hy
      subst hy
      intro e
      rw [e] at h
      simp only [elems, Option.map_none] at h
      cases hq : elOf P t <;> simp [hq] at h
    · simp at h

theorem elems_thaw (x y : T) : elems (thaw σ x) y = elems σ y := by
  have h : ∀ j q i, rowAt σ j = some q → (rowAt (setRow σ j (some { q with dp := .f })) i).map (·.l) = (rowAt σ i).map (·.l) := by
    intro j q i hq
    rw [rowAt_set (show here (some { q with dp := .f }) = _ from rfl)]
    by_cases hij : j = i
    · subst hij; simp [rowAt_lt hq, hq]
    · simp [hij]
  have key : ∀ i, (rowAt (thaw σ x) i).map (·.l) = (rowAt σ i).map (·.l) := by
    intro i
    unfold thaw
    split
    · split
      · rename_i hq; exact h _ _ _ hq
      · rfl
    · split
      · rename_i hq; exact h _ _ _ hq
      · rfl
    · rfl
  have key2 : ∀ i lo hi, (rowAt (thaw σ x) i).map (fun r => cut r.l lo hi) = (rowAt σ i).map (fun r => cut r.l lo hi) := by
    intro i lo hi
    have := congrArg (Option.map fun l => cut l lo hi) (key i)
    simpa [Option.map_map, Function.comp_def] using this
  cases y
  case row i => exact key _
  case sl i lo hi => exact key2 _ _ _
  case c y => cases y <;> rfl
  all_goals rfl
theorem append_elems {t : TypeId} {s x : T} {r} (h : opAppend P σ t s x = some r) : (∃ l, elems σ s = some l) ∧ ∃ l, elems σ x = some l := by
  unfold opAppend at h
  split at h
  · rename_i jx hj
    have hw : isWhole x = some jx := by
      generalize (deepT σ x && (deepT σ s || isNil s)) = b at hj
      cases b <;> simp_all
    cases x <;> simp [isWhole] at hw
    subst hw
    simp only [opAppendD, Option.bind_eq_some_iff] at h
    obtain ⟨_, _, _, _, _, _, qx, hqx, h⟩ := h
    refine ⟨?_, qx.l, by simp only [elems, hqx, Option.map_some]⟩
    split at h
    · split at h
      · exact ⟨[], rfl⟩
      · split at h
        · simp at h
        · simp only [Option.bind_eq_some_iff] at h
          obtain ⟨q, hq, h⟩ := h
          exact ⟨q.l, by simp only [elems, hq, Option.map_some]⟩
      · simp at h
    · simp at h
  · have e : ∀ y, elems (meltX (meltS σ s) x) y = elems σ y := by
      intro y
      unfold meltX meltS
      split <;> split <;> simp only [elems_demote, elems_thaw]
    simp only [opAppend0, Option.bind_eq_some_iff] at h
    obtain ⟨_, _, _, _, _, _, xs, hxs, old, hold, _⟩ := h
    rw [e] at hxs hold
    exact ⟨⟨_, hold⟩, _, hxs⟩
def rpW (a x : T) : List Lend := match a with
  | .rp _ _ _ => refsW x
  | _ => refs x
theorem wr_store {ρ : Operand → T} {σ : St} {dst : Option Tmp} {t : TypeId} {a x : Operand} {type : TypeId} {pos : String} {after : Array Edge} {guard : Option (Nat × Bool)} : wrOf ρ σ ⟨dst, .store t a x, type, pos, after, guard⟩ = refs (ρ a) ++ rpW (ρ a) (ρ x) := rfl
theorem act_sim {f : Rn} {ρ ρ' : Operand → T} {σ τ : St} (hρ : ∀ x, TR f (ρ x) (ρ' x)) (H : HR f σ τ) (o : Oper) {r} (h : evOp P K F ρ σ o = some r) (hh : still o.op = false) : wrOf ρ' τ o = (wrOf ρ σ o).map f.l ∧ ∀ z ∈ wrOf ρ σ o, InL f z := by
  have plain : (∀ c, o.op ≠ .call c) → (∀ t l p, o.op ≠ .buildSlice t l p) → (∀ t a x, o.op ≠ .store t a x) → (∀ x ∈ o.op.operands.toList, ρ x ≠ .no) → wrOf ρ' τ o = (wrOf ρ σ o).map f.l ∧ ∀ z ∈ wrOf ρ σ o, InL f z := by
    intro hc hcb hcs hn
    have e1 : wrOf ρ σ o = o.op.operands.toList.flatMap fun x => refs (ρ x) := by
      unfold wrOf; split
      · rename_i c e; exact absurd e (hc c)
      · rename_i e; exact absurd e (hcb _ _ _)
      · rename_i e; exact absurd e (hcs _ _ _)
      · rfl
    have e2 : wrOf ρ' τ o = o.op.operands.toList.flatMap fun x => refs (ρ' x) := by
      unfold wrOf; split
      · rename_i c e; exact absurd e (hc c)
      · rename_i e; exact absurd e (hcb _ _ _)
      · rename_i e; exact absurd e (hcs _ _ _)
      · rfl
    rw [e1, e2]
    exact flatMap_sim _ fun x hx => refs_sim (hρ x) (hn x hx)
  have call : ∀ c, o.op = .call c → (∀ x ∈ o.op.operands.toList, Seen (ρ x)) → (∀ x ∈ o.op.operands.toList, ∀ b, Lend.b b ∈ argRefs (ρ x) → ∃ l, boxAt σ b = some l ∧ ∀ z ∈ l, z ≠ .no) → wrOf ρ' τ o = (wrOf ρ σ o).map f.l ∧ ∀ z ∈ wrOf ρ σ o, InL f z := by
    intro c hc hn hb
    have hm : ∀ x ∈ turns ρ σ c, x ∈ o.op.operands.toList := fun x hx => by rw [hc]; simpa using turns_mem x hx
    have ht : turns ρ' τ c = turns ρ σ c := by
      unfold turns
      split
      · rename_i h1 h2
        rw [deep_sim H (hρ _) (hn _ (by rw [hc]; simp only [Op.operands, Call.operands, h1]; simp [h2])).1]
      · rfl
    have e1 : wrOf ρ σ o = ((turns ρ σ c).flatMap fun x => argRefs (ρ x)).flatMap (inBox σ) := by
      unfold wrOf; rw [hc]
    have e2 : wrOf ρ' τ o = ((turns ρ σ c).flatMap fun x => argRefs (ρ' x)).flatMap (inBox τ) := by
      unfold wrOf; rw [hc]; simp only [ht]
    obtain ⟨g1, g2⟩ := flatMap_sim (f := f) (g := fun x => argRefs (ρ x)) (g' := fun x => argRefs (ρ' x)) (turns ρ σ c) fun x hx => argRefs_sim (hρ x) (hn x (hm x hx))
    rw [e1, e2, g1]
    have hb' : ∀ b, Lend.b b ∈ ((turns ρ σ c).flatMap fun x => argRefs (ρ x)) → ∃ l, boxAt σ b = some l ∧ ∀ z ∈ l, z ≠ .no := by
      intro b hmm
      obtain ⟨x, hx, hmm⟩ := List.mem_flatMap.1 hmm
      exact hb x (hm x hx) b hmm
    generalize ((turns ρ σ c).flatMap fun x => argRefs (ρ x)) = L at g2 hb'
    have key : ∀ x ∈ L, inBox τ (f.l x) = (inBox σ x).map f.l ∧ ∀ z ∈ inBox σ x, InL f z := by
      intro x hx
      cases x with
      | r i => exact ⟨rfl, fun z hz => by simp only [inBox, List.mem_singleton] at hz; subst hz; exact g2 _ hx⟩
      | b b =>
        obtain ⟨l, h1, h2⟩ := hb' b hx
        obtain ⟨m, h3, h4⟩ := H.box b l h1
        have : ∀ {l m : List T}, All2 (TR f) l m → (∀ z ∈ l, z ≠ .no) → m.flatMap refs = (l.flatMap refs).map f.l ∧ ∀ z ∈ l.flatMap refs, InL f z := by
          intro l m h hn
          induction h with
          | nil => exact ⟨rfl, by simp⟩
          | cons h _ ih =>
            obtain ⟨a1, a2⟩ := refs_sim h (hn _ (by simp))
            obtain ⟨b1, b2⟩ := ih fun z hz => hn z (by simp [hz])
            refine ⟨by simp only [List.flatMap_cons, a1, b1, List.map_append], fun z hz => ?_⟩
            simp only [List.flatMap_cons, List.mem_append] at hz
            rcases hz with hz | hz
            · exact a2 z hz
            · exact b2 z hz
        obtain ⟨a1, a2⟩ := this h4 h2
        simp only [inBox, Rn.l, h1, h3, Option.getD_some, List.map_cons, a1, true_and]
        intro z hz
        rcases List.mem_cons.1 hz with rfl | hz
        · exact g2 _ hx
        · exact a2 z hz
    rw [List.flatMap_map]
    exact flatMap_sim L key
  obtain ⟨dst, op, type, pos, after, guard⟩ := o
  cases op <;> try (simp only [still, reduceCtorEq, Bool.true_eq_false] at hh; done)
  case alloc t => exact plain (by simp) (by simp) (by simp) (by simp [Op.operands])
  case box t x =>
    refine plain (by simp) (by simp) (by simp) ?_
    simp only [Op.operands, List.mem_singleton]
    rintro y rfl
    simp only [evOp, opBox] at h
    obtain ⟨l, hl, _⟩ := Option.bind_eq_some_iff.1 h
    exact flat_no hl
  case buildSlice t len parts =>
    have hall : ∀ p ∈ parts.toList, seenQ (ρ p.2) = true := by
      simp only [evOp, opBuildSlice] at h
      obtain ⟨e, he, h⟩ := Option.bind_eq_some_iff.1 h
      obtain ⟨i, hi, h⟩ := Option.bind_eq_some_iff.1 h
      obtain ⟨z, hz, h⟩ := Option.bind_eq_some_iff.1 h
      obtain ⟨zl, hzl, h⟩ := Option.bind_eq_some_iff.1 h
      split at h
      · rename_i hc
        intro p hp
        exact List.all_eq_true.mp hc.2.2.2 (p.1, ρ p.2) (List.mem_map.2 ⟨p, hp, rfl⟩)
      · simp at h
    simp only [wrOf]
    refine flatMap_sim _ fun x hx => ?_
    simp only [Op.operands, List.mem_map] at hx
    obtain ⟨p, hp, rfl⟩ := hx
    have hs := hall p hp
    refine refsW_sim (hρ p.2) (fun e => by rw [e] at hs; simp [seenQ] at hs) fun l e z hz hn => ?_
    rw [e] at hs
    simp only [seenQ, List.all_eq_true] at hs
    have := hs z hz
    rw [hn] at this; simp at this
  case store t a x =>
    simp only [evOp, opStore] at h
    obtain ⟨l, hl, h⟩ := Option.bind_eq_some_iff.1 h
    have hna : ρ a ≠ .no := by intro e; rw [e] at h; simp at h
    have hnx : ρ x ≠ .no := flat_no hl
    obtain ⟨a1, a2⟩ := refs_sim (hρ a) hna
    have hrp : ∀ i n o, ρ a = .rp i n o → ∀ z ∈ l, z ≠ .no := by
      intro i n o e
      rw [e] at h
      simp only at h
      split at h
      · split at h
        · obtain ⟨p, hp, _⟩ := Option.bind_eq_some_iff.1 h
          have dno : ∀ (l : List T) {σ : St} {p}, digs σ l = some p → ∀ z ∈ l, z ≠ .no := by
            intro l
            induction l with
            | nil => intro σ p _ z hz; simp at hz
            | cons y l ih =>
              intro σ p h z hz
              simp only [digs] at h
              obtain ⟨p1, h1, h⟩ := Option.bind_eq_some_iff.1 h
              obtain ⟨p2, h2, _⟩ := Option.map_eq_some_iff.1 h
              rcases List.mem_cons.1 hz with rfl | hz
              · rintro rfl; simp [dig] at h1
              · exact ih h2 z hz
          exact dno l hp
        · obtain ⟨vs, h1, _⟩ := Option.bind_eq_some_iff.1 h
          exact views_no h1
      · simp at h
    rw [wr_store, wr_store]
    have hx : rpW (ρ' a) (ρ' x) = (rpW (ρ a) (ρ x)).map f.l ∧ ∀ z ∈ rpW (ρ a) (ρ x), InL f z := by
      have ha := hρ a
      generalize ρ a = u at ha hna hrp
      generalize ρ' a = v at ha
      cases ha with
      | rp i k o hi =>
        refine refsW_sim (hρ x) hnx fun l' e z hz => ?_
        rw [e] at hl
        simp only [flat, Option.some.injEq] at hl
        subst hl
        exact hrp _ _ _ rfl z hz
      | no y => exact absurd rfl hna
      | _ => exact refs_sim (hρ x) hnx
    refine ⟨by rw [a1, hx.1, List.map_append], fun z hz => ?_⟩
    rcases List.mem_append.1 hz with hz | hz
    · exact a2 z hz
    · exact hx.2 z hz
  case makeSlice t l c =>
    refine plain (by simp) (by simp) (by simp) ?_
    simp only [evOp, opMake] at h
    obtain ⟨e, he, h⟩ := Option.bind_eq_some_iff.1 h
    obtain ⟨i, hi, h⟩ := Option.bind_eq_some_iff.1 h
    obtain ⟨z, hz, h⟩ := Option.bind_eq_some_iff.1 h
    obtain ⟨zl, hzl, h⟩ := Option.bind_eq_some_iff.1 h
    obtain ⟨cs, hcs, h⟩ := Option.bind_eq_some_iff.1 h
    intro y hy
    simp only [Op.operands, List.mem_cons, List.not_mem_nil, or_false] at hy
    split at h
    · rename_i e1 e2
      rcases hy with rfl | rfl
      · rw [e1]; simp
      · rw [e2]; simp
    · simp at h
  case call c =>
    obtain ⟨callee, args, ats⟩ := c
    cases callee with
    | value fo =>
      simp only [evOp] at h
      obtain ⟨n1, n2⟩ := apply_no h
      have hmem : ∀ x ∈ (Op.call ⟨.value fo, args, ats⟩).operands.toList, ρ x ∈ ρ fo :: args.toList.map ρ := by
        intro x hx
        simp only [Op.operands, Call.operands, Array.toList_append, List.mem_append] at hx
        rcases hx with hx | hx
        · simp at hx; subst hx; simp
        · exact List.mem_cons_of_mem _ (List.mem_map.2 ⟨x, hx, rfl⟩)
      exact call _ rfl (fun x hx => n1 _ (hmem x hx)) (fun x hx b hb => n2 _ (hmem x hx) b hb)
    | invoke => simp [evOp] at h
    | builtin b =>
      cases b <;> simp only [still, Bool.true_eq_false] at hh <;> simp only [evOp, isBuiltin2, Bool.false_eq_true, if_false, reduceCtorEq] at h
      case append =>
        split at h
        · rename_i s x t u e1 e2
          split at h
          · have hops : ∀ y ∈ (Op.call ⟨.builtin .append, args, ats⟩).operands.toList, y = s ∨ y = x := by
              intro y hy
              simp only [Op.operands, Call.operands, Array.empty_append, e1] at hy
              simpa using hy
            have ni : ∀ {u : T} {l}, elems σ u = some l → Seen u ∧ ∀ b, Lend.b b ∈ argRefs u → False := fun {u l} h => ⟨⟨elems_no h, fun l' e => by subst e; simp [elems] at h⟩, fun b hb => by cases u <;> simp [argRefs, refs, elems] at h hb⟩
            have both : (∃ l, elems σ (ρ s) = some l) ∧ ∃ l, elems σ (ρ x) = some l := append_elems h
            obtain ⟨⟨ls, h1⟩, lx, h2⟩ := both
            refine call _ rfl ?_ ?_
            · intro y hy
              rcases hops y hy with rfl | rfl
              · exact (ni h1).1
              · exact (ni h2).1
            · intro y hy b hb
              rcases hops y hy with rfl | rfl
              · exact ((ni h1).2 b hb).elim
              · exact ((ni h2).2 b hb).elim
          · simp at h
        · simp at h
      case clear =>
        split at h
        · rename_i x t e1 e2
          have hops : ∀ y ∈ (Op.call ⟨.builtin .clear, args, ats⟩).operands.toList, y = x := by
            intro y hy
            simp only [Op.operands, Call.operands, Array.empty_append, e1] at hy
            simpa using hy
          simp only [opClear] at h
          obtain ⟨e, he, h⟩ := Option.bind_eq_some_iff.1 h
          obtain ⟨i, hi, h⟩ := Option.bind_eq_some_iff.1 h
          obtain ⟨z, hz, h⟩ := Option.bind_eq_some_iff.1 h
          obtain ⟨zl, hzl, h⟩ := Option.bind_eq_some_iff.1 h
          obtain ⟨cs, hcs, h⟩ := Option.bind_eq_some_iff.1 h
          split at h
          · split at h
            · rename_i j lo hi' hj
              refine call _ rfl ?_ ?_
              · intro y hy
                rw [hops y hy, hj]
                exact ⟨by simp, by simp⟩
              · intro y hy b hb
                rw [hops y hy, hj] at hb
                simp [argRefs, refs] at hb
            · simp at h
          · simp at h
        · simp at h
  all_goals simp [evOp] at h
end Go.SX
