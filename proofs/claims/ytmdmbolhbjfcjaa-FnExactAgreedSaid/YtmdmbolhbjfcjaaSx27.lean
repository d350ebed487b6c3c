import Derived.Test.YtmdmbolhbjfcjaaSx26
set_option linter.unusedVariables false
set_option linter.unusedSimpArgs false
set_option linter.unusedSectionVars false
set_option linter.unusedVariables false
set_option linter.unusedSimpArgs false
namespace Go.SX
variable {P : Program} {K : Cfg} {F : Fun} {n : Nat} {ops : Array Oper}

theorem flat_no {x : T} {l} (h : flat x = some l) : x ≠ .no := by rintro rfl; simp [flat] at h
theorem elems_no {σ : St} {x : T} {l} (h : elems σ x = some l) : x ≠ .no := by rintro rfl; simp [elems] at h
theorem fillT_no {place : Nat → Option (Nat × Nat)} : ∀ {ps : List (Nat × T)} {cs r}, fillT place cs ps = some r → ∀ p ∈ ps, p.2 ≠ .no
  | [], _, _, _, _, hp => by simp at hp
  | (i, x) :: ps, cs, r, h, p, hp => by
    simp only [fillT, Option.bind_eq_some_iff] at h
    obtain ⟨⟨off, size⟩, h1, fl, h2, h3⟩ := h
    rcases List.mem_cons.1 hp with rfl | hp
    · exact flat_no h2
    · simp only at h3
      split at h3
      · obtain ⟨cs1, _, h4⟩ := Option.bind_eq_some_iff.1 h3
        exact fillT_no h4 p hp
      · simp at h3
theorem hang_no {ρ : Operand → T} {σ : St} (o : Oper) {r} (h : evOp P K F ρ σ o = some r) (hh : hangs o.op = true) : ∀ x ∈ o.op.operands.toList, ρ x ≠ .no := by
  obtain ⟨dst, op, type, pos, after, guard⟩ := o
  cases op <;> try (simp only [hangs, reduceCtorEq, Bool.false_eq_true] at hh; done)
  case load t a =>
    simp only [Op.operands, List.mem_singleton]
    rintro x rfl e
    simp [evOp, opLoad, e, cells] at h
  case convert s d a =>
    simp only [Op.operands, List.mem_singleton]
    rintro x rfl e
    simp only [evOp, e, opConv] at h
    split at h
    · simp [elems] at h
    · simp at h
  case slice t x lo hi mx =>
    simp only [evOp] at h
    split at h
    · rename_i hm
      have hm' : mx = none := by cases mx <;> simp_all
      subst hm'
      intro y hy
      simp only [Op.operands, Option.toArray, Array.append_empty, Array.toList_append, List.mem_append] at hy
      have hopt : ∀ (lo : Option Operand) {w : Option Value}, (match (motive := Option Operand → Option (Option Value)) lo with | none => some none | some y => (match ρ y with | .c (.s v) => some (some v) | _ => none)) = some w → ∀ y, lo = some y → ρ y ≠ .no := by
        rintro _ w h y rfl e
        simp [e] at h
      have hb : ∀ (lo : Option Operand) (d : Nat) {w}, bound ρ lo d = some w → ∀ y, lo = some y → ρ y ≠ .no := by
        rintro _ d w h y rfl e
        simp [bound, e] at h
      have hx : ρ x ≠ .no ∧ (∀ y, lo = some y → ρ y ≠ .no) ∧ (∀ y, hi = some y → ρ y ≠ .no) := by
        generalize hu : ρ x = u at h
        have row : ((elOf P t).bind fun e => (szOf P e).bind fun n => (elems σ u).bind fun l => (bound ρ hi l.length).bind fun h => (bound ρ lo 0).bind fun lo =>
          if lo ≤ h ∧ h ≤ l.length then (match u with
            | .c (.r xs) => if wide n xs then some (.c (.r (cut xs lo h)), σ) else none
            | .nil => some (.nil, σ)
            | .row i => (rowAt σ i).bind fun r => if r.sz = n then some (.sl i lo h, σ) else none
            | .sl i a _ => (rowAt σ i).bind fun r => if r.sz = n then some (.sl i (a + lo) (a + h), σ) else none
            | _ => none)
          else none) = some r → u ≠ .no ∧ (∀ y, lo = some y → ρ y ≠ .no) ∧ (∀ y, hi = some y → ρ y ≠ .no) := by
          intro h
          obtain ⟨e, he, h⟩ := Option.bind_eq_some_iff.1 h
          obtain ⟨n, hn, h⟩ := Option.bind_eq_some_iff.1 h
          obtain ⟨l, hl, h⟩ := Option.bind_eq_some_iff.1 h
          obtain ⟨b, hb', h⟩ := Option.bind_eq_some_iff.1 h
          obtain ⟨a, ha', h⟩ := Option.bind_eq_some_iff.1 h
          exact ⟨elems_no hl, hb lo _ ha', hb hi _ hb'⟩
        cases u with
        | c c => cases c with
          | s v =>
            simp only [opSlice] at h
            obtain ⟨a, ha, h⟩ := Option.bind_eq_some_iff.1 h
            obtain ⟨b, hb, h⟩ := Option.bind_eq_some_iff.1 h
            exact ⟨by simp, hopt lo ha, hopt hi hb⟩
          | r l => exact row h
        | _ => exact row h
      rcases hy with (hy | hy) | hy
      · simp only [List.mem_singleton] at hy; subst hy; exact hx.1
      · cases lo with
        | none => simp at hy
        | some z => simp at hy; subst hy; exact hx.2.1 _ rfl
      · cases hi with
        | none => simp at hy
        | some z => simp at hy; subst hy; exact hx.2.2 _ rfl
    · simp at h
  case indexAddr t x ix =>
    simp only [evOp, opIndexAddr] at h
    obtain ⟨e, he, h⟩ := Option.bind_eq_some_iff.1 h
    obtain ⟨n, hn, h⟩ := Option.bind_eq_some_iff.1 h
    intro y hy
    simp only [Op.operands, List.mem_cons, List.not_mem_nil, or_false] at hy
    split at h
    · simp at h
    · rcases hy with rfl | rfl
      · intro e; rw [e] at h; split at h <;> simp_all
      · intro e; rw [e] at h; simp at h
  case call c =>
    obtain ⟨callee, args, ats⟩ := c
    cases callee with
    | value fo => simp [hangs] at hh
    | invoke => simp [hangs] at hh
    | builtin b =>
    cases b <;> simp only [hangs, Bool.false_eq_true, reduceCtorEq] at hh
    intro y hy
    simp only [Op.operands, Call.operands, Array.empty_append] at hy
    simp only [evOp] at h
    split at h
    · rename_i x t e1 e2
      rw [e1] at hy
      simp only [List.mem_singleton] at hy
      subst hy
      intro e
      rw [e] at h
      simp only [elems, Option.map_none] at h
      cases hq : elOf P t <;> simp [hq] at h
    · simp at h

theorem act_sim {f : Rn} {ρ ρ' : Operand → T} {σ τ : St} (hρ : ∀ x, TR f (ρ x) (ρ' x)) (H : HR f σ τ) (o : Oper) {r} (h : evOp P K F ρ σ o = some r) (hh : still o.op = false) : wrOf ρ' τ o = (wrOf ρ σ o).map f.l ∧ ∀ z ∈ wrOf ρ σ o, InL f z := by
  have plain : (∀ c, o.op ≠ .call c) → (∀ x ∈ o.op.operands.toList, ρ x ≠ .no) → wrOf ρ' τ o = (wrOf ρ σ o).map f.l ∧ ∀ z ∈ wrOf ρ σ o, InL f z := by
    intro hc hn
    have e1 : wrOf ρ σ o = o.op.operands.toList.flatMap fun x => refs (ρ x) := by
      unfold wrOf; split
      · rename_i c e; exact absurd e (hc c)
      · rfl
    have e2 : wrOf ρ' τ o = o.op.operands.toList.flatMap fun x => refs (ρ' x) := by
      unfold wrOf; split
      · rename_i c e; exact absurd e (hc c)
      · rfl
    rw [e1, e2]
    exact flatMap_sim _ fun x hx => refs_sim (hρ x) (hn x hx)
  have call : ∀ c, o.op = .call c → (∀ x ∈ o.op.operands.toList, Seen (ρ x)) → (∀ x ∈ o.op.operands.toList, ∀ b, Lend.b b ∈ argRefs (ρ x) → ∃ l, boxAt σ b = some l ∧ ∀ z ∈ l, z ≠ .no) → wrOf ρ' τ o = (wrOf ρ σ o).map f.l ∧ ∀ z ∈ wrOf ρ σ o, InL f z := by
    intro c hc hn hb
    have e1 : wrOf ρ σ o = (o.op.operands.toList.flatMap fun x => argRefs (ρ x)).flatMap (inBox σ) := by
      unfold wrOf; rw [hc]
    have e2 : wrOf ρ' τ o = (o.op.operands.toList.flatMap fun x => argRefs (ρ' x)).flatMap (inBox τ) := by
      unfold wrOf; rw [hc]
    obtain ⟨g1, g2⟩ := flatMap_sim (f := f) (g := fun x => argRefs (ρ x)) (g' := fun x => argRefs (ρ' x)) o.op.operands.toList fun x hx => argRefs_sim (hρ x) (hn x hx)
    rw [e1, e2, g1]
    have hb' : ∀ b, Lend.b b ∈ (o.op.operands.toList.flatMap fun x => argRefs (ρ x)) → ∃ l, boxAt σ b = some l ∧ ∀ z ∈ l, z ≠ .no := by
      intro b hm
      obtain ⟨x, hx, hm⟩ := List.mem_flatMap.1 hm
      exact hb x hx b hm
    generalize (o.op.operands.toList.flatMap fun x => argRefs (ρ x)) = L at g2 hb'
    have key : ∀ x ∈ L, inBox τ (f.l x) = (inBox σ x).map f.l ∧ ∀ z ∈ inBox σ x, InL f z := by
      intro x hx
      cases x with
      | r i => exact ⟨rfl, fun z hz => by simp only [inBox, List.mem_singleton] at hz; subst hz; exact g2 _ hx⟩
      | b b =>
        obtain ⟨l, h1, h2⟩ := hb' b hx
        obtain ⟨m, h3, h4⟩ := H.box b l h1
        have : ∀ {l m : List T}, All2 (TR f) l m → (∀ z ∈ l, z ≠ .no) → m.flatMap refs = (l.flatMap refs).map f.l ∧ ∀ z ∈ l.flatMap refs, InL f z := by
          intro l m h hn
          induction h with
          | nil => exact ⟨rfl, by simp⟩
          | cons h _ ih =>
            obtain ⟨a1, a2⟩ := refs_sim h (hn _ (by simp))
            obtain ⟨b1, b2⟩ := ih fun z hz => hn z (by simp [hz])
            refine ⟨by simp only [List.flatMap_cons, a1, b1, List.map_append], fun z hz => ?_⟩
            simp only [List.flatMap_cons, List.mem_append] at hz
            rcases hz with hz | hz
            · exact a2 z hz
            · exact b2 z hz
        obtain ⟨a1, a2⟩ := this h4 h2
        simp only [inBox, Rn.l, h1, h3, Option.getD_some, List.map_cons, a1, true_and]
        intro z hz
        rcases List.mem_cons.1 hz with rfl | hz
        · exact g2 _ hx
        · exact a2 z hz
    rw [List.flatMap_map]
    exact flatMap_sim L key
  obtain ⟨dst, op, type, pos, after, guard⟩ := o
  cases op <;> try (simp only [still, reduceCtorEq, Bool.true_eq_false] at hh; done)
  case alloc t => exact plain (by simp) (by simp [Op.operands])
  case box t x =>
    refine plain (by simp) ?_
    simp only [Op.operands, List.mem_singleton]
    rintro y rfl
    simp only [evOp, opBox] at h
    obtain ⟨l, hl, _⟩ := Option.bind_eq_some_iff.1 h
    exact flat_no hl
  case buildSlice t len parts =>
    refine plain (by simp) ?_
    simp only [evOp, opBuildSlice] at h
    obtain ⟨e, he, h⟩ := Option.bind_eq_some_iff.1 h
    obtain ⟨i, hi, h⟩ := Option.bind_eq_some_iff.1 h
    obtain ⟨z, hz, h⟩ := Option.bind_eq_some_iff.1 h
    obtain ⟨zl, hzl, h⟩ := Option.bind_eq_some_iff.1 h
    split at h
    · obtain ⟨fl, hf, h⟩ := Option.bind_eq_some_iff.1 h
      intro y hy
      simp only [Op.operands, List.mem_map] at hy
      obtain ⟨p, hp, rfl⟩ := hy
      exact fillT_no hf (p.1, ρ p.2) (List.mem_map.2 ⟨p, hp, rfl⟩)
    · simp at h
  case store t a x =>
    refine plain (by simp) ?_
    simp only [evOp, opStore] at h
    obtain ⟨l, hl, h⟩ := Option.bind_eq_some_iff.1 h
    intro y hy
    simp only [Op.operands, List.mem_cons, List.not_mem_nil, or_false] at hy
    rcases hy with rfl | rfl
    · intro e; rw [e] at h; simp at h
    · exact flat_no hl
  case makeSlice t l c =>
    refine plain (by simp) ?_
    simp only [evOp, opMake] at h
    obtain ⟨e, he, h⟩ := Option.bind_eq_some_iff.1 h
    obtain ⟨i, hi, h⟩ := Option.bind_eq_some_iff.1 h
    obtain ⟨z, hz, h⟩ := Option.bind_eq_some_iff.1 h
    obtain ⟨zl, hzl, h⟩ := Option.bind_eq_some_iff.1 h
    obtain ⟨cs, hcs, h⟩ := Option.bind_eq_some_iff.1 h
    intro y hy
    simp only [Op.operands, List.mem_cons, List.not_mem_nil, or_false] at hy
    split at h
    · rename_i e1 e2
      rcases hy with rfl | rfl
      · rw [e1]; simp
      · rw [e2]; simp
    · simp at h
  case call c =>
    obtain ⟨callee, args, ats⟩ := c
    cases callee with
    | value fo =>
      simp only [evOp] at h
      obtain ⟨n1, n2⟩ := apply_no h
      have hmem : ∀ x ∈ (Op.call ⟨.value fo, args, ats⟩).operands.toList, ρ x ∈ ρ fo :: args.toList.map ρ := by
        intro x hx
        simp only [Op.operands, Call.operands, Array.toList_append, List.mem_append] at hx
        rcases hx with hx | hx
        · simp at hx; subst hx; simp
        · exact List.mem_cons_of_mem _ (List.mem_map.2 ⟨x, hx, rfl⟩)
      exact call _ rfl (fun x hx => n1 _ (hmem x hx)) (fun x hx b hb => n2 _ (hmem x hx) b hb)
    | invoke => simp [evOp] at h
    | builtin b =>
      cases b <;> simp only [still, Bool.true_eq_false] at hh <;> simp only [evOp, isBuiltin2, Bool.false_eq_true, if_false, reduceCtorEq] at h
      split at h
      · rename_i s x t u e1 e2
        split at h
        · unfold opAppend at h
          obtain ⟨e, he, h⟩ := Option.bind_eq_some_iff.1 h
          obtain ⟨i, hi, h⟩ := Option.bind_eq_some_iff.1 h
          obtain ⟨z, hz, h⟩ := Option.bind_eq_some_iff.1 h
          obtain ⟨xs, hxs, h⟩ := Option.bind_eq_some_iff.1 h
          obtain ⟨old, ho, h⟩ := Option.bind_eq_some_iff.1 h
          have hops : ∀ y ∈ (Op.call ⟨.builtin .append, args, ats⟩).operands.toList, y = s ∨ y = x := by
            intro y hy
            simp only [Op.operands, Call.operands, Array.empty_append, e1] at hy
            simpa using hy
          refine call _ rfl ?_ ?_
          · intro y hy
            have ni : ∀ {u : T} {l}, elems σ u = some l → Seen u := fun {u l} h => ⟨elems_no h, fun l' e => by subst e; simp [elems] at h⟩
            rcases hops y hy with rfl | rfl
            · exact ni ho
            · exact ni hxs
          · intro y hy b hb
            have : ∀ {u : T} {l}, elems σ u = some l → Lend.b b ∈ argRefs u → False := by
              intro u l h1 h2
              cases u <;> simp [argRefs, refs, elems] at h1 h2
            rcases hops y hy with rfl | rfl
            · exact (this ho hb).elim
            · exact (this hxs hb).elim
        · simp at h
      · simp at h
  all_goals simp [evOp] at h
end Go.SX
