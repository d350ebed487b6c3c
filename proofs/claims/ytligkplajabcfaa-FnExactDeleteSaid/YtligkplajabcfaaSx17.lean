import Derived.Test.YtligkplajabcfaaSx16
set_option linter.unusedVariables false
set_option linter.unusedSimpArgs false
set_option linter.unusedSectionVars false
namespace Go.SX
variable {P : Program} {K : Cfg} {F : Fun} {ρ ρ' : Operand → T} {σ σ' τ τ' τ2 : St}

/-! an operation looks at its operands alone -/
theorem scals_congr : ∀ (l : List Operand), (∀ x ∈ l, ρ x = ρ' x) → scals ρ l = scals ρ' l
  | [], _ => rfl
  | x :: l, h => by simp only [scals, h x (by simp), scals_congr l fun y hy => h y (by simp [hy])]
theorem evOp_congr (o : Oper) (h : ∀ x ∈ o.op.operands, ρ x = ρ' x) : evOp P K F ρ σ o = evOp P K F ρ' σ o := by
  obtain ⟨dst, op, type, pos, after, guard⟩ := o
  have pairs : ∀ ps : List (Nat × Operand), (∀ x ∈ ps.map (·.2), ρ x = ρ' x) → (ps.map fun (i, x) => (i, ρ x)) = (ps.map fun (i, x) => (i, ρ' x)) := fun ps hp =>
    List.map_congr_left fun p hm => by obtain ⟨i, x⟩ := p; simp only [hp x (List.mem_map.2 ⟨(i, x), hm, rfl⟩)]
  cases op <;> simp only [Op.operands] at h <;> simp only [evOp]
  case build t ps => rw [pairs ps.toList fun x hx => h x (by simpa using hx)]
  case buildSlice t n ps => rw [pairs ps.toList fun x hx => h x (by simpa using hx)]
  case makeFunc fn first captured =>
    cases fn <;> try rfl
    have key : ∀ (l : List Operand), (∀ x ∈ l, ρ x = ρ' x) → (l.mapM fun x => bp0 (ρ x)) = (l.mapM fun x => bp0 (ρ' x)) := by
      intro l
      induction l with
      | nil => intro _; rfl
      | cons y l ih => intro hl; simp only [List.mapM_cons, hl y (by simp), ih fun z hz => hl z (by simp [hz])]
    simp only [key captured.toList fun x hx => h x (by simp at hx ⊢; exact .inr hx)]
  case call c =>
    obtain ⟨callee, args, ats⟩ := c
    simp only [Call.operands] at h
    have ha : args.toList.map ρ = args.toList.map ρ' := List.map_congr_left fun x hx => h x (by simp at hx ⊢; exact .inr hx)
    have hm : ∀ x ∈ args.toList, ρ x = ρ' x := fun x hx => h x (by simp at hx ⊢; exact .inr hx)
    cases callee with
    | value f => simp only [ha, h f (by simp)]
    | invoke r m => rfl
    | builtin b =>
      cases b <;> try rfl
      case append =>
        simp only
        split
        · rename_i s x t u h1 h2
          rw [hm s (by rw [h1]; simp), hm x (by rw [h1]; simp)]
        · rfl
      case len =>
        simp only
        split
        · rename_i x t h1 h2
          rw [hm x (by rw [h1]; simp)]
        · rfl
      case clear =>
        simp only
        split
        · rename_i x t h1 h2
          rw [hm x (by rw [h1]; simp)]
        · rfl
      all_goals simp only [scals_congr _ hm]
  case slice t x lo hi mx =>
    have h1 : ρ x = ρ' x := h x (by simp)
    have h2 : ∀ y, lo = some y → ρ y = ρ' y := fun y e => h y (by simp [e])
    have h3 : ∀ y, hi = some y → ρ y = ρ' y := fun y e => h y (by simp [e])
    simp only [opSlice, h1]
    cases lo <;> cases hi <;> simp_all [bound]
  all_goals (first | rfl | (simp_all; done))

/-! what leaves the world as it is -/
theorem evOp_still {o : Oper} {y : T} (hs : still o.op = true) (h : evOp P K F ρ σ o = some (y, σ')) : σ' = σ := by
  obtain ⟨dst, op, type, pos, after, guard⟩ := o
  cases op <;> simp only [still, Bool.false_eq_true] at hs <;> simp only [evOp] at h
  case move => simp_all
  case assign => simp_all
  case pick => split at h <;> simp_all
  case build =>
    simp only [opBuild, Option.bind_eq_some_iff] at h
    obtain ⟨_, _, _, _, h⟩ := h
    split at h
    · simp only [Option.bind_eq_some_iff, Option.map_eq_some_iff, Prod.mk.injEq] at h
      obtain ⟨_, _, _, _, _, h⟩ := h; exact h.symm
    · simp at h
  case load =>
    simp only [opLoad, Option.bind_eq_some_iff] at h
    obtain ⟨_, _, _, _, _, _, h⟩ := h
    split at h
    · split at h <;> simp at h; exact h.2.symm
    · simp only [Option.map_eq_some_iff, Prod.mk.injEq] at h; obtain ⟨_, _, _, h⟩ := h; exact h.symm
  case nilCheck => split at h <;> simp at h <;> exact h.2.symm
  case binOp =>
    split at h
    · simp only [opEq] at h
      split at h
      · split at h
        · simp only [Option.map_eq_some_iff, Prod.mk.injEq] at h; obtain ⟨_, _, _, h⟩ := h; exact h.symm
        · simp only [Option.map_eq_some_iff, Prod.mk.injEq] at h; obtain ⟨_, _, _, h⟩ := h; exact h.symm
        · simp at h
      · simp at h
    · simp at h; obtain ⟨_, _, _, h⟩ := h; exact h.symm
    · simp at h
  case unOp => split at h <;> simp at h; obtain ⟨_, _, _, h⟩ := h; exact h.symm
  case convert =>
    simp only [opConv] at h
    split at h
    · simp at h; obtain ⟨_, _, _, h⟩ := h; exact h.symm
    · split at h
      · simp at h
      · split at h
        · simp only [Option.bind_eq_some_iff, Option.map_eq_some_iff, Prod.mk.injEq] at h; obtain ⟨_, _, _, _, _, h⟩ := h; exact h.symm
        · simp at h
  case slice =>
    split at h
    · simp only [opSlice] at h
      split at h
      · simp only [Option.bind_eq_some_iff, Option.map_eq_some_iff, Prod.mk.injEq] at h; obtain ⟨_, _, _, _, _, _, _, h⟩ := h; exact h.symm
      · simp only [Option.bind_eq_some_iff] at h
        obtain ⟨_, _, _, _, _, _, _, _, _, _, h⟩ := h
        split at h
        · split at h
          · split at h <;> simp at h; exact h.2.symm
          · simp at h; exact h.2.symm
          · simp only [Option.bind_eq_some_iff] at h; obtain ⟨_, _, h⟩ := h; split at h <;> simp at h; exact h.2.symm
          · simp only [Option.bind_eq_some_iff] at h; obtain ⟨_, _, h⟩ := h; split at h <;> simp at h; exact h.2.symm
          · simp at h
        · simp at h
    · simp at h
  case fieldAddr =>
    simp only [opFieldAddr, Option.bind_eq_some_iff] at h
    obtain ⟨_, _, _, _, h⟩ := h
    split at h
    · simp at h
    · split at h <;> simp at h <;> exact h.2.symm
  case field =>
    simp only [opField, Option.bind_eq_some_iff] at h
    obtain ⟨_, _, _, _, _, _, h⟩ := h
    split at h
    · split at h
      · split at h
        · simp at h; exact h.2.symm
        · simp only [Option.map_eq_some_iff, Prod.mk.injEq] at h; obtain ⟨_, _, _, h⟩ := h; exact h.symm
      · simp at h
    · simp at h
  case indexAddr =>
    simp only [opIndexAddr, Option.bind_eq_some_iff] at h
    obtain ⟨_, _, _, _, h⟩ := h
    split at h
    · simp at h
    · split at h
      · split at h
        · simp only [Option.bind_eq_some_iff] at h; obtain ⟨_, _, h⟩ := h; split at h <;> simp at h; exact h.2.symm
        · simp at h
      · simp only [Option.bind_eq_some_iff] at h; obtain ⟨_, _, h⟩ := h; split at h <;> simp at h; exact h.2.symm
      · simp only [Option.bind_eq_some_iff] at h; obtain ⟨_, _, h⟩ := h; split at h <;> simp at h; exact h.2.symm
      · simp at h
  case index => split at h <;> simp at h; obtain ⟨_, _, _, h⟩ := h; exact h.symm
  case extract => split at h <;> simp at h; obtain ⟨_, _, _, h⟩ := h; exact h.symm
  case makeFunc fn first cap =>
    cases fn <;> simp at h
    obtain ⟨_, _, _, _, h⟩ := h; exact h.symm
  case call c =>
    obtain ⟨callee, args, ats⟩ := c
    cases callee with
    | value f => simp at hs
    | invoke r m => simp at hs
    | builtin b =>
      cases b <;> simp at hs <;> simp only at h
      case len =>
        split at h
        · split at h
          · split at h <;> simp at h <;> exact h.2.symm
          · simp only [Option.bind_eq_some_iff, Option.map_eq_some_iff, Prod.mk.injEq] at h; obtain ⟨_, _, _, _, _, h⟩ := h; exact h.symm
        · simp at h
      all_goals
        split at h
        · simp only [Option.bind_eq_some_iff, Option.map_eq_some_iff, Prod.mk.injEq] at h; obtain ⟨_, _, _, _, _, h⟩ := h; exact h.symm
        · simp at h

/-! what reads, reads what it refers to -/
/-- what a row holds -/
def rc (τ : St) (i : Nat) : Option (Nat × List (List C) × Bool) := (rowAt τ i).map fun q => (q.sz, q.l, q.dp.q)
def Agree (τ τ2 : St) : Lend → Prop
  | .b b => boxAt τ2 b = boxAt τ b
  | .r i => rc τ2 i = rc τ i
theorem rc_bind {α : Type} {i : Nat} (h : rc τ2 i = rc τ i) (f : Nat → List (List C) → Bool → Option α) : ((rowAt τ2 i).bind fun q => f q.sz q.l q.dp.q) = (rowAt τ i).bind fun q => f q.sz q.l q.dp.q := by
  have := congrArg (Option.bind · fun p => f p.1 p.2.1 p.2.2) h
  simp only [rc, Option.bind_map] at this
  exact this
theorem rc_map {α : Type} {i : Nat} (h : rc τ2 i = rc τ i) (f : Nat → List (List C) → Bool → α) : ((rowAt τ2 i).map fun q => f q.sz q.l q.dp.q) = (rowAt τ i).map fun q => f q.sz q.l q.dp.q := by
  have := congrArg (Option.map fun p => f p.1 p.2.1 p.2.2) h
  simp only [rc, Option.map_map] at this
  exact this
theorem cells_agree {a : T} (h : ∀ r ∈ refs a, Agree τ τ2 r) : cells τ2 a = cells τ a := by
  cases a <;> try rfl
  case bp b o => simp only [cells]; rw [show boxAt τ2 b = boxAt τ b from h (.b b) (by simp [refs])]
  case rp i n o => exact rc_bind (show rc τ2 i = rc τ i from h (.r i) (by simp [refs])) fun _ l b => if b then none else (l[n]?).map fun l => (l.drop o).map T.c
theorem elems_agree {a : T} (h : ∀ r ∈ refs a, Agree τ τ2 r) : elems τ2 a = elems τ a := by
  cases a
  case c x => cases x <;> rfl
  case row i => exact rc_map (show rc τ2 i = rc τ i from h (.r i) (by simp [refs])) fun _ l _ => l
  case sl i lo hi => exact rc_map (show rc τ2 i = rc τ i from h (.r i) (by simp [refs])) fun _ l _ => cut l lo hi
  all_goals rfl
theorem deep_agree {a : T} (h : ∀ r ∈ refs a, Agree τ τ2 r) : deepT τ2 a = deepT τ a := by
  have key : ∀ i, rc τ2 i = rc τ i → (match rowAt τ2 i with | some r => r.dp.q | none => false) = (match rowAt τ i with | some r => r.dp.q | none => false) := by
    intro i hi
    have := congrArg (fun p : Option (Nat × List (List C) × Bool) => match p with | some p => p.2.2 | none => false) hi
    simp only [rc] at this
    cases h1 : rowAt τ2 i <;> cases h2 : rowAt τ i <;> simp_all
  cases a <;> first | rfl | exact key _ (h (.r _) (by simp [refs]))
/-- the same answer, elsewhere -/
def there (τ2 : St) (p : T × St) : T × St := (p.1, τ2)
theorem opBuild_h (t : TypeId) (ps : List (Nat × T)) : opBuild P τ2 t ps = (opBuild P τ t ps).map (there τ2) := by
  unfold opBuild
  cases P.info? t with
  | none => rfl
  | some i =>
    simp only [Option.bind_some]
    cases i.zero with
    | none => rfl
    | some z =>
      simp only [Option.bind_some]
      split
      · cases placesOf P t with
        | none => rfl
        | some q => simp only [Option.bind_some, Option.map_map]; rfl
      · rfl
theorem opLoad_h {a : T} (t : TypeId) (h : cells τ2 a = cells τ a) : opLoad P τ2 t a = (opLoad P τ t a).map (there τ2) := by
  unfold opLoad
  rw [h]
  cases cells τ a with
  | none => rfl
  | some cs =>
    simp only [Option.bind_some]
    cases szOf P t with
    | none => rfl
    | some n =>
      simp only [Option.bind_some]
      cases aggQ P t with
      | none => rfl
      | some g =>
        simp only [Option.bind_some]
        cases g with
        | true => simp only [if_true]; split <;> rfl
        | false => simp only [Bool.false_eq_true, if_false]; cases cs.head? <;> rfl
theorem opEq_h (op : BinOp) (t : TypeId) (l m : List T) : opEq P τ2 op t l m = (opEq P τ op t l m).map (there τ2) := by
  unfold opEq
  split
  · cases op <;> first | rfl | (simp only; cases eqT P 8 t l m <;> rfl)
  · rfl
theorem opConv_h {x : T} (s d : TypeId) (h : elems τ2 x = elems τ x) (hd : deepT τ2 x = deepT τ x) : opConv P τ2 s d x = (opConv P τ s d x).map (there τ2) := by
  unfold opConv
  split
  · cases pureRun P _ <;> rfl
  · rw [hd]
    split
    · rfl
    split
    · rw [h]
      cases elems τ x with
      | none => rfl
      | some l => simp only [Option.bind_some]; cases bytesOf l <;> rfl
    · rfl
theorem row_h {i : Nat} (h : rc τ2 i = rc τ i) (p : Nat → List (List C) → Bool) (f : T) : ((rowAt τ2 i).bind fun r => if p r.sz r.l = true then some (f, τ2) else none) = ((rowAt τ i).bind fun r => if p r.sz r.l = true then some (f, τ) else none).map (there τ2) := by
  rw [rc_bind h fun a b _ => if p a b = true then some (f, τ2) else none]
  cases rowAt τ i with
  | none => rfl
  | some r => simp only [Option.bind_some]; split <;> rfl
theorem opSlice_h {x : T} (t : TypeId) (lo hi : Option Operand) (h : ∀ r ∈ refs x, Agree τ τ2 r) : opSlice P ρ τ2 t x lo hi = (opSlice P ρ τ t x lo hi).map (there τ2) := by
  have he := elems_agree h
  unfold opSlice
  split
  · rename_i v
    have key : ∀ (a b : Option (Option Value)), (a.bind fun lo => b.bind fun hi => (pureRun P (Instr.slice t v lo hi none)).map fun v => (ofV v, τ2)) = (a.bind fun lo => b.bind fun hi => (pureRun P (Instr.slice t v lo hi none)).map fun v => (ofV v, τ)).map (there τ2) := by
      intro a b
      cases a with
      | none => rfl
      | some a =>
        cases b with
        | none => rfl
        | some b => simp only [Option.bind_some, Option.map_map]; rfl
    exact key _ _
  · rw [he]
    cases elOf P t with
    | none => rfl
    | some e =>
    simp only [Option.bind_some]
    cases szOf P e with
    | none => rfl
    | some n =>
    simp only [Option.bind_some]
    cases elems τ x with
    | none => rfl
    | some l =>
    simp only [Option.bind_some]
    cases bound ρ hi l.length with
    | none => rfl
    | some hh =>
    simp only [Option.bind_some]
    cases bound ρ lo 0 with
    | none => rfl
    | some ll =>
    simp only [Option.bind_some]
    split
    · cases x with
      | c x => cases x with
        | s v => rfl
        | r xs => simp only; split <;> rfl
      | nil => rfl
      | row i =>
        have := row_h (h (.r i) (by simp [refs])) (fun a _ => a == n) (.sl i ll hh)
        simpa using this
      | sl i a b =>
        have := row_h (h (.r i) (by simp [refs])) (fun a _ => a == n) (.sl i (a + ll) (a + hh))
        simpa using this
      | _ => rfl
    · rfl
theorem opIndexAddr_h {x ix : T} (t : TypeId) (h : ∀ r ∈ refs x, Agree τ τ2 r) : opIndexAddr P τ2 t x ix = (opIndexAddr P τ t x ix).map (there τ2) := by
  unfold opIndexAddr
  cases elOf P t with
  | none => rfl
  | some e =>
  simp only [Option.bind_some]
  cases szOf P e with
  | none => rfl
  | some n =>
  simp only [Option.bind_some]
  split
  · rfl
  · split
    · split
      · rename_i l _
        rename_i i _
        cases l[i.toNat]? with
        | none => rfl
        | some el => simp only [Option.bind_some]; split <;> rfl
      · rfl
    · rename_i k i j
      have := row_h (h (.r j) (by simp [refs])) (fun a l => decide (0 ≤ i ∧ i.toNat < l.length ∧ a = n)) (.rp j i.toNat 0)
      simpa only [decide_eq_true_eq] using this
    · rename_i k i j lo hi
      have := row_h (h (.r j) (by simp [refs])) (fun a _ => decide (0 ≤ i ∧ lo + i.toNat < hi ∧ a = n)) (.rp j (lo + i.toNat) 0)
      simpa only [decide_eq_true_eq] using this
    · rfl
theorem opFieldAddr_h {x : T} (s : TypeId) (f : Nat) : opFieldAddr P τ2 s x f = (opFieldAddr P τ s x f).map (there τ2) := by
  unfold opFieldAddr
  cases fldOf P s f with
  | none => rfl
  | some fd =>
  simp only [Option.bind_some]
  cases szOf P fd.type with
  | none => rfl
  | some n => simp only [Option.bind_some]; split; rfl; cases x <;> rfl
theorem opField_h {x : T} (s : TypeId) (f : Nat) : opField P τ2 s x f = (opField P τ s x f).map (there τ2) := by
  unfold opField
  cases fldOf P s f with
  | none => rfl
  | some fd =>
  simp only [Option.bind_some]
  cases szOf P fd.type with
  | none => rfl
  | some n =>
  simp only [Option.bind_some]
  cases aggQ P fd.type with
  | none => rfl
  | some g =>
  simp only [Option.bind_some]
  cases x <;> try rfl
  simp only
  split
  · split
    · rfl
    · simp only [Option.map_map]; rfl
  · rfl
theorem evOp_h {o : Oper} (hs : still o.op = true) (hh : hangs o.op = true → ∀ r ∈ rdOf ρ o, Agree τ τ2 r) : evOp P K F ρ τ2 o = (evOp P K F ρ τ o).map (there τ2) := by
  obtain ⟨dst, op, type, pos, after, guard⟩ := o
  have rd : ∀ x ∈ op.operands, ∀ r ∈ refs (ρ x), hangs op = true → Agree τ τ2 r := fun x hx r hr hg => hh hg r (List.mem_flatMap.2 ⟨x, by simpa using hx, hr⟩)
  cases op <;> simp only [still, Bool.false_eq_true] at hs <;> simp only [evOp]
  case move => rfl
  case assign => rfl
  case pick => split <;> rfl
  case build => exact opBuild_h _ _
  case load t a => exact opLoad_h t (cells_agree fun r hr => rd a (by simp [Op.operands]) r hr rfl)
  case nilCheck => split <;> rfl
  case binOp =>
    split
    · exact opEq_h _ _ _ _
    · simp only [Option.map_map]; rfl
    · rfl
  case unOp => split; simp only [Option.map_map]; rfl; rfl
  case convert s d x => exact opConv_h s d (elems_agree fun r hr => rd x (by simp [Op.operands]) r hr rfl) (deep_agree fun r hr => rd x (by simp [Op.operands]) r hr rfl)
  case slice t x lo hi mx => split; exact opSlice_h t lo hi fun r hr => rd x (by simp [Op.operands]) r hr rfl; rfl
  case fieldAddr => exact opFieldAddr_h _ _
  case field => exact opField_h _ _
  case indexAddr t x ix => exact opIndexAddr_h t fun r hr => rd x (by simp [Op.operands]) r hr rfl
  case index => split; simp only [Option.map_map]; rfl; rfl
  case extract => split; simp only [Option.map_map]; rfl; rfl
  case makeFunc fn first cap =>
    cases fn <;> try rfl
    simp only
    split
    · simp only [Option.map_map]; rfl
    · rfl
  case call c =>
    obtain ⟨callee, args, ats⟩ := c
    cases callee with
    | value f => simp at hs
    | invoke r m => simp at hs
    | builtin b =>
      cases b <;> simp at hs <;> simp only
      case len =>
        split
        · rename_i x t h1 h2
          have he := elems_agree fun r hr => rd x (by simp only [Op.operands, Call.operands]; simp at h1 ⊢; rw [← Array.mem_toList_iff, h1]; simp) r hr rfl
          split
          · split <;> rfl
          · rw [he]
            cases elOf P t with
            | none => rfl
            | some e => simp only [Option.bind_some, Option.map_map]; rfl
        · rfl
      all_goals
        split
        · cases scals ρ args.toList with
          | none => rfl
          | some vs => simp only [Option.bind_some, Option.map_map]; rfl
        · rfl
theorem evOp_agree {o : Oper} {y : T} (hs : still o.op = true) (hh : hangs o.op = true → ∀ r ∈ rdOf ρ o, Agree τ τ2 r) (h : evOp P K F ρ τ o = some (y, τ')) : evOp P K F ρ τ2 o = some (y, τ2) := by
  rw [evOp_h (τ := τ) hs hh, h]; rfl
end Go.SX
