import Derived.Test.YtligkplajabcfaaSx13
set_option linter.unusedVariables false
set_option linter.unusedSimpArgs false
set_option linter.unusedSectionVars false
namespace Go.SX
variable {P : Program} {w w' w0 : World} {ok ok' : Nat → Prop} {E E' : Env} {B : Bd} {σ σ' : St}

theorem gt_st_ne : ∀ (l : List T) (d t : Nat) (x : T), d ≠ t → gt (st l d x) t = gt l t
  | [], 0, t, x, h => by cases t with | zero => exact absurd rfl h | succ t => rfl
  | [], d + 1, t, x, h => by
    cases t with
    | zero => rfl
    | succ t => simp only [st, gt]; rw [gt_st_ne [] d t x (by omega)]; cases t <;> rfl
  | y :: l, 0, t, x, h => by cases t with | zero => exact absurd rfl h | succ t => rfl
  | y :: l, d + 1, t, x, h => by
    cases t with
    | zero => rfl
    | succ t => simp only [st, gt]; exact gt_st_ne l d t x (by omega)
theorem gt_st_eq : ∀ (l : List T) (d : Nat) (x : T), gt (st l d x) d = x
  | [], 0, x => rfl
  | [], d + 1, x => by simp only [st, gt]; exact gt_st_eq [] d x
  | y :: l, 0, x => rfl
  | y :: l, d + 1, x => by simp only [st, gt]; exact gt_st_eq l d x
theorem Tmps.put {a : Act} (h : Tmps w ok E σ a) {d : Option Tmp} {x : T} {v : Value} (hd : dstQ a.tmps.size d = true) (hx : TRel w ok E x v) : Tmps w ok E (putT σ.ts σ' d x) (a.put d v) := by
  cases d with
  | none => exact h
  | some d =>
    have hlt : d < a.tmps.size := by simpa [dstQ] using hd
    intro t
    by_cases hdt : d = t
    · subst hdt
      simp only [putT, Act.put, gt_st_eq]
      simpa [hlt] using hx
    · simp only [putT, Act.put, gt_st_ne _ _ _ _ hdt]
      have := h t
      simpa [Array.getD_eq_getD_getElem?, Array.getElem?_setIfInBounds_ne hdt] using this
theorem put_size {a : Act} {d : Option Tmp} {v : Value} : (a.put d v).tmps.size = a.tmps.size := by cases d <;> simp [Act.put]
theorem put_defers' {a : Act} {d : Option Tmp} {v : Value} : (a.put d v).defers = a.defers := by cases d <;> rfl
theorem noneT_rel : TRel w ok E noneT undef := ⟨#[], rfl, .nil⟩

/-- how it stands within a call that began at w0 -/
structure Inv (w0 : World) (B : Bd) (E0 : Env) (n : Nat) (σ : St) (a : Act) (w : World) : Prop where
  run : ∃ E ok, Mem w0 B σ E ok w ∧ Tmps w ok E σ a ∧ E0.Le E ∧ Keep w0 w B.okA ok
  size : a.tmps.size = n
  defers : a.defers = []
theorem wanted_ok {a : Act} (hT : Tmps w ok E σ a) {ops : Array Oper} {o : Oper} {b : Bool} (h : wantedT ops σ o = some b) : Region.wanted o (yielded ops a.tmps) = b := by
  unfold wantedT at h
  unfold Region.wanted
  cases hg : o.guard with
  | none => simp only [hg, Option.some.injEq] at h; exact h
  | some g =>
    obtain ⟨j, want⟩ := g
    simp only [hg] at h ⊢
    cases hd : (ops[j]?).bind (·.dst) with
    | none => simp [hd] at h
    | some d =>
      simp only [hd] at h
      have ht := hT d
      unfold yielded
      simp only [hd, Option.bind_some]
      rw [Array.getD_eq_getD_getElem?] at ht
      split at h
      · rename_i v hv
        rw [hv] at ht
        have := ht.sc
        cases hx : a.tmps[d]? with
        | none => rw [hx] at this; simp [undef] at this
        | some u =>
          rw [hx] at this
          simp only [Option.getD_some] at this
          subst this
          simp only [Option.some.injEq] at h
          rw [← h]
          cases v <;> cases want <;> rfl
      · rename_i hv
        rw [hv] at ht
        obtain ⟨vs, e, _⟩ := ht
        simp only [Option.some.injEq] at h
        subst h
        cases hx : a.tmps[d]? with
        | none => rfl
        | some u =>
          rw [hx] at e
          simp only [Option.getD_some] at e
          subst e
          rfl
      · simp at h
theorem Mem.put (M : Mem w0 B σ' E ok w) (ts : List T) (d : Option Tmp) (x : T) : Mem w0 B (putT ts σ' d x) E ok w := M.ts _
theorem Inv.step {E0 : Env} {n : Nat} {a : Act} {ok : Nat → Prop} (hT : Tmps w ok E σ a) (hE : E0.Le E) (hk : Keep w0 w B.okA ok) (hsz : w0.heap.size ≤ w.heap.size) (hn : a.tmps.size = n) (hd : a.defers = []) {d : Option Tmp} {x : T} {v : Value} (hdq : dstQ n d = true) (h : StepR w0 B w ok E σ' x v w') :
    Inv w0 B E0 n (putT σ.ts σ' d x) (a.put d v) w' := by
  obtain ⟨E', ok', h1, h2, h3, h4⟩ := h
  refine ⟨⟨E', ok', h1.put _ _ _, ?_, hE.trans h2, fun k hk1 hk2 => ?_⟩, put_size.trans hn, put_defers'.trans hd⟩
  · exact Tmps.put (fun t => (hT t).keep h3 h2) (by rw [hn]; exact hdq) h4
  · obtain ⟨h5, h6⟩ := hk k hk1 hk2
    obtain ⟨h7, h8⟩ := h3 k h6 (by omega)
    exact ⟨h7.trans h5, h8⟩
/-- one operation of a region, wanted or not -/
def evStep (P : Program) (K : Cfg) (F : Fun) (n : Nat) (ops : Array Oper) (o : Oper) (σ : St) : Option St :=
  if dstQ n o.dst then (wantedT ops σ o).bind fun
    | true => (evOp P K F (ev σ) (hp σ) o).map fun (x, τ) => putT σ.ts τ o.dst x
    | false => some (putT σ.ts σ o.dst noneT)
  else none
theorem evOps_cons (K : Cfg) (F : Fun) (n : Nat) (ops : Array Oper) (o : Oper) (l : List Oper) (σ : St) : evOps P K F n ops (o :: l) σ = (evStep P K F n ops o σ).bind (evOps P K F n ops l) := by
  unfold evStep
  simp only [evOps]
  split
  · cases wantedT ops σ o with
    | none => rfl
    | some b => cases b with
      | true => simp only [Option.bind_some]; cases evOp P K F (ev σ) (hp σ) o <;> rfl
      | false => rfl
  · rfl
theorem evStep_ok {K : Cfg} {F : Fun} (hF : ∀ g, FOk P g (F g)) {E0 : Env} {n : Nat} {ops : Array Oper} {o : Oper} {a : Act} (I : Inv w0 B E0 n σ a w) (h : evStep P K F n ops o σ = some σ') :
    ∀ (next : Act → World → Prop) (Q : Exit → Act → World → Prop), (∀ a' w', Inv w0 B E0 n σ' a' w' → next a' w') → if Region.wanted o (yielded ops a.tmps) then o.wp P a w next Q ∨ (o.asks P a w ∧ LetsOut Q) else next (a.put o.dst undef) w := by
  intro next Q hn
  obtain ⟨⟨E, ok, M, hT, hE, hk⟩, hs, hd⟩ := I
  unfold evStep at h
  split at h
  · rename_i hq
    simp only [Option.bind_eq_some_iff] at h
    obtain ⟨b, hw, h⟩ := h
    rw [wanted_ok hT hw]
    cases b with
    | true =>
      simp only [Option.map_eq_some_iff] at h
      obtain ⟨⟨x, τ⟩, h1, rfl⟩ := h
      exact .inl (evOp_ok hF (M.ts []) (fun x => ev_rel hT x) h1 next Q fun v w' hr => hn _ _ (Inv.step hT hE hk M.fr.size hs hd hq hr))
    | false =>
      simp only [Option.some.injEq] at h
      subst h
      simp only [Bool.false_eq_true, if_false]
      exact hn _ _ (Inv.step hT hE hk M.fr.size hs hd hq (.still M noneT_rel))
  · simp at h
theorem evOps_ok {K : Cfg} {F : Fun} (hF : ∀ g, FOk P g (F g)) {E0 : Env} {n : Nat} {ops : Array Oper} {Q : Exit → Act → World → Prop} : ∀ (l : List Oper) {σ : St} {a : Act} {w : World}, Inv w0 B E0 n σ a w → evOps P K F n ops l σ = some σ' → (∀ a' w', Inv w0 B E0 n σ' a' w' → Q .normal a' w') → wpList P ops Q l a w
  | [], σ, a, w, I, h, hQ => by simp [evOps] at h; subst h; exact hQ _ _ I
  | o :: l, σ, a, w, I, h, hQ => by
    rw [evOps_cons] at h
    obtain ⟨σ1, h1, h2⟩ := Option.bind_eq_some_iff.1 h
    exact evStep_ok hF I h1 (wpList P ops Q l) Q fun a' w' I' => evOps_ok hF l I' h2 hQ

/-! a row lent out of one all below which is ours -/
theorem deep_lend {r : RV} {l : List (List C)} {δ : List Nat} {i c : Nat} {el : List C} {x : List (List C)} (h : DeepAt w r l δ none) (hel : l[i]? = some el) (hc : el[c]? = some (.r x)) :
    ∃ k off t cs v D, r.κ = some k ∧ r.a = some ⟨k, off, none⟩ ∧ w.heap[k]? = some (.cells cs t (0, 0)) ∧ cs[off + (i * r.sz + c)]? = some v ∧ DH w (.r x) v D ∧ (∀ b ∈ D, b ∈ δ) ∧ i < r.n ∧ k ∉ δ ∧
      ∀ (w' : World) (x' : List (List C)) (D' : List Nat), w'.heap[k]? = w.heap[k]? → (∀ b ∈ δ, b ∉ D → w'.heap[b]? = w.heap[b]?) → DH w' (.r x') v D' → (∀ b ∈ D', b ≠ k ∧ (b ∈ δ → b ∈ D)) →
        ∃ δ', DeepAt w' r (l.set i (el.set c (.r x'))) δ' none ∧ ∀ b, b ∈ δ' → b ∈ D' ∨ (b ∈ δ ∧ b ∉ D) := by
  obtain ⟨off, t, cs, u, f, a1, a2, a3, a4, a5, a6, a7, a8, a9, a10, a11, a12⟩ := h
  obtain ⟨hi, hcs⟩ := cell_in a1 a3 hel hc
  have hellen : el.length = r.sz := a3 el (List.mem_of_getElem? hel)
  cases hκ : r.κ with
  | none => have := a5 hκ; omega
  | some k =>
    obtain ⟨b1, b2, b3⟩ := a6 k hκ
    refine ⟨k, off, t, cs, u i c, f i c, rfl, b1, b2, a7 i c hi hcs, a8 i c el _ hel hc (by simp), fun b hb => (a9 b).2 ⟨i, c, hi, hcs, by simp, hb⟩, hi, fun hk => ?_, fun w' x' D' hw1 hw2 hD' hdj => ?_⟩
    · obtain ⟨i', j', h1, h2, h3, h4⟩ := (a9 k).1 hk
      exact a10 i' j' h1 h2 h3 k h4 hκ
    · let f' : Nat → Nat → List Nat := fun a b => if a = i ∧ b = c then D' else f a b
      obtain ⟨δ', d1, d2⟩ := gather r.n r.sz (fun _ _ => True) f'
      have hother : ∀ a b, a < r.n → b < r.sz → ¬ (a = i ∧ b = c) → ∀ y ∈ f a b, y ∈ δ ∧ y ∉ f i c := fun a b h1 h2 hne y hy =>
        ⟨(a9 y).2 ⟨a, b, h1, h2, by simp, hy⟩, fun h => hne (a11 a b i c h1 h2 hi hcs (by simp) (by simp) y hy h)⟩
      refine ⟨δ', ⟨off, t, cs, u, f', by simpa using a1, a2, fun e he => ?_, a4, a5, fun k' hk' => ?_, a7, fun a b e c' hA hB _ => ?_, fun b => by rw [d2]; simp, fun a b hA hB _ y hy => ?_, fun a b a' b' h1 h2 h3 h4 _ _ y hy hy' => ?_, d1⟩, fun y hy => ?_⟩
      · rcases List.mem_or_eq_of_mem_set he with h | h
        · exact a3 e h
        · rw [h]; simpa using hellen
      · rw [hκ] at hk'; cases hk'
        exact ⟨b1, hw1.trans b2, b3⟩
      · have hnl : i < l.length := (List.getElem?_eq_some_iff.mp hel).1
        rw [List.getElem?_set] at hA
        simp only [f']
        by_cases hia : i = a
        · subst hia
          simp only [if_true, hnl, Option.some.injEq] at hA
          subst hA
          rw [List.getElem?_set] at hB
          have hcl : c < el.length := (List.getElem?_eq_some_iff.mp hc).1
          by_cases hcb : c = b
          · subst hcb
            simp only [if_true, hcl, Option.some.injEq] at hB
            subst hB
            rw [if_pos ⟨rfl, rfl⟩]; exact hD'
          · rw [if_neg hcb] at hB
            have hne : ¬ (i = i ∧ b = c) := fun h => hcb h.2.symm
            rw [if_neg hne]
            have hin := cell_in a1 a3 hel hB
            exact (a8 i b el c' hel hB (by simp)).keep fun y hy => hw2 y (hother i b hin.1 hin.2 hne y hy).1 (hother i b hin.1 hin.2 hne y hy).2
        · rw [if_neg hia] at hA
          have hne : ¬ (a = i ∧ b = c) := fun h => hia h.1.symm
          rw [if_neg hne]
          have hin := cell_in a1 a3 hA hB
          exact (a8 a b e c' hA hB (by simp)).keep fun y hy => hw2 y (hother a b hin.1 hin.2 hne y hy).1 (hother a b hin.1 hin.2 hne y hy).2
      · simp only [f'] at hy
        rw [hκ]
        split at hy
        · intro e; cases e; exact (hdj _ hy).1 rfl
        · rw [← hκ]; exact a10 a b hA hB (by simp) y hy
      · simp only [f'] at hy hy'
        split at hy <;> split at hy'
        · rename_i c1 c2; exact ⟨c1.1.trans c2.1.symm, c1.2.trans c2.2.symm⟩
        · rename_i c1 c2
          obtain ⟨g1, g2⟩ := hother a' b' h3 h4 c2 y hy'
          exact absurd ((hdj y hy).2 g1) g2
        · rename_i c1 c2
          obtain ⟨g1, g2⟩ := hother a b h1 h2 c1 y hy
          exact absurd ((hdj y hy').2 g1) g2
        · exact a11 a b a' b' h1 h2 h3 h4 (by simp) (by simp) y hy hy'
      · obtain ⟨a, b, h1, h2, _, h3⟩ := (d2 y).1 hy
        simp only [f'] at h3
        split at h3
        · exact .inl h3
        · rename_i hne; exact .inr (hother a b h1 h2 hne y h3)
theorem flat_nil {r : RV} {l : List (List C)} {δ : List Nat} (h : DeepAt w r l δ none) (hf : flatRow l = true) : δ = [] := by
  obtain ⟨off, t, cs, u, f, a1, a2, a3, a4, a5, a6, a7, a8, a9, a10, a11, a12⟩ := h
  cases hδ : δ with
  | nil => rfl
  | cons b δ' =>
    obtain ⟨i, j, h1, h2, _, h4⟩ := (a9 b).1 (by rw [hδ]; simp)
    have hel : l[i]? = some (l[i]'(by omega)) := List.getElem?_eq_getElem _
    have hc : (l[i]'(by omega))[j]? = some ((l[i]'(by omega))[j]'(by rw [a3 _ (List.mem_of_getElem? hel)]; exact h2)) := List.getElem?_eq_getElem _
    have h5 := a8 i j _ _ hel hc (by simp)
    simp only [flatRow, List.all_eq_true] at hf
    have h6 := hf _ (List.mem_of_getElem? hel) _ (List.mem_of_getElem? hc)
    generalize (l[i]'(by omega))[j]'(by rw [a3 _ (List.mem_of_getElem? hel)]; exact h2) = c at h5 h6
    generalize f i j = D at h4 h5
    generalize u i j = vv at h5
    cases h5 with
    | s _ _ => simp at h4
    | r => simp [rowC] at h6
theorem evOps_to {K : Cfg} {F : Fun} (hF : ∀ g, FOk P g (F g)) {E0 : Env} {n : Nat} {ops : Array Oper} {Q : Exit → Act → World → Prop} (m : List Oper) : ∀ (l : List Oper) {σ : St} {a : Act} {w : World}, Inv w0 B E0 n σ a w → evOps P K F n ops l σ = some σ' → (∀ a' w', Inv w0 B E0 n σ' a' w' → wpList P ops Q m a' w') → wpList P ops Q (l ++ m) a w
  | [], σ, a, w, I, h, hQ => by simp [evOps] at h; subst h; exact hQ _ _ I
  | o :: l, σ, a, w, I, h, hQ => by
    rw [evOps_cons] at h
    obtain ⟨σ1, h1, h2⟩ := Option.bind_eq_some_iff.1 h
    exact evStep_ok hF I h1 (wpList P ops Q (l ++ m)) Q fun a' w' I' => evOps_to hF m l I' h2 hQ
theorem Tmps.no {a : Act} (h : Tmps w ok E σ a) (d : Nat) {bx : List (Option (List T))} {rw : List (Option Row)} : Tmps w ok E ⟨st σ.ts d .no, bx, rw⟩ a := by
  intro t
  by_cases hdt : d = t
  · subst hdt; simp only [gt_st_eq]; trivial
  · simp only [gt_st_ne _ _ _ _ hdt]; exact h t
theorem evNest_ok {K : Cfg} {F : Fun} (hF : ∀ g, FOk P g (F g)) {E0 : Env} {n : Nat} {ops : Array Oper} {Q : Exit → Act → World → Prop} {o : Oper} {m l : List Oper} {a : Act} (I : Inv w0 B E0 n σ a w) (h : evNest P K F n ops o m σ = some σ') (hQ : ∀ a' w', Inv w0 B E0 n σ' a' w' → wpList P ops Q l a' w') : wpList P ops Q (o :: (m ++ l)) a w := by
  unfold evNest at h
  split at h
  case h_2 => simp at h
  rename_i t ad d ho hg hd
  simp only [Option.bind_eq_some_iff] at h
  obtain ⟨⟨j, i, c, q, el, x⟩, h1, s, ⟨e, he, hs⟩, h⟩ := h
  simp only at h
  split at h
  case isFalse => simp at h
  rename_i hc
  obtain ⟨hdn, hwd, hag, hsz⟩ := hc
  obtain ⟨sz, hsz⟩ := Option.isSome_iff_exists.1 hsz
  obtain ⟨⟨E, ok, M, hT, hE, hk⟩, hs2, hd2⟩ := I
  have hwant : Region.wanted o (yielded ops a.tmps) = true := by unfold Region.wanted; rw [hg]
  show if Region.wanted o (yielded ops a.tmps) then o.wp P a w (wpList P ops Q (m ++ l)) Q ∨ (o.asks P a w ∧ LetsOut Q) else wpList P ops Q (m ++ l) (a.put o.dst undef) w
  rw [if_pos hwant]
  have hx := ev_rel hT ad
  unfold cellAt at h1
  split at h1
  case h_2 => simp at h1
  rename_i j0 i0 c0 hev
  simp only [Option.bind_eq_some_iff] at h1
  obtain ⟨q0, hq, h1⟩ := h1
  split at h1
  case isFalse => simp at h1
  rename_i hqq
  obtain ⟨how, hdp⟩ := hqq
  simp only [Option.bind_eq_some_iff] at h1
  obtain ⟨el0, hel, h1⟩ := h1
  split at h1
  case h_2 => simp at h1
  rename_i x0 hcx
  simp only [Option.some.injEq, Prod.mk.injEq] at h1
  obtain ⟨rfl, rfl, rfl, rfl, rfl, rfl⟩ := h1
  rw [hev] at hx
  obtain ⟨r, aa, hr, haa, hin, hav⟩ := hx
  have hR := M.row j0 r q0 hr hq
  have hO : DeepAt w r q0.l (E.δ j0) none := by have := hR.2; rw [how, if_pos rfl, hdp] at this; exact this
  obtain ⟨k0, off, t0, cs, v, D, hκ, hka, hkh, hv, hDH, hDs, _, hk0, hback⟩ := deep_lend hO hel hcx
  rw [hka] at haa; cases haa
  -- it is loaded
  have hrun : (execOp a.eval o).run P w = .ok (.value v) w := by
    have hl : (Instr.loadAt t (a.eval ad)).run P w = .ok v w := by
      rw [hav]
      have : (Instr.loadAt t (.pointer (some ((⟨k0, off, none⟩ : Addr).add (i0 * r.sz + c0))))).run P w = (loadVar t ((⟨k0, off, none⟩ : Addr).add (i0 * r.sz + c0))).run P w := by
        simp [Instr.loadAt, Instr.sureAddr]
      rw [this, run_loadVar _ [v] hag hsz (fun jj u hj => ?_) (by simp) (by simp)]
      · rfl
      · cases jj with
        | zero => simp only [List.getElem?_cons_zero, Option.some.injEq] at hj; subst hj; rw [add_none, add_none, cell_block hkh]; exact hv
        | succ jj => simp at hj
    simp [execOp, ho, hl]
  have hwp : ∀ (next : Act → World → Prop), next (a.put o.dst v) w → o.wp P a w next Q := fun next hn => by unfold Oper.wp; rw [hrun]; exact hn
  refine .inl (hwp _ ?_)
  rw [hd]
  have hdq : dstQ n (some d) = true := by simpa [dstQ] using hdn
  split at h
  · -- nothing lies there
    obtain ⟨τ, h2, rfl⟩ := Option.map_eq_some_iff.1 h
    obtain ⟨Mr, hle⟩ := M.roomR ⟨none, 0, 0, 0, none⟩
    have hH : Holds w ok (.r []) v := by
      cases hDH with
      | r _ a' n' cap sz' κ off' t' cs' _ u f hn hc hz h0 hN hS hu hf hD hkk hd => exact .r [] a' n' cap sz' (fun _ _ => undef) hn hc hz (fun i j hi => by simp at hn; omega) (by simp)
    have I1 : Inv w0 B E0 n ⟨st σ.ts d (.c (.r [])), σ.bx, σ.rw ++ [none]⟩ (a.put (some d) v) w :=
      Inv.step (σ' := { σ with rw := σ.rw ++ [none] }) (d := some d) (x := .c (.r [])) hT hE hk M.fr.size hs2 hd2 hdq ⟨_, ok, Mr, hle, keep_refl, hH⟩
    refine evOps_to hF l m I1 h2 fun a' w' I' => hQ _ _ ?_
    obtain ⟨⟨E', ok', M', T', hE', hk'⟩, g1, g2⟩ := I'
    exact ⟨⟨E', ok', M'.ts _, T'.no d, hE', hk'⟩, g1, g2⟩
  · rename_i e0 x1
    generalize hx1 : e0 :: x1 = x at *
    split at h
    case isFalse => simp at h
    rename_i hfl
    obtain ⟨σ2, h2, h3⟩ := Option.bind_eq_some_iff.1 h
    obtain ⟨rv, δv, rfl, hdv, hDv⟩ := dh_deep hDH
    have hrs : rv.sz = s := by
      have h4 := (deep_len hdv).2.2.1 e0 (by rw [← hx1]; simp)
      have h5 : e0.length = s := by
        have := List.all_eq_true.1 (show (x.all (·.length == s)) = true from hwd) e0 (by rw [← hx1]; simp)
        simpa using this
      rw [← h4, h5]
    have hnd := deep_nodup hdv
    have hblk : ∀ b, b ∈ D → blks r q0 (E.δ j0) b := fun b hb => ⟨how, .inr ⟨by rw [hdp]; simp, hDs b hb⟩⟩
    have hmine : ∀ b, blks r q0 (E.δ j0) b → ¬ ok b ∧ (w0.heap.size ≤ b ∨ B.L b) ∧ b < w.heap.size := fun b hb => by
      obtain ⟨y, h4, _⟩ := blks_mut hr (row_raw hq) hb
      exact M.mine y b h4
    have hdead : ∀ b, blks r q0 (E.δ j0) b → ∀ y, mutAt (setRow σ j0 none) E y ≠ some b := fun b hb => blks_dead M hr (row_raw hq) hb
    have hRv : RowOk w ok δv rv ⟨s, x, true, .of (K.dp t)⟩ := by
      refine ⟨hrs.symm, ?_⟩
      simp only [if_true]
      cases hb : K.dp t with
      | true => exact hdv
      | false =>
        rw [hb] at hfl
        have hfl : flatRow x = true := by simpa using hfl
        have hnil := flat_nil hdv hfl
        subst hnil
        exact deep_own hdv (by simp)
    obtain ⟨M1, hle1, hT1⟩ := (M.killR j0).newRD (r := rv) (q := ⟨s, x, true, .of (K.dp t)⟩) (D := δv) hRv
      (fun k _ hk' => have hb := hblk k ((hDv k).2 (.inl hk')); ⟨(hmine k hb).1, (hmine k hb).2.1, hdead k hb⟩)
      (fun _ _ => ⟨(List.nodup_append.1 hnd).2.1, fun k hk' => have hb := hblk k ((hDv k).2 (.inr hk')); ⟨fun e => (List.nodup_append.1 hnd).2.2 k (by simp [e]) k hk' rfl, (hmine k hb).1, (hmine k hb).2.1, (hmine k hb).2.2, hdead k hb⟩⟩)
    have hlen : (setRow σ j0 none).rw.length = σ.rw.length := by simp [setRow]
    rw [hlen] at M1 hle1 hT1
    simp only [newRow, hlen] at M1 hT1
    generalize hE1 : (⟨E.β, E.ρ ++ [rv], upd E.δ σ.rw.length δv⟩ : Env) = E1 at M1 hle1 hT1
    -- within it
    let L1 : Nat → Prop := Muts { setRow σ j0 none with rw := (setRow σ j0 none).rw ++ [some ⟨s, x, true, .of (K.dp t)⟩] } E1
    have hL1 : ∀ b, L1 b → ¬ ok b ∧ (w0.heap.size ≤ b ∨ B.L b) ∧ b < w.heap.size := fun b ⟨y, hy⟩ => M1.mine y b hy
    have M1' : Mem w ⟨L1, ok⟩ { setRow σ j0 none with rw := (setRow σ j0 none).rw ++ [some ⟨s, x, true, .of (K.dp t)⟩] } E1 ok w :=
      ⟨⟨rfl, rfl, rfl, Nat.le_refl _, fun _ _ _ => rfl⟩, fun k h => .inl h, M1.lb, M1.lr, M1.box, M1.raw, fun y k hy => ⟨(M1.mine y k hy).1, .inr ⟨y, hy⟩, (M1.mine y k hy).2.2⟩, M1.dis⟩
    have I1 : Inv w ⟨L1, ok⟩ E1 n ⟨st σ.ts d (.row σ.rw.length), σ.bx, (setRow σ j0 none).rw ++ [some ⟨s, x, true, .of (K.dp t)⟩]⟩ (a.put (some d) (.slice rv.a rv.n rv.cap)) w := by
      refine ⟨⟨E1, ok, M1'.ts _, Tmps.put (d := some d) (σ' := { setRow σ j0 none with rw := (setRow σ j0 none).rw ++ [some ⟨s, x, true, .of (K.dp t)⟩] }) (fun y => (hT y).keep keep_refl hle1) (by rw [hs2]; exact hdq) hT1, .refl _, fun k h _ => ⟨rfl, h⟩⟩, put_size.trans hs2, put_defers'.trans hd2⟩
    refine evOps_to hF l m I1 h2 fun a' w' I' => hQ _ _ ?_
    obtain ⟨⟨E2, ok2, M2, T2, hE2, hk2⟩, g1, g2⟩ := I'
    unfold joinS at h3
    obtain ⟨qk, hqk, h3⟩ := Option.bind_eq_some_iff.1 h3
    split at h3
    case isFalse => simp at h3
    rename_i hqo
    simp only [Bool.and_eq_true, Bool.or_eq_true] at hqo
    obtain ⟨hko, hkf⟩ := hqo
    simp only [Option.some.injEq] at h3
    -- what is not lent is as it was
    have hold : ∀ b, blks r q0 (E.δ j0) b → b ∉ D → ¬ L1 b := by
      intro b hb hnb ⟨y, hy⟩
      have e1 : { setRow σ j0 none with rw := (setRow σ j0 none).rw ++ [some ⟨s, x, true, .of (K.dp t)⟩] } = (newRow (setRow σ j0 none) ⟨s, x, true, .of (K.dp t)⟩).2 := rfl
      have hrk : E1.ρ[σ.rw.length]? = some rv := by rw [← hE1, ← M.lr]; simp
      have hqk1 : rawAt { setRow σ j0 none with rw := (setRow σ j0 none).rw ++ [some ⟨s, x, true, .of (K.dp t)⟩] } σ.rw.length = some ⟨s, x, true, .of (K.dp t)⟩ := by
        simp [rawAt, setRow]
      cases y with
      | b bb =>
        refine hdead b hb (.b bb) ?_
        rw [← hE1] at hy; exact hy
      | r jj =>
        by_cases hjj : jj = σ.rw.length
        · subst hjj
          simp only [mutAt, hqk1, hrk, if_true, Option.bind_some] at hy
          exact hnb ((hDv b).2 (.inl hy))
        · refine hdead b hb (.r jj) ?_
          have hraw : rawAt { setRow σ j0 none with rw := (setRow σ j0 none).rw ++ [some ⟨s, x, true, .of (K.dp t)⟩] } jj = rawAt (setRow σ j0 none) jj := by
            simp only [rawAt]
            by_cases hlt : jj < (setRow σ j0 none).rw.length
            · rw [List.getElem?_append_left hlt]
            · rw [List.getElem?_eq_none (by simp; simp [setRow] at hlt; omega), List.getElem?_eq_none (by omega)]
          have hrho : jj < σ.rw.length → E1.ρ[jj]? = E.ρ[jj]? := fun hlt => by rw [← hE1]; exact List.getElem?_append_left (by rw [M.lr]; exact hlt)
          simp only [mutAt, hraw] at hy ⊢
          split at hy
          · rename_i qq hqq
            have hlt := rawAt_lt hqq
            rw [hlen] at hlt
            rw [hrho hlt] at hy; exact hy
          · simp at hy
      | d jj mm =>
        by_cases hjj : jj = σ.rw.length
        · subst hjj
          simp only [mutAt, hqk1, if_true] at hy
          split at hy
          · simp at hy
          · rw [← hE1] at hy
            simp only [upd, if_true] at hy
            exact hnb ((hDv b).2 (.inr (List.mem_of_getElem? hy)))
        · refine hdead b hb (.d jj mm) ?_
          have hraw : rawAt { setRow σ j0 none with rw := (setRow σ j0 none).rw ++ [some ⟨s, x, true, .of (K.dp t)⟩] } jj = rawAt (setRow σ j0 none) jj := by
            simp only [rawAt]
            by_cases hlt : jj < (setRow σ j0 none).rw.length
            · rw [List.getElem?_append_left hlt]
            · rw [List.getElem?_eq_none (by simp; simp [setRow] at hlt; omega), List.getElem?_eq_none (by omega)]
          have hδ : E1.δ jj = E.δ jj := by rw [← hE1]; simp [upd, hjj]
          simp only [mutAt, hraw, hδ] at hy ⊢
          exact hy
    have hsame : ∀ b, blks r q0 (E.δ j0) b → b ∉ D → w'.heap[b]? = w.heap[b]? ∧ ¬ ok2 b ∧ ¬ Muts σ2 E2 b := by
      intro b hb hnb
      have hm := hmine b hb
      refine ⟨M2.fr.old b hm.2.2 (hold b hb hnb), fun h => ?_, fun ⟨y, hy⟩ => ?_⟩
      · rcases M2.okin b h with h | h | h
        · exact hm.1 h
        · have := hm.2.2; omega
        · exact hold b hb hnb h
      · rcases (M2.mine y b hy).2.1 with h | h
        · have := hm.2.2; omega
        · exact hold b hb hnb h
    -- seen from outside again
    have hup : ∀ b, (w.heap.size ≤ b ∨ L1 b) → w0.heap.size ≤ b ∨ B.L b := fun b h => h.elim (fun h => .inl (Nat.le_trans M.fr.size h)) fun h => (hL1 b h).2.1
    have M3 : Mem w0 B σ2 E2 ok2 w' :=
      ⟨⟨M2.fr.os.trans M.fr.os, M2.fr.tape.trans M.fr.tape, M2.fr.output.trans M.fr.output, Nat.le_trans M.fr.size M2.fr.size, fun b hb hnb => (M2.fr.old b (Nat.lt_of_lt_of_le hb M.fr.size) fun hl => ((hL1 b hl).2.1).elim (fun h => by omega) hnb).trans (M.fr.old b hb hnb)⟩,
        fun b h => (M2.okin b h).elim (fun h => M.okin b h) fun h => .inr (hup b h), M2.lb, M2.lr, M2.box, M2.raw, fun y b hy => ⟨(M2.mine y b hy).1, hup b (M2.mine y b hy).2.1, (M2.mine y b hy).2.2⟩, M2.dis⟩
    have hrk : E2.ρ[σ.rw.length]? = some rv := hE2.r _ _ (by rw [← hE1, ← M.lr]; simp)
    have hRk := M3.row _ rv qk hrk hqk
    have hdk : ∃ Dk, DH w' (.r qk.l) (.slice rv.a rv.n rv.cap) Dk ∧ ∀ b ∈ Dk, blks rv qk (E2.δ σ.rw.length) b := by
      have h4 := hRk.2
      rw [hko, if_pos rfl] at h4
      rcases dp_cases hqk with hp | hp
      · have hf : flatRow qk.l = true := by
          rcases hkf with h | h
          · rw [hp] at h; simp [Dp.q] at h
          · exact h
        rw [hp] at h4
        exact ⟨_, deep_dh (flat_deep h4 hf), fun b hb => ⟨hko, .inl (by simpa using hb)⟩⟩
      · rw [hp] at h4
        refine ⟨_, deep_dh h4, fun b hb => ⟨hko, ?_⟩⟩
        rcases List.mem_append.1 hb with h | h
        · exact .inl (by simpa using h)
        · exact .inr ⟨by rw [hp]; simp, h⟩
    obtain ⟨Dk, hDk, hDb⟩ := hdk
    have hDm : ∀ b ∈ Dk, Muts σ2 E2 b := fun b hb => by
      obtain ⟨y, h4, _⟩ := blks_mut hrk (row_raw hqk) (hDb b hb)
      exact ⟨y, h4⟩
    have bk : blks r q0 (E.δ j0) k0 := ⟨how, .inl hκ⟩
    have hkD : k0 ∉ D := fun h => hk0 (hDs k0 h)
    obtain ⟨δ', hδ1, hδ2⟩ := hback w' qk.l Dk (hsame k0 bk hkD).1 (fun b hb hnb => (hsame b ⟨how, .inr ⟨by rw [hdp]; simp, hb⟩⟩ hnb).1) hDk fun b hb =>
      ⟨fun e => (hsame k0 bk hkD).2.2 (e ▸ hDm b hb), fun hb2 => Classical.byContradiction fun hnb => (hsame b ⟨how, .inr ⟨by rw [hdp]; simp, hb2⟩⟩ hnb).2.2 (hDm b hb)⟩
    have hrj : E2.ρ[j0]? = some r := hE2.r _ _ (hle1.r _ _ hr)
    have hlt' : k0 < w'.heap.size := Nat.lt_of_lt_of_le (hmine k0 bk).2.2 M2.fr.size
    have M4 := (M3.killR σ.rw.length).setRD (i := j0) (q := { q0 with l := q0.l.set i0 (el0.set c0 (.r qk.l)) }) (D := δ') hrj ⟨hR.1, by simp only [how, if_true, hdp]; exact hδ1⟩
      (fun k _ hk' => by
        rw [hκ] at hk'; cases hk'
        exact ⟨(hsame _ bk hkD).2.1, (hmine _ bk).2.1, hlt', fun y hy => (hsame _ bk hkD).2.2 ⟨y, mut_kill_le (mut_kill_le hy)⟩⟩)
      (fun _ _ => ⟨by obtain ⟨_, _, _, _, _, _, _, _, _, _, _, _, _, _, _, _, h⟩ := hδ1; exact h, fun b hb => by
        rcases hδ2 b hb with h | ⟨h, hnb⟩
        · obtain ⟨y, hy⟩ := hDm b h
          have hm := M3.mine y b hy
          refine ⟨fun e => ?_, hm.1, hm.2.1, hm.2.2, fun z hz => blks_dead M3 hrk (row_raw hqk) (hDb b h) z (mut_kill_le hz)⟩
          rw [hκ] at e; cases e
          exact (hsame _ bk hkD).2.2 ⟨y, hy⟩
        · have bb : blks r q0 (E.δ j0) b := ⟨how, .inr ⟨by rw [hdp]; simp, h⟩⟩
          have hs := hsame b bb hnb
          refine ⟨fun e => ?_, hs.2.1, (hmine b bb).2.1, Nat.lt_of_lt_of_le (hmine b bb).2.2 M2.fr.size, fun y hy => hs.2.2 ⟨y, mut_kill_le (mut_kill_le hy)⟩⟩
          rw [hκ] at e; cases e
          exact hk0 h⟩)
    subst h3
    refine ⟨⟨⟨E2.β, E2.ρ, upd E2.δ j0 δ'⟩, ok2, M4.ts _, ?_, ?_, fun k h5 h6 => ?_⟩, g1, g2⟩
    · exact (show Tmps w' ok2 ⟨E2.β, E2.ρ, upd E2.δ j0 δ'⟩ σ2 a' from fun y => (T2 y).keep keep_refl ⟨fun _ _ h => h, fun _ _ h => h⟩).no d
    · exact hE.trans (hle1.trans (hE2.trans ⟨fun _ _ h => h, fun _ _ h => h⟩))
    · obtain ⟨h7, h8⟩ := hk k h5 h6
      obtain ⟨h9, h10⟩ := hk2 k h8 (Nat.lt_of_lt_of_le h6 M.fr.size)
      exact ⟨h9.trans h7, h10⟩
theorem evSeq_ok {K : Cfg} {F : Fun} (hF : ∀ g, FOk P g (F g)) {E0 : Env} {n : Nat} {ops : Array Oper} {Q : Exit → Act → World → Prop} : ∀ (l : List Oper) {σ : St} {a : Act} {w : World}, Inv w0 B E0 n σ a w → evSeq P K F n ops l σ = some σ' → (∀ a' w', Inv w0 B E0 n σ' a' w' → Q .normal a' w') → wpList P ops Q l a w
  | [], σ, a, w, I, h, hQ => by simp [evSeq] at h; subst h; exact hQ _ _ I
  | o :: l, σ, a, w, I, h, hQ => by
    rw [evSeq] at h
    split at h
    · rename_i τ h1
      exact evOps_to hF l [o] I h1 fun a' w' I' => evSeq_ok hF l I' h hQ
    · obtain ⟨σ1, h1, h2⟩ := Option.bind_eq_some_iff.1 h
      have := evNest_ok (Q := Q) (l := l.drop (lendN l)) hF I h1 fun a' w' I' => evOps_ok hF _ I' h2 hQ
      rwa [List.take_append_drop] at this
/-- where nothing is lent -/
theorem evSeq_of {K : Cfg} {F : Fun} {n : Nat} {ops : Array Oper} : ∀ (l : List Oper) {σ : St}, evOps P K F n ops l σ = some σ' → evSeq P K F n ops l σ = some σ'
  | [], σ, h => h
  | o :: l, σ, h => by
    rw [evOps_cons] at h
    obtain ⟨σ1, h1, h2⟩ := Option.bind_eq_some_iff.1 h
    rw [evSeq, evOps_cons, h1]
    exact evSeq_of l h2

/-! code -/
def LoopIn (P : Program) (c : Code) (Q : Exit → Act → World → Prop) (a : Act) (w : World) : Prop :=
  ∀ (b : Frame) (k : List Item) (cs : List Frame), ∃ e a' w', Q e a' w' ∧ Arrives P (lone (b.at a (.code c :: .inLoop c :: k)) cs w) b k cs e a' w'
theorem wp_of_loopIn {c : Code} {Q : Exit → Act → World → Prop} {a : Act} (h : LoopIn P c Q a w) : (Code.loop c).wp P Q a w :=
  fun b k cs => let ⟨e, a', w', q, r⟩ := h b k cs; ⟨e, a', w', q, .of_steps (.one step_loop) r⟩
theorem loopIn_step {c : Code} {Q : Exit → Act → World → Prop} {a : Act} (h : c.wp P (Exit.then (LoopIn P c Q) Q) a w) : LoopIn P c Q a w := by
  intro b k cs
  obtain ⟨e, a₁, w₁, hq, harr⟩ := h b (.inLoop c :: k) cs
  cases e with
  | normal =>
    obtain ⟨e₂, a₂, w₂, hq₂, harr₂⟩ := hq b k cs
    exact ⟨e₂, a₂, w₂, hq₂, .of_steps (Steps.trans harr (.one step_inLoop)) harr₂⟩
  | exit id => exact ⟨_, a₁, w₁, hq, .pass (x := .inLoop c) rfl (fun _ _ => .inl (by simp)) harr⟩
  | goto l => exact ⟨_, a₁, w₁, hq, .pass (x := .inLoop c) rfl (fun _ _ => .inl (by simp)) harr⟩
  | ret => exact ⟨_, a₁, w₁, hq, .pass (x := .inLoop c) rfl (fun _ _ => .inl (by simp)) harr⟩
  | panic ch => exact ⟨_, a₁, w₁, hq, .pass (x := .inLoop c) rfl (fun _ _ => .inl (by simp)) harr⟩
  | outgrown => exact ⟨_, a₁, w₁, hq, .pass (x := .inLoop c) rfl (fun _ _ => .inl (by simp)) harr⟩
def Ex.out : Ex → Go.Exit
  | .normal => .normal
  | .exit i => .exit i
  | .ret => .ret
/-- regions that draw their order -/
def DrawOk (P : Program) (K : Cfg) (F : Fun) : Prop :=
  ∀ (w0 : World) (B : Bd) (E0 : Env) (n : Nat) (ops : Array Oper) (id : Nat) (Q : Go.Exit → Act → World → Prop) (σ σ' : St) (a : Act) (w : World), Inv w0 B E0 n σ a w → evDraw P K F n ops σ = some σ' → (∀ a' w', Inv w0 B E0 n σ' a' w' → Q .normal a' w') → (Code.region id ops true).wp P Q a w
theorem evC_ok {K : Cfg} {F : Fun} (hF : ∀ g, FOk P g (F g)) (hdr : DrawOk P K F) {E0 : Env} {n : Nat} : ∀ (k : Nat) (c : Code) {σ σ' : St} {ex : Ex} {a : Act} {w : World} {Q : Go.Exit → Act → World → Prop}, Inv w0 B E0 n σ a w → evC P K F n k c σ = some (ex, σ') → (∀ a' w', Inv w0 B E0 n σ' a' w' → Q ex.out a' w') → c.wp P Q a w ∧ ∀ b, c = .loop b → LoopIn P b Q a w
  | 0, _, _, _, _, _, _, _, _, h, _ => by simp [evC] at h
  | k + 1, c, σ, σ', ex, a, w, Q, I, h, hQ => by
    have thenQ : ∀ (f : St → Option (Ex × St)) (r : Ex × St) (next : Act → World → Prop), thenC f r = some (ex, σ') → (∀ σ1 a1 w1, r = (.normal, σ1) → f σ1 = some (ex, σ') → Inv w0 B E0 n σ1 a1 w1 → next a1 w1) → ∀ a' w', Inv w0 B E0 n r.2 a' w' → Exit.then next Q r.1.out a' w' := by
      intro f r next hr hn a' w' I'
      obtain ⟨e, σ1⟩ := r
      cases e with
      | normal => exact hn σ1 a' w' rfl hr I'
      | exit i => simp only [thenC, Option.some.injEq, Prod.mk.injEq] at hr; obtain ⟨rfl, rfl⟩ := hr; exact hQ a' w' I'
      | ret => simp only [thenC, Option.some.injEq, Prod.mk.injEq] at hr; obtain ⟨rfl, rfl⟩ := hr; exact hQ a' w' I'
    cases c <;> simp only [evC, reduceCtorEq] at h
    case skip =>
      simp only [Option.some.injEq, Prod.mk.injEq] at h
      obtain ⟨rfl, rfl⟩ := h
      exact ⟨wp_skip (hQ _ _ I), by simp⟩
    case region id ops d =>
      simp only [Option.map_eq_some_iff, Prod.mk.injEq] at h
      obtain ⟨σ1, h, rfl, rfl⟩ := h
      refine ⟨?_, by simp⟩
      cases d with
      | true => exact hdr w0 B E0 n ops id Q σ σ1 a w I h hQ
      | false => exact wp_region_list (evSeq_ok hF _ I h hQ)
    case seq x y =>
      obtain ⟨r, h1, h2⟩ := Option.bind_eq_some_iff.1 h
      refine ⟨wp_seq ?_, by simp⟩
      exact (evC_ok hF hdr k x I h1 (thenQ _ r _ h2 fun σ1 a1 w1 _ h3 I1 => (evC_ok hF hdr k y I1 h3 hQ).1)).1
    case cond x y z =>
      obtain ⟨E, ok, M, hT, _, _⟩ := I.run
      have hx := ev_rel hT x
      split at h
      · rename_i t ht
        rw [ht] at hx
        refine ⟨wp_cond hx.sc ?_, by simp⟩
        cases t with
        | true => exact (evC_ok hF hdr k y I h hQ).1
        | false => exact (evC_ok hF hdr k z I h hQ).1
      · simp at h
    case block id b =>
      simp only [Option.map_eq_some_iff] at h
      obtain ⟨⟨e, σ1⟩, h1, h2⟩ := h
      refine ⟨wp_block ?_, by simp⟩
      refine (evC_ok hF hdr k b I h1 fun a' w' I' => ?_).1
      cases e with
      | normal => simp only [outOf, Prod.mk.injEq] at h2; obtain ⟨rfl, rfl⟩ := h2; exact hQ a' w' I'
      | ret => simp only [outOf, Prod.mk.injEq] at h2; obtain ⟨rfl, rfl⟩ := h2; exact hQ a' w' I'
      | exit i =>
        simp only [outOf] at h2
        simp only [Ex.out, Exit.inBlock]
        split
        · rename_i hi; rw [if_pos hi] at h2; simp only [Prod.mk.injEq] at h2; obtain ⟨rfl, rfl⟩ := h2; exact hQ a' w' I'
        · rename_i hi; rw [if_neg hi] at h2; simp only [Prod.mk.injEq] at h2; obtain ⟨rfl, rfl⟩ := h2; exact hQ a' w' I'
    case loop b =>
      obtain ⟨r, h1, h2⟩ := Option.bind_eq_some_iff.1 h
      have hl : LoopIn P b Q a w := loopIn_step (evC_ok hF hdr k b I h1 (thenQ _ r _ h2 fun σ1 a1 w1 _ h3 I1 => (evC_ok hF hdr k (.loop b) I1 h3 hQ).2 b rfl)).1
      exact ⟨wp_of_loopIn hl, fun b' e => by cases e; exact hl⟩
    case exit i =>
      simp only [Option.some.injEq, Prod.mk.injEq] at h
      obtain ⟨rfl, rfl⟩ := h
      exact ⟨wp_exit (hQ _ _ I), by simp⟩
    case ret =>
      simp only [Option.some.injEq, Prod.mk.injEq] at h
      obtain ⟨rfl, rfl⟩ := h
      exact ⟨wp_ret (hQ _ _ I), by simp⟩
end Go.SX
