import Derived.Test.YtligkplajabcfaaSx10
set_option linter.unusedVariables false
set_option linter.unusedSimpArgs false
set_option linter.unusedSectionVars false
namespace Go.SX
variable {P : Program} {w w' w0 : World} {ok ok' : Nat → Prop} {E E' : Env} {B : Bd} {σ σ' : St}

/-! what goes over a border -/
/-- a row that is ours; d: with all below it; its blocks -/
def OwnX (w : World) (ok : Nat → Prop) (r : RV) (d : Bool) (x : List (List C)) (b0 : List Nat) : Prop := ∃ D, b0 = r.κ.toList ++ D ∧ OwnK w ok r x D (.of d) ∧ (d = false → D = [])
theorem OwnAt.x {r : RV} {x : List (List C)} (h : OwnAt w ok r x) : OwnX w ok r false x r.κ.toList := ⟨[], by simp, h, fun _ => rfl⟩
theorem OwnX.flat {r : RV} {x : List (List C)} {b0 : List Nat} (h : OwnX w ok r false x b0) : OwnAt w ok r x ∧ b0 = r.κ.toList := by
  obtain ⟨D, h1, h2, h3⟩ := h
  rw [h3 rfl] at h1
  exact ⟨h2, by simpa using h1⟩
theorem OwnX.deep {r : RV} {x : List (List C)} {b0 : List Nat} (h : OwnX w ok r true x b0) : ∃ D, b0 = r.κ.toList ++ D ∧ DeepAt w r x D none := by
  obtain ⟨D, h1, h2, _⟩ := h
  exact ⟨D, h1, h2⟩
theorem OwnX.keep {r : RV} {d : Bool} {x : List (List C)} {b0 : List Nat} (h : OwnX w ok r d x b0) (hk : Keep w w' ok ok') (hs : ∀ k ∈ b0, w'.heap[k]? = w.heap[k]?) : OwnX w' ok' r d x b0 := by
  obtain ⟨D, rfl, h2, h3⟩ := h
  refine ⟨D, rfl, ?_, h3⟩
  cases d with
  | false => exact OwnAt.keep hk (fun k hk' => hs k (by simp [hk'])) h2
  | true => exact DeepAt.keep h2 (fun k hk' => hs k (by simp [hk'])) fun b hb => hs b (by simp [hb])
theorem OwnX.len {r : RV} {d : Bool} {x : List (List C)} {b0 : List Nat} (h : OwnX w ok r d x b0) : x.length = r.n ∧ r.n ≤ r.cap ∧ (∀ el ∈ x, el.length = r.sz) := by
  obtain ⟨D, rfl, h2, h3⟩ := h
  cases d with
  | false => exact ⟨h2.1, h2.2.1, h2.2.2.1⟩
  | true => have := deep_len h2; exact ⟨this.1, this.2.1, this.2.2.1⟩
inductive CsRel (w : World) (ok : Nat → Prop) : Cs → List Value → List Nat → Prop
  | nil : CsRel w ok [] [] []
  | sh {c v l vs bs} : Holds w ok c v → CsRel w ok l vs bs → CsRel w ok ((c, none) :: l) (v :: vs) bs
  | own {r d x b0 l vs bs} : OwnX w ok r d x b0 → CsRel w ok l vs bs → CsRel w ok ((.r x, some (r.sz, d)) :: l) (.slice r.a r.n r.cap :: vs) (b0 ++ bs)
inductive H where
  | b (k : Nat)
  | r (r : RV)
inductive BoxesRel (w : World) (ok : Nat → Prop) : List Cs → List Nat → List Nat → Prop
  | nil : BoxesRel w ok [] [] []
  | cons {l ls k ks bs bs'} (t : TypeId) (cs : Array Value) : w.heap[k]? = some (.cells cs t (0, 0)) → CsRel w ok l cs.toList bs → BoxesRel w ok ls ks bs' → BoxesRel w ok (l :: ls) (k :: ks) ((k :: bs) ++ bs')
/-- a struct's cells; its own rows come back -/
inductive CsH (w : World) (ok : Nat → Prop) : Cs → List Value → List H → List Nat → Prop
  | nil : CsH w ok [] [] [] []
  | sh {c v l vs hs bs} : Holds w ok c v → CsH w ok l vs hs bs → CsH w ok ((c, none) :: l) (v :: vs) hs bs
  | own {r d x b0 l vs hs bs} : OwnX w ok r d x b0 → CsH w ok l vs hs bs → CsH w ok ((.r x, some (r.sz, d)) :: l) (.slice r.a r.n r.cap :: vs) (.r r :: hs) (b0 ++ bs)
theorem CsRel.hs {w : World} {ok : Nat → Prop} {l : Cs} {vs : List Value} {bs : List Nat} (h : CsRel w ok l vs bs) : ∃ hs, CsH w ok l vs hs bs := by
  induction h with
  | nil => exact ⟨_, .nil⟩
  | sh h _ ih => obtain ⟨hs, ih⟩ := ih; exact ⟨_, .sh h ih⟩
  | own h _ ih => obtain ⟨hs, ih⟩ := ih; exact ⟨_, .own h ih⟩
theorem CsH.rel {w : World} {ok : Nat → Prop} {l : Cs} {vs : List Value} {hs : List H} {bs : List Nat} (h : CsH w ok l vs hs bs) : CsRel w ok l vs bs := by
  induction h with
  | nil => exact .nil
  | sh h _ ih => exact .sh h ih
  | own h _ ih => exact .own h ih
inductive ArgsRel (w : World) (ok : Nat → Prop) : List A → List Value → List H → List Nat → Prop
  | nil : ArgsRel w ok [] [] [] []
  | sh {x v l vs hs bs} : Holds w ok x v → ArgsRel w ok l vs hs bs → ArgsRel w ok (.c x none :: l) (v :: vs) hs bs
  | own {r d x b0 l vs hs bs} : OwnX w ok r d x b0 → ArgsRel w ok l vs hs bs → ArgsRel w ok (.c (.r x) (some (r.sz, d)) :: l) (.slice r.a r.n r.cap :: vs) (.r r :: hs) (b0 ++ bs)
  | ag {x us l vs hs hs' bs bs'} : CsH w ok x us hs' bs → ArgsRel w ok l vs hs bs' → ArgsRel w ok (.ag x :: l) (.agg us.toArray :: vs) (hs' ++ hs) (bs ++ bs')
  | p {x k l vs hs bs bs'} (t : TypeId) (cs : Array Value) : w.heap[k]? = some (.cells cs t (0, 0)) → CsRel w ok x cs.toList bs → ArgsRel w ok l vs hs bs' → ArgsRel w ok (.p x :: l) (ptr k :: vs) (.b k :: hs) ((k :: bs) ++ bs')
  | f {g ls ks l vs hs bs bs'} : BoxesRel w ok ls ks bs → ArgsRel w ok l vs hs bs' → ArgsRel w ok (.f g ls :: l) (.func (.func g) #[] (ks.map ptr).toArray :: vs) (ks.map .b ++ hs) (bs ++ bs')
/-- what is lent, and how it comes back -/
inductive BackRel (w : World) (ok : Nat → Prop) : List H → List (Option Cs) → List Nat → Prop
  | nil : BackRel w ok [] [] []
  | box {l k hs xs bs bs'} (t : TypeId) (cs : Array Value) : w.heap[k]? = some (.cells cs t (0, 0)) → CsRel w ok l cs.toList bs → BackRel w ok hs xs bs' → BackRel w ok (.b k :: hs) (some l :: xs) ((k :: bs) ++ bs')
  | row {r d x b0 hs xs bs} : OwnX w ok r d x b0 → BackRel w ok hs xs bs → BackRel w ok (.r r :: hs) (some [(.r x, some (r.sz, d))] :: xs) (b0 ++ bs)
  | gone {r hs xs bs} : BackRel w ok hs xs bs → BackRel w ok (.r r :: hs) (none :: xs) bs
def RRel (w : World) (ok : Nat → Prop) : A → Value → List Nat → Prop
  | .tu l, v, bs => ∃ vs hs, v = .tuple vs.toArray ∧ ArgsRel w ok l vs hs bs
  | a, v, bs => ∃ hs, ArgsRel w ok [a] [v] hs bs
def HRel (E : Env) : Lend → H → Prop
  | .b b, .b k => E.β[b]? = some k
  | .r i, .r r => E.ρ[i]? = some r
  | _, _ => False
theorem HRel.le {x : Lend} {h : H} (hE : E.Le E') (hr : HRel E x h) : HRel E' x h := by
  cases x <;> cases h <;> first | exact hE.b _ _ hr | exact hE.r _ _ hr | exact hr.elim

theorem x_sh {r : RV} {d : Bool} {x : List (List C)} {b0 : List Nat} (h : OwnX w ok r d x b0) (hk : ∀ k, ok k → ok' k) (hb : ∀ k ∈ b0, ok' k) : ShAt w ok' r x := by
  obtain ⟨D, rfl, h2, h3⟩ := h
  cases d with
  | false => exact own_sh h2 hk fun k h => hb k (by simp [h])
  | true => exact deep_sh h2 (fun k h => hb k (by simp [h])) fun k h => hb k (by simp [h])

/-! nothing is lost by looking from more places -/
theorem CsRel.up {l vs bs} (h : CsRel w ok l vs bs) (hk : Keep w w' ok ok') (hs : ∀ k ∈ bs, w'.heap[k]? = w.heap[k]?) : CsRel w' ok' l vs bs := by
  induction h with
  | nil => exact .nil
  | sh h _ ih => exact .sh (h.keep hk) (ih hs)
  | own h _ ih => exact .own (h.keep hk (fun k hk' => hs k (by simp [hk']))) (ih fun k hk' => hs k (by simp [hk']))
theorem CsH.up {l vs hs bs} (h : CsH w ok l vs hs bs) (hk : Keep w w' ok ok') (hs' : ∀ k ∈ bs, w'.heap[k]? = w.heap[k]?) : CsH w' ok' l vs hs bs := by
  induction h with
  | nil => exact .nil
  | sh h _ ih => exact .sh (h.keep hk) (ih hs')
  | own h _ ih => exact .own (h.keep hk (fun k hk' => hs' k (by simp [hk']))) (ih fun k hk' => hs' k (by simp [hk']))
theorem BackRel.up {hs xs bs} (h : BackRel w ok hs xs bs) (hk : Keep w w' ok ok') (hb : ∀ k ∈ bs, w'.heap[k]? = w.heap[k]?) : BackRel w' ok' hs xs bs := by
  induction h with
  | nil => exact .nil
  | box t cs h1 h2 _ ih => exact .box t cs ((hb _ (by simp)).trans h1) (h2.up hk fun k hk' => hb k (by simp [hk'])) (ih fun k hk' => hb k (by simp [hk']))
  | row h _ ih => exact .row (h.keep hk (fun k hk' => hb k (by simp [hk']))) (ih fun k hk' => hb k (by simp [hk']))
  | gone _ ih => exact .gone (ih hb)

/-! flat things hang on nothing -/
theorem flat_own {r : RV} {l : List (List C)} (h : OwnAt w ok r l) (hf : flatRow l = true) : OwnAt w ok' r l := by
  obtain ⟨h1, h2, h3, h4, h5⟩ := h
  refine ⟨h1, h2, h3, h4, ?_⟩
  cases hκ : r.κ with
  | none => simpa only [hκ] using h5
  | some k =>
    simp only [hκ] at h5 ⊢
    obtain ⟨off, t, cs, h5, h6, h7, h8⟩ := h5
    refine ⟨off, t, cs, h5, h6, h7, fun i j el c hi hj => ?_⟩
    obtain ⟨u, h9, h10⟩ := h8 i j el c hi hj
    refine ⟨u, h9, ?_⟩
    have := List.all_eq_true.mp (List.all_eq_true.mp hf el (List.mem_of_getElem? hi)) c (List.mem_of_getElem? hj)
    cases h10 with
    | s _ h => exact .s _ h
    | r l _ _ _ _ _ => simp [rowC] at this
theorem flat_x {r : RV} {d : Bool} {l : List (List C)} {b0 : List Nat} (h : OwnX w ok r d l b0) (hf : (d || flatRow l) = true) : OwnX w ok' r d l b0 := by
  obtain ⟨D, rfl, h2, h3⟩ := h
  refine ⟨D, rfl, ?_, h3⟩
  cases d with
  | false => exact flat_own h2 (by simpa using hf)
  | true => exact h2
theorem flat_cs {l vs bs} (h : CsRel w ok l vs bs) (hf : l.all flatC = true) : CsRel w ok' l vs bs := by
  induction h with
  | nil => exact .nil
  | sh h _ ih =>
    simp only [List.all_cons, Bool.and_eq_true] at hf
    refine .sh ?_ (ih hf.2)
    cases h with
    | s _ h => exact .s _ h
    | r l _ _ _ _ _ => simp [flatC] at hf
  | own h _ ih =>
    simp only [List.all_cons, Bool.and_eq_true, flatC] at hf
    exact .own (flat_x h hf.1) (ih hf.2)
theorem flat_csH {l vs hs bs} (h : CsH w ok l vs hs bs) (hf : l.all flatC = true) : CsH w ok' l vs hs bs := by
  induction h with
  | nil => exact .nil
  | sh h _ ih =>
    simp only [List.all_cons, Bool.and_eq_true] at hf
    refine .sh ?_ (ih hf.2)
    cases h with
    | s _ h => exact .s _ h
    | r l _ _ _ _ _ => simp [flatC] at hf
  | own h _ ih =>
    simp only [List.all_cons, Bool.and_eq_true, flatC] at hf
    exact .own (flat_x h hf.1) (ih hf.2)
theorem flat_boxes {ls ks bs} (h : BoxesRel w ok ls ks bs) (hf : (ls.all fun l => l.all flatC) = true) : BoxesRel w ok' ls ks bs := by
  induction h with
  | nil => exact .nil
  | cons t cs h1 h2 _ ih =>
    simp only [List.all_cons, Bool.and_eq_true] at hf
    exact .cons t cs h1 (flat_cs h2 hf.1) (ih hf.2)
theorem flat_args {l vs hs bs} (h : ArgsRel w ok l vs hs bs) (hf : l.all flatV = true) : ArgsRel w ok' l vs hs bs := by
  induction h with
  | nil => exact .nil
  | sh h _ ih =>
    simp only [List.all_cons, Bool.and_eq_true, flatV] at hf
    refine .sh ?_ (ih hf.2)
    cases h with
    | s _ h => exact .s _ h
    | r l _ _ _ _ _ => simp [flatC] at hf
  | own h _ ih =>
    simp only [List.all_cons, Bool.and_eq_true, flatV, flatC] at hf
    exact .own (flat_x h hf.1) (ih hf.2)
  | ag h _ ih =>
    simp only [List.all_cons, Bool.and_eq_true, flatV] at hf
    exact .ag (flat_csH h hf.1) (ih hf.2)
  | p t cs h1 h _ ih =>
    simp only [List.all_cons, Bool.and_eq_true, flatV] at hf
    exact .p t cs h1 (flat_cs h hf.1) (ih hf.2)
  | f h _ ih =>
    simp only [List.all_cons, Bool.and_eq_true, flatV] at hf
    exact .f (flat_boxes h hf.1) (ih hf.2)
theorem flat_res {r v bs} (h : RRel w ok r v bs) (hf : flatA r = true) : RRel w ok' r v bs := by
  cases r with
  | tu l => obtain ⟨vs, hs, h1, h2⟩ := h; exact ⟨vs, hs, h1, flat_args h2 hf⟩
  | _ => obtain ⟨hs, h⟩ := h; exact ⟨hs, flat_args h (by simpa [flatA] using hf)⟩
theorem flat_back {hs xs bs} (h : BackRel w ok hs xs bs) (hf : (xs.all fun c => c.all fun l => l.all flatC) = true) : BackRel w ok' hs xs bs := by
  induction h with
  | nil => exact .nil
  | box t cs h1 h2 _ ih =>
    simp only [List.all_cons, Bool.and_eq_true, Option.all_some] at hf
    exact .box t cs h1 (flat_cs h2 hf.1) (ih hf.2)
  | row h _ ih =>
    simp only [List.all_cons, Bool.and_eq_true, Option.all_some, flatC, List.all_nil, Bool.and_true] at hf
    exact .row (flat_x h hf.1) (ih hf.2)
  | gone _ ih =>
    simp only [List.all_cons, Bool.and_eq_true] at hf
    exact .gone (ih hf.2)

/-! more boxes, more rows -/
structure Ext (σ σ' : St) : Prop where
  bl : σ.bx.length ≤ σ'.bx.length
  rl : σ.rw.length ≤ σ'.rw.length
  b : ∀ b, b < σ.bx.length → boxAt σ' b = boxAt σ b
  r : ∀ i, i < σ.rw.length → rowAt σ' i = rowAt σ i
theorem Ext.refl (σ : St) : Ext σ σ := ⟨Nat.le_refl _, Nat.le_refl _, fun _ _ => rfl, fun _ _ => rfl⟩
theorem Ext.trans {σ1 σ2 σ3 : St} (h : Ext σ1 σ2) (k : Ext σ2 σ3) : Ext σ1 σ3 := ⟨Nat.le_trans h.bl k.bl, Nat.le_trans h.rl k.rl, fun b hb => (k.b b (Nat.lt_of_lt_of_le hb h.bl)).trans (h.b b hb), fun b hb => (k.r b (Nat.lt_of_lt_of_le hb h.rl)).trans (h.r b hb)⟩
theorem ext_newBox (l : List T) : Ext σ (newBox σ l).2 := by
  refine ⟨by simp [newBox], Nat.le_refl _, fun b hb => ?_, fun _ _ => rfl⟩
  simp only [newBox, boxAt]
  rw [List.getElem?_append_left hb]
theorem ext_newRow (q : Row) : Ext σ (newRow σ q).2 := by
  refine ⟨Nat.le_refl _, by simp [newRow], fun _ _ => rfl, fun b hb => ?_⟩
  simp only [newRow, rowAt, rawAt]
  rw [List.getElem?_append_left hb]
theorem dh_lt {c : C} {v : Value} {D : List Nat} (h : DH w c v D) : ∀ b ∈ D, b < w.heap.size := by
  induction h with
  | s v h => simp
  | r l a n cap sz κ off t cs D u f hn hc hz h0 hN hS hu hf hD hkk hd ih =>
    intro b hb
    rcases (hD b).1 hb with h | ⟨i, j, hi, hj, h⟩
    · exact (Array.getElem?_eq_some_iff.mp (hS b h).2.1).1
    · have hel : l[i]? = some (l[i]'(by omega)) := List.getElem?_eq_getElem _
      have hc : (l[i]'(by omega))[j]? = some ((l[i]'(by omega))[j]'(by rw [hz _ (List.mem_of_getElem? hel)]; omega)) := List.getElem?_eq_getElem _
      exact ih i j _ _ hel hc b h
theorem mut_newBox (M : Mem w0 B σ E ok w) {l : List T} {k j : Nat} (h : Muts (newBox σ l).2 ⟨E.β ++ [k], E.ρ, E.δ⟩ j) : Muts σ E j ∨ j = k := by
  obtain ⟨x, hx⟩ := h
  cases x with
  | r i => exact .inl ⟨.r i, hx⟩
  | d i m => exact .inl ⟨.d i m, hx⟩
  | b b =>
    simp only [mutAt] at hx
    cases hb : boxAt (newBox σ l).2 b with
    | none => simp [hb] at hx
    | some l' =>
      simp only [hb] at hx
      have hlt := boxAt_lt hb
      simp only [newBox, List.length_append, List.length_cons, List.length_nil] at hlt
      rcases Nat.lt_or_ge b σ.bx.length with h | h
      · refine .inl ⟨.b b, ?_⟩
        rw [(ext_newBox l).b b h] at hb
        simp only [mutAt, hb]
        rw [← hx, List.getElem?_append_left (by rw [M.lb]; exact h)]
      · have : b = E.β.length := by rw [M.lb]; omega
        subst this
        simp at hx
        exact .inr hx.symm
theorem raw_new {q q' : Row} {b : Nat} (h : rawAt (newRow σ q).2 b = some q') : (b < σ.rw.length ∧ rawAt σ b = some q') ∨ (b = σ.rw.length ∧ q' = q) := by
  have hlt := rawAt_lt h
  simp only [newRow, List.length_append, List.length_cons, List.length_nil] at hlt
  simp only [newRow, rawAt] at h
  rcases Nat.lt_or_ge b σ.rw.length with hl | hl
  · rw [List.getElem?_append_left hl] at h; exact .inl ⟨hl, h⟩
  · have : b = σ.rw.length := by omega
    subst this
    simp at h
    exact .inr ⟨rfl, h.symm⟩
theorem mut_newRow (M : Mem w0 B σ E ok w) {q : Row} {r : RV} {D : List Nat} {j : Nat} (h : Muts (newRow σ q).2 ⟨E.β, E.ρ ++ [r], upd E.δ σ.rw.length D⟩ j) : Muts σ E j ∨ r.κ = some j ∨ (q.dp ≠ .f ∧ j ∈ D) := by
  obtain ⟨x, hx⟩ := h
  cases x with
  | b i => exact .inl ⟨.b i, hx⟩
  | r b =>
    simp only [mutAt] at hx
    cases hb : rawAt (newRow σ q).2 b with
    | none => simp [hb] at hx
    | some q' =>
      simp only [hb] at hx
      rcases raw_new hb with ⟨hl, h2⟩ | ⟨rfl, rfl⟩
      · refine .inl ⟨.r b, ?_⟩
        simp only [mutAt, h2]
        rw [← hx, List.getElem?_append_left (by rw [M.lr]; exact hl)]
      · split at hx
        · rw [← M.lr] at hx; simp at hx; exact .inr (.inl hx)
        · simp at hx
  | d b m =>
    simp only [mutAt] at hx
    cases hb : rawAt (newRow σ q).2 b with
    | none => simp [hb] at hx
    | some q' =>
      simp only [hb] at hx
      rcases raw_new hb with ⟨hl, h2⟩ | ⟨rfl, rfl⟩
      · refine .inl ⟨.d b m, ?_⟩
        simp only [mutAt, h2]
        rw [← hx]; simp [upd, Nat.ne_of_lt hl]
      · split at hx
        · split at hx
          · simp at hx
          · rename_i hne
            simp only [upd, if_true] at hx
            exact .inr (.inr ⟨hne, List.mem_of_getElem? hx⟩)
        · simp at hx
/-- blocks that may become ours -/
structure Free (w0 : World) (B : Bd) (ok : Nat → Prop) (σ : St) (E : Env) (bs : List Nat) : Prop where
  nd : bs.Nodup
  ok : ∀ k ∈ bs, ¬ ok k ∧ (w0.heap.size ≤ k ∨ B.L k) ∧ ¬ Muts σ E k
theorem Free.left {bs bs' : List Nat} (h : Free w0 B ok σ E (bs ++ bs')) : Free w0 B ok σ E bs := ⟨(List.nodup_append.1 h.nd).1, fun k hk => h.ok k (by simp [hk])⟩
theorem Free.right {bs bs' : List Nat} (h : Free w0 B ok σ E (bs ++ bs')) (hm : ∀ k, Muts σ' E' k → Muts σ E k ∨ k ∈ bs) : Free w0 B ok σ' E' bs' := by
  obtain ⟨h1, h2, h3⟩ := List.nodup_append.1 h.nd
  refine ⟨h2, fun k hk => ?_⟩
  obtain ⟨h4, h5, h6⟩ := h.ok k (by simp [hk])
  exact ⟨h4, h5, fun hk' => (hm k hk').elim h6 fun h7 => h3 k h7 k hk rfl⟩
/-- what telling does -/
def Told (w0 : World) (B : Bd) (ok : Nat → Prop) (w : World) (σ : St) (E : Env) (bs : List Nat) (σ' : St) (E' : Env) : Prop :=
  Mem w0 B σ' E' ok w ∧ E.Le E' ∧ (∀ k, Muts σ' E' k → Muts σ E k ∨ k ∈ bs) ∧ Ext σ σ'
theorem Told.then {bs bs' : List Nat} {σ'' : St} {E'' : Env} (h : Told w0 B ok w σ E bs σ' E') (k : Told w0 B ok w σ' E' bs' σ'' E'') : Told w0 B ok w σ E (bs ++ bs') σ'' E'' :=
  ⟨k.1, h.2.1.trans k.2.1, fun j hj => (k.2.2.1 j hj).elim (fun hj => (h.2.2.1 j hj).imp id fun h => by simp [h]) fun hj => .inr (by simp [hj]), h.2.2.2.trans k.2.2.2⟩
theorem keep_same {ok : Nat → Prop} : Keep w w ok ok := fun _ h _ => ⟨rfl, h⟩
theorem tell_row (M : Mem w0 B σ E ok w) {r : RV} {d : Bool} {x : List (List C)} {b0 : List Nat} (hO : OwnX w ok r d x b0) (hf : Free w0 B ok σ E b0) :
    ∃ E', Told w0 B ok w σ E b0 (newRow σ ⟨r.sz, x, true, .of d⟩).2 E' ∧ XRel w ok E' (newRow σ ⟨r.sz, x, true, .of d⟩).1 (.slice r.a r.n r.cap) ∧ E'.ρ = E.ρ ++ [r] := by
  obtain ⟨D, rfl, h2, h3⟩ := hO
  have hR : RowOk w ok D r ⟨r.sz, x, true, .of d⟩ := ⟨rfl, by simpa using h2⟩
  have hlt : ∀ k ∈ D, k < w.heap.size := by
    intro k hk
    cases d with
    | false => rw [h3 rfl] at hk; simp at hk
    | true =>
      obtain ⟨off, t, cs, u, f, a1, a2, a3, a4, a5, a6, a7, a8, a9, _⟩ := h2
      obtain ⟨i, j, hi, hj, _, hb⟩ := (a9 k).1 hk
      have hel : x[i]? = some (x[i]'(by omega)) := List.getElem?_eq_getElem _
      have hc : (x[i]'(by omega))[j]? = some ((x[i]'(by omega))[j]'(by rw [a3 _ (List.mem_of_getElem? hel)]; omega)) := List.getElem?_eq_getElem _
      exact dh_lt (a8 i j _ _ hel hc (by simp)) k hb
  obtain ⟨h4, h5, h6⟩ := M.newRD (r := r) (q := ⟨r.sz, x, true, .of d⟩) (D := D) hR (fun k _ hk => by
      obtain ⟨h4, h5, h6⟩ := hf.ok k (by simp [hk])
      exact ⟨h4, h5, fun x hx => h6 ⟨x, hx⟩⟩) fun _ _ => ⟨(List.nodup_append.1 hf.nd).2.1, fun k hk => by
      obtain ⟨h4, h5, h6⟩ := hf.ok k (by simp [hk])
      refine ⟨fun e => ?_, h4, h5, hlt k hk, fun x hx => h6 ⟨x, hx⟩⟩
      exact (List.nodup_append.1 hf.nd).2.2 k (by simp [e]) k hk rfl⟩
  exact ⟨_, ⟨h4, h5, fun k hk => (mut_newRow M hk).imp id fun h => by
    rcases h with h | h
    · simp [h]
    · simp [h.2], ext_newRow _⟩, h6, rfl⟩
theorem tells_ok {l : Cs} {vs : List Value} {bs : List Nat} (h : CsRel w ok l vs bs) : ∀ {σ : St} {E : Env}, Mem w0 B σ E ok w → Free w0 B ok σ E bs → ∃ E', Told w0 B ok w σ E bs (tells σ l).2 E' ∧ All2 (XRel w ok E') (tells σ l).1 vs := by
  induction h with
  | nil => intro σ E M _; exact ⟨E, ⟨M, .refl _, fun _ h => .inl h, .refl _⟩, .nil⟩
  | @sh c v l vs bs h _ ih =>
    intro σ E M hf
    have e : tell σ (c, none) = (.c c, σ) := by cases c <;> rfl
    simp only [tells, e]
    obtain ⟨E', h1, h2⟩ := ih M hf
    exact ⟨E', h1, .cons (XRel.keep keep_same h1.2.1 (show XRel w ok E (.c c) v from h)) h2⟩
  | @own r d x b0 l vs bs h _ ih =>
    intro σ E M hf
    simp only [tells, tell]
    obtain ⟨E1, h1, h2, h2e⟩ := tell_row M h hf.left
    obtain ⟨E', h3, h4⟩ := ih h1.1 (hf.right h1.2.2.1)
    exact ⟨E', h1.then h3, .cons (XRel.keep keep_same h3.2.1 h2) h4⟩
theorem tellsH_ok {l : Cs} {vs : List Value} {hs : List H} {bs : List Nat} (h : CsH w ok l vs hs bs) : ∀ {σ : St} {E : Env}, Mem w0 B σ E ok w → Free w0 B ok σ E bs → ∃ E', Told w0 B ok w σ E bs (tells σ l).2 E' ∧ All2 (XRel w ok E') (tells σ l).1 vs ∧ All2 (HRel E') (agLent (tells σ l).1) hs := by
  induction h with
  | nil => intro σ E M _; exact ⟨E, ⟨M, .refl _, fun _ h => .inl h, .refl _⟩, .nil, .nil⟩
  | @sh c v l vs hs bs h _ ih =>
    intro σ E M hf
    have e : tell σ (c, none) = (.c c, σ) := by cases c <;> rfl
    simp only [tells, e]
    obtain ⟨E', h1, h2, h3⟩ := ih M hf
    exact ⟨E', h1, .cons (XRel.keep keep_same h1.2.1 (show XRel w ok E (.c c) v from h)) h2, h3⟩
  | @own r d x b0 l vs hs bs h _ ih =>
    intro σ E M hf
    simp only [tells, tell]
    obtain ⟨E1, h1, h2, h2e⟩ := tell_row M h hf.left
    obtain ⟨E', h3, h4, h5⟩ := ih h1.1 (hf.right h1.2.2.1)
    refine ⟨E', h1.then h3, .cons (XRel.keep keep_same h3.2.1 h2) h4, ?_⟩
    simp only [newRow, agLent]
    exact .cons (h3.2.1.r _ _ (by rw [h2e, ← M.lr]; simp)) h5
theorem tell_box {l : Cs} {k : Nat} {t : TypeId} {cs : Array Value} {bs : List Nat} (M : Mem w0 B σ E ok w) (hk : w.heap[k]? = some (.cells cs t (0, 0))) (h : CsRel w ok l cs.toList bs) (hf : Free w0 B ok σ E (k :: bs)) :
    ∃ E', Told w0 B ok w σ E (k :: bs) (newBox (tells σ l).2 (tells σ l).1).2 E' ∧ E'.β[(tells σ l).2.bx.length]? = some k := by
  have hf2 : Free w0 B ok σ E bs := ⟨(List.nodup_cons.1 hf.nd).2, fun j hj => hf.ok j (by simp [hj])⟩
  obtain ⟨E1, h1, h2⟩ := tells_ok h M hf2
  obtain ⟨h3, h4, h5⟩ := hf.ok k (by simp)
  have hnd : ¬ Muts (tells σ l).2 E1 k := fun hm => (h1.2.2.1 k hm).elim h5 fun hm => (List.nodup_cons.1 hf.nd).1 hm
  obtain ⟨g1, g2, g3⟩ := h1.1.newB (k := k) (l := (tells σ l).1) ⟨t, cs, hk, h2⟩ h3 h4 fun x hx => hnd ⟨x, hx⟩
  refine ⟨_, ⟨g1, h1.2.1.trans g2, fun j hj => ?_, h1.2.2.2.trans (ext_newBox _)⟩, ?_⟩
  · rcases mut_newBox h1.1 hj with hj | rfl
    · exact (h1.2.2.1 j hj).imp id fun h => by simp [h]
    · exact .inr (by simp)
  · show (E1.β ++ [k])[(tells σ l).2.bx.length]? = some k
    rw [← h1.1.lb]; simp
/-- the boxes of a function value -/
def tellBs (σ : St) (l : List Cs) (acc : List Nat) : List Nat × St := l.foldl (fun (p : List Nat × St) c => (p.1 ++ [p.2.bx.length], (newBox (tells p.2 c).2 (tells p.2 c).1).2)) (acc, σ)
theorem tells_bx : ∀ (l : Cs) (σ : St), (tells σ l).2.bx = σ.bx
  | [], _ => rfl
  | (c, o) :: l, σ => by
    simp only [tells]
    rw [tells_bx l]
    cases c <;> cases o <;> rfl
theorem tellBs_ok {ls : List Cs} {ks bs : List Nat} (h : BoxesRel w ok ls ks bs) : ∀ {σ : St} {E : Env} (acc acck : List Nat), All2 (fun b k => E.β[b]? = some k) acc acck → Mem w0 B σ E ok w → Free w0 B ok σ E bs →
    ∃ E', Told w0 B ok w σ E bs (tellBs σ ls acc).2 E' ∧ All2 (fun b k => E'.β[b]? = some k) (tellBs σ ls acc).1 (acck ++ ks) := by
  induction h with
  | nil => intro σ E acc acck ha M _; exact ⟨E, ⟨M, .refl _, fun _ h => .inl h, .refl _⟩, by simpa [tellBs] using ha⟩
  | @cons l ls k ks bs bs' t cs hk hc _ ih =>
    intro σ E acc acck ha M hf
    obtain ⟨E1, h1, h2⟩ := tell_box M hk hc hf.left
    rw [tells_bx] at h2
    obtain ⟨E2, h3, h4⟩ := ih (acc ++ [σ.bx.length]) (acck ++ [k]) ((ha.imp fun _ _ h => h1.2.1.b _ _ h).append (.cons h2 .nil)) h1.1 (hf.right h1.2.2.1)
    refine ⟨E2, h1.then h3, ?_⟩
    simpa [tellBs] using h4
theorem lent_b (md : Bool) (bs : List Nat) (l : List T) (g : FuncId) : lentOf md (.fn g bs :: l) = bs.map .b ++ lentOf md l := rfl
theorem tellVs_ok {l : List A} {vs : List Value} {hs : List H} {bs : List Nat} (h : ArgsRel w ok l vs hs bs) : ∀ {σ : St} {E : Env}, Mem w0 B σ E ok w → Free w0 B ok σ E bs →
    ∃ E', Told w0 B ok w σ E bs (tellVs σ l).2 E' ∧ All2 (VRel w ok E') (tellVs σ l).1 vs ∧ All2 (HRel E') (lentOf true (tellVs σ l).1) hs := by
  induction h with
  | nil => intro σ E M _; exact ⟨E, ⟨M, .refl _, fun _ h => .inl h, .refl _⟩, .nil, .nil⟩
  | @sh x v l vs hs bs h _ ih =>
    intro σ E M hf
    have e : tell σ (x, none) = (.c x, σ) := by cases x <;> rfl
    simp only [tellVs, tellV, e]
    obtain ⟨E', h1, h2, h3⟩ := ih M hf
    exact ⟨E', h1, .cons (VRel.keep keep_same h1.2.1 (show VRel w ok E (.c x) v from h)) h2, h3⟩
  | @own r d x b0 l vs hs bs h _ ih =>
    intro σ E M hf
    simp only [tellVs, tellV, tell]
    obtain ⟨E1, h1, h2, h2e⟩ := tell_row M h hf.left
    obtain ⟨E', h3, h4, h5⟩ := ih h1.1 (hf.right h1.2.2.1)
    refine ⟨E', h1.then h3, .cons (VRel.keep keep_same h3.2.1 (show VRel w ok _ (newRow σ _).1 _ from h2)) h4, ?_⟩
    simp only [newRow, lentOf, if_true]
    refine .cons ?_ h5
    exact h3.2.1.r _ _ (by rw [h2e, ← M.lr]; simp)
  | @ag x us l vs hs hs' bs bs' h _ ih =>
    intro σ E M hf
    simp only [tellVs, tellV]
    obtain ⟨E1, h1, h2, h2'⟩ := tellsH_ok h M hf.left
    obtain ⟨E', h3, h4, h5⟩ := ih h1.1 (hf.right h1.2.2.1)
    refine ⟨E', h1.then h3, .cons (VRel.keep keep_same h3.2.1 (show VRel w ok E1 (.ag _) _ from ⟨_, rfl, by simpa using h2⟩)) h4, ?_⟩
    simp only [lentOf, if_true]
    exact (h2'.imp fun _ _ h => h.le h3.2.1).append h5
  | @p x k l vs hs bs bs' t cs hk hc _ ih =>
    intro σ E M hf
    simp only [tellVs, tellV]
    obtain ⟨E1, h1, h2⟩ := tell_box M hk hc hf.left
    obtain ⟨E', h3, h4, h5⟩ := ih h1.1 (hf.right h1.2.2.1)
    refine ⟨E', h1.then h3, .cons (VRel.keep keep_same h3.2.1 (show VRel w ok E1 (newBox _ _).1 _ from ⟨k, h2, rfl⟩)) h4, ?_⟩
    simp only [newBox, lentOf]
    exact .cons (h3.2.1.b _ _ h2) h5
  | @f g ls ks l vs hs bs bs' h _ ih =>
    intro σ E M hf
    simp only [tellVs, tellV]
    obtain ⟨E1, h1, h2⟩ := tellBs_ok h [] [] .nil M hf.left
    simp only [List.nil_append] at h2
    obtain ⟨E', h3, h4, h5⟩ := ih h1.1 (hf.right h1.2.2.1)
    refine ⟨E', h1.then h3, .cons (VRel.keep keep_same h3.2.1 (show VRel w ok E1 (.fn _ _) _ from ⟨ks, rfl, h2⟩)) h4, ?_⟩
    rw [lent_b]
    refine All2.append ?_ h5
    have : ∀ {a b : List Nat}, All2 (fun b k => E1.β[b]? = some k) a b → All2 (HRel E') (a.map .b) (b.map .b) := by
      intro a b h
      induction h with
      | nil => exact .nil
      | cons h _ ih => exact .cons (h3.2.1.b _ _ h) ih
    exact this h2
theorem VRel.t {x : T} {v : Value} (h : VRel w ok E x v) : TRel w ok E x v := by cases x <;> first | exact h | exact (h : False).elim
theorem tellA_ok {r : A} {v : Value} {bs : List Nat} (h : RRel w ok r v bs) (M : Mem w0 B σ E ok w) (hf : Free w0 B ok σ E bs) :
    ∃ E', Told w0 B ok w σ E bs (tellA σ r).2 E' ∧ TRel w ok E' (tellA σ r).1 v := by
  cases r with
  | tu l =>
    obtain ⟨vs, hs, rfl, h⟩ := h
    obtain ⟨E', h1, h2, _⟩ := tellVs_ok h M hf
    exact ⟨E', h1, vs.toArray, rfl, by simpa using h2⟩
  | _ =>
    obtain ⟨hs, h⟩ := h
    obtain ⟨E', h1, h2, _⟩ := tellVs_ok h M hf
    simp only [tellVs] at h1 h2
    cases h2 with
    | cons h2 _ => exact ⟨E', h1, h2.t⟩
end Go.SX
