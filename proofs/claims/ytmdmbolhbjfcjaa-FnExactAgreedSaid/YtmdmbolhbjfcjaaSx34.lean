import Derived.Test.YtmdmbolhbjfcjaaSx33
set_option linter.unusedVariables false
set_option linter.unusedSimpArgs false
set_option linter.unusedSectionVars false
namespace Go.SX
variable {P : Program} {w : World} {S : List TypeId}

/-! data of types that are within themselves -/
def goodTy (P : Program) (S : List TypeId) (t : TypeId) : Bool := match P.underlying t with
  | some .bool | some (.int _) | some .string => true
  | some (.slice e) => S.contains e
  | some (.struct fs) => tiled P 0 fs.toList (P.cellsOf t) && fs.toList.all fun f => S.contains f.type
  | _ => false
theorem wtF_mono {g g' : TypeId → List C → Prop} (h : ∀ t l, g t l → g' t l) : ∀ (fs : List Field) (l : List C), WtF g fs l → WtF g' fs l
  | [], _, h0 => h0
  | _ :: fs, _, ⟨a, b, e, h1, h2⟩ => ⟨a, b, e, h _ _ h1, wtF_mono h fs b h2⟩
theorem wt_up : ∀ (d : Nat) (t : TypeId) (l : List C), Wt P d t l → Wt P (d + 1) t l
  | 0, _, _, h => h.elim
  | d + 1, t, l, h => by
    rw [Wt] at h ⊢
    split at h
    · exact h
    · exact h
    · exact h
    · obtain ⟨es, h1, h2, h3⟩ := h
      exact ⟨es, h1, h2, fun el he => ⟨(h3 el he).1, wt_up d _ _ (h3 el he).2⟩⟩
    · exact wtF_mono (fun t l h => wt_up d t l h) _ _ h
    · exact h.elim
theorem wt_le {d d' : Nat} (hd : d ≤ d') {t : TypeId} {l : List C} (h : Wt P d t l) : Wt P d' t l := by
  induction hd with
  | refl => exact h
  | step _ ih => exact wt_up _ _ _ ih
theorem dbound {Q : Nat → Nat → Prop} (hm : ∀ i d d', d ≤ d' → Q i d → Q i d') : ∀ n, (∀ i, i < n → ∃ d, Q i d) → ∃ D, ∀ i, i < n → Q i D
  | 0, _ => ⟨0, fun i hi => by omega⟩
  | n + 1, h => by
    obtain ⟨D, hD⟩ := dbound hm n fun i hi => h i (by omega)
    obtain ⟨d, hd⟩ := h n (by omega)
    refine ⟨max D d, fun i hi => ?_⟩
    by_cases hin : i = n
    · subst hin; exact hm _ _ _ (Nat.le_max_right _ _) hd
    · exact hm _ _ _ (Nat.le_max_left _ _) (hD i (by omega))
theorem openedR {H : Type} {enc : TypeId × Value → H} {base : Nat} {spare : Nat → Bool} {held : Bool} (hS : S.all (goodTy P S) = true) : ∀ (fuel : Nat) (t : TypeId) (cs : List Value) (x : DataW H × List MemPlace), t ∈ S → DataW.trod enc P w base spare held fuel t cs = some x →
    ∃ d l, All2 (Holds w (There w)) l cs ∧ Wt P d t l
  | fuel, t, cs, x, ht, h => by
    have lit : ∀ v : Value, v.oneCell' = true → All2 (Holds w (There w)) [.s v] [v] := fun v hv => .cons (.s v hv) .nil
    have hg := List.all_eq_true.1 hS t ht
    unfold goodTy at hg
    split at hg
    · rename_i hu
      cases fuel with
      | zero => simp [DataW.trod] at h
      | succ fuel =>
        unfold DataW.trod at h
        rw [hu] at h
        split at h <;> try (simp_all; done)
        exact ⟨1, _, lit _ rfl, by rw [Wt, hu]; exact ⟨_, rfl⟩⟩
    · rename_i k hu
      cases fuel with
      | zero => simp [DataW.trod] at h
      | succ fuel =>
        unfold DataW.trod at h
        rw [hu] at h
        split at h <;> simp_all
        exact ⟨1, _, lit _ rfl, by rw [Wt, hu]; exact ⟨_, rfl, by simp_all⟩⟩
    · rename_i hu
      cases fuel with
      | zero => simp [DataW.trod] at h
      | succ fuel =>
        unfold DataW.trod at h
        rw [hu] at h
        split at h <;> simp_all
        exact ⟨1, _, lit _ rfl, by rw [Wt, hu]; exact ⟨_, rfl, by simp_all⟩⟩
    · rename_i e hu
      have he : e ∈ S := by simpa using hg
      rcases DataW.trod_slice hu h with ⟨rfl, rfl⟩ | ⟨a, len, cap, elems, rest, n, rfl, rfl, _, hb, hl, hm, hlen', hel, _, _⟩
      · exact ⟨1, [.r []], .cons (.r [] none 0 0 0 (fun _ _ => undef) rfl (Nat.le_refl _) (by simp) (by omega) (by simp)) .nil, by rw [Wt, hu]; exact ⟨[], rfl, by simp, by simp⟩⟩
      · have key0 : ∀ i, i < len → ∃ d, ∃ el cs', w.cells? base (a.add (i * P.cellsOf e)) (P.cellsOf e) = some cs' ∧ All2 (Holds w (There w)) el cs' ∧ Wt P d e el := by
          intro i hi
          have h0 := hel i hi
          rw [List.getElem?_eq_getElem (by omega)] at h0
          obtain ⟨cs', h1, h2⟩ := Option.bind_eq_some_iff.1 h0
          obtain ⟨d, el, h3, h4⟩ := openedR hS n e cs' _ he h2
          exact ⟨d, el, cs', h1, h3, h4⟩
        obtain ⟨d, key⟩ := dbound (fun i d d' hd ⟨el, cs', h1, h2, h3⟩ => ⟨el, cs', h1, h2, wt_le hd h3⟩) len key0
        let EL : Nat → List C := fun i => if h : i < len then (key i h).choose else []
        let CS : Nat → List Value := fun i => if h : i < len then (key i h).choose_spec.choose else []
        have hEL : ∀ i, i < len → w.cells? base (a.add (i * P.cellsOf e)) (P.cellsOf e) = some (CS i) ∧ All2 (Holds w (There w)) (EL i) (CS i) ∧ Wt P d e (EL i) := by
          intro i hi
          simp only [EL, CS, hi, dif_pos]
          exact (key i hi).choose_spec.choose_spec
        have hlen : ∀ i, i < len → (CS i).length = P.cellsOf e ∧ (EL i).length = P.cellsOf e := fun i hi => by
          obtain ⟨h1, h2, _⟩ := hEL i hi
          have := (cells_get h1).1
          exact ⟨this, by rw [h2.len, this]⟩
        have hmem : ∀ el ∈ (List.range len).map EL, el.length = P.cellsOf e ∧ Wt P d e el := by
          intro el hel'
          obtain ⟨i, hi, rfl⟩ := List.mem_map.1 hel'
          have hi' := List.mem_range.1 hi
          exact ⟨(hlen i hi').2, (hEL i hi').2.2⟩
        refine ⟨d + 1, [.r ((List.range len).map EL)], .cons ?_ .nil, by rw [Wt, hu]; exact ⟨_, rfl, by simp; omega, hmem⟩⟩
        refine .r _ (some a) len cap (P.cellsOf e) (fun i j => ((CS i)[j]?).getD undef) (by simp) hl (fun el h => (hmem el h).1) (fun i j hi hj => ⟨a, rfl, ?_, ?_⟩) (fun i j el c hi hj => ?_)
        · obtain ⟨h1, _, _⟩ := hEL i hi
          have := (cells_get h1).2 j hj
          rw [add_add] at this
          have hlt : j < (CS i).length := by rw [(hlen i hi).1]; exact hj
          rw [List.getElem?_eq_getElem hlt] at this
          have := cell_lt this
          rwa [add_block] at this
        · obtain ⟨h1, _, _⟩ := hEL i hi
          have := (cells_get h1).2 j hj
          rw [add_add] at this
          have hlt : j < (CS i).length := by rw [(hlen i hi).1]; exact hj
          rw [this, List.getElem?_eq_getElem hlt]; rfl
        · rw [range_get] at hi
          split at hi
          · rename_i hil
            simp only [Option.some.injEq] at hi
            subst hi
            obtain ⟨_, h2, _⟩ := hEL i hil
            obtain ⟨u, h3, h4⟩ := h2.get j c hj
            simp only [h3, Option.getD_some]; exact h4
          · simp at hi
    · rename_i fs hu
      simp only [Bool.and_eq_true, List.all_eq_true] at hg
      obtain ⟨xs, n, rfl, rfl, hlen, hxl, hf⟩ := DataW.trod_struct hu h
      have key0 : ∀ i, i < fs.size → ∃ d, ∀ f, fs[i]? = some f → ∃ l, All2 (Holds w (There w)) l ((cs.drop f.offset).take (P.cellsOf f.type)) ∧ Wt P d f.type l := by
        intro i hi
        have hfi : fs[i]? = some fs[i] := Array.getElem?_eq_getElem hi
        have h0 := hf i _ hfi
        rw [List.getElem?_eq_getElem (by omega)] at h0
        have hm : fs[i].type ∈ S := by simpa using hg.2 _ (Array.mem_toList_iff.2 (Array.getElem_mem hi))
        obtain ⟨d, l, h1, h2⟩ := openedR hS n fs[i].type _ _ hm h0
        exact ⟨d, fun f e => by rw [hfi] at e; cases e; exact ⟨l, h1, h2⟩⟩
      obtain ⟨d, key⟩ := dbound (fun i d d' hd hq f e => let ⟨l, h1, h2⟩ := hq f e; ⟨l, h1, wt_le hd h2⟩) fs.size key0
      obtain ⟨l, h1, h2⟩ := opened_fields (P := P) (H := H) (g := Wt P d) (w := w) cs (There w) fs.toList 0 hg.1 hlen fun f hfm => by
        obtain ⟨i, hi⟩ := List.getElem?_of_mem hfm
        have hi' : fs[i]? = some f := by simpa using hi
        exact key i (Array.getElem?_eq_some_iff.1 hi').1 f hi'
      exact ⟨d + 1, l, by simpa using h1, by rw [Wt, hu]; exact h2⟩
    · simp at hg
  termination_by fuel => fuel
  decreasing_by all_goals omega
theorem arg_agR {H : Type} {enc : TypeId × Value → H} {t : TypeId} {cs : Array Value} {x : DataW H} {p : List MemPlace} (hS : S.all (goodTy P S) = true) (ht : t ∈ S) (h : DataW.Trod enc P w 0 (fun _ => true) true t (.agg cs) x p) : ∃ d l, Wt P d t l ∧ CsRel w (There w) (l.map (·, none)) cs.toList [] := by
  obtain ⟨fuel, hf⟩ := h
  obtain ⟨d, l, h1, h2⟩ := openedR hS fuel t _ _ ht hf
  refine ⟨d, l, h2, ?_⟩
  simp only [Value.cells] at h1
  generalize cs.toList = us at h1
  clear h2 hf
  induction h1 with
  | nil => exact .nil
  | cons h _ ih => exact .sh h ih
end Go.SX
