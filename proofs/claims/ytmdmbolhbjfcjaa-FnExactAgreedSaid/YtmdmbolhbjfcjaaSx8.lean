import Derived.Test.YtmdmbolhbjfcjaaSx7
import Derived.Deep.Upon
set_option linter.unusedVariables false
set_option linter.unusedSimpArgs false
set_option linter.unusedSectionVars false
namespace Go.SX
variable {P : Program} {w w' w0 : World} {ok ok' : Nat → Prop} {E E' : Env} {B : Bd} {σ σ' : St}

theorem over_get {cs : Array Value} {o k : Nat} {vs : List Value} (h : o + vs.length ≤ cs.size) : (over cs o vs)[k]? = if o ≤ k ∧ k < o + vs.length then vs[k - o]? else cs[k]? := by
  unfold over
  simp only [List.getElem?_toArray]
  have hl : (cs.toList.take o).length = o := by simp; omega
  by_cases h1 : k < o
  · rw [List.append_assoc, List.getElem?_append_left (by omega), List.getElem?_take, if_pos h1, if_neg (by omega)]; simp
  · rw [List.append_assoc, List.getElem?_append_right (by omega), hl]
    by_cases h2 : k < o + vs.length
    · rw [List.getElem?_append_left (by omega), if_pos ⟨by omega, h2⟩]
    · rw [List.getElem?_append_right (by omega), if_neg (by omega), List.getElem?_drop, show o + vs.length + (k - o - vs.length) = k by omega]; simp
theorem over_size {cs : Array Value} {o : Nat} {vs : List Value} (h : o + vs.length ≤ cs.size) : (over cs o vs).size = cs.size := by unfold over; simp; omega

theorem Mem.poke (M : Mem w0 B σ E ok w) {k : Nat} {cs : Array Value} (hp : Poked w k cs w') (hd : ∀ x, mutAt σ E x ≠ some k) (hk : ¬ ok k) (hh : w0.heap.size ≤ k ∨ B.L k) : Mem w0 B σ E ok w' ∧ Keep w w' ok ok := by
  have kp : Keep w w' ok ok := fun j hj _ => ⟨hp.other j (fun e => hk (e ▸ hj)), hj⟩
  refine ⟨M.go kp M.okin ?_ (by rw [hp.size]; exact Nat.le_refl _) fun x j hj => ⟨hp.other j (fun e => hd x (e ▸ hj)), (M.mine x j hj).1⟩, kp⟩
  refine ⟨hp.os.trans M.fr.os, hp.tape.trans M.fr.tape, hp.output.trans M.fr.output, by rw [hp.size]; exact M.fr.size, fun j hj hl => ?_⟩
  have : j ≠ k := by
    rintro rfl
    rcases hh with h | h
    · omega
    · exact hl h
  rw [hp.other j this]; exact M.fr.old j hj hl
theorem mut_killB {b : Nat} {x : Lend} {k : Nat} (h : mutAt (setBox σ b none) E x = some k) : x ≠ .b b ∧ mutAt σ E x = some k := by
  cases x with
  | r i => exact ⟨by simp, h⟩
  | b j =>
    simp only [mutAt, boxAt_set] at h
    by_cases hij : b = j
    · subst hij
      by_cases hlt : b < σ.bx.length
      · simp [hlt] at h
      · simp only [hlt, and_false, if_false] at h
        cases hb : boxAt σ b with
        | none => simp [hb] at h
        | some l => exact absurd (boxAt_lt hb) hlt
    · simp only [hij, false_and, if_false] at h; exact ⟨by simpa using Ne.symm hij, h⟩
theorem mut_killR {i : Nat} {x : Lend} {k : Nat} (h : mutAt (setRow σ i none) E x = some k) : x ≠ .r i ∧ mutAt σ E x = some k := by
  cases x with
  | b b => exact ⟨by simp, h⟩
  | r j =>
    simp only [mutAt, rowAt_set] at h
    by_cases hij : i = j
    · subst hij
      by_cases hlt : i < σ.rw.length
      · simp [hlt] at h
      · simp only [hlt, and_false, if_false] at h
        cases hb : rowAt σ i with
        | none => simp [hb] at h
        | some l => exact absurd (rowAt_lt hb) hlt
    · simp only [hij, false_and, if_false] at h; exact ⟨by simpa using Ne.symm hij, h⟩

theorem elems_demote (x y : T) : elems (demote σ x) y = elems σ y := by
  have key : ∀ i, (rowAt (demote σ x) i).map (·.l) = (rowAt σ i).map (·.l) := by
    intro i
    have h : ∀ j q, rowAt σ j = some q → (rowAt (setRow σ j (some { q with ow := false })) i).map (·.l) = (rowAt σ i).map (·.l) := by
      intro j q hq
      rw [rowAt_set]
      by_cases hij : j = i
      · subst hij; simp [rowAt_lt hq, hq]
      · simp [hij]
    unfold demote
    split
    · split
      · rename_i hq; exact h _ _ hq
      · rfl
    · split
      · rename_i hq; exact h _ _ hq
      · rfl
    · rfl
  have key2 : ∀ i lo hi, (rowAt (demote σ x) i).map (fun r => cut r.l lo hi) = (rowAt σ i).map (fun r => cut r.l lo hi) := by
    intro i lo hi
    have := congrArg (Option.map fun l => cut l lo hi) (key i)
    simpa [Option.map_map, Function.comp_def] using this
  cases y
  case row i => exact key _
  case sl i lo hi => exact key2 _ _ _
  case c y => cases y <;> rfl
  all_goals rfl
theorem view_demote (x y : T) : view (demote σ x) y = view σ y := by
  cases y <;> simp only [view, elems_demote]
theorem views_demote (x : T) : ∀ l, views (demote σ x) l = views σ l
  | [] => rfl
  | y :: l => by simp only [views, view_demote, views_demote x l]

theorem sh_holds {r : RV} {l : List (List C)} (h : ShAt w ok r l) : Holds w ok (.r l) (.slice r.a r.n r.cap) := by
  obtain ⟨h1, h2, h3, _, f, h4, h5⟩ := h
  exact .r l r.a r.n r.cap r.sz f h1 h2 h3 h4 h5
theorem sl_holds {r : RV} {l : List (List C)} {lo hi : Nat} {a' : Option Addr} (h : ShAt w ok r l) (h1 : lo ≤ hi) (h2 : hi ≤ r.n) (ha : r.cap - lo ≠ 0 → ∃ ad, r.a = some ad ∧ a' = some (ad.add (lo * r.sz))) : Holds w ok (.r (cut l lo hi)) (.slice a' (hi - lo) (r.cap - lo)) := by
  have hc := h.2.1
  refine holds_cut (sh_holds h) h1 h2 h.2.2.1 (by omega) fun h0 ad e => ?_
  obtain ⟨ad', e1, e2⟩ := ha (by omega)
  rw [e] at e1; cases e1; exact e2
theorem view_rel (M : Mem w0 B σ E ok w) {x : T} {u : Value} {c : C} (hx : XRel w ok E x u) (h : view σ x = some c) : ∃ ok', Mem w0 B (SX.demote σ x) E ok' w ∧ (∀ k, ok k → ok' k) ∧ (∀ k, ok' k → ok k ∨ Muts σ E k) ∧ Holds w ok' c u := by
  have eq : ∀ {i}, ∀ {q}, rowAt σ i = some q → ∃ r, E.ρ[i]? = some r := fun {i q} hq => ⟨_, List.getElem?_eq_getElem (by rw [M.lr]; exact rowAt_lt hq)⟩
  cases x <;> simp only [view, elems, Option.map_some, Option.some.injEq, Option.map_eq_some_iff, Option.map_none, reduceCtorEq, false_and, exists_false, exists_eq_left'] at h
  case c x => subst h; exact ⟨ok, M, fun _ h => h, fun _ h => .inl h, hx⟩
  case nil => subst h; rw [show u = _ from hx]; exact ⟨ok, M, fun _ h => h, fun _ h => .inl h, .r [] none 0 0 0 (fun _ _ => undef) rfl (Nat.le_refl _) (by simp) (by omega) (by simp)⟩
  case row i =>
    obtain ⟨l, ⟨q, hq, rfl⟩, rfl⟩ := h
    obtain ⟨r, hr, rfl⟩ := hx
    obtain ⟨ok', M', hu, hu2, hS⟩ := M.demoteR hq
    refine ⟨ok', ?_, hu, hu2, sh_holds (hS r hr)⟩
    simp only [SX.demote, hq]; exact M'
  case sl i lo hi =>
    obtain ⟨l, ⟨q, hq, rfl⟩, rfl⟩ := h
    obtain ⟨r, a', hr, h1, h2, rfl, ha⟩ := hx
    obtain ⟨ok', M', hu, hu2, hS⟩ := M.demoteR hq
    refine ⟨ok', ?_, hu, hu2, sl_holds (hS r hr) h1 h2 ha⟩
    simp only [SX.demote, hq]; exact M'
theorem views_rel : ∀ (l : List T) {σ : St} {ok : Nat → Prop} (us : List Value) (cs : List C), Mem w0 B σ E ok w → All2 (XRel w ok E) l us → views σ l = some cs → ∃ ok', Mem w0 B (demotes σ l) E ok' w ∧ (∀ k, ok k → ok' k) ∧ (∀ k, ok' k → ok k ∨ Muts σ E k) ∧ All2 (Holds w ok') cs us
  | [], σ, ok, us, cs, M, hx, h => by cases hx; simp [views] at h; subst h; exact ⟨ok, M, fun _ h => h, fun _ h => .inl h, .nil⟩
  | x :: l, σ, ok, us, cs, M, hx, h => by
    cases hx with
    | cons hx hl =>
      simp only [views, Option.bind_eq_some_iff, Option.map_eq_some_iff] at h
      obtain ⟨c, hc, cs, hcs, rfl⟩ := h
      obtain ⟨ok1, M1, h1, h1', hc1⟩ := view_rel M hx hc
      obtain ⟨ok2, M2, h2, h2', h3⟩ := views_rel l _ cs M1 (hl.imp fun _ _ h => h.keep (fun k h _ => ⟨rfl, h1 k h⟩) (.refl _)) (by rw [views_demote]; exact hcs)
      exact ⟨ok2, M2, fun k h => h2 k (h1 k h), fun k h => (h2' k h).elim (fun h => h1' k h) (fun ⟨x, hx⟩ => .inr ⟨x, mut_demote hx⟩), .cons (hc1.keep fun k h _ => ⟨rfl, h2 k h⟩) h3⟩

theorem ok_store (M : Mem w0 B σ E ok w) {a x y : T} {av xv : Value} {t : TypeId} (ha : TRel w ok E a av) (hx : TRel w ok E x xv) (h : opStore P σ t a x = some (y, σ')) :
    ∃ w', (Instr.storeAt t av xv).run P w = .ok () w' ∧ StepR w0 B w ok E σ' y undef w' := by
  unfold opStore at h
  simp only [Option.bind_eq_some_iff] at h
  obtain ⟨l, hl, h⟩ := h
  have hfl := hx.flat hl
  split at h
  · rename_i hsz
    have hcs : xv.cells.size = l.length := by simpa using hfl.len.symm
    have hone : ∀ u ∈ xv.cells.toList, u.oneCell' = true := by
      intro u hu
      obtain ⟨i, hi⟩ := List.getElem?_of_mem hu
      have hlt : i < l.length := by rw [← hcs]; simpa using (List.getElem?_eq_some_iff.mp hi).1
      obtain ⟨u', h1, h2⟩ := hfl.get i _ (List.getElem?_eq_getElem hlt)
      rw [hi] at h1; cases h1; exact h2.one
    cases a <;> try (simp at h; done)
    case bp b o =>
      simp only [Option.bind_eq_some_iff, Option.map_eq_some_iff, Prod.mk.injEq] at h
      obtain ⟨cs, hb, cs', hs, rfl, rfl⟩ := h
      obtain ⟨k, hk, rfl⟩ := ha
      obtain ⟨t0, c0, h1, h2⟩ := M.box b k cs hk hb
      obtain ⟨hle, hr⟩ := splice_rel hs h2 hfl
      obtain ⟨w', h3, h4, h5⟩ := run_storeVar (P := P) h1 hsz hcs (by simpa [hcs] using hle) hone
      have hm := M.mine (.b b) k (mut_b hk hb)
      have hd : ∀ x, mutAt (setBox σ b none) E x ≠ some k := fun x hx => (mut_killB hx).1 (M.dis x (.b b) k (mut_killB hx).2 (mut_b hk hb))
      obtain ⟨M1, kp⟩ := (M.killB b).poke h4 hd hm.1 hm.2.1
      have hr' : All2 (XRel w' ok E) cs' (over c0 o xv.cells.toList).toList := hr.imp fun _ _ h => h.keep kp (.refl _)
      have M2 := M1.setB hk (by rw [boxAt_set]; simp [boxAt_lt hb]) ⟨t0, _, h5, hr'⟩ hm.1 hm.2.1 hd
      refine ⟨w', by simp only [Instr.storeAt, Instr.sureAddr, Sem.run_bind, Sem.run_pure, Result.andThen_ok]; exact h3, E, ok, ?_, .refl _, kp, trivial⟩
      simpa [setBox] using M2
    case rp i n o =>
      simp only [Option.bind_eq_some_iff] at h
      obtain ⟨vs, hvs, q, hq, h⟩ := h
      split at h
      · rename_i how
        simp only [Option.bind_eq_some_iff, Option.map_eq_some_iff, Prod.mk.injEq] at h
        obtain ⟨el, hel, el', hsp, rfl, rfl⟩ := h
        obtain ⟨ok1, M1, hup, _, hv1⟩ := views_rel l _ vs M hfl hvs
        obtain ⟨r, ad, hr, had, hn, rfl⟩ := ha
        have hR := M1.row i r q hr hq
        have hO : OwnAt w ok1 r q.l := by have := hR.2; rw [how] at this; simpa using this
        obtain ⟨o1, o2, o3, o4, o5⟩ := hO
        cases hκ : r.κ with
        | none => simp only [hκ] at o5; omega
        | some k =>
          simp only [hκ] at o5
          obtain ⟨off, t0, c0, o5, o6, o7, o8⟩ := o5
          rw [had] at o5; cases o5
          have hvl : vs.length = l.length := by rw [hv1.len, ← hfl.len]
          unfold splice at hsp
          split at hsp
          · rename_i hle
            simp only [Option.some.injEq] at hsp
            have hellen : el.length = r.sz := o3 el (List.mem_of_getElem? hel)
            have hnl : n < q.l.length := (List.getElem?_eq_some_iff.mp hel).1
            have hmul : (n + 1) * r.sz ≤ r.cap * r.sz := Nat.mul_le_mul_right _ (by omega)
            rw [Nat.add_mul, Nat.one_mul] at hmul
            have hfit : off + (n * r.sz + o) + l.length ≤ c0.size := by omega
            obtain ⟨w', h3, h4, h5⟩ := run_storeVar (P := P) (o := off + (n * r.sz + o)) o6 hsz hcs hfit hone
            have hm := M1.mine (.r i) k (mut_r hr hq how hκ)
            have hd : ∀ x, mutAt (setRow (demotes σ l) i none) E x ≠ some k := fun x hx => (mut_killR hx).1 (M1.dis x (.r i) k (mut_killR hx).2 (mut_r hr hq how hκ))
            obtain ⟨M2, kp⟩ := (M1.killR i).poke h4 hd hm.1 hm.2.1
            have hcl : xv.cells.toList.length = l.length := by simpa using hcs
            have hrow : RowOk w' ok1 r { q with l := q.l.set n el' } := by
              refine ⟨hR.1, ?_⟩
              simp only [how, if_true]
              have hel' : el'.length = r.sz := by rw [← hsp]; simp; omega
              refine ⟨by simpa using o1, o2, fun e he => ?_, o4, ?_⟩
              · rcases List.mem_or_eq_of_mem_set he with h | h
                · exact o3 e h
                · rw [h]; exact hel'
              · simp only [hκ]
                refine ⟨off, t0, _, had, h5, by rw [over_size (by omega)]; exact o7, fun i' j' e c hi' hj' => ?_⟩
                rw [over_get (by omega)]
                rw [List.getElem?_set] at hi'
                by_cases hni : n = i'
                · subst hni
                  simp only [if_true, hnl, Option.some.injEq] at hi'
                  subst hi'
                  rw [← hsp] at hj'
                  have hjl : j' < r.sz := by rw [← hel', ← hsp]; exact (List.getElem?_eq_some_iff.mp hj').1
                  by_cases hin : o ≤ j' ∧ j' < o + vs.length
                  · rw [if_pos (by omega)]
                    rw [List.append_assoc, List.getElem?_append_right (by simp; omega), List.getElem?_append_left (by simp; omega)] at hj'
                    rw [show j' - (el.take o).length = j' - o by simp; omega] at hj'
                    obtain ⟨u, hu1, hu2⟩ := hv1.get _ _ hj'
                    exact ⟨u, by rw [show off + (n * r.sz + j') - (off + (n * r.sz + o)) = j' - o by omega]; exact hu1, hu2.keep kp⟩
                  · rw [if_neg (by omega)]
                    have hj2 : el[j']? = some c := by
                      by_cases hlt : j' < o
                      · rw [List.append_assoc, List.getElem?_append_left (by simp; omega), List.getElem?_take, if_pos hlt] at hj'; exact hj'
                      · rw [List.getElem?_append_right (by simp; omega), List.getElem?_drop] at hj'
                        rw [show o + vs.length + (j' - (el.take o ++ vs).length) = j' by simp; omega] at hj'; exact hj'
                    obtain ⟨u, hu1, hu2⟩ := o8 n j' el c hel hj2
                    exact ⟨u, hu1, hu2.keep kp⟩
                · simp only [hni, if_false] at hi'
                  have hjl : j' < r.sz := by rw [← o3 e (List.mem_of_getElem? hi')]; exact (List.getElem?_eq_some_iff.mp hj').1
                  rw [if_neg (by
                    rcases Nat.lt_or_ge i' n with hlt | hge
                    · have := Nat.mul_le_mul_right r.sz (show i' + 1 ≤ n by omega); rw [Nat.add_mul, Nat.one_mul] at this; omega
                    · have := Nat.mul_le_mul_right r.sz (show n + 1 ≤ i' by omega); rw [Nat.add_mul, Nat.one_mul] at this; omega)]
                  obtain ⟨u, hu1, hu2⟩ := o8 i' j' e c hi' hj'
                  exact ⟨u, hu1, hu2.keep kp⟩
            have M3 := M2.setR hr (by rw [rowAt_set]; simp [rowAt_lt hq]) hrow fun k' _ hk' => by
              rw [hκ] at hk'; cases hk'; exact ⟨hm.1, hm.2.1, hd⟩
            rw [setRow_none_some] at M3
            refine ⟨w', by simp only [Instr.storeAt, Instr.sureAddr, Sem.run_bind, Sem.run_pure, Result.andThen_ok, add_none]; exact h3, E, ok1, M3, .refl _, fun j hj hl => ⟨(kp j (hup j hj) hl).1, hup j hj⟩, trivial⟩
          · simp at hsp
      · simp at h
  · simp at h
end Go.SX
