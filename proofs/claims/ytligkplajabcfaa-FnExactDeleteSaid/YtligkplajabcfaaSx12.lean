import Derived.Test.YtligkplajabcfaaSx11
set_option linter.unusedVariables false
set_option linter.unusedSimpArgs false
set_option linter.unusedSectionVars false
namespace Go.SX
variable {P : Program} {w w' w0 : World} {ok ok' : Nat → Prop} {E E' : Env} {B : Bd} {σ σ' : St}

/-! giving -/
structure Less (σ σ' : St) : Prop where
  bl : σ'.bx.length = σ.bx.length
  rl : σ'.rw.length = σ.rw.length
  b : ∀ b l, boxAt σ' b = some l → boxAt σ b = some l
  r : ∀ i q, rowAt σ' i = some q → rowAt σ i = some q
theorem Less.refl (σ : St) : Less σ σ := ⟨rfl, rfl, fun _ _ h => h, fun _ _ h => h⟩
theorem Less.trans {σ1 σ2 σ3 : St} (h : Less σ1 σ2) (k : Less σ2 σ3) : Less σ1 σ3 := ⟨k.bl.trans h.bl, k.rl.trans h.rl, fun b l hb => h.b b l (k.b b l hb), fun b l hb => h.r b l (k.r b l hb)⟩
theorem less_killB (b : Nat) : Less σ (setBox σ b none) := ⟨by simp [setBox], rfl, fun b' l h => by rw [boxAt_set] at h; split at h <;> simp_all, fun _ _ h => h⟩
theorem less_killR (i : Nat) : Less σ (setRow σ i none) := ⟨rfl, by simp [setRow], fun _ _ h => h, fun i' q h => by rw [rowAt_set here_none] at h; split at h <;> simp_all⟩
def Given (w0 : World) (B : Bd) (ok : Nat → Prop) (w : World) (E : Env) (σ : St) (bs : List Nat) (σ' : St) : Prop :=
  Mem w0 B σ' E ok w ∧ bs.Nodup ∧ (∀ k ∈ bs, Muts σ E k ∧ ¬ Muts σ' E k) ∧ (∀ k, Muts σ' E k → Muts σ E k) ∧ Less σ σ'
theorem Given.nil (M : Mem w0 B σ E ok w) : Given w0 B ok w E σ [] σ := ⟨M, List.nodup_nil, by simp, fun _ h => h, .refl _⟩
theorem Given.then {bs bs' : List Nat} {σ'' : St} (h : Given w0 B ok w E σ bs σ') (k : Given w0 B ok w E σ' bs' σ'') : Given w0 B ok w E σ (bs ++ bs') σ'' := by
  obtain ⟨h1, h2, h3, h4, h5⟩ := h
  obtain ⟨k1, k2, k3, k4, k5⟩ := k
  refine ⟨k1, List.nodup_append.2 ⟨h2, k2, fun a ha b hb e => (h3 a ha).2 (e ▸ (k3 b hb).1)⟩, fun j hj => ?_, fun j hj => h4 j (k4 j hj), h5.trans k5⟩
  rcases List.mem_append.1 hj with hj | hj
  · exact ⟨(h3 j hj).1, fun hm => (h3 j hj).2 (k4 j hm)⟩
  · exact ⟨h4 j (k3 j hj).1, (k3 j hj).2⟩
theorem given_killB (M : Mem w0 B σ E ok w) {b k : Nat} {l : List T} (hk : E.β[b]? = some k) (hb : boxAt σ b = some l) : Given w0 B ok w E σ [k] (setBox σ b none) := by
  refine ⟨M.killB b, by simp, fun j hj => ?_, fun j ⟨x, hx⟩ => ⟨x, (mut_killB hx).2⟩, less_killB b⟩
  obtain rfl : j = k := by simpa using hj
  exact ⟨⟨.b b, mut_b hk hb⟩, fun ⟨x, hx⟩ => (mut_killB hx).1 (M.dis x (.b b) j (mut_killB hx).2 (mut_b hk hb))⟩
theorem given_killR (M : Mem w0 B σ E ok w) {i : Nat} {r : RV} {q : Row} (hr : E.ρ[i]? = some r) (hq : rowAt σ i = some q) (bs : List Nat) (hn : bs.Nodup) (hbs : ∀ k ∈ bs, blks r q (E.δ i) k) : Given w0 B ok w E σ bs (setRow σ i none) := by
  refine ⟨M.killR i, hn, fun j hj => ?_, fun j ⟨x, hx⟩ => ⟨x, (mut_killR hx).2⟩, less_killR i⟩
  obtain ⟨y, hy, _⟩ := blks_mut hr (row_raw hq) (hbs j hj)
  exact ⟨⟨y, hy⟩, fun ⟨x, hx⟩ => blks_dead M hr (row_raw hq) (hbs j hj) x hx⟩
theorem deep_nodup {r : RV} {l : List (List C)} {δ : List Nat} (h : DeepAt w r l δ none) : (r.κ.toList ++ δ).Nodup := by
  obtain ⟨off, t, cs, u, f, a1, a2, a3, a4, a5, a6, a7, a8, a9, a10, a11, a12⟩ := h
  refine List.nodup_append.2 ⟨by cases r.κ <;> simp, a12, fun a ha b hb e => ?_⟩
  subst e
  obtain ⟨i, j, h1, h2, h3, h4⟩ := (a9 a).1 hb
  exact a10 i j h1 h2 h3 a h4 (by simpa using ha)
theorem Mem.ownX (M : Mem w0 B σ E ok w) {i : Nat} {r : RV} {q : Row} (hr : E.ρ[i]? = some r) (hq : rowAt σ i = some q) (ho : q.ow = true) : ∃ b0, OwnX w ok r q.dp.q q.l b0 ∧ b0.Nodup ∧ ∀ k ∈ b0, blks r q (E.δ i) k := by
  have h2 := (M.row i r q hr hq).2
  rw [ho, if_pos rfl] at h2
  rcases dp_cases hq with hp | hp
  · rw [hp] at h2 ⊢
    exact ⟨r.κ.toList, OwnAt.x h2, by cases r.κ <;> simp, fun k hk => ⟨ho, .inl (by simpa using hk)⟩⟩
  · have h2' : DeepAt w r q.l (E.δ i) none := by rw [hp] at h2; exact h2
    rw [hp]
    refine ⟨r.κ.toList ++ E.δ i, ⟨E.δ i, rfl, h2', fun h => by simp [Dp.q] at h⟩, deep_nodup h2', fun k hk => ⟨ho, ?_⟩⟩
    rcases List.mem_append.1 hk with h | h
    · exact .inl (by simpa using h)
    · exact .inr ⟨by rw [hp]; simp, h⟩
theorem own_cut {r : RV} {l : List (List C)} {lo hi : Nat} {a' : Option Addr} (h : OwnAt w ok r l) (h1 : lo ≤ hi) (h2 : hi ≤ r.n) (ha : r.cap - lo ≠ 0 → ∃ ad, r.a = some ad ∧ a' = some (ad.add (lo * r.sz))) : OwnAt w ok ⟨a', hi - lo, r.cap - lo, r.sz, if r.cap - lo = 0 then none else r.κ⟩ (cut l lo hi) := by
  obtain ⟨p1, p2, p3, p4, p5⟩ := h
  refine ⟨cut_len _ _ _ (by omega), by show hi - lo ≤ r.cap - lo; omega, fun el he => p3 el (cut_mem he), fun h => by simp only at h ⊢; split; rfl; exact p4 h, ?_⟩
  by_cases hc : r.cap - lo = 0
  · simp only [hc, if_true]
  · obtain ⟨ad, had, rfl⟩ := ha hc
    simp only [hc, if_false]
    cases hκ : r.κ with
    | none => simp only [hκ] at p5; omega
    | some k =>
      simp only [hκ] at p5 ⊢
      obtain ⟨off, t, cs, q1, q2, q3, q4⟩ := p5
      rw [had] at q1; cases q1
      refine ⟨off + lo * r.sz, t, cs, by rw [add_none], q2, ?_, fun i j el c hi hj => ?_⟩
      · have : lo * r.sz + (r.cap - lo) * r.sz = r.cap * r.sz := by rw [← Nat.add_mul]; congr 1; omega
        show off + lo * r.sz + (r.cap - lo) * r.sz ≤ cs.size
        omega
      · obtain ⟨u, h3, h4⟩ := q4 (lo + i) j el c (cut_get hi) hj
        refine ⟨u, ?_, h4⟩
        rw [← h3]; congr 1
        show off + lo * r.sz + (i * r.sz + j) = _
        rw [Nat.add_mul]; omega
theorem give_ok (M : Mem w0 B σ E ok w) {x : T} {v : Value} {c : C × Option Sz} (hx : XRel w ok E x v) (h : give σ x = some (c, σ')) :
    ∃ bs, Given w0 B ok w E σ bs σ' ∧ ∀ l vs bs', CsRel w ok l vs bs' → CsRel w ok (c :: l) (v :: vs) (bs ++ bs') := by
  cases x <;> simp only [give, Option.some.injEq, Prod.mk.injEq, Option.map_eq_some_iff, reduceCtorEq] at h
  case c x =>
    obtain ⟨rfl, rfl⟩ := h
    exact ⟨[], .nil M, fun l vs bs' h => .sh hx h⟩
  case nil =>
    obtain ⟨rfl, rfl⟩ := h
    rw [show v = _ from hx]
    exact ⟨[], .nil M, fun l vs bs' h => .own (r := ⟨none, 0, 0, 0, none⟩) (OwnAt.x ⟨rfl, Nat.le_refl _, by simp, fun _ => rfl, rfl⟩) h⟩
  case row i =>
    obtain ⟨q, hq, rfl, rfl⟩ := h
    obtain ⟨r, hr, rfl⟩ := hx
    obtain ⟨hz, hR⟩ := M.row i r q hr hq
    cases ho : q.ow with
    | true =>
      simp only [if_true]
      obtain ⟨b0, h1, h2, h3⟩ := M.ownX hr hq ho
      refine ⟨b0, given_killR M hr hq _ h2 h3, fun l vs bs' h => ?_⟩
      rw [hz]; exact .own h1 h
    | false =>
      exact ⟨[], .nil M, fun l vs bs' h => .sh (sh_holds (M.sh hr hq ho)) h⟩
  case sl i lo hi =>
    split at h
    · simp at h
    rename_i hdp
    simp only [Option.map_eq_some_iff, Prod.mk.injEq] at h
    obtain ⟨q, hq, rfl, rfl⟩ := h
    have hqf : q.dp = .f := dp_sl (lo := lo) (hi := hi) hq (by simpa using hdp)
    obtain ⟨r, a', hr, h1, h2, rfl, ha⟩ := hx
    obtain ⟨hz, hR⟩ := M.row i r q hr hq
    cases ho : q.ow with
    | true =>
      have hR := M.own hr hq ho hqf
      simp only [if_true]
      refine ⟨(if r.cap - lo = 0 then none else r.κ).toList, given_killR M hr hq _ (by split <;> cases r.κ <;> simp) (fun k hk => ?_), fun l vs bs' h => ?_⟩
      · split at hk
        · simp at hk
        · exact ⟨ho, .inl (by simpa using hk)⟩
      · rw [hz]; exact .own (OwnAt.x (own_cut hR h1 h2 ha)) h
    | false =>
      exact ⟨[], .nil M, fun l vs bs' h => .sh (sl_holds (M.sh hr hq ho) h1 h2 ha) h⟩
theorem gives_ok : ∀ (l : List T) {σ σ' : St} {vs : List Value} {cs : Cs}, Mem w0 B σ E ok w → All2 (XRel w ok E) l vs → gives σ l = some (cs, σ') → ∃ bs, Given w0 B ok w E σ bs σ' ∧ CsRel w ok cs vs bs
  | [], σ, σ', vs, cs, M, hl, h => by cases hl; simp [gives] at h; obtain ⟨rfl, rfl⟩ := h; exact ⟨[], .nil M, .nil⟩
  | x :: l, σ, σ', vs, cs, M, hl, h => by
    cases hl with
    | cons hx hl =>
      simp only [gives, Option.bind_eq_some_iff, Option.map_eq_some_iff, Prod.mk.injEq] at h
      obtain ⟨⟨c, σ1⟩, h1, ⟨cs', σ2⟩, h2, rfl, rfl⟩ := h
      obtain ⟨bs, g1, g2⟩ := give_ok M hx h1
      obtain ⟨bs', g3, g4⟩ := gives_ok l g1.1 hl h2
      exact ⟨bs ++ bs', g1.then g3, g2 _ _ _ g4⟩

/-! lending -/
def Dead (σ : St) : Lend → Prop
  | .b b => boxAt σ b = none
  | .r i => rowAt σ i = none
theorem Dead.less {x : Lend} (h : Dead σ x) (hl : Less σ σ') : Dead σ' x := by
  cases x with
  | b b =>
    simp only [Dead] at h ⊢
    cases hb : boxAt σ' b with
    | none => rfl
    | some l => rw [hl.b b l hb] at h; simp at h
  | r i =>
    simp only [Dead] at h ⊢
    cases hb : rowAt σ' i with
    | none => rfl
    | some l => rw [hl.r i l hb] at h; simp at h
theorem dead_killB (b : Nat) : Dead (setBox σ b none) (.b b) := by
  simp only [Dead, boxAt_set]
  split
  · rfl
  · rename_i h
    cases hb : boxAt σ b with
    | none => rfl
    | some l => exact absurd ⟨trivial, boxAt_lt hb⟩ h
theorem dead_killR (i : Nat) : Dead (setRow σ i none) (.r i) := by
  simp only [Dead, rowAt_set here_none]
  split
  · rfl
  · rename_i h
    cases hb : rowAt σ i with
    | none => rfl
    | some l => exact absurd ⟨trivial, rowAt_lt hb⟩ h
theorem lendAll_ok : ∀ (ls : List Lend) {σ σ' : St} {cs : List Cs}, Mem w0 B σ E ok w → lendAll σ ls = some (cs, σ') →
    ∃ hs bs, All2 (HRel E) ls hs ∧ BackRel w ok hs (cs.map some) bs ∧ Given w0 B ok w E σ bs σ' ∧ ∀ x ∈ ls, Dead σ' x
  | [], σ, σ', cs, M, h => by simp [lendAll] at h; obtain ⟨rfl, rfl⟩ := h; exact ⟨[], [], .nil, .nil, .nil M, by simp⟩
  | .b b :: ls, σ, σ', cs, M, h => by
    simp only [lendAll, Option.bind_eq_some_iff, Option.map_eq_some_iff, Prod.mk.injEq] at h
    obtain ⟨l, hb, ⟨x, σ1⟩, h1, ⟨xs, σ2⟩, h2, rfl, rfl⟩ := h
    obtain ⟨k, hk⟩ : ∃ k, E.β[b]? = some k := ⟨_, List.getElem?_eq_getElem (by rw [M.lb]; exact boxAt_lt hb)⟩
    obtain ⟨t, cs, hc, hl⟩ := M.box b k l hk hb
    have g0 := given_killB M hk hb
    obtain ⟨bs1, g1, r1⟩ := gives_ok l g0.1 hl h1
    obtain ⟨hs, bs2, r2, r3, g2, hd⟩ := lendAll_ok ls g1.1 h2
    refine ⟨.b k :: hs, (k :: bs1) ++ bs2, .cons hk r2, .box t cs hc r1 r3, (g0.then g1).then g2, fun y hy => ?_⟩
    rcases List.mem_cons.1 hy with rfl | hy
    · exact (dead_killB b).less (g1.2.2.2.2.trans g2.2.2.2.2)
    · exact hd y hy
  | .r i :: ls, σ, σ', cs, M, h => by
    simp only [lendAll, Option.bind_eq_some_iff] at h
    obtain ⟨q, hq, h⟩ := h
    split at h
    · rename_i ho
      simp only [Option.map_eq_some_iff, Prod.mk.injEq] at h
      obtain ⟨⟨xs, σ2⟩, h2, rfl, rfl⟩ := h
      obtain ⟨r, hr⟩ : ∃ r, E.ρ[i]? = some r := ⟨_, List.getElem?_eq_getElem (by rw [M.lr]; exact rowAt_lt hq)⟩
      obtain ⟨hz, hR⟩ := M.row i r q hr hq
      obtain ⟨b0, k1, k2, k3⟩ := M.ownX hr hq ho
      have g0 := given_killR M hr hq b0 k2 k3
      obtain ⟨hs, bs2, r2, r3, g2, hd⟩ := lendAll_ok ls g0.1 h2
      refine ⟨.r r :: hs, b0 ++ bs2, .cons hr r2, ?_, g0.then g2, fun y hy => ?_⟩
      · rw [hz]; exact .row k1 r3
      · rcases List.mem_cons.1 hy with rfl | hy
        · exact (dead_killR i).less g2.2.2.2.2
        · exact hd y hy
    · simp at h

/-! the arguments -/
theorem BoxesRel.up {ls ks bs} (h : BoxesRel w ok ls ks bs) (hk : Keep w w' ok ok') (hs : ∀ k ∈ bs, w'.heap[k]? = w.heap[k]?) : BoxesRel w' ok' ls ks bs := by
  induction h with
  | nil => exact .nil
  | cons t cs h1 h2 _ ih => exact .cons t cs ((hs _ (by simp)).trans h1) (h2.up hk fun k hk' => hs k (by simp [hk'])) (ih fun k hk' => hs k (by simp [hk']))
theorem boxes_split : ∀ (bs0 : List Nat) (ks : List Nat) {ls : List Lend} {hs : List H} {cs : List Cs} {bs : List Nat}, All2 (fun b k => E.β[b]? = some k) bs0 ks → All2 (HRel E) (bs0.map .b ++ ls) hs → BackRel w ok hs (cs.map some) bs →
    ∃ hs2 bs1 bs2, hs = ks.map .b ++ hs2 ∧ bs = bs1 ++ bs2 ∧ BoxesRel w ok (cs.take bs0.length) ks bs1 ∧ BackRel w ok hs2 ((cs.drop bs0.length).map some) bs2 ∧ All2 (HRel E) ls hs2
  | [], _, ls, hs, cs, bs, hk, hl, hb => by cases hk; exact ⟨hs, [], bs, rfl, rfl, by simpa using .nil, by simpa using hb, hl⟩
  | b :: bs0, _, ls, hs, cs, bs, hk, hl, hb => by
    cases hk with
    | cons hk hks =>
      simp only [List.map_cons, List.cons_append] at hl
      cases hl with
      | cons hh hl =>
        rename_i k ks h hs'
        cases h with
        | r r => exact hh.elim
        | b k' =>
          have : k' = k := by have hh' : E.β[b]? = some k' := hh; rw [hk] at hh'; cases hh'; rfl
          subst this
          cases cs with
          | nil => cases hb
          | cons c cs =>
            simp only [List.map_cons] at hb
            cases hb with
            | box t cv h1 h2 h3 =>
              obtain ⟨hs2, bs1, bs2, rfl, rfl, g1, g2, g3⟩ := boxes_split bs0 ks hks hl h3
              refine ⟨hs2, _, bs2, rfl, (List.append_assoc _ _ _).symm, ?_, by simpa using g2, g3⟩
              simp only [List.length_cons, List.take_succ_cons]
              exact .cons t cv h1 h2 g1
theorem csH_of_holds {cs : List C} {us : List Value} (h : All2 (Holds w ok) cs us) : CsH w ok (cs.map (·, none)) us [] [] := by
  induction h with
  | nil => exact .nil
  | cons h _ ih => exact .sh h ih
theorem demotes_append (l m : List T) : demotes σ (l ++ m) = demotes (demotes σ l) m := by simp [demotes]
theorem elems_demotes (y : T) : ∀ (l : List T) (σ : St), elems (demotes σ l) y = elems σ y
  | [], _ => rfl
  | x :: l, σ => by show elems (demotes (demote σ x) l) y = _; rw [elems_demotes y l, elems_demote]
theorem view_demotes (l : List T) (σ : St) (y : T) : view (demotes σ l) y = view σ y := by
  cases y <;> simp only [view, elems_demotes]
theorem views_demotes (l : List T) (σ : St) : ∀ y, views (demotes σ l) y = views σ y
  | [] => rfl
  | y :: ys => by simp only [views, view_demotes, views_demotes l σ ys]
theorem agA_demotes (m : List T) (σ : St) : ∀ (x : List T) (cs : List Cs), agA (demotes σ m) x cs = agA σ x cs := by
  intro x
  induction x with
  | nil => intro cs; rfl
  | cons y x ih => intro cs; cases y <;> simp only [agA, view_demotes, ih]
theorem argsA_demotes (md : Bool) (m : List T) (σ : St) : ∀ (l : List T) (cs : List Cs), argsA md (demotes σ m) l cs = argsA md σ l cs := by
  intro l
  induction l with
  | nil => intro cs; cases cs <;> rfl
  | cons x l ih =>
    intro cs
    cases x with
    | bp b o => cases cs <;> simp only [argsA, ih, view_demotes]
    | row i =>
      cases md with
      | false => simp only [argsA, ih, view_demotes]
      | true => cases cs with
        | nil => simp only [argsA, if_true]
        | cons c cs => cases c with
          | nil => simp only [argsA, if_true]
          | cons c c' => cases c' <;> simp only [argsA, ih, if_true]
    | ag x => simp only [argsA, ih, views_demotes, agA_demotes]
    | _ => simp only [argsA, ih, view_demotes]
theorem mut_demotes {x : Mt} {k : Nat} : ∀ (l : List T) {σ : St}, mutAt (demotes σ l) E x = some k → mutAt σ E x = some k
  | [], _, h => h
  | _ :: l, _, h => mut_demote (mut_demotes l h)
theorem agA_ok : ∀ (x : List T) {σ : St} {ok : Nat → Prop} {us : List Value} {rest : List Lend} {hs : List H} {cs cs' : List Cs} {y : Cs} {bs : List Nat}, Mem w0 B σ E ok w → All2 (XRel w ok E) x us → All2 (HRel E) (agLent x ++ rest) hs → BackRel w ok hs (cs.map some) bs → agA σ x cs = some (y, cs') →
    ∃ okc hs1 hs2 bs1 bs2, hs = hs1 ++ hs2 ∧ bs = bs1 ++ bs2 ∧ Mem w0 B (demotes σ x) E okc w ∧ (∀ k, ok k → okc k) ∧ (∀ k, okc k → ok k ∨ Muts σ E k) ∧ CsH w okc y us hs1 bs1 ∧ All2 (HRel E) rest hs2 ∧ BackRel w okc hs2 (cs'.map some) bs2 := by
  intro x
  induction x with
  | nil =>
    intro σ ok us rest hs cs cs' y bs M ha hl hb h
    cases ha
    simp only [agA, Option.some.injEq, Prod.mk.injEq] at h
    obtain ⟨rfl, rfl⟩ := h
    exact ⟨ok, [], hs, [], bs, rfl, rfl, M, fun _ h => h, fun _ h => .inl h, .nil, hl, hb⟩
  | cons z x ih =>
    intro σ ok us rest hs cs cs' y bs M ha hl hb h
    cases ha with
    | cons hx ha =>
    rename_i v vs
    have e : demotes σ (z :: x) = demotes (demote σ z) x := rfl
    have e1 : demotes σ [z] = demote σ z := rfl
    have look : ∀ c, agLent (z :: x) = agLent x → view σ z = some c → ∀ y', agA σ x cs = some (y', cs') → ∃ okc hs1 hs2 bs1 bs2, hs = hs1 ++ hs2 ∧ bs = bs1 ++ bs2 ∧ Mem w0 B (demotes σ (z :: x)) E okc w ∧ (∀ k, ok k → okc k) ∧ (∀ k, okc k → ok k ∨ Muts σ E k) ∧ CsH w okc ((c, none) :: y') (v :: vs) hs1 bs1 ∧ All2 (HRel E) rest hs2 ∧ BackRel w okc hs2 (cs'.map some) bs2 := by
      intro c hlent hv y' hy
      obtain ⟨ok1, M1, u1, u1', hc⟩ := view_rel M hx hv
      rw [hlent] at hl
      obtain ⟨okc, hs1, hs2, bs1, bs2, rfl, rfl, M2, u2, u2', h1, h2, h3⟩ := ih M1 (ha.imp fun _ _ h => XRel.keep (keep_up u1) (.refl _) h) hl (hb.up (keep_up u1) fun _ _ => rfl) (by rw [← e1, agA_demotes]; exact hy)
      exact ⟨okc, hs1, hs2, bs1, bs2, rfl, rfl, M2, fun k h => u2 k (u1 k h), fun k h => (u2' k h).elim (u1' k) (fun ⟨x, hx⟩ => .inr ⟨x, mut_demote hx⟩), .sh (hc.keep (keep_up u2)) h1, h2, h3⟩
    cases z with
    | row i =>
      simp only [agA] at h
      split at h
      · rename_i c o cs2
        simp only [Option.map_eq_some_iff, Prod.mk.injEq] at h
        obtain ⟨⟨y', cs3⟩, hy, rfl, rfl⟩ := h
        obtain ⟨r, hr, rfl⟩ := hx
        simp only [agLent, List.cons_append] at hl
        cases hl with
        | cons hh hl =>
          rename_i hh' hs'
          cases hh' with
          | b k => exact hh.elim
          | r r' =>
            have : r' = r := by have hh' : E.ρ[i]? = some r' := hh; rw [hr] at hh'; cases hh'; rfl
            subst this
            simp only [List.map_cons] at hb
            generalize hcc : some [(c, o)] = cc at hb
            cases hb with
            | gone _ => simp at hcc
            | row h1 h3 =>
              simp only [Option.some.injEq, List.cons.injEq, Prod.mk.injEq, and_true] at hcc
              obtain ⟨rfl, rfl⟩ := hcc
              obtain ⟨ok1, M1, u1, u1'⟩ := M.demote (.row i)
              obtain ⟨okc, hs1, hs2, bs1, bs2, rfl, rfl, M2, u2, u2', g1, g2, g3⟩ := ih M1 (ha.imp fun _ _ h => XRel.keep (keep_up u1) (.refl _) h) hl (h3.up (keep_up u1) fun _ _ => rfl) (by rw [← e1, agA_demotes]; exact hy)
              exact ⟨okc, .r r' :: hs1, hs2, _, bs2, rfl, (List.append_assoc _ _ _).symm, M2, fun k h => u2 k (u1 k h), fun k h => (u2' k h).elim (u1' k) (fun ⟨x, hx⟩ => .inr ⟨x, mut_demote hx⟩), .own (h1.keep (keep_up fun k h => u2 k (u1 k h)) fun _ _ => rfl) g1, g2, g3⟩
      · simp at h
    | _ =>
      simp only [agA, Option.bind_eq_some_iff, Option.map_eq_some_iff, Prod.mk.injEq] at h
      obtain ⟨c, hv, ⟨y', cs3⟩, hy, rfl, rfl⟩ := h
      exact look c rfl hv y' hy
theorem argsA_ok (md : Bool) : ∀ (args : List T) {σ : St} {ok : Nat → Prop} {vs : List Value} {hs : List H} {cs : List Cs} {xs : List A} {bs : List Nat}, Mem w0 B σ E ok w → All2 (TRel w ok E) args vs → All2 (HRel E) (lentOf md args) hs → BackRel w ok hs (cs.map some) bs → argsA md σ args cs = some xs →
    ∃ okc, Mem w0 B (demotes σ (seenRows args)) E okc w ∧ (∀ k, ok k → okc k) ∧ (∀ k, okc k → ok k ∨ Muts σ E k) ∧ ArgsRel w okc xs vs hs bs := by
  intro args
  induction args with
  | nil =>
    intro σ ok vs hs cs xs bs M ha hl hb h
    cases ha; cases hl
    cases cs with
    | cons c cs => simp [argsA] at h
    | nil =>
      cases hb
      simp [argsA] at h; subst h
      exact ⟨ok, M, fun _ h => h, fun _ h => .inl h, .nil⟩
  | cons x args ih =>
    intro σ ok vs hs cs xs bs M ha hl hb h
    cases ha with
    | cons hx ha =>
    rename_i v vs
    -- one that is looked at
    have look : ∀ c, XRel w ok E x v → lentOf md (x :: args) = lentOf md args → view σ x = some c → seenRows (x :: args) = x :: seenRows args → ∀ xs', argsA md σ args cs = some xs' → ∃ okc, Mem w0 B (demotes σ (seenRows (x :: args))) E okc w ∧ (∀ k, ok k → okc k) ∧ (∀ k, okc k → ok k ∨ Muts σ E k) ∧ ArgsRel w okc (.c c none :: xs') (v :: vs) hs bs := by
      intro c hx hlent hv hseen xs' hxs
      obtain ⟨ok1, M1, u1, u1', hc⟩ := view_rel M hx hv
      rw [hlent] at hl
      have e : demotes σ [x] = demote σ x := rfl
      obtain ⟨okc, M2, u2, u2', hA⟩ := ih M1 (ha.imp fun _ _ h => h.keep (keep_up u1) (.refl _)) hl (hb.up (keep_up u1) fun _ _ => rfl) (by rw [← e, argsA_demotes]; exact hxs)
      rw [hseen]
      exact ⟨okc, M2, fun k h => u2 k (u1 k h), fun k h => (u2' k h).elim (u1' k) (fun ⟨x, hx⟩ => .inr ⟨x, mut_demote hx⟩), .sh (hc.keep (keep_up u2)) hA⟩
    cases x with
    | bp b o =>
      cases cs with
      | nil => simp [argsA, view, elems] at h
      | cons c cs =>
        simp only [argsA] at h
        split at h
        · rename_i ho
          subst ho
          simp only [Option.map_eq_some_iff] at h
          obtain ⟨xs', hxs, rfl⟩ := h
          obtain ⟨k, hk, rfl⟩ := hx
          simp only [lentOf] at hl
          cases hl with
          | cons hh hl =>
            rename_i hh' hs'
            cases hh' with
            | r r => exact hh.elim
            | b k' =>
              have : k' = k := by have hh' : E.β[b]? = some k' := hh; rw [hk] at hh'; cases hh'; rfl
              subst this
              simp only [List.map_cons] at hb
              cases hb with
              | box t cv h1 h2 h3 =>
                obtain ⟨okc, M2, u2, u2', hA⟩ := ih M ha hl h3 hxs
                exact ⟨okc, M2, u2, u2', .p t cv h1 (h2.up (keep_up u2) fun _ _ => rfl) hA⟩
        · simp at h
    | fn g bs0 =>
      simp only [argsA] at h
      split at h
      · simp only [Option.map_eq_some_iff] at h
        obtain ⟨xs', hxs, rfl⟩ := h
        obtain ⟨ks, rfl, hks⟩ := hx
        simp only [lentOf] at hl
        obtain ⟨hs2, bs1, bs2, rfl, rfl, g1, g2, g3⟩ := boxes_split bs0 ks hks hl hb
        obtain ⟨okc, M2, u2, u2', hA⟩ := ih M ha g3 g2 hxs
        exact ⟨okc, M2, u2, u2', .f (g1.up (keep_up u2) fun _ _ => rfl) hA⟩
      · simp at h
    | ag x =>
      cases md with
      | true =>
      simp only [argsA, if_true, Option.bind_eq_some_iff, Option.map_eq_some_iff] at h
      obtain ⟨⟨y, cs2⟩, hv, xs', hxs, rfl⟩ := h
      obtain ⟨us, rfl, hus⟩ := hx
      simp only [lentOf, if_true] at hl
      obtain ⟨ok1, hs1, hs2, bs1, bs2, rfl, rfl, M1, u1, u1', g1, g2, g3⟩ := agA_ok x M hus hl hb hv
      obtain ⟨okc, M2, u2, u2', hA⟩ := ih M1 (ha.imp fun _ _ h => h.keep (keep_up u1) (.refl _)) g2 g3 (by rw [argsA_demotes]; exact hxs)
      refine ⟨okc, ?_, fun k h => u2 k (u1 k h), fun k h => (u2' k h).elim (u1' k) (fun ⟨y, hy⟩ => .inr ⟨y, mut_demotes x hy⟩), ?_⟩
      · simp only [seenRows, demotes_append]; exact M2
      · have := ArgsRel.ag (g1.up (keep_up u2) fun _ _ => rfl) hA
        simpa using this
      | false =>
      simp only [argsA, Bool.false_eq_true, if_false, Option.bind_eq_some_iff, Option.map_eq_some_iff] at h
      obtain ⟨x', hv, xs', hxs, rfl⟩ := h
      obtain ⟨us, rfl, hus⟩ := hx
      simp only [lentOf, Bool.false_eq_true, if_false] at hl
      obtain ⟨ok1, M1, u1, u1', hc⟩ := views_rel x _ _ M hus hv
      obtain ⟨okc, M2, u2, u2', hA⟩ := ih M1 (ha.imp fun _ _ h => h.keep (keep_up u1) (.refl _)) hl (hb.up (keep_up u1) fun _ _ => rfl) (by rw [argsA_demotes]; exact hxs)
      refine ⟨okc, ?_, fun k h => u2 k (u1 k h), fun k h => (u2' k h).elim (u1' k) (fun ⟨y, hy⟩ => .inr ⟨y, mut_demotes x hy⟩), ?_⟩
      · simp only [seenRows, demotes_append]; exact M2
      · have := ArgsRel.ag (csH_of_holds (hc.imp fun _ _ h => h.keep (keep_up u2))) hA
        simpa using this
    | row i =>
      cases md with
      | false =>
        simp only [argsA, Bool.false_eq_true, if_false, Option.bind_eq_some_iff, Option.map_eq_some_iff] at h
        obtain ⟨c, hv, xs', hxs, rfl⟩ := h
        exact look c hx rfl hv rfl xs' hxs
      | true =>
        simp only [argsA, if_true] at h
        split at h
        · rename_i x o cs
          simp only [Option.map_eq_some_iff] at h
          obtain ⟨xs', hxs, rfl⟩ := h
          obtain ⟨r, hr, rfl⟩ := hx
          simp only [lentOf, if_true] at hl
          cases hl with
          | cons hh hl =>
            rename_i hh' hs'
            cases hh' with
            | b k => exact hh.elim
            | r r' =>
              have : r' = r := by have hh' : E.ρ[i]? = some r' := hh; rw [hr] at hh'; cases hh'; rfl
              subst this
              simp only [List.map_cons] at hb
              generalize hcc : some [(x, o)] = cc at hb
              cases hb with
              | gone _ => simp at hcc
              | row h1 h3 =>
                simp only [Option.some.injEq, List.cons.injEq, Prod.mk.injEq, and_true] at hcc
                obtain ⟨rfl, rfl⟩ := hcc
                obtain ⟨ok1, M1, u1, u1'⟩ := M.demote (.row i)
                have e : demotes σ [.row i] = demote σ (.row i) := rfl
                obtain ⟨okc, M2, u2, u2', hA⟩ := ih M1 (ha.imp fun _ _ h => h.keep (keep_up u1) (.refl _)) hl (h3.up (keep_up u1) fun _ _ => rfl) (by rw [← e, argsA_demotes]; exact hxs)
                exact ⟨okc, M2, fun k h => u2 k (u1 k h), fun k h => (u2' k h).elim (u1' k) (fun ⟨x, hx⟩ => .inr ⟨x, mut_demote hx⟩), .own (h1.keep (keep_up fun k h => u2 k (u1 k h)) fun _ _ => rfl) hA⟩
        · simp at h
    | c x =>
      simp only [argsA, Option.bind_eq_some_iff, Option.map_eq_some_iff] at h
      obtain ⟨c, hv, xs', hxs, rfl⟩ := h
      exact look c hx rfl hv rfl xs' hxs
    | nil =>
      simp only [argsA, Option.bind_eq_some_iff, Option.map_eq_some_iff] at h
      obtain ⟨c, hv, xs', hxs, rfl⟩ := h
      exact look c hx rfl hv rfl xs' hxs
    | sl i lo hi =>
      simp only [argsA, Option.bind_eq_some_iff, Option.map_eq_some_iff] at h
      obtain ⟨c, hv, xs', hxs, rfl⟩ := h
      exact look c hx rfl hv rfl xs' hxs
    | _ => simp [argsA, view, elems] at h

/-! taking back -/
theorem mut_setB {b : Nat} {l : Option (List T)} {x : Mt} {j : Nat} (h : mutAt (setBox σ b l) E x = some j) : mutAt σ E x = some j ∨ E.β[b]? = some j := by
  cases x with
  | r i => exact .inl h
  | d i m => exact .inl h
  | b b' =>
    simp only [mutAt, boxAt_set] at h
    by_cases hbb : b = b' ∧ b < σ.bx.length
    · obtain ⟨rfl, hlt⟩ := hbb
      simp only [hlt, and_self, if_true] at h
      cases l with
      | none => simp at h
      | some l => exact .inr h
    · simp only [hbb, if_false] at h; exact .inl h
theorem mut_setR {i : Nat} {q : Row} {D : List Nat} {x : Mt} {j : Nat} (h : mutAt (setRow σ i (some q)) ⟨E.β, E.ρ, upd E.δ i D⟩ x = some j) : mutAt σ E x = some j ∨ (E.ρ[i]?).bind (·.κ) = some j ∨ (q.dp ≠ .f ∧ j ∈ D) := by
  cases x with
  | b i => exact .inl h
  | r b' =>
    simp only [mutAt, rawAt_set] at h ⊢
    by_cases hbb : i = b' ∧ i < σ.rw.length
    · obtain ⟨rfl, hlt⟩ := hbb
      simp only [hlt, and_self, if_true] at h
      split at h
      · exact .inr (.inl h)
      · simp at h
    · simp only [hbb, if_false] at h; exact .inl h
  | d b' m =>
    simp only [mutAt, rawAt_set, upd] at h ⊢
    by_cases hbb : i = b' ∧ i < σ.rw.length
    · obtain ⟨rfl, hlt⟩ := hbb
      simp only [hlt, and_self, if_true] at h
      split at h
      · split at h
        · simp at h
        · rename_i hp; exact .inr (.inr ⟨hp, List.mem_of_getElem? h⟩)
      · simp at h
    · simp only [hbb, if_false] at h
      cases hr : rawAt σ b' with
      | none => simp [hr] at h
      | some q' =>
        have hne : b' ≠ i := by rintro rfl; exact hbb ⟨rfl, rawAt_lt hr⟩
        simp only [hr, hne, if_false] at h
        exact .inl h
theorem Dead.ext {x : Lend} {h : H} (hd : Dead σ x) (hE : HRel E x h) (M : Mem w0 B σ E ok w) (he : Ext σ σ') : Dead σ' x := by
  cases x with
  | b b =>
    cases h with
    | r _ => exact hE.elim
    | b k =>
      have hlt : b < σ.bx.length := by rw [← M.lb]; exact (List.getElem?_eq_some_iff.mp (show E.β[b]? = some k from hE)).1
      exact (he.b b hlt).trans hd
  | r i =>
    cases h with
    | b _ => exact hE.elim
    | r r =>
      have hlt : i < σ.rw.length := by rw [← M.lr]; exact (List.getElem?_eq_some_iff.mp (show E.ρ[i]? = some r from hE)).1
      exact (he.r i hlt).trans hd
theorem all2_mem {α β : Type} {R : α → β → Prop} {l : List α} {m : List β} (h : All2 R l m) : ∀ x ∈ l, ∃ y ∈ m, R x y := by
  induction h with
  | nil => simp
  | cons h _ ih =>
    intro x hx
    rcases List.mem_cons.1 hx with rfl | hx
    · exact ⟨_, by simp, h⟩
    · obtain ⟨y, h1, h2⟩ := ih x hx; exact ⟨y, by simp [h1], h2⟩
theorem takeAll_ok : ∀ (ls : List Lend) {σ σ' : St} {E : Env} {hs : List H} {xs : List (Option Cs)} {bs : List Nat}, All2 (HRel E) ls hs → BackRel w ok hs xs bs → Mem w0 B σ E ok w → Free w0 B ok σ E bs → ls.Nodup → (∀ x ∈ ls, Dead σ x) → takeAll σ ls xs = some σ' →
    ∃ E', Mem w0 B σ' E' ok w ∧ E.Le E' := by
  intro ls
  induction ls with
  | nil =>
    intro σ σ' E hs xs bs hl hb M _ _ _ h
    cases hl; cases hb
    simp [takeAll] at h; subst h
    exact ⟨E, M, .refl _⟩
  | cons x ls ih =>
    intro σ σ' E hs xs bs hl hb M hf hnd hd h
    obtain ⟨hnx, hnd'⟩ := List.nodup_cons.1 hnd
    cases hl with
    | cons hh hl =>
    cases hb with
    | @box l k hs xs bs1 bs2 t cv h1 h2 h3 =>
      cases x with
      | r i => exact hh.elim
      | b b =>
        simp only [takeAll] at h
        obtain ⟨f1, f2, f3⟩ := hf.left.ok k (by simp)
        have hf1 : Free w0 B ok σ E bs1 := ⟨(List.nodup_cons.1 hf.left.nd).2, fun j hj => hf.ok j (by simp [hj])⟩
        obtain ⟨E1, ⟨g1, g2, g3, g4⟩, g5⟩ := tells_ok h2 M hf1
        have hk : E1.β[b]? = some k := g2.b _ _ hh
        have hdead : Dead (tells σ l).2 (.b b) := (hd (.b b) (by simp)).ext (h := .b k) hh M g4
        have hnm : ¬ Muts (tells σ l).2 E1 k := fun hm => (g3 k hm).elim f3 fun hm => (List.nodup_cons.1 hf.left.nd).1 hm
        have M1 := g1.setB hk hdead ⟨t, cv, h1, g5⟩ f1 f2 fun x hx => hnm ⟨x, hx⟩
        have hmuts : ∀ j, Muts (setBox (tells σ l).2 b (some (tells σ l).1)) E1 j → Muts σ E j ∨ j ∈ k :: bs1 := by
          rintro j ⟨x, hx⟩
          rcases mut_setB hx with hx | hx
          · exact (g3 j ⟨x, hx⟩).imp id fun h => by simp [h]
          · rw [hk] at hx; cases hx; exact .inr (by simp)
        have hd' : ∀ y ∈ ls, Dead (setBox (tells σ l).2 b (some (tells σ l).1)) y := by
          intro y hy
          obtain ⟨hy', _, hyr⟩ := all2_mem hl y hy
          have := (hd y (by simp [hy])).ext hyr M g4
          cases y with
          | r i => exact this
          | b b' =>
            simp only [Dead, boxAt_set] at this ⊢
            rw [if_neg (by rintro ⟨rfl, _⟩; exact hnx hy), this]
        obtain ⟨E2, M2, hle⟩ := ih (hl.imp fun _ _ h => h.le g2) h3 M1 (hf.right hmuts) hnd' hd' h
        exact ⟨E2, M2, g2.trans hle⟩
    | @row r d x' b0 hs xs bs h1 h3 =>
      cases x with
      | b i => exact hh.elim
      | r i =>
        simp only [takeAll] at h
        have hk : E.ρ[i]? = some r := hh
        obtain ⟨D, rfl, h1, h1'⟩ := h1
        have hlt : ∀ k ∈ D, k < w.heap.size := by
          intro k hkD
          cases d with
          | false => rw [h1' rfl] at hkD; simp at hkD
          | true =>
            obtain ⟨off, t, cs, u, f, a1, a2, a3, a4, a5, a6, a7, a8, a9, _⟩ := h1
            obtain ⟨i, j, hi, hj, _, hb⟩ := (a9 k).1 hkD
            have hel : x'[i]? = some (x'[i]'(by omega)) := List.getElem?_eq_getElem _
            have hc : (x'[i]'(by omega))[j]? = some ((x'[i]'(by omega))[j]'(by rw [a3 _ (List.mem_of_getElem? hel)]; omega)) := List.getElem?_eq_getElem _
            exact dh_lt (a8 i j _ _ hel hc (by simp)) k hb
        have hRq : RowOk w ok D r ⟨r.sz, x', true, .of d⟩ := ⟨rfl, by simpa using h1⟩
        have M1 := M.setRD (D := D) hk hRq (fun k _ hκ => by
          obtain ⟨f1, f2, f3⟩ := hf.ok k (by simp [show r.κ = some k from hκ])
          exact ⟨f1, f2, own_lt hRq rfl hκ, fun x hx => f3 ⟨x, mut_kill_le hx⟩⟩) fun _ _ => ⟨(List.nodup_append.1 (hf.left).nd).2.1, fun k hkD => by
          obtain ⟨f1, f2, f3⟩ := hf.ok k (by simp [hkD])
          exact ⟨fun e => (List.nodup_append.1 (hf.left).nd).2.2 k (by simp [show r.κ = some k from e]) k hkD rfl, f1, f2, hlt k hkD, fun x hx => f3 ⟨x, mut_kill_le hx⟩⟩⟩
        have hmuts : ∀ j, Muts (setRow σ i (some ⟨r.sz, x', true, .of d⟩)) ⟨E.β, E.ρ, upd E.δ i D⟩ j → Muts σ E j ∨ j ∈ r.κ.toList ++ D := by
          rintro j ⟨x, hx⟩
          rcases mut_setR hx with hx | hx | ⟨_, hx⟩
          · exact .inl ⟨x, hx⟩
          · rw [hk] at hx; exact .inr (by simp [show r.κ = some j from hx])
          · exact .inr (by simp [hx])
        have hd' : ∀ y ∈ ls, Dead (setRow σ i (some ⟨r.sz, x', true, .of d⟩)) y := by
          intro y hy
          have := hd y (by simp [hy])
          cases y with
          | b i => exact this
          | r b' =>
            simp only [Dead, rowAt_setH] at this ⊢
            rw [if_neg (by rintro ⟨rfl, _⟩; exact hnx hy), this]
        obtain ⟨E2, M2, hle⟩ := ih (hl.imp fun _ _ h => h.le (E' := ⟨E.β, E.ρ, upd E.δ i D⟩) ⟨fun _ _ h => h, fun _ _ h => h⟩) h3 M1 (hf.right hmuts) hnd' hd' h
        exact ⟨E2, M2, ⟨hle.b, hle.r⟩⟩
    | gone h3 =>
      cases x with
      | b i => exact hh.elim
      | r i =>
        simp only [takeAll] at h
        exact ih hl h3 M hf hnd' (fun y hy => hd y (by simp [hy])) h
/-! clear -/
theorem zeroCells_get {z0 : Array Value} {n p q : Nat} (hp : p < n) (hq : q < z0.size) : (Builtin.zeroCells z0 n).toList[p * z0.size + q]? = z0[q]? := by
  have hlt : p * z0.size + q < n * z0.size := by
    have : (p + 1) * z0.size ≤ n * z0.size := Nat.mul_le_mul_right _ hp
    rw [Nat.add_mul] at this; omega
  have e : (p * z0.size + q) % z0.size = q := by rw [Nat.mul_comm, Nat.mul_add_mod]; exact Nat.mod_eq_of_lt hq
  simp [Builtin.zeroCells, hlt, e, hq]
theorem run_clear_z {w : World} {t e : TypeId} {z : Nat} {z0 : Value} (ht : P.underlying t = some (.slice e)) (hz : ∀ w, (zeroValue e).run P w = .ok z0 w) (hc : z0.cells.size = z) (h1 : ∀ u ∈ z0.cells.toList, u.oneCell' = true) {b o n : Nat} (hn : 0 < n) {cs : Array Value} {tb : TypeId}
    (hh : w.heap[b]? = some (.cells cs tb (0, 0))) (hs : o + n * z ≤ cs.size) :
    ∃ w', (∀ ty c, (Builtin.clear_ #[t] ty #[.slice (some ⟨b, o, none⟩) n c]).run P w = .ok (.tuple #[]) w') ∧ Poked w b (over cs o (Builtin.zeroCells z0.cells n).toList) w' ∧ w'.heap[b]? = some (.cells (over cs o (Builtin.zeroCells z0.cells n).toList) tb (0, 0)) := by
  have hl : (Builtin.zeroCells z0.cells n).toList.length = n * z := by simp [Builtin.zeroCells, hc]
  obtain ⟨w', r1, r2, r3⟩ := run_storeCells (P := P) (Builtin.zeroCells z0.cells n).toList o 0 cs w hh (by rw [hl]; omega) (fun u hu => by
    simp only [Builtin.zeroCells, Array.toList_map, List.mem_map] at hu
    obtain ⟨k, hk, rfl⟩ := hu
    have hk2 : k < n * z0.cells.size := by simpa using hk
    have hpos : 0 < z0.cells.size := by
      rcases Nat.eq_zero_or_pos z0.cells.size with h | h
      · rw [h] at hk2; omega
      · exact h
    have hm := Nat.mod_lt k hpos
    rw [getElem!_pos z0.cells (k % z0.cells.size) hm]
    exact h1 _ (by simp))
  rw [Nat.add_zero] at r2 r3
  refine ⟨w', fun ty c => ?_, r2, r3⟩
  obtain ⟨m, rfl⟩ : ∃ m, n = m + 1 := ⟨n - 1, by omega⟩
  simp [Builtin.clear_, run_und ht, hz, r1]
theorem ok_clear (M : Mem w0 B σ E ok w) {x y : T} {xv : Value} {t ty : TypeId} (hx : TRel w ok E x xv) (h : opClear P σ t x = some (y, σ')) :
    ∃ w', (Builtin.clear_ #[t] ty #[xv]).run P w = .ok (.tuple #[]) w' ∧ StepR w0 B w ok E σ' y (.tuple #[]) w' := by
  unfold opClear at h
  simp only [Option.bind_eq_some_iff] at h
  obtain ⟨e, he, i, hi, z, hz, zl, hzl, cs, hcs, h⟩ := h
  split at h
  case isFalse => simp at h
  rename_i hc
  obtain ⟨c1, c2, c3⟩ := hc
  cases x <;> try (simp at h; done)
  case sl j lo hi' =>
    simp only [Option.bind_eq_some_iff] at h
    obtain ⟨q, hq, h⟩ := h
    split at h
    case isFalse => simp at h
    rename_i hd
    obtain ⟨how, hqf, hsz, hlo, hhi⟩ := hd
    simp only [Option.some.injEq, Prod.mk.injEq] at h
    obtain ⟨rfl, rfl⟩ := h
    have hzr : All2 (XRel w ok E) zl z.cells.toList := (constT_rel (w := w) (ok := ok) (E := E) z).flat hzl
    obtain ⟨ok1, M1, hup, _, hv1⟩ := views_rel zl _ cs M hzr hcs
    obtain ⟨r, a', hr, h1, h2, rfl, h4⟩ := hx
    have hR := M1.row j r q hr hq
    have hO : OwnAt w ok1 r q.l := M1.own hr hq how hqf
    obtain ⟨o1, o2, o3, o4, o5⟩ := hO
    have hlen : (q.l.take lo ++ List.replicate (hi' - lo) cs ++ q.l.drop hi').length = r.n := by simp; omega
    have hsr : r.sz = i.size := by rw [← hR.1, hsz]
    have hwid : ∀ el ∈ q.l.take lo ++ List.replicate (hi' - lo) cs ++ q.l.drop hi', el.length = r.sz := by
      intro el hel
      rcases List.mem_append.1 hel with h | h
      · rcases List.mem_append.1 h with h | h
        · exact o3 _ (List.mem_of_mem_take h)
        · rw [(List.mem_replicate.1 h).2, c1, hsr]
      · exact o3 _ (List.mem_of_mem_drop h)
    by_cases hne : hi' - lo = 0
    · have e : q.l.take lo ++ List.replicate (hi' - lo) cs ++ q.l.drop hi' = q.l := by
        rw [hne, show hi' = lo by omega]; simp
      rw [e]
      have M2 := (M1.killR j).setR hr hqf (show RowOk w ok1 [] r q from ⟨hR.1, by have := hR.2; rw [hqf] at this ⊢; exact this⟩) fun k h1 h2 => by
        have hm := M1.mine (.r j) k (mut_r hr hq h1 h2)
        exact ⟨hm.1, hm.2.1, fun x hx => (mut_killR hx).1 (M1.dis x (.r j) k (mut_killR hx).2 (mut_r hr hq h1 h2))⟩
      rw [setRow_none_some] at M2
      refine ⟨w, ?_, E, ok1, M2, .refl _, fun k hk _ => ⟨rfl, hup k hk⟩, ⟨#[], rfl, .nil⟩⟩
      rw [hne]
      cases a' <;> simp [Builtin.clear_, run_und (und_elOf he)]
    · cases hκ : r.κ with
      | none => rw [hκ] at o5; simp only at o5; omega
      | some k =>
        rw [hκ] at o5
        simp only at o5
        obtain ⟨off, t0, c0, g1, g2, g3, g4⟩ := o5
        obtain ⟨ad, ha1, ha2⟩ := h4 (by omega)
        rw [g1] at ha1; cases ha1
        subst ha2
        rw [add_none]
        have hmul1 : lo * r.sz + (hi' - lo) * r.sz = hi' * r.sz := by rw [← Nat.add_mul]; congr 1; omega
        have hmul2 : hi' * r.sz ≤ r.cap * r.sz := Nat.mul_le_mul_right _ (by omega)
        have hone : ∀ u ∈ z.cells.toList, u.oneCell' = true := fun u hu => by
          obtain ⟨p, hp⟩ := List.getElem?_of_mem hu
          have hlt : p < cs.length := by rw [hv1.len]; exact (List.getElem?_eq_some_iff.mp hp).1
          obtain ⟨u', q1, q2⟩ := hv1.get p _ (List.getElem?_eq_getElem hlt)
          rw [hp] at q1; cases q1; exact q2.one
        obtain ⟨w', f1, f2, f3⟩ := run_clear_z (P := P) (w := w) (z := r.sz) (und_elOf he) (fun w => run_zero hi hz) (by rw [c2, hsr]) hone (b := k) (o := off + lo * r.sz) (n := hi' - lo) (by omega) g2 (by omega)
        have hZ : (Builtin.zeroCells z.cells (hi' - lo)).toList.length = (hi' - lo) * r.sz := by simp [Builtin.zeroCells, c2, hsr]
        have hm := M1.mine (.r j) k (mut_r hr hq how hκ)
        have hdd : ∀ x, mutAt (setRow (demotes σ zl) j none) E x ≠ some k := fun x hx => (mut_killR hx).1 (M1.dis x (.r j) k (mut_killR hx).2 (mut_r hr hq how hκ))
        obtain ⟨M2, kp⟩ := (M1.killR j).poke f2 hdd hm.1 hm.2.1
        have lt_of : ∀ a b c : Nat, a < b → c < r.sz → a * r.sz + c < b * r.sz := fun a b c h hz => by
          have : (a + 1) * r.sz ≤ b * r.sz := Nat.mul_le_mul_right _ h
          rw [Nat.add_mul] at this; omega
        have hrow : RowOk w' ok1 [] r { q with l := q.l.take lo ++ List.replicate (hi' - lo) cs ++ q.l.drop hi' } := by
          refine ⟨hR.1, ?_⟩
          simp only [how, if_true, hqf]
          refine ⟨hlen, o2, hwid, o4, ?_⟩
          simp only [hκ]
          refine ⟨off, t0, _, g1, f3, by rw [over_size (by omega)]; exact g3, fun p b el c hp hb => ?_⟩
          have hbl : b < r.sz := by rw [← hwid el (List.mem_of_getElem? hp)]; exact (List.getElem?_eq_some_iff.mp hb).1
          rw [over_get (by omega)]
          have htl : (q.l.take lo).length = lo := by simp; omega
          by_cases p1 : p < lo
          · rw [List.append_assoc, List.getElem?_append_left (by omega), List.getElem?_take, if_pos p1] at hp
            have := lt_of p lo b p1 hbl
            rw [if_neg (by omega)]
            obtain ⟨u, u1, u2⟩ := g4 p b el c hp hb
            exact ⟨u, u1, u2.keep kp⟩
          · by_cases p2 : p < hi'
            · rw [List.getElem?_append_left (by simp; omega), List.getElem?_append_right (by omega), htl] at hp
              have he2 := (List.mem_replicate.1 (List.mem_of_getElem? hp)).2
              subst he2
              have e3 : p * r.sz = lo * r.sz + (p - lo) * r.sz := by rw [← Nat.add_mul]; congr 1; omega
              have := lt_of (p - lo) (hi' - lo) b (by omega) hbl
              rw [if_pos (by omega)]
              obtain ⟨u, u1, u2⟩ := hv1.get b c hb
              refine ⟨u, ?_, u2.keep kp⟩
              rw [show off + (p * r.sz + b) - (off + lo * r.sz) = (p - lo) * z.cells.size + b by rw [c2, ← hsr]; omega, zeroCells_get (by omega) (by rw [c2, ← hsr]; exact hbl)]
              simpa using u1
            · rw [List.getElem?_append_right (by simp; omega), List.getElem?_drop] at hp
              rw [show hi' + (p - (q.l.take lo ++ List.replicate (hi' - lo) cs).length) = p by simp; omega] at hp
              have e3 : hi' * r.sz ≤ p * r.sz := Nat.mul_le_mul_right _ (by omega)
              rw [if_neg (by omega)]
              obtain ⟨u, u1, u2⟩ := g4 p b el c hp hb
              exact ⟨u, u1, u2.keep kp⟩
        have M3 := M2.setR (q := { q with l := q.l.take lo ++ List.replicate (hi' - lo) cs ++ q.l.drop hi' }) hr hqf hrow fun k' _ hk' => by
          rw [hκ] at hk'; cases hk'; exact ⟨hm.1, hm.2.1, hdd⟩
        rw [setRow_none_some] at M3
        exact ⟨w', f1 _ _, E, ok1, M3, .refl _, fun p hp hl => ⟨(kp p (hup p hp) hl).1, hup p hp⟩, ⟨#[], rfl, .nil⟩⟩
/-! where a function begins -/
def E00 : Env := ⟨[], [], fun _ => []⟩
theorem mut00 (x : Mt) (k : Nat) : mutAt st0 E00 x ≠ some k := by cases x <;> simp [mutAt, boxAt, rawAt, st0]
theorem mem00 {bs : List Nat} {okc : Nat → Prop} : Mem w ⟨(· ∈ bs), okc⟩ st0 E00 okc w :=
  ⟨⟨rfl, rfl, rfl, Nat.le_refl _, fun _ _ _ => rfl⟩, fun _ h => .inl h, rfl, rfl, by simp [E00], by simp [E00], fun x k h => absurd h (mut00 x k), fun x y k h => absurd h (mut00 x k)⟩
theorem free00 {bs : List Nat} {okc : Nat → Prop} (hnd : bs.Nodup) (hno : ∀ k ∈ bs, ¬ okc k) : Free w ⟨(· ∈ bs), okc⟩ okc st0 E00 bs := ⟨hnd, fun k hk => ⟨hno k hk, .inr hk, fun ⟨x, hx⟩ => mut00 x k hx⟩⟩
end Go.SX
