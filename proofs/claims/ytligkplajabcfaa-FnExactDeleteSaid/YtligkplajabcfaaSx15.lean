import Derived.Test.YtligkplajabcfaaSx14
set_option linter.unusedVariables false
set_option linter.unusedSimpArgs false
set_option linter.unusedSectionVars false
namespace Go.SX
variable {P : Program} {K : Cfg} {w w' w0 : World} {ok ok' : Nat → Prop} {E E' : Env} {B : Bd} {σ σ' : St}

def resSem (tmps : Array Value) : ResultVar → Sem Value
  | .tmp t => pure (tmps.getD t undef)
  | .cell c t => do loadVar t (← asAddr (tmps.getD c undef))
def outV : List Value → Value
  | [u] => u
  | vs => .tuple vs.toArray
theorem resVar_ok (M : Mem w0 B σ E ok w) {a : Act} (hT : Tmps w ok E σ a) {r : ResultVar} {x : T} (h : resVar P σ r = some x) :
    ∃ v, (resSem a.tmps r).run P w = .ok v w ∧ TRel w ok E x v := by
  cases r with
  | tmp t =>
    simp only [resVar, Option.some.injEq] at h
    subst h
    exact ⟨_, rfl, hT t⟩
  | cell c t =>
    simp only [resVar, Option.bind_eq_some_iff] at h
    obtain ⟨cs, hcs, n, hn, b, hb, h⟩ := h
    obtain ⟨ad, vs, e, h1, h2⟩ := cells_rel M (hT c) hcs
    have hrun : (resSem a.tmps (.cell c t)).run P w = (loadVar t ad).run P w := by simp only [resSem, e]; simp [asAddr]
    cases b with
    | true =>
      simp only [if_true] at h
      split at h
      · rename_i hle
        simp only [Option.some.injEq] at h
        subst h
        refine ⟨_, hrun.trans (run_loadVar ad vs hb hn h2 (fun _ => by rw [← h1.len]; exact hle) (by simp)), ?_⟩
        exact ⟨_, rfl, by simpa using h1.take n⟩
      · simp at h
    | false =>
      simp only [Bool.false_eq_true, if_false] at h
      cases h1 with
      | nil => simp at h
      | cons hh ht =>
        simp at h; subst h
        exact ⟨_, hrun.trans (run_loadVar ad _ hb hn h2 (by simp) (by simp)), hh.t⟩
theorem resVars_ok (M : Mem w0 B σ E ok w) {a : Act} (hT : Tmps w ok E σ a) : ∀ (rs : List ResultVar) (xs : List T), resVars P σ rs = some xs →
    ∃ vs, (rs.mapM (resSem a.tmps)).run P w = .ok vs w ∧ All2 (TRel w ok E) xs vs
  | [], xs, h => by simp [resVars] at h; subst h; exact ⟨[], rfl, .nil⟩
  | r :: rs, xs, h => by
    simp only [resVars, Option.bind_eq_some_iff, Option.map_eq_some_iff] at h
    obtain ⟨x, hx, xs', hxs, rfl⟩ := h
    obtain ⟨v, h1, h2⟩ := resVar_ok M hT hx
    obtain ⟨vs, h3, h4⟩ := resVars_ok M hT rs xs' hxs
    refine ⟨v :: vs, ?_, .cons h2 h4⟩
    rw [List.mapM_cons]
    simp only [Sem.run_bind, h1, Result.andThen_ok, h3]
    rfl
theorem results_ok (M : Mem w0 B σ E ok w) {a : Act} (hT : Tmps w ok E σ a) {fn : Func} {xs : List T} (h : resVars P σ fn.results.toList = some xs) :
    ∃ v vs, (results fn a.tmps).run P w = .ok v w ∧ All2 (TRel w ok E) xs vs ∧ v = outV vs := by
  obtain ⟨vs, h1, h2⟩ := resVars_ok M hT _ _ h
  refine ⟨_, vs, ?_, h2, rfl⟩
  have e : results fn a.tmps = (do let vs ← fn.results.mapM (resSem a.tmps); pure (if h : vs.size = 1 then vs[0] else .tuple vs)) := by
    unfold results
    congr 1
  rw [e, Array.mapM_eq_mapM_toList]
  simp only [Sem.run_bind, map_eq_pure_bind, h1, Result.andThen_ok, Sem.run_pure]
  rcases vs with _ | ⟨u, _ | ⟨u', vs⟩⟩ <;> simp [outV]

/-! what goes back -/
theorem backs_ok : ∀ (ls : List Lend) {σ σ' : St} {hs : List H} {xs : List (Option Cs)}, All2 (HRel E) ls hs → Mem w0 B σ E ok w → backs σ ls = some (xs, σ') →
    ∃ bs, BackRel w ok hs xs bs ∧ Given w0 B ok w E σ bs σ'
  | [], σ, σ', hs, xs, hl, M, h => by cases hl; simp [backs] at h; obtain ⟨rfl, rfl⟩ := h; exact ⟨[], .nil, .nil M⟩
  | .b b :: ls, σ, σ', hs, xs, hl, M, h => by
    cases hl with
    | cons hh hl =>
    rename_i h0 hs'
    cases h0 with
    | r r => exact hh.elim
    | b k =>
      simp only [backs, Option.bind_eq_some_iff, Option.map_eq_some_iff, Prod.mk.injEq] at h
      obtain ⟨l, hb, ⟨x, σ1⟩, h1, ⟨xs', σ2⟩, h2, rfl, rfl⟩ := h
      obtain ⟨t, cs, hc, hcl⟩ := M.box b k l hh hb
      have g0 := given_killB M hh hb
      obtain ⟨bs1, g1, r1⟩ := gives_ok l g0.1 hcl h1
      obtain ⟨bs2, r3, g2⟩ := backs_ok ls hl g1.1 h2
      exact ⟨_, .box t cs hc r1 r3, (g0.then g1).then g2⟩
  | .r i :: ls, σ, σ', hs, xs, hl, M, h => by
    cases hl with
    | cons hh hl =>
    rename_i h0 hs'
    cases h0 with
    | b k => exact hh.elim
    | r r =>
      simp only [backs] at h
      split at h
      · rename_i q hq
        split at h
        · rename_i ho
          simp only [Option.map_eq_some_iff, Prod.mk.injEq] at h
          obtain ⟨⟨xs', σ2⟩, h2, rfl, rfl⟩ := h
          obtain ⟨hz, hR⟩ := M.row i r q hh hq
          obtain ⟨b0, k1, k2, k3⟩ := M.ownX hh hq ho
          have g0 := given_killR M hh hq b0 k2 k3
          obtain ⟨bs2, r3, g2⟩ := backs_ok ls hl g0.1 h2
          refine ⟨_, ?_, g0.then g2⟩
          rw [hz]; exact .row k1 r3
        · simp at h
      · simp only [Option.map_eq_some_iff, Prod.mk.injEq] at h
        obtain ⟨⟨xs', σ2⟩, h2, rfl, rfl⟩ := h
        obtain ⟨bs2, r3, g2⟩ := backs_ok ls hl M h2
        exact ⟨_, .gone r3, g2⟩
theorem arg_of_cs {c : C × Option Sz} {v : Value} {bs : List Nat} (h : CsRel w ok [c] [v] bs) : ∃ hs, ∀ l vs hs' bs', ArgsRel w ok l vs hs' bs' → ArgsRel w ok (.c c.1 c.2 :: l) (v :: vs) (hs ++ hs') (bs ++ bs') := by
  cases h with
  | sh h h' => cases h'; exact ⟨[], fun l vs hs' bs' h2 => .sh h h2⟩
  | @own r d x b0 _ _ bs0 h h' => cases h'; exact ⟨[.r r], fun l vs hs' bs' h2 => by simpa using ArgsRel.own h h2⟩
theorem resV_ok (M : Mem w0 B σ E ok w) {x : T} {v : Value} {a : A} (hx : TRel w ok E x v) (h : resV σ x = some (a, σ')) :
    ∃ bs hs, Given w0 B ok w E σ bs σ' ∧ ∀ l vs hs' bs', ArgsRel w ok l vs hs' bs' → ArgsRel w ok (a :: l) (v :: vs) (hs ++ hs') (bs ++ bs') := by
  have one : ∀ c σ1, XRel w ok E x v → give σ x = some (c, σ1) → ∃ bs hs, Given w0 B ok w E σ bs σ1 ∧ ∀ l vs hs' bs', ArgsRel w ok l vs hs' bs' → ArgsRel w ok (.c c.1 c.2 :: l) (v :: vs) (hs ++ hs') (bs ++ bs') := by
    intro c σ1 hx hg
    obtain ⟨bs, g1, g2⟩ := give_ok M hx hg
    obtain ⟨hs, h3⟩ := arg_of_cs (by simpa using g2 [] [] [] .nil)
    exact ⟨bs, hs, g1, h3⟩
  cases x <;> simp only [resV, Option.map_eq_some_iff, Prod.mk.injEq, reduceCtorEq] at h
  case ag l =>
    obtain ⟨⟨cs, σ1⟩, h1, rfl, rfl⟩ := h
    obtain ⟨us, rfl, hus⟩ := hx
    obtain ⟨bs, g1, g2⟩ := gives_ok l M hus h1
    obtain ⟨hs2, g3⟩ := g2.hs
    exact ⟨bs, hs2, g1, fun l vs hs' bs' h2 => by simpa using ArgsRel.ag g3 h2⟩
  case bp b o =>
    split at h
    · rename_i ho
      subst ho
      simp only [Option.bind_eq_some_iff, Option.map_eq_some_iff, Prod.mk.injEq] at h
      obtain ⟨l, hb, ⟨x, σ1⟩, h1, rfl, rfl⟩ := h
      obtain ⟨k, hk, rfl⟩ := hx
      obtain ⟨t, cs, hc, hcl⟩ := M.box b k l hk hb
      have g0 := given_killB M hk hb
      obtain ⟨bs1, g1, r1⟩ := gives_ok l g0.1 hcl h1
      exact ⟨k :: bs1, [.b k], g0.then g1, fun l vs hs' bs' h2 => .p t cs hc r1 h2⟩
    · simp at h
  case c x => obtain ⟨⟨c, σ1⟩, h1, rfl, rfl⟩ := h; exact one c σ1 hx h1
  case nil => obtain ⟨⟨c, σ1⟩, h1, rfl, rfl⟩ := h; exact one c σ1 hx h1
  case row i => obtain ⟨⟨c, σ1⟩, h1, rfl, rfl⟩ := h; exact one c σ1 hx h1
  case sl i lo hi => obtain ⟨⟨c, σ1⟩, h1, rfl, rfl⟩ := h; exact one c σ1 hx h1
theorem resVs_ok : ∀ (xs : List T) {σ σ' : St} {vs : List Value} {l : List A}, Mem w0 B σ E ok w → All2 (TRel w ok E) xs vs → resVs σ xs = some (l, σ') →
    ∃ bs hs, Given w0 B ok w E σ bs σ' ∧ ArgsRel w ok l vs hs bs
  | [], σ, σ', vs, l, M, hx, h => by cases hx; simp [resVs] at h; obtain ⟨rfl, rfl⟩ := h; exact ⟨[], [], .nil M, .nil⟩
  | x :: xs, σ, σ', vs, l, M, hx, h => by
    cases hx with
    | cons hx hxs =>
      simp only [resVs, Option.bind_eq_some_iff, Option.map_eq_some_iff, Prod.mk.injEq] at h
      obtain ⟨⟨a, σ1⟩, h1, ⟨l', σ2⟩, h2, rfl, rfl⟩ := h
      obtain ⟨bs, hs, g1, g2⟩ := resV_ok M hx h1
      obtain ⟨bs', hs', g3, g4⟩ := resVs_ok xs g1.1 hxs h2
      exact ⟨_, _, g1.then g3, g2 _ _ _ _ g4⟩

/-! an empty row fits any size -/
theorem own_fit {r : RV} {s : Sz} (h : OwnAt w ok r []) (h0 : r.sz = 0) : OwnX w ok ⟨r.a, r.n, r.cap, s.1, none⟩ s.2 [] [] ∧ r.κ = none := by
  obtain ⟨h1, h2, h3, h4, h5⟩ := h
  have hκ := h4 h0
  simp only [hκ] at h5
  refine ⟨?_, hκ⟩
  obtain ⟨k, d⟩ := s
  cases d with
  | false => exact OwnAt.x (r := ⟨r.a, r.n, r.cap, k, none⟩) ⟨h1, h2, by simp, fun _ => rfl, h5⟩
  | true =>
    have hn : r.n = 0 := by simpa using h1.symm
    refine ⟨[], rfl, ?_, fun h => by simp at h⟩
    refine ⟨0, 0, #[], fun _ _ => default, fun _ _ => [], h1, h2, by simp, fun _ => rfl, fun _ => h5, fun k h => by simp at h, fun i j hi => ?_, fun i j el c h => by simp at h, fun b => ?_, fun i j hi => ?_, fun i j i' j' hi => ?_, List.nodup_nil⟩
    · exact absurd hi (by simp [hn])
    · simp
    · exact absurd hi (by simp [hn])
    · exact absurd hi (by simp [hn])
theorem fit_nil : ∀ l : Cs, fit l [] = l := by intro l; unfold fit; split <;> simp_all
theorem fit_ok {l : Cs} {vs : List Value} {bs : List Nat} (h : CsRel w ok l vs bs) : ∀ ss, CsRel w ok (fit l ss) vs bs := by
  induction h with
  | nil => intro ss; cases ss <;> exact .nil
  | @sh c v l vs bs h _ ih =>
    intro ss
    cases ss with
    | nil => rw [fit_nil]; exact .sh h (by assumption)
    | cons s ss =>
      have e : fit ((c, none) :: l) (s :: ss) = (c, none) :: fit l ss := by cases c with
        | s _ => rfl
        | r x => cases x <;> rfl
      rw [e]; exact .sh h (ih ss)
  | @own r d x b0 l vs bs h _ ih =>
    intro ss
    cases ss with
    | nil => rw [fit_nil]; exact .own h (by assumption)
    | cons s ss =>
      by_cases hc : x = [] ∧ r.sz = 0 ∧ d = false
      · obtain ⟨rfl, h0, rfl⟩ := hc
        obtain ⟨h1, rfl⟩ := h.flat
        obtain ⟨g1, g2⟩ := own_fit (s := s) h1 h0
        rw [h0, g2]
        exact .own (r := ⟨r.a, r.n, r.cap, s.1, none⟩) (d := s.2) g1 (ih ss)
      · have e : fit ((.r x, some (r.sz, d)) :: l) (s :: ss) = (.r x, some (r.sz, d)) :: fit l ss := by
          cases x with
          | cons _ _ => rfl
          | nil =>
            generalize hz : r.sz = z at hc ⊢
            cases z with
            | zero => cases d with
              | false => exact absurd ⟨rfl, rfl, rfl⟩ hc
              | true => rfl
            | succ z => rfl
        rw [e]; exact .own h (ih ss)
theorem fitAs_ok {l : List A} {vs : List Value} {hs : List H} {bs : List Nat} (h : ArgsRel w ok l vs hs bs) : ∀ ts, ∃ hs', ArgsRel w ok (fitAs P K l ts) vs hs' bs := by
  induction h with
  | nil => intro ts; cases ts <;> exact ⟨[], .nil⟩
  | @sh x v l vs hs bs h h' ih =>
    intro ts
    cases ts with
    | nil => exact ⟨_, .sh h h'⟩
    | cons t ts =>
      obtain ⟨hs', ih⟩ := ih ts
      simp only [fitAs, fitA]
      have := fit_ok (CsRel.sh h .nil : CsRel w ok [(x, none)] [v] []) (sizes P K 8 t)
      split
      · rename_i y o he
        rw [he] at this
        obtain ⟨hs2, h3⟩ := arg_of_cs this
        exact ⟨_, h3 _ _ _ _ ih⟩
      · exact ⟨_, .sh h ih⟩
  | @own r d x b0 l vs hs bs h h' ih =>
    intro ts
    cases ts with
    | nil => exact ⟨_, .own h h'⟩
    | cons t ts =>
      obtain ⟨hs', ih⟩ := ih ts
      simp only [fitAs, fitA]
      have := fit_ok (CsRel.own h .nil : CsRel w ok [(.r x, some (r.sz, d))] [.slice r.a r.n r.cap] (b0 ++ [])) (sizes P K 8 t)
      simp only [List.append_nil] at this
      split
      · rename_i y o he
        rw [he] at this
        obtain ⟨hs2, h3⟩ := arg_of_cs this
        exact ⟨_, h3 _ _ _ _ ih⟩
      · exact ⟨_, .own h ih⟩
  | @ag x us l vs hs hs' bs bs' h h' ih =>
    intro ts
    cases ts with
    | nil => exact ⟨_, .ag h h'⟩
    | cons t ts => obtain ⟨hs2, ih⟩ := ih ts; obtain ⟨hs3, h3⟩ := (fit_ok h.rel _).hs; exact ⟨_, .ag h3 ih⟩
  | p t cs h1 h2 h' ih =>
    intro ts
    cases ts with
    | nil => exact ⟨_, .p t cs h1 h2 h'⟩
    | cons t' ts => obtain ⟨hs', ih⟩ := ih ts; exact ⟨_, .p t cs h1 h2 ih⟩
  | f h h' ih =>
    intro ts
    cases ts with
    | nil => exact ⟨_, .f h h'⟩
    | cons t ts => obtain ⟨hs', ih⟩ := ih ts; exact ⟨_, .f h ih⟩
theorem rrel_out {l : List A} {vs : List Value} {hs : List H} {bs : List Nat} (h : ArgsRel w ok l vs hs bs) : RRel w ok (outA l) (outV vs) bs := by
  have len : l.length = vs.length := by
    induction h with
    | nil => rfl
    | _ => simp [*]
  rcases l with _ | ⟨a, _ | ⟨a', l⟩⟩
  · cases h; exact ⟨[], [], rfl, .nil⟩
  · rcases vs with _ | ⟨v, _ | ⟨v', vs⟩⟩
    · simp at len
    · cases a with
      | tu l => cases h
      | _ => exact ⟨hs, h⟩
    · simp at len
  · rcases vs with _ | ⟨v, _ | ⟨v', vs⟩⟩
    · simp at len
    · simp at len
    · exact ⟨_, hs, rfl, h⟩
theorem finish_ok (M : Mem w0 B σ E ok w) {a : Act} (hT : Tmps w ok E σ a) {fn : Func} {ls : List Lend} {hs : List H} (hl : All2 (HRel E) ls hs) {r : A} {back : List (Option Cs)} (h : finish P K fn ls σ = some (r, back)) :
    ∃ v bs0 bs1, (results fn a.tmps).run P w = .ok v w ∧ RRel w ok r v bs0 ∧ BackRel w ok hs back bs1 ∧ (bs0 ++ bs1).Nodup ∧ ∀ k ∈ bs0 ++ bs1, ¬ ok k ∧ (w0.heap.size ≤ k ∨ B.L k) := by
  simp only [finish, Option.bind_eq_some_iff, Option.map_eq_some_iff, Prod.mk.injEq] at h
  obtain ⟨xs, h1, ⟨rs, σ1⟩, h3, ⟨bk, σ2⟩, h2, rfl, rfl⟩ := h
  obtain ⟨v, vs, g1, g2, rfl⟩ := results_ok M hT h1
  obtain ⟨bs0, hs0, g5, g6⟩ := resVs_ok xs M g2 h3
  obtain ⟨bs1, g3, g4⟩ := backs_ok ls hl g5.1 h2
  obtain ⟨hs', g7⟩ := fitAs_ok (P := P) (K := K) g6 fn.resultTypes.toList
  have g8 := g5.then g4
  refine ⟨_, bs0, bs1, g1, rrel_out g7, g3, g8.2.1, fun k hk => ?_⟩
  obtain ⟨⟨x, hx⟩, _⟩ := g8.2.2.1 k hk
  have := M.mine x k hx
  exact ⟨this.1, this.2.1⟩

/-! a function -/
theorem gt_pad (n : Nat) (l : List T) (t : Nat) (h : l.length ≤ t) : gt (padT n l) t = .no := by
  have key : ∀ (m t : Nat), gt (List.replicate m .no) t = .no := by
    intro m
    induction m with
    | zero => intro t; rfl
    | succ m ih => intro t; cases t with
      | zero => rfl
      | succ t => exact ih t
  have app : ∀ (l r : List T) (t : Nat), l.length ≤ t → gt (l ++ r) t = gt r (t - l.length) := by
    intro l r
    induction l with
    | nil => intro t _; rfl
    | cons y l ih => intro t ht; cases t with
      | zero => simp at ht
      | succ t => simp only [List.cons_append, gt]; rw [ih t (by simpa using ht)]; simp
  unfold padT
  rw [app l _ t h, key]
theorem gt_some : ∀ (l : List T) (t : Nat) (x : T), l[t]? = some x → gt l t = x
  | y :: l, 0, x, h => by simpa [gt] using h
  | _ :: l, t + 1, x, h => gt_some l t x (by simpa using h)
theorem cs_fgt {l : Cs} {us : List Value} {hs : List H} {bs : List Nat} (h : CsH w ok l us hs bs) (hk : ∀ k, ok k → ok' k) (hb : ∀ k ∈ bs, ok' k) : CsH w ok' (l.map fun c => (c.1, none)) us [] [] := by
  induction h with
  | nil => exact .nil
  | sh h _ ih => exact .sh (h.keep fun k h _ => ⟨rfl, hk k h⟩) (ih hb)
  | own h _ ih => exact .sh (sh_holds (x_sh h hk fun k hk' => hb k (by simp [hk']))) (ih fun k h => hb k (by simp [h]))
theorem args_fgt {l : List A} {vs : List Value} {hs : List H} {bs : List Nat} (h : ArgsRel w ok l vs hs bs) (hq : l.all fgtQ = true) (hk : ∀ k, ok k → ok' k) (hb : ∀ k ∈ bs, ok' k) : ArgsRel w ok' (l.map fgt1) vs [] [] := by
  induction h with
  | nil => exact .nil
  | sh h _ ih => exact .sh (h.keep fun k h _ => ⟨rfl, hk k h⟩) (ih (by simpa [fgtQ] using hq) hb)
  | own h _ ih => exact .sh (sh_holds (x_sh h hk fun k hk' => hb k (by simp [hk']))) (ih (by simpa [fgtQ] using hq) fun k h => hb k (by simp [h]))
  | ag h _ ih => exact .ag (hs' := []) (bs := []) (cs_fgt h hk fun k h => hb k (by simp [h])) (ih (by simpa [fgtQ] using hq) fun k h => hb k (by simp [h]))
  | p => simp [fgtQ] at hq
  | f => simp [fgtQ] at hq
theorem rrel_fgt {r : A} {v : Value} {bs : List Nat} (h : RRel w ok r v bs) (hk : ∀ k, ok k → ok' k) (hb : ∀ k ∈ bs, ok' k) : fgtA r = r ∨ RRel w ok' (fgtA r) v [] := by
  cases r with
  | tu l =>
    simp only [fgtA]
    by_cases hq : l.all fgtQ = true
    · rw [if_pos hq]
      obtain ⟨vs, hs, h1, h2⟩ := h
      exact .inr ⟨vs, [], h1, args_fgt h2 hq hk hb⟩
    · rw [if_neg hq]; exact .inl rfl
  | c x o => obtain ⟨hs, h⟩ := h; exact .inr ⟨[], args_fgt h rfl hk hb⟩
  | ag l => obtain ⟨hs, h⟩ := h; exact .inr ⟨[], args_fgt h rfl hk hb⟩
  | p l => exact .inl rfl
  | f g l => exact .inl rfl
theorem ends_fgt {hs : List H} {bs : List Nat} {okc : Nat → Prop} {r : A} {back : List (Option Cs)} {v : Value} {w' : World} (h : Ends w hs bs okc r back v w') : Ends w hs bs okc (fgtA r) back v w' := by
  have h0 := h
  obtain ⟨ok', bs0, bs1, h1, h2, h3, h4, h5, h6, h7⟩ := h
  rcases rrel_fgt (ok' := fun k => ok' k ∨ k ∈ bs0) h4 (fun k h => .inl h) (fun k h => .inr h) with e | h8
  · rw [e]; exact h0
  · refine ⟨_, [], bs1, h1, fun k a b => ⟨(h2 k a b).1, .inl (h2 k a b).2⟩, fun k h => ?_, h8, h5.up (fun k h _ => ⟨rfl, .inl h⟩) (fun _ _ => rfl), (List.nodup_append.1 h6).2.1, fun k h => ?_⟩
    · rcases h with h | h
      · exact h3 k h
      · exact .inr (h7 k (List.mem_append_left _ h)).2
    · have h := List.mem_append_right bs0 (by simpa using h)
      refine ⟨fun h' => ?_, (h7 k h).2⟩
      rcases h' with h' | h'
      · exact (h7 k h).1 h'
      · rename_i hm
        exact (List.nodup_append.1 h6).2.2 k h' k (by simpa using hm) rfl
theorem evF_ok (P : Program) (K : FuncId → Cfg) (okf : FuncId → Bool) (pr : FuncId → Option (List A → Option (A × List (Option Cs)))) (hpr : ∀ f g, pr f = some g → FOk P f g) (hdr : ∀ F f, (∀ g, FOk P g (F g)) → DrawOk P (K f) F) : ∀ (k : Nat) (f : FuncId), FOk P f (evF P K okf pr k f)
  | 0, f => fun xs r back h => by simp [evF] at h
  | k + 1, f => fun xs r back h => by
    have ih := evF_ok P K okf pr hpr hdr k
    simp only [evF] at h
    split at h
    · rename_i g hg; exact hpr f g hg xs r back h
    · split at h
      · simp only [Option.bind_eq_some_iff] at h
        obtain ⟨fn, hfn, body, hbody, h⟩ := h
        split at h
        · rename_i hc
          obtain ⟨r0, h, hr0⟩ := Option.map_eq_some_iff.1 h
          simp only [Option.bind_eq_some_iff] at h
          obtain ⟨⟨ex, σ⟩, hev, h⟩ := h
          obtain ⟨r1, back1⟩ := r0
          intro w vs hs bs okc hA hnd hno
          refine .inl ⟨fn, hfn, hc.1, by rw [hbody]; rfl, calls_of_wp hfn hbody ?_⟩
          -- as it begins
          have M0 : Mem w ⟨(· ∈ bs), okc⟩ st0 E00 okc w := mem00
          have hfree : Free w ⟨(· ∈ bs), okc⟩ okc st0 E00 bs := free00 hnd hno
          obtain ⟨E1, ⟨M1, _, _, _⟩, h2, h3⟩ := tellVs_ok hA M0 hfree
          have hlen : (tellVs st0 xs).1.length = vs.length := h2.len
          have hxl : xs.length = vs.length := by
            have : ∀ (l : List A) (σ : St), (tellVs σ l).1.length = l.length := by
              intro l
              induction l with
              | nil => intro σ; rfl
              | cons a l ih => intro σ; simp [tellVs, ih]
            rw [← hlen, this]
          have hT0 : Tmps w okc E1 { (tellVs st0 xs).2 with ts := padT fn.ntmps (tellVs st0 xs).1 } { tmps := vs.toArray ++ Array.replicate (fn.ntmps - vs.toArray.size) undef, defers := [] } := by
            intro t
            by_cases ht : t < vs.length
            · have hx : (tellVs st0 xs).1[t]? = some ((tellVs st0 xs).1[t]'(by omega)) := List.getElem?_eq_getElem _
              obtain ⟨v, hv, hr⟩ := h2.get t _ hx
              have e1 : (vs.toArray ++ Array.replicate (fn.ntmps - vs.toArray.size) undef).getD t undef = v := by
                rw [Array.getD_eq_getD_getElem?, Array.getElem?_append_left (by simpa using ht)]
                simp [hv]
              show TRel w okc E1 (gt (padT fn.ntmps (tellVs st0 xs).1) t) _
              rw [gt_some (padT fn.ntmps (tellVs st0 xs).1) t _ (by unfold padT; rw [List.getElem?_append_left (by omega)]; exact hx)]
              show TRel w okc E1 _ ((vs.toArray ++ Array.replicate (fn.ntmps - vs.toArray.size) undef).getD t undef)
              rw [e1]; exact hr.t
            · show TRel w okc E1 (gt (padT fn.ntmps (tellVs st0 xs).1) t) _
              rw [gt_pad _ _ _ (by omega)]; trivial
          have I0 : Inv w ⟨(· ∈ bs), okc⟩ E1 fn.ntmps { (tellVs st0 xs).2 with ts := padT fn.ntmps (tellVs st0 xs).1 } { tmps := vs.toArray ++ Array.replicate (fn.ntmps - vs.toArray.size) undef, defers := [] } w :=
            ⟨⟨E1, okc, M1.ts _, hT0, .refl _, fun _ h _ => ⟨rfl, h⟩⟩, by simp; omega, rfl⟩
          refine (evC_ok ih (hdr _ f ih) k body I0 hev fun a' w' I' => ?_).1
          obtain ⟨⟨E', ok', M', hT', hE', hk'⟩, _, hd'⟩ := I'
          have hfin : ex ≠ .exit 0 ∨ True → finish P (K f) fn (lentOf true (tellVs st0 xs).1) σ = some (r1, back1) := fun _ => by cases ex <;> simp [endC] at h <;> exact h
          obtain ⟨v, bs0, bs1, g1, g2, g3, g4, g5⟩ := finish_ok M' hT' (h3.imp fun _ _ h => h.le hE') (hfin (.inr trivial))
          have hend0 : Ends w hs bs okc r1 back1 v w' := ⟨ok', bs0, bs1, M'.fr, hk', fun k hk => (M'.okin k hk).elim .inl fun h => h.elim (fun h => .inr (.inr h)) fun h => .inr (.inl h), g2, g3, g4, fun k hk => ⟨(g5 k hk).1, (g5 k hk).2.symm⟩⟩
          have hend : Ends w hs bs okc r back v w' := by
            unfold fgt at hr0
            split at hr0
            · obtain ⟨rfl, rfl⟩ := Prod.mk.inj hr0; exact ends_fgt hend0
            · obtain ⟨rfl, rfl⟩ := Prod.mk.inj hr0; exact hend0
          cases ex with
          | exit i => simp [endC] at h
          | normal => exact ⟨hd', v, g1, hend⟩
          | ret => exact ⟨hd', v, g1, hend⟩
        · simp at h
      · simp at h
end Go.SX
