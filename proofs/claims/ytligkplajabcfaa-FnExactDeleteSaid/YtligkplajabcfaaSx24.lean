import Derived.Test.YtligkplajabcfaaSx23
set_option linter.unusedVariables false
set_option linter.unusedSimpArgs false
set_option linter.unusedSectionVars false
set_option linter.unusedVariables false
set_option linter.unusedSimpArgs false
namespace Go.SX
variable {P : Program} {K : Cfg} {F : Fun} {f : Rn} {σ τ : St}

def Rn.l (f : Rn) : Lend → Lend
  | .b b => .b (f.b b)
  | .r i => .r (f.r i)
def InL (f : Rn) : Lend → Prop
  | .b b => b < f.nb
  | .r i => i < f.nr
theorem l_inj {f : Rn} (H : HR f σ τ) {x y : Lend} (hx : InL f x) (hy : InL f y) (e : f.l x = f.l y) : x = y := by
  cases x <;> cases y <;> simp only [Rn.l, Lend.b.injEq, Lend.r.injEq, reduceCtorEq] at e
  · rw [H.bi _ _ hx hy e]
  · rw [H.ri _ _ hx hy e]
theorem wid_l {f g : Rn} (e : Wid f g) {x : Lend} (hx : InL f x) : g.l x = f.l x := by
  cases x
  · simp only [Rn.l, e.b _ hx]
  · simp only [Rn.l, e.r _ hx]
theorem wid_in {f g : Rn} (e : Wid f g) {x : Lend} (hx : InL f x) : InL g x := by
  cases x
  · exact Nat.lt_of_lt_of_le hx e.nb
  · exact Nat.lt_of_lt_of_le hx e.nr
theorem lendAll_sim : ∀ (ls : List Lend) {σ τ : St}, HR f σ τ → (∀ x ∈ ls, InL f x) → ∀ {cs σ'}, lendAll σ ls = some (cs, σ') → ∃ τ', lendAll τ (ls.map f.l) = some (cs, τ') ∧ HR f σ' τ'
  | [], σ, τ, H, _, cs, σ', h => by simp only [lendAll, Option.some.injEq, Prod.mk.injEq] at h; obtain ⟨rfl, rfl⟩ := h; exact ⟨τ, rfl, H⟩
  | .b b :: ls, σ, τ, H, hin, cs, σ', h => by
    simp only [lendAll, Option.bind_eq_some_iff, Option.map_eq_some_iff] at h
    obtain ⟨l, h1, ⟨x, σ1⟩, h2, ⟨xs, σ2⟩, h3, h4⟩ := h
    simp only [Prod.mk.injEq] at h4; obtain ⟨rfl, rfl⟩ := h4
    obtain ⟨m, g1, t1⟩ := H.box b l h1
    obtain ⟨τ1, g2, H1⟩ := gives_sim (setBoxN_sim H (hin (.b b) (by simp))) t1 h2
    obtain ⟨τ2, g3, H2⟩ := lendAll_sim ls H1 (fun x hx => hin x (by simp [hx])) h3
    exact ⟨τ2, by simp only [List.map_cons, Rn.l, lendAll, g1, Option.bind_some, g2, g3, Option.map_some], H2⟩
  | .r i :: ls, σ, τ, H, hin, cs, σ', h => by
    simp only [lendAll, Option.bind_eq_some_iff] at h
    obtain ⟨q, h1, h2⟩ := h
    have hi : i < f.nr := hin (.r i) (by simp)
    split at h2
    · rename_i ho
      simp only [Option.map_eq_some_iff] at h2
      obtain ⟨⟨xs, σ2⟩, h3, h4⟩ := h2
      simp only [Prod.mk.injEq] at h4; obtain ⟨rfl, rfl⟩ := h4
      obtain ⟨τ2, g3, H2⟩ := lendAll_sim ls (setRow_sim H hi none) (fun x hx => hin x (by simp [hx])) h3
      exact ⟨τ2, by simp only [List.map_cons, Rn.l, lendAll, H.row i hi, h1, Option.bind_some, ho, if_true, g3, Option.map_some], H2⟩
    · simp at h2
theorem takeAll_sim : ∀ (ls : List Lend) (cs : List (Option Cs)) {f : Rn} {σ τ : St}, HR f σ τ → (∀ x ∈ ls, InL f x) → ∀ {σ'}, takeAll σ ls cs = some σ' → ∃ f' τ', takeAll τ (ls.map f.l) cs = some τ' ∧ HR f' σ' τ' ∧ Wid f f'
  | [], [], f, σ, τ, H, _, σ', h => by simp only [takeAll, Option.some.injEq] at h; subst h; exact ⟨f, τ, rfl, H, .refl f⟩
  | .b b :: ls, some c :: cs, f, σ, τ, H, hin, σ', h => by
    simp only [takeAll] at h
    obtain ⟨f1, H1, e1, t1⟩ := tells_sim c H
    have hb : b < f.nb := hin (.b b) (by simp)
    have H2 := setBox_sim H1 (Nat.lt_of_lt_of_le hb e1.nb) t1
    rw [e1.b b hb] at H2
    obtain ⟨f3, τ3, g3, H3, e3⟩ := takeAll_sim ls cs H2 (fun x hx => wid_in e1 (hin x (by simp [hx]))) h
    refine ⟨f3, τ3, ?_, H3, e1.trans e3⟩
    rw [List.map_congr_left (fun x hx => wid_l e1 (hin x (by simp [hx])))] at g3
    exact g3
  | .r i :: ls, some [(.r x, some s)] :: cs, f, σ, τ, H, hin, σ', h => by
    simp only [takeAll] at h
    obtain ⟨f3, τ3, g3, H3, e3⟩ := takeAll_sim ls cs (setRow_sim H (hin (.r i) (by simp)) (some ⟨s.1, x, true, .of s.2⟩)) (fun x hx => hin x (by simp [hx])) h
    exact ⟨f3, τ3, g3, H3, e3⟩
  | .r i :: ls, none :: cs, f, σ, τ, H, hin, σ', h => by
    simp only [takeAll] at h
    obtain ⟨f3, τ3, g3, H3, e3⟩ := takeAll_sim ls cs H (fun x hx => hin x (by simp [hx])) h
    exact ⟨f3, τ3, g3, H3, e3⟩
  | [], _ :: _, _, _, _, _, _, _, h => by simp [takeAll] at h
  | .b _ :: _, [], _, _, _, _, _, _, h => by simp [takeAll] at h
  | .b _ :: _, none :: _, _, _, _, _, _, _, h => by simp [takeAll] at h
  | .r _ :: _, [], _, _, _, _, _, _, h => by simp [takeAll] at h
  | .r _ :: _, some [] :: _, _, _, _, _, _, _, h => by simp [takeAll] at h
  | .r _ :: _, some [(.s _, _)] :: _, _, _, _, _, _, _, h => by simp [takeAll] at h
  | .r _ :: _, some [(.r _, none)] :: _, _, _, _, _, _, _, h => by simp [takeAll] at h
  | .r _ :: _, some (_ :: _ :: _) :: _, _, _, _, _, _, _, h => by simp [takeAll] at h
theorem seenC_sim (H : HR f σ τ) {x y : T} (h : TR f x y) : TR f (seenC σ x) (seenC τ y) := by
  cases h <;> simp only [seenC]
  · exact .no _
  · exact .c _
  · exact .nil
  · rename_i i hi
    rw [H.row i hi]
    split
    · split
      · exact .row i hi
      · exact .c _
    · exact .row i hi
  · exact .sl _ _ _ (by assumption)
  · exact .bp _ _ (by assumption)
  · exact .rp _ _ _ (by assumption)
  · exact .cp _ _
  · exact .ag (by assumption)
  · exact .tu (by assumption)
  · exact .fn _ _ (by assumption)
theorem seenCs_sim (H : HR f σ τ) : ∀ {l m : List T}, All2 (TR f) l m → All2 (TR f) (l.map (seenC σ)) (m.map (seenC τ))
  | _, _, .nil => .nil
  | _, _, .cons h t => .cons (seenC_sim H h) (seenCs_sim H t)
theorem seen1_sim (H : HR f σ τ) (md : Bool) {x y : T} (h : TR f x y) : TR f (seen1 md σ x) (seen1 md τ y) := by
  cases h <;> simp only [seen1]
  · exact .no _
  · exact .c _
  · exact .nil
  · rename_i i hi
    rw [H.row i hi]
    split
    · split
      · exact .c _
      · exact .row i hi
    · exact .row i hi
  · exact .sl _ _ _ (by assumption)
  · exact .bp _ _ (by assumption)
  · exact .rp _ _ _ (by assumption)
  · exact .cp _ _
  · rename_i hl
    split
    · exact .ag (seenCs_sim H hl)
    · exact .ag hl
  · exact .tu (by assumption)
  · exact .fn _ _ (by assumption)
theorem agA_sim (H : HR f σ τ) : ∀ {l m : List T}, All2 (TR f) l m → ∀ {cs p}, agA σ l cs = some p → agA τ m cs = some p ∧ ∀ x ∈ l, x ≠ .no
  | _, _, .nil, cs, p, h => ⟨h, by simp⟩
  | x :: l, _ :: m, .cons hx t, cs, p, h => by
    have plain : ∀ {y : T}, TR f x y → ((view σ x).bind fun c => (agA σ l cs).map fun p => ((c, none) :: p.1, p.2)) = some p → ((view τ y).bind fun c => (agA τ m cs).map fun p => ((c, none) :: p.1, p.2)) = some p ∧ ∀ y ∈ x :: l, y ≠ .no := by
      intro y hx h
      simp only [Option.bind_eq_some_iff, Option.map_eq_some_iff] at h ⊢
      obtain ⟨c, h1, l1, h2, h3⟩ := h
      obtain ⟨g1, g2⟩ := agA_sim H t h2
      refine ⟨⟨c, view_sim H hx h1, l1, g1, h3⟩, fun z hz => ?_⟩
      rcases List.mem_cons.1 hz with rfl | hz
      · exact view_no h1
      · exact g2 z hz
    cases hx with
    | no y => simp [agA, view, elems] at h
    | row i hi =>
      simp only [agA] at h ⊢
      split at h
      · simp only [Option.map_eq_some_iff] at h ⊢
        obtain ⟨l1, h2, h3⟩ := h
        obtain ⟨g1, g2⟩ := agA_sim H t h2
        refine ⟨⟨l1, g1, h3⟩, fun z hz => ?_⟩
        rcases List.mem_cons.1 hz with rfl | hz
        · simp
        · exact g2 z hz
      · simp at h
    | c x => exact plain (.c x) (by simpa [agA] using h)
    | nil => exact plain .nil (by simpa [agA] using h)
    | sl i lo hi hh => exact plain (.sl i lo hi hh) (by simpa [agA] using h)
    | rp i k o hh => exact plain (.rp i k o hh) (by simpa [agA] using h)
    | cp l o => exact plain (.cp l o) (by simpa [agA] using h)
    | bp b o hh => exact plain (.bp b o hh) (by simpa [agA] using h)
    | ag hh => exact plain (.ag hh) (by simpa [agA] using h)
    | tu hh => exact plain (.tu hh) (by simpa [agA] using h)
    | fn g bs hh => exact plain (.fn g bs hh) (by simpa [agA] using h)
theorem seens_sim (H : HR f σ τ) (md : Bool) {l m : List T} (h : All2 (TR f) l m) : All2 (TR f) (l.map (seen1 md σ)) (m.map (seen1 md τ)) := by
  induction h with
  | nil => exact .nil
  | cons h _ ih => exact .cons (seen1_sim H md h) ih
theorem argsA_sim (H : HR f σ τ) (md : Bool) : ∀ {l m : List T}, All2 (TR f) l m → ∀ {cs xs}, argsA md σ l cs = some xs → argsA md τ m cs = some xs ∧ (∀ x ∈ l, x ≠ .no) ∧ (∀ x l', x = .ag l' → x ∈ l → ∀ y ∈ l', y ≠ .no)
  | _, _, .nil, cs, xs, h => ⟨by cases cs with | nil => exact h | cons _ _ => simp [argsA] at h, by simp, by simp⟩
  | x :: l, _ :: m, .cons hx t, cs, xs, h => by
    have done : ∀ {a : List T} {cs' : List Cs} {xs'}, argsA md σ l cs' = some xs' → argsA md τ m cs' = some xs' ∧ (∀ x ∈ l, x ≠ .no) ∧ (∀ x l', x = .ag l' → x ∈ l → ∀ y ∈ l', y ≠ .no) := fun h => argsA_sim H md t h
    have plain : ∀ {y : T}, TR f x y → (∀ l', x ≠ .ag l') → ((view σ x).bind fun c => (argsA md σ l cs).map (A.c c none :: ·)) = some xs → ((view τ y).bind fun c => (argsA md τ m cs).map (A.c c none :: ·)) = some xs ∧ (∀ y ∈ x :: l, y ≠ .no) ∧ (∀ y l', y = .ag l' → y ∈ x :: l → ∀ z ∈ l', z ≠ .no) := by
      intro y hx hag h
      simp only [Option.bind_eq_some_iff, Option.map_eq_some_iff] at h ⊢
      obtain ⟨c, h1, l1, h2, h3⟩ := h
      obtain ⟨g1, g2, g3⟩ := done (a := []) h2
      refine ⟨⟨c, view_sim H hx h1, l1, g1, h3⟩, fun z hz => ?_, fun z l' e hz => ?_⟩
      · rcases List.mem_cons.1 hz with rfl | hz
        · exact view_no h1
        · exact g2 z hz
      · rcases List.mem_cons.1 hz with rfl | hz
        · exact absurd e (hag l')
        · exact g3 z l' e hz
    cases hx with
    | no y => simp [argsA, view, elems] at h
    | c x => exact plain (.c x) (by simp) (by simpa [argsA] using h)
    | nil => exact plain .nil (by simp) (by simpa [argsA] using h)
    | sl i lo hi hh => exact plain (.sl i lo hi hh) (by simp) (by simpa [argsA] using h)
    | rp i k o hh => exact plain (.rp i k o hh) (by simp) (by simpa [argsA] using h)
    | cp l o => exact plain (.cp l o) (by simp) (by simpa [argsA] using h)
    | tu hh => exact plain (.tu hh) (by simp) (by simpa [argsA] using h)
    | row i hi =>
      simp only [argsA] at h ⊢
      split at h
      · rename_i hm
        rw [if_pos hm]
        split at h
        · simp only [Option.map_eq_some_iff] at h ⊢
          obtain ⟨l1, h2, h3⟩ := h
          obtain ⟨g1, g2, g3⟩ := done (a := []) h2
          refine ⟨⟨l1, g1, h3⟩, fun z hz => ?_, fun z l' e hz => ?_⟩
          · rcases List.mem_cons.1 hz with rfl | hz
            · simp
            · exact g2 z hz
          · rcases List.mem_cons.1 hz with rfl | hz
            · simp at e
            · exact g3 z l' e hz
        · simp at h
      · rename_i hm
        rw [if_neg hm]
        exact plain (.row i hi) (by simp) h
    | bp b o hb =>
      cases cs with
      | nil => simp [argsA, view, elems] at h
      | cons c cs =>
        simp only [argsA] at h ⊢
        split at h
        · rename_i ho
          rw [if_pos ho]
          simp only [Option.map_eq_some_iff] at h ⊢
          obtain ⟨l1, h2, h3⟩ := h
          obtain ⟨g1, g2, g3⟩ := done (a := []) h2
          refine ⟨⟨l1, g1, h3⟩, fun z hz => ?_, fun z l' e hz => ?_⟩
          · rcases List.mem_cons.1 hz with rfl | hz
            · simp
            · exact g2 z hz
          · rcases List.mem_cons.1 hz with rfl | hz
            · simp at e
            · exact g3 z l' e hz
        · simp at h
    | fn g bs hb =>
      simp only [argsA, List.length_map] at h ⊢
      split at h
      · rename_i ho
        rw [if_pos ho]
        simp only [Option.map_eq_some_iff] at h ⊢
        obtain ⟨l1, h2, h3⟩ := h
        obtain ⟨g1, g2, g3⟩ := done (a := []) h2
        refine ⟨⟨l1, g1, h3⟩, fun z hz => ?_, fun z l' e hz => ?_⟩
        · rcases List.mem_cons.1 hz with rfl | hz
          · simp
          · exact g2 z hz
        · rcases List.mem_cons.1 hz with rfl | hz
          · simp at e
          · exact g3 z l' e hz
      · simp at h
    | ag hl =>
      cases md with
      | true =>
        simp only [argsA, if_true, Option.bind_eq_some_iff, Option.map_eq_some_iff] at h ⊢
        obtain ⟨p, h1, l1, h2, h3⟩ := h
        obtain ⟨k1, k2⟩ := agA_sim H hl h1
        obtain ⟨g1, g2, g3⟩ := done (a := []) h2
        refine ⟨⟨p, k1, l1, g1, h3⟩, fun z hz => ?_, fun z l' e hz => ?_⟩
        · rcases List.mem_cons.1 hz with rfl | hz
          · simp
          · exact g2 z hz
        · rcases List.mem_cons.1 hz with rfl | hz
          · simp only [T.ag.injEq] at e
            subst e
            exact k2
          · exact g3 z l' e hz
      | false =>
      simp only [argsA, Bool.false_eq_true, if_false, Option.bind_eq_some_iff, Option.map_eq_some_iff] at h ⊢
      obtain ⟨c, h1, l1, h2, h3⟩ := h
      obtain ⟨g1, g2, g3⟩ := done (a := []) h2
      refine ⟨⟨c, views_sim H hl h1, l1, g1, h3⟩, fun z hz => ?_, fun z l' e hz => ?_⟩
      · rcases List.mem_cons.1 hz with rfl | hz
        · simp
        · exact g2 z hz
      · rcases List.mem_cons.1 hz with rfl | hz
        · simp only [T.ag.injEq] at e
          subst e
          exact views_no h1
        · exact g3 z l' e hz
theorem agLent_sim : ∀ {l m : List T}, All2 (TR f) l m → (∀ x ∈ l, x ≠ .no) → agLent m = (agLent l).map f.l ∧ ∀ x ∈ agLent l, InL f x
  | _, _, .nil, _ => ⟨rfl, by simp [agLent]⟩
  | x :: l, _ :: m, .cons hx t, hn => by
    obtain ⟨ih, ih2⟩ := agLent_sim t fun x hx => hn x (by simp [hx])
    cases hx with
    | no y => exact absurd rfl (hn .no (by simp))
    | row i hi =>
      simp only [agLent, ih, List.map_cons, Rn.l, true_and]
      intro x hx
      rcases List.mem_cons.1 hx with rfl | hx
      · exact hi
      · exact ih2 x hx
    | _ => simp only [agLent]; exact ⟨ih, ih2⟩
theorem lentOf_sim (md : Bool) : ∀ {l m : List T}, All2 (TR f) l m → (∀ x ∈ l, x ≠ .no) → (md = true → ∀ x l', x = .ag l' → x ∈ l → ∀ y ∈ l', y ≠ .no) → lentOf md m = (lentOf md l).map f.l ∧ ∀ x ∈ lentOf md l, InL f x
  | _, _, .nil, _, _ => ⟨rfl, by simp [lentOf]⟩
  | x :: l, _ :: m, .cons hx t, hn, ha => by
    obtain ⟨ih, ih2⟩ := lentOf_sim md t (fun x hx => hn x (by simp [hx])) fun hm x l' e hx => ha hm x l' e (by simp [hx])
    cases hx with
    | no y => exact absurd rfl (hn .no (by simp))
    | bp b o hb =>
      simp only [lentOf, ih, List.map_cons, Rn.l, true_and]
      intro x hx
      rcases List.mem_cons.1 hx with rfl | hx
      · exact hb
      · exact ih2 x hx
    | fn g bs hb =>
      simp only [lentOf, ih, List.map_append, List.map_map]
      refine ⟨by congr 1, fun x hx => ?_⟩
      rcases List.mem_append.1 hx with hx | hx
      · obtain ⟨b, h1, rfl⟩ := List.mem_map.1 hx
        exact hb b h1
      · exact ih2 x hx
    | row i hi =>
      cases md with
      | true =>
        simp only [lentOf, ih, if_true, List.map_cons, Rn.l, true_and]
        intro x hx
        rcases List.mem_cons.1 hx with rfl | hx
        · exact hi
        · exact ih2 x hx
      | false => simp only [lentOf, Bool.false_eq_true, if_false]; exact ⟨ih, ih2⟩
    | ag hl =>
      cases md with
      | true =>
        obtain ⟨k1, k2⟩ := agLent_sim hl (ha rfl _ _ rfl (by simp))
        simp only [lentOf, ih, if_true, k1, List.map_append, true_and]
        intro x hx
        rcases List.mem_append.1 hx with hx | hx
        · exact k2 x hx
        · exact ih2 x hx
      | false => simp only [lentOf, Bool.false_eq_true, if_false]; exact ⟨ih, ih2⟩
    | _ => simp only [lentOf]; exact ⟨ih, ih2⟩
theorem seenRows_sim : ∀ {l m : List T}, All2 (TR f) l m → (∀ x ∈ l, x ≠ .no) → (∀ x l', x = .ag l' → x ∈ l → ∀ y ∈ l', y ≠ .no) → All2 (TR f) (seenRows l) (seenRows m) ∧ ∀ x ∈ seenRows l, x ≠ .no
  | _, _, .nil, _, _ => ⟨.nil, by simp [seenRows]⟩
  | x :: l, _ :: m, .cons hx t, hn, ha => by
    obtain ⟨ih, ih2⟩ := seenRows_sim t (fun x hx => hn x (by simp [hx])) fun x l' e hx => ha x l' e (by simp [hx])
    have one : ∀ {y : T}, TR f x y → All2 (TR f) (x :: seenRows l) (y :: seenRows m) ∧ ∀ z ∈ x :: seenRows l, z ≠ .no := fun h => ⟨.cons h ih, fun z hz => by
      rcases List.mem_cons.1 hz with rfl | hz
      · exact hn _ (by simp)
      · exact ih2 z hz⟩
    cases hx with
    | no y => exact absurd rfl (hn .no (by simp))
    | ag h =>
      refine ⟨h.append ih, fun z hz => ?_⟩
      simp only [seenRows] at hz
      rcases List.mem_append.1 hz with hz | hz
      · exact ha _ _ rfl (by simp) z hz
      · exact ih2 z hz
    | c x => exact one (.c x)
    | nil => exact one .nil
    | row i h => exact one (.row i h)
    | sl i lo hi h => exact one (.sl i lo hi h)
    | bp b o h => exact one (.bp b o h)
    | rp i k o h => exact one (.rp i k o h)
    | cp l o => exact one (.cp l o)
    | tu h => exact one (.tu h)
    | fn g bs h => exact one (.fn g bs h)
theorem tellVs_sim : ∀ (l : List A) {f : Rn} {σ τ : St}, HR f σ τ → ∃ f', HR f' (tellVs σ l).2 (tellVs τ l).2 ∧ Wid f f' ∧ All2 (TR f') (tellVs σ l).1 (tellVs τ l).1
  | [], f, σ, τ, H => ⟨f, H, .refl f, .nil⟩
  | a :: l, f, σ, τ, H => by
    obtain ⟨f1, H1, e1, t1⟩ := tellV_sim H a
    obtain ⟨f2, H2, e2, t2⟩ := tellVs_sim l H1
    exact ⟨f2, H2, e1.trans e2, .cons (TR.ext e2 _ t1) t2⟩
theorem tellA_sim (H : HR f σ τ) (a : A) : ∃ f', HR f' (tellA σ a).2 (tellA τ a).2 ∧ Wid f f' ∧ TR f' (tellA σ a).1 (tellA τ a).1 := by
  cases a with
  | tu l => obtain ⟨f', h1, h2, h3⟩ := tellVs_sim l H; exact ⟨f', h1, h2, .tu h3⟩
  | c x o => exact tellV_sim H _
  | ag l => exact tellV_sim H _
  | p l => exact tellV_sim H _
  | f g l => exact tellV_sim H _
theorem argsA_no {md : Bool} {σ' : St} : ∀ (l : List T) {cs xs}, argsA md σ' l cs = some xs → ∀ x ∈ l, x ≠ .no := by
  intro l
  induction l with
  | nil => intro _ _ _ x hx; simp at hx
  | cons y l ih =>
    intro cs xs h x hx
    rcases List.mem_cons.1 hx with rfl | hx2
    · rintro rfl; simp [argsA, view, elems] at h
    · cases y <;> try simp only [argsA] at h
      case bp b o =>
        cases cs with
        | nil => simp [argsA, view, elems] at h
        | cons c cs =>
          simp only [argsA] at h
          split at h
          · obtain ⟨_, h, _⟩ := Option.map_eq_some_iff.1 h; exact ih h x hx2
          · simp at h
      case fn g bs =>
        split at h
        · obtain ⟨_, h, _⟩ := Option.map_eq_some_iff.1 h; exact ih h x hx2
        · simp at h
      case ag l =>
        split at h
        · obtain ⟨_, _, h⟩ := Option.bind_eq_some_iff.1 h
          obtain ⟨_, h, _⟩ := Option.map_eq_some_iff.1 h; exact ih h x hx2
        · obtain ⟨_, _, h⟩ := Option.bind_eq_some_iff.1 h
          obtain ⟨_, h, _⟩ := Option.map_eq_some_iff.1 h; exact ih h x hx2
      case row i =>
        split at h
        · split at h
          · obtain ⟨_, h, _⟩ := Option.map_eq_some_iff.1 h; exact ih h x hx2
          · simp at h
        · obtain ⟨_, _, h⟩ := Option.bind_eq_some_iff.1 h
          obtain ⟨_, h, _⟩ := Option.map_eq_some_iff.1 h; exact ih h x hx2
      all_goals
        obtain ⟨_, _, h⟩ := Option.bind_eq_some_iff.1 h
        obtain ⟨_, h, _⟩ := Option.map_eq_some_iff.1 h; exact ih h x hx2
/-- an operation's answer, told on the other side -/
def Out (f : Rn) (r : T × St) (r' : Option (T × St)) : Prop := ∃ f' q, r' = some q ∧ HR f' r.2 q.2 ∧ Wid f f' ∧ TR f' r.1 q.1
theorem agA_no {σ' : St} : ∀ (l : List T) {cs p}, agA σ' l cs = some p → ∀ x ∈ l, x ≠ .no
  | [], _, _, _, x, hx => by simp at hx
  | y :: l, cs, p, h, x, hx => by
    cases y <;> simp only [agA] at h
    case row i =>
      split at h
      · obtain ⟨_, h, _⟩ := Option.map_eq_some_iff.1 h
        rcases List.mem_cons.1 hx with rfl | hx2
        · simp
        · exact agA_no l h x hx2
      · simp at h
    all_goals
      obtain ⟨_, h1, h⟩ := Option.bind_eq_some_iff.1 h
      obtain ⟨_, h, _⟩ := Option.map_eq_some_iff.1 h
      rcases List.mem_cons.1 hx with rfl | hx2
      · exact view_no h1
      · exact agA_no l h x hx2
theorem argsA_noI {md : Bool} {σ' : St} : ∀ (l : List T) {cs xs}, argsA md σ' l cs = some xs → ∀ x l', x = .ag l' → x ∈ l → ∀ y ∈ l', y ≠ .no := by
  intro l
  induction l with
  | nil => intro _ _ _ x l' _ hx; simp at hx
  | cons y l ih =>
    intro cs xs h x l' e hx
    cases y <;> try simp only [argsA] at h
    case bp b o =>
      cases cs with
      | nil => simp [argsA, view, elems] at h
      | cons c cs =>
        simp only [argsA] at h
        split at h
        · obtain ⟨_, h, _⟩ := Option.map_eq_some_iff.1 h
          rcases List.mem_cons.1 hx with rfl | hx2
          · cases e
          · exact ih h x l' e hx2
        · simp at h
    case fn g bs =>
      split at h
      · obtain ⟨_, h, _⟩ := Option.map_eq_some_iff.1 h
        rcases List.mem_cons.1 hx with rfl | hx2
        · cases e
        · exact ih h x l' e hx2
      · simp at h
    case ag z =>
      split at h
      · obtain ⟨_, h1, h⟩ := Option.bind_eq_some_iff.1 h
        obtain ⟨_, h, _⟩ := Option.map_eq_some_iff.1 h
        rcases List.mem_cons.1 hx with rfl | hx2
        · cases e; exact agA_no _ h1
        · exact ih h x l' e hx2
      · obtain ⟨_, h1, h⟩ := Option.bind_eq_some_iff.1 h
        obtain ⟨_, h, _⟩ := Option.map_eq_some_iff.1 h
        rcases List.mem_cons.1 hx with rfl | hx2
        · cases e; exact views_no h1
        · exact ih h x l' e hx2
    case row i =>
      split at h
      · split at h
        · obtain ⟨_, h, _⟩ := Option.map_eq_some_iff.1 h
          rcases List.mem_cons.1 hx with rfl | hx2
          · cases e
          · exact ih h x l' e hx2
        · simp at h
      · obtain ⟨_, _, h⟩ := Option.bind_eq_some_iff.1 h
        obtain ⟨_, h, _⟩ := Option.map_eq_some_iff.1 h
        rcases List.mem_cons.1 hx with rfl | hx2
        · cases e
        · exact ih h x l' e hx2
    all_goals
      obtain ⟨_, _, h⟩ := Option.bind_eq_some_iff.1 h
      obtain ⟨_, h, _⟩ := Option.map_eq_some_iff.1 h
      rcases List.mem_cons.1 hx with rfl | hx2
      · cases e
      · exact ih h x l' e hx2
theorem out_same (H : HR f σ τ) {x y : T} (h : TR f x y) : Out f (x, σ) (some (y, τ)) := ⟨f, _, rfl, H, .refl f, h⟩
theorem apply_sim (H : HR f σ τ) {x y : T} (h : TR f x y) {l m : List T} (hl : All2 (TR f) l m) {r : T × St} (ha : apply K F σ x l = some r) : Out f r (apply K F τ y m) := by
  cases h <;> simp only [apply, reduceCtorEq] at ha
  rename_i g bs hbs
  simp only [apply]
  have hall : All2 (TR f) (l.map (seen1 (K.md g) σ) ++ bs.map (T.bp · 0)) (m.map (seen1 (K.md g) τ) ++ (bs.map f.b).map (T.bp · 0)) := by
    refine (seens_sim H _ hl).append ?_
    clear ha
    induction bs with
    | nil => exact .nil
    | cons b bs ih => exact .cons (.bp b 0 (hbs b (by simp))) (ih fun b hb => hbs b (by simp [hb]))
  split at ha
  · rename_i hnd
    simp only [Option.bind_eq_some_iff] at ha
    obtain ⟨⟨cs, σ1⟩, h1, xs, h2, ⟨ra, back⟩, h3, h4⟩ := ha
    simp only at h2 h3 h4
    -- the arguments' shapes do not hang on the state after the lending
    have hno : ∀ {σ' : St} {l : List T} {cs}, argsA (K.md g) σ' l cs = some xs → ∀ x ∈ l, x ≠ .no := fun h => argsA_no _ h
    obtain ⟨el, hin⟩ := lentOf_sim (K.md g) hall (hno h2) (fun _ => argsA_noI _ h2)
    obtain ⟨τ1, g1, H1⟩ := lendAll_sim _ H hin h1
    obtain ⟨g2, _, n2⟩ := argsA_sim H1 (K.md g) hall h2
    have hnd' : (List.map f.l (lentOf (K.md g) (l.map (seen1 (K.md g) σ) ++ bs.map (T.bp · 0)))).Nodup := by
      unfold List.Nodup at hnd ⊢
      rw [List.pairwise_map]
      exact hnd.imp_of_mem fun {a b} ha hb hne e => hne (l_inj H (hin a ha) (hin b hb) e)
    split at h4
    · rename_i hk
      simp only [Option.map_eq_some_iff] at h4
      obtain ⟨σ3, h5, rfl⟩ := h4
      have H2 : HR f (if K.nest g then demotes σ1 (seenRows (l.map (seen1 (K.md g) σ) ++ bs.map (T.bp · 0))) else σ1) (if K.nest g then demotes τ1 (seenRows (m.map (seen1 (K.md g) τ) ++ (bs.map f.b).map (T.bp · 0))) else τ1) := by
        split
        · obtain ⟨t, n⟩ := seenRows_sim hall (hno h2) n2
          exact demotes_sim H1 t n
        · exact H1
      obtain ⟨f3, H3, e3, t3⟩ := tellA_sim H2 ra
      obtain ⟨f4, τ4, g4, H4, e4⟩ := takeAll_sim _ _ H3 (fun x hx => wid_in e3 (hin x hx)) h5
      rw [List.map_congr_left (fun x hx => wid_l e3 (hin x hx))] at g4
      refine ⟨f4, (_, τ4), ?_, H4, e3.trans e4, TR.ext e4 _ t3⟩
      rw [el, if_pos hnd', g1]
      simp only [Option.bind_some, g2, h3, hk, if_true, g4, Option.map_some]
    · simp at h4
  · simp at ha
end Go.SX
