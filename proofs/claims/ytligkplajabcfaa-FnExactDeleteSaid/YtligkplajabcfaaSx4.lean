import Derived.Test.YtligkplajabcfaaSx3
set_option linter.unusedVariables false
set_option linter.unusedSimpArgs false
set_option linter.unusedSectionVars false
namespace Go.SX
variable {P : Program} {w w' w0 : World} {ok ok' : Nat → Prop} {E E' : Env} {B : Bd} {σ σ' : St}

theorem ofV_rel {v : Value} (h1 : v.oneCell' = true) : XRel w ok E (ofV v) v := by
  unfold ofV
  split
  · simp [Value.oneCell'] at h1
  · simp [Value.oneCell'] at h1
  · rfl
  · exact .s v h1
theorem ofV_t (v : Value) : TRel w ok E (ofV v) v := by
  unfold ofV
  split
  · trivial
  · trivial
  · rfl
  · rename_i h1 h2 _
    refine Holds.s v ?_
    cases v <;> first | rfl | exact absurd rfl (h1 _) | exact absurd rfl (h2 _)
theorem all2_map {α β : Type} {R : β → α → Prop} {f : α → β} : ∀ (l : List α), (∀ x ∈ l, R (f x) x) → All2 R (l.map f) l
  | [], _ => .nil
  | x :: l, h => .cons (h x (by simp)) (all2_map l fun y hy => h y (by simp [hy]))
theorem constT_rel (v : Value) : TRel w ok E (constT v) v := by
  unfold constT
  split
  · rename_i cs
    split
    · rename_i h
      refine ⟨cs, rfl, all2_map _ fun u hu => ofV_rel ?_⟩
      exact List.all_eq_true.mp h u hu
    · trivial
  · exact ofV_t _

/-- the slots -/
def Tmps (w : World) (ok : Nat → Prop) (E : Env) (σ : St) (a : Act) : Prop := ∀ t, TRel w ok E (gt σ.ts t) (a.tmps.getD t undef)
theorem ev_rel {a : Act} (h : Tmps w ok E σ a) (x : Operand) : TRel w ok E (ev σ x) (a.eval x) := by
  cases x with
  | tmp t => exact h t
  | const v => exact constT_rel v
  | global g => trivial
  | func f => exact ⟨[], rfl, .nil⟩
theorem TRel.sc {v u : Value} (h : TRel w ok E (.c (.s v)) u) : u = v := by cases (h : Holds w ok (.s v) u); rfl

theorem exists_vs {R : T → Value → Prop} (ad : Addr) : ∀ (l : List T) (i : Nat), (∀ j x, l[j]? = some x → ∃ u, w.cell? (ad.add (i + j)) = some u ∧ R x u) → ∃ vs, All2 R l vs ∧ ∀ j u, vs[j]? = some u → w.cell? (ad.add (i + j)) = some u
  | [], _, _ => ⟨[], .nil, fun j u h => by simp at h⟩
  | x :: l, i, h => by
    obtain ⟨u, h1, h2⟩ := h 0 x rfl
    obtain ⟨vs, h3, h4⟩ := exists_vs ad l (i + 1) (fun j y hj => by have := h (j + 1) y (by simpa using hj); rw [show i + (j + 1) = i + 1 + j by omega] at this; exact this)
    refine ⟨u :: vs, .cons h2 h3, fun j u' hj => ?_⟩
    cases j with
    | zero => simp at hj; subst hj; exact h1
    | succ j => rw [show i + (j + 1) = i + 1 + j by omega]; exact h4 j u' (by simpa using hj)
theorem cells_rel (M : Mem w0 B σ E ok w) {x : T} {av : Value} {cs : List T} (hx : TRel w ok E x av) (h : cells σ x = some cs) :
    ∃ ad vs, av = .pointer (some ad) ∧ All2 (XRel w ok E) cs vs ∧ ∀ j u, vs[j]? = some u → w.cell? (ad.add j) = some u := by
  have key : ∀ (ad : Addr), av = .pointer (some ad) → (∀ j x, cs[j]? = some x → ∃ u, w.cell? (ad.add j) = some u ∧ XRel w ok E x u) →
      ∃ ad vs, av = .pointer (some ad) ∧ All2 (XRel w ok E) cs vs ∧ ∀ j u, vs[j]? = some u → w.cell? (ad.add j) = some u := by
    intro ad he hc
    obtain ⟨vs, h1, h2⟩ := exists_vs (w := w) ad cs 0 (fun j x hj => by rw [Nat.zero_add]; exact hc j x hj)
    exact ⟨ad, vs, he, h1, fun j u hj => by have := h2 j u hj; rwa [Nat.zero_add] at this⟩
  cases x <;> simp only [cells, Option.map_eq_some_iff, Option.bind_eq_some_iff, Option.some.injEq, reduceCtorEq] at h
  case bp b o =>
    obtain ⟨l, hl, rfl⟩ := h
    obtain ⟨k, hk, rfl⟩ := hx
    obtain ⟨t, c0, h1, h2⟩ := M.box b k l hk hl
    refine key _ rfl fun j x hj => ?_
    rw [List.getElem?_drop] at hj
    obtain ⟨u, h3, h4⟩ := h2.get _ x hj
    exact ⟨u, by rw [add_none, cell_block h1]; simpa using h3, h4⟩
  case rp i n o =>
    obtain ⟨q, hq, h⟩ := h
    split at h
    · simp at h
    rename_i hdp
    simp only [Option.map_eq_some_iff] at h
    obtain ⟨el, hel, rfl⟩ := h
    have hdp' : q.dp = .f := by
      rcases dp_cases hq with h | h
      · exact h
      · rw [h] at hdp; exact absurd rfl hdp
    obtain ⟨r, ad, hr, ha, hn, rfl⟩ := hx
    obtain ⟨hz, hrow⟩ := M.row i r q hr hq
    refine key _ rfl fun j x hj => ?_
    rw [List.getElem?_map, List.getElem?_drop] at hj
    cases hc : el[o + j]? with
    | none => rw [hc] at hj; simp at hj
    | some c =>
      rw [hc] at hj; simp at hj; subst hj
      have hlt : o + j < el.length := (List.getElem?_eq_some_iff.mp hc).1
      rw [add_add, show n * r.sz + o + j = n * r.sz + (o + j) by omega]
      cases ho : q.ow with
      | true =>
        rw [ho, if_pos rfl, hdp'] at hrow
        obtain ⟨h1, h2, h3, h3', h4⟩ := hrow
        cases hκ : r.κ with
        | none => simp only [hκ] at h4; omega
        | some k =>
          simp only [hκ] at h4
          obtain ⟨off, t, c0, h5, h6, h7, h8⟩ := h4
          rw [ha] at h5; cases h5
          obtain ⟨u, h9, h10⟩ := h8 n (o + j) el c hel hc
          exact ⟨u, by rw [add_none, cell_block h6]; exact h9, h10⟩
      | false =>
        rw [ho] at hrow
        obtain ⟨_, h1, h2, h3, _, f, h4, h5⟩ := hrow
        have hsz : el.length = r.sz := h3 el (List.mem_of_getElem? hel)
        obtain ⟨ad', h6, _, h7⟩ := h4 n (o + j) hn (by omega)
        rw [ha] at h6; cases h6
        exact ⟨f n (o + j), h7, h5 n (o + j) el c hel hc⟩
  case cp l o =>
    subst h
    obtain ⟨ad, f, rfl, h2⟩ := hx
    refine key _ rfl fun j x hj => ?_
    rw [List.getElem?_map, List.getElem?_drop] at hj
    cases hc : l[o + j]? with
    | none => rw [hc] at hj; simp at hj
    | some c =>
      rw [hc] at hj; simp at hj; subst hj
      obtain ⟨_, h3, h4⟩ := h2 (o + j) c hc
      exact ⟨f (o + j), by rw [add_add]; exact h3, h4⟩

theorem ok_load (M : Mem w0 B σ E ok w) {x y : T} {av : Value} {t : TypeId} (hx : TRel w ok E x av) (h : opLoad P σ t x = some (y, σ')) :
    σ' = σ ∧ ∃ v, (Instr.loadAt t av).run P w = .ok v w ∧ TRel w ok E y v := by
  unfold opLoad at h
  simp only [Option.bind_eq_some_iff] at h
  obtain ⟨cs, hcs, n, hn, b, hb, h⟩ := h
  obtain ⟨ad, vs, rfl, h1, h2⟩ := cells_rel M hx hcs
  have hrun : (Instr.loadAt t (.pointer (some ad))).run P w = (loadVar t ad).run P w := by
    simp [Instr.loadAt, Instr.sureAddr]
  cases b with
  | true =>
    simp only [if_true] at h
    split at h
    · rename_i hle
      simp only [Option.some.injEq, Prod.mk.injEq] at h
      obtain ⟨rfl, rfl⟩ := h
      refine ⟨rfl, _, hrun.trans (run_loadVar ad vs hb hn h2 (fun _ => by rw [← h1.len]; exact hle) (by simp)), ?_⟩
      exact ⟨_, rfl, by simpa using h1.take n⟩
    · simp at h
  | false =>
    simp only [Bool.false_eq_true, if_false, Option.map_eq_some_iff, Prod.mk.injEq] at h
    obtain ⟨y', hy, rfl, rfl⟩ := h
    cases h1 with
    | nil => simp at hy
    | cons hh ht =>
      simp at hy; subst hy
      exact ⟨rfl, _, hrun.trans (run_loadVar ad _ hb hn h2 (by simp) (by simp)), hh.t⟩

theorem run_fieldPlace {a : Addr} {fd : Field} {n : Nat} (hn : szOf P fd.type = some n) (h0 : n ≠ 0) : (fieldPlace a fd).run P w = .ok (a.add fd.offset) w := by
  unfold fieldPlace
  simp only [Sem.run_bind, run_size hn, Result.andThen_ok]
  rw [if_neg h0]; rfl
theorem ok_fieldAddr {x y : T} {av : Value} {s : TypeId} {f : Nat} (hx : TRel w ok E x av) (h : opFieldAddr P σ s x f = some (y, σ')) :
    σ' = σ ∧ ∃ v, (Instr.fieldAt s av f).run P w = .ok v w ∧ TRel w ok E y v := by
  unfold opFieldAddr at h
  simp only [Option.bind_eq_some_iff] at h
  obtain ⟨fd, hf, n, hn, h⟩ := h
  split at h
  · simp at h
  rename_i h0
  obtain ⟨fs, hu, hfs⟩ := und_fld hf
  have hrun : ∀ ad, (Instr.fieldAt s (.pointer (some ad)) f).run P w = .ok (.pointer (some (ad.add fd.offset))) w := by
    intro ad
    simp only [Instr.fieldAt, Sem.run_bind, run_und hu, Result.andThen_ok, hfs, Instr.sureAddr, Sem.run_pure, run_fieldPlace hn h0]
  cases x <;> simp only [Option.some.injEq, Prod.mk.injEq, reduceCtorEq] at h <;> obtain ⟨rfl, rfl⟩ := h
  case bp b o =>
    obtain ⟨k, hk, rfl⟩ := hx
    exact ⟨rfl, _, hrun _, k, hk, by rw [add_none]⟩
  case rp i n o =>
    obtain ⟨r, ad, hr, ha, hn', rfl⟩ := hx
    exact ⟨rfl, _, hrun _, r, ad, hr, ha, hn', by rw [add_add, Nat.add_assoc]⟩
  case cp l o =>
    obtain ⟨ad, g, rfl, h2⟩ := hx
    exact ⟨rfl, _, hrun _, ad, g, by rw [add_add], h2⟩

theorem ok_field {x y : T} {av : Value} {s : TypeId} {f : Nat} (hx : TRel w ok E x av) (h : opField P σ s x f = some (y, σ')) :
    σ' = σ ∧ ∃ v, (Instr.field s av f).run P w = .ok v w ∧ TRel w ok E y v := by
  unfold opField at h
  simp only [Option.bind_eq_some_iff] at h
  obtain ⟨fd, hf, n, hn, b, hb, h⟩ := h
  obtain ⟨fs, hu, hfs⟩ := und_fld hf
  cases x <;> simp only [reduceCtorEq] at h
  rename_i l
  obtain ⟨vs, rfl, hl⟩ := hx
  split at h
  · rename_i hle
    have hsz : vs.size = l.length := by rw [hl.len]; simp
    cases b with
    | true =>
      simp only [if_true, Option.some.injEq, Prod.mk.injEq] at h
      obtain ⟨rfl, rfl⟩ := h
      refine ⟨rfl, .agg (vs.extract fd.offset (fd.offset + n)), ?_, ?_⟩
      · simp only [Instr.field, Sem.run_bind, run_und hu, Result.andThen_ok, hfs, asAgg, Sem.run_pure, part, run_agg hb, if_true, run_size hn]
      · refine ⟨_, rfl, ?_⟩
        have := (hl.drop fd.offset).take n
        simpa [List.extract_eq_take_drop, List.take_drop, Nat.add_comm] using this
    | false =>
      simp only [Bool.false_eq_true, if_false, Option.map_eq_some_iff, Prod.mk.injEq] at h
      obtain ⟨y', hy, rfl, rfl⟩ := h
      obtain ⟨u, h1, h2⟩ := hl.get _ _ hy
      refine ⟨rfl, u, ?_, h2.t⟩
      simp only [Instr.field, Sem.run_bind, run_und hu, Result.andThen_ok, hfs, asAgg, Sem.run_pure, part, run_agg hb, Bool.false_eq_true, if_false]
      have : vs[fd.offset]? = some u := by simpa using h1
      rw [this]; rfl
  · simp at h

theorem deep_len {r : RV} {l} {δ : List Nat} {x : Option (Nat × Nat)} (h : DeepAt w r l δ x) : l.length = r.n ∧ r.n ≤ r.cap ∧ (∀ el ∈ l, el.length = r.sz) ∧ (r.cap ≠ 0 → ∃ ad, r.a = some ad) := by
  obtain ⟨off, t, cs, u, f, a1, a2, a3, a4, a5, a6, _⟩ := h
  refine ⟨a1, a2, a3, fun h0 => ?_⟩
  cases hκ : r.κ with
  | none => exact absurd (a5 hκ) h0
  | some k => exact ⟨_, (a6 k hκ).1⟩
theorem RowOk.all {δ : List Nat} {r : RV} {q : Row} (h : RowOk w ok δ r q) : q.l.length = r.n ∧ r.n ≤ r.cap ∧ (∀ el ∈ q.l, el.length = r.sz) ∧ (r.cap ≠ 0 → ∃ ad, r.a = some ad) := by
  obtain ⟨_, h⟩ := h
  cases ho : q.ow with
  | true =>
    rw [ho, if_pos rfl] at h
    cases hp : q.dp with
    | f =>
      rw [hp] at h
      obtain ⟨h1, h2, h3, _, h4⟩ := h
      refine ⟨h1, h2, h3, fun h0 => ?_⟩
      cases hκ : r.κ with
      | none => simp only [hκ] at h4; omega
      | some k => simp only [hκ] at h4; obtain ⟨off, _, _, h5, _⟩ := h4; exact ⟨_, h5⟩
    | d => rw [hp] at h; exact deep_len h
    | a n o => rw [hp] at h; exact deep_len h
  | false =>
    rw [ho] at h
    exact ⟨h.2.1, h.2.2.1, h.2.2.2.1, h.2.2.2.2.1⟩
theorem row_addr {δ : List Nat} {r : RV} {q : Row} (h : RowOk w ok δ r q) (h0 : r.cap ≠ 0) : ∃ ad, r.a = some ad := h.all.2.2.2 h0
theorem RowOk.len {δ : List Nat} {r : RV} {q : Row} (h : RowOk w ok δ r q) : q.l.length = r.n ∧ r.n ≤ r.cap ∧ (∀ el ∈ q.l, el.length = r.sz) ∧ q.sz = r.sz := ⟨h.all.1, h.all.2.1, h.all.2.2.1, h.1⟩
theorem ok_indexAddr (M : Mem w0 B σ E ok w) {x ix y : T} {av iv : Value} {t : TypeId} (hx : TRel w ok E x av) (hi : TRel w ok E ix iv) (h : opIndexAddr P σ t x ix = some (y, σ')) :
    σ' = σ ∧ ∃ v, (Instr.indexAt t av iv).run P w = .ok v w ∧ TRel w ok E y v := by
  unfold opIndexAddr at h
  simp only [Option.bind_eq_some_iff] at h
  obtain ⟨e, he, n, hn, h⟩ := h
  split at h
  · simp at h
  rename_i hn0
  have hu := und_elOf he
  have hrun : ∀ (k : IntKind) (i : Int) (ad : Addr) (len cap : Nat), 0 ≤ i → i < len → (Instr.indexAt t (.slice (some ad) len cap) (.int k i)).run P w = .ok (.pointer (some (ad.add (i.toNat * n)))) w := by
    intro k i ad len cap h0 h1
    simp only [Instr.indexAt, asIntOf, Sem.run_bind, Sem.run_pure, Result.andThen_ok, run_und hu]
    rw [if_pos ⟨h0, h1⟩]
    simp only [Sem.run_bind, run_size hn, Result.andThen_ok, Sem.run_pure]
  cases ix <;> try (simp at h; done)
  rename_i c
  cases c <;> try (simp at h; done)
  rename_i iv'
  obtain rfl := hi.sc
  cases iv <;> try (simp at h; done)
  rename_i k i
  cases x <;> first | (simp at h; done) | skip
  case c cx =>
    cases cx with
    | s _ => simp at h
    | r l =>
      simp only at h
      split at h
      · rename_i h0
        simp only [Option.bind_eq_some_iff] at h
        obtain ⟨el, hel, h⟩ := h
        split at h
        · rename_i hsz
          simp only [Option.some.injEq, Prod.mk.injEq] at h
          obtain ⟨rfl, rfl⟩ := h
          cases (hx : Holds w ok (.r l) av) with
          | r _ a m cap sz f hm hc hz hmem hf =>
            have hlt : i.toNat < l.length := (List.getElem?_eq_some_iff.mp hel).1
            have hsz' : sz = n := by rw [← hsz]; exact (hz el (List.mem_of_getElem? hel)).symm
            subst hsz'
            obtain ⟨ad, rfl, hok, hcell⟩ := hmem i.toNat 0 (by omega) (by omega)
            refine ⟨rfl, _, hrun k i ad m cap h0 (by omega), ad.add (i.toNat * sz), f i.toNat, by rw [add_add]; rfl, ?_⟩
            intro j c hj
            have hj' : j < sz := by have := (List.getElem?_eq_some_iff.mp hj).1; omega
            obtain ⟨ad', ha, hok', hcell'⟩ := hmem i.toNat j (by omega) hj'
            cases ha
            exact ⟨by rw [add_block]; exact hok', by rw [add_add]; exact hcell', hf _ _ _ _ hel hj⟩
        · simp at h
      · simp at h
  case row j =>
    simp only [Option.bind_eq_some_iff] at h
    obtain ⟨q, hq, h⟩ := h
    split at h
    · rename_i hc
      obtain ⟨h0, h1, h2⟩ := hc
      simp only [Option.some.injEq, Prod.mk.injEq] at h
      obtain ⟨rfl, rfl⟩ := h
      obtain ⟨r, hr, rfl⟩ := hx
      have hR := M.row j r q hr hq
      obtain ⟨hl, hcap, _, hz⟩ := hR.len
      obtain ⟨ad, ha⟩ := row_addr hR (by omega)
      rw [ha]
      exact ⟨rfl, _, hrun k i ad _ _ h0 (by omega), r, ad, hr, ha, by omega, by rw [← hz, h2]; rfl⟩
    · simp at h
  case sl j lo hi' =>
    simp only [Option.bind_eq_some_iff] at h
    obtain ⟨q, hq, h⟩ := h
    split at h
    · rename_i hc
      obtain ⟨h0, h1, h2⟩ := hc
      simp only [Option.some.injEq, Prod.mk.injEq] at h
      obtain ⟨rfl, rfl⟩ := h
      obtain ⟨r, a', hr, hlo, hhi, rfl, ha⟩ := hx
      have hR := M.row j r q hr hq
      obtain ⟨hl, hcap, _, hz⟩ := hR.len
      obtain ⟨ad, had, rfl⟩ := ha (by omega)
      refine ⟨rfl, _, hrun k i _ _ _ h0 (by omega), r, ad, hr, had, by omega, ?_⟩
      rw [add_add, ← hz, h2, Nat.add_mul]; rfl
    · simp at h

theorem elems_len (M : Mem w0 B σ E ok w) {x : T} {v : Value} {l : List (List C)} (hx : TRel w ok E x v) (h : elems σ x = some l) : ∃ a cap, v = .slice a l.length cap ∧ l.length ≤ cap := by
  cases x <;> simp only [elems, Option.some.injEq, Option.map_eq_some_iff, reduceCtorEq] at h
  case c cx =>
    cases cx with
    | s _ => simp at h
    | r l' =>
      simp at h; subst h
      cases (hx : Holds w ok (.r _) v) with
      | r _ a m cap sz f hm hc hz hmem hf => subst hm; exact ⟨a, cap, rfl, hc⟩
  case nil => subst h; exact ⟨none, 0, hx, Nat.le_refl _⟩
  case row i =>
    obtain ⟨q, hq, rfl⟩ := h
    obtain ⟨r, hr, rfl⟩ := hx
    obtain ⟨hl, hcap, _⟩ := (M.row i r q hr hq).len
    exact ⟨r.a, r.cap, by rw [hl], by omega⟩
  case sl i lo hi =>
    obtain ⟨q, hq, rfl⟩ := h
    obtain ⟨r, a', hr, hlo, hhi, rfl, _⟩ := hx
    obtain ⟨hl, hcap, _⟩ := (M.row i r q hr hq).len
    have : (cut q.l lo hi).length = hi - lo := by simp [cut]; omega
    exact ⟨a', r.cap - lo, by rw [this], by rw [this]; omega⟩
end Go.SX
