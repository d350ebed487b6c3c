import Derived.Test.YtligkplajabcfaaSx4
import Derived.Laws.BytesArg
set_option linter.unusedVariables false
set_option linter.unusedSimpArgs false
set_option linter.unusedSectionVars false
namespace Go.SX
variable {P : Program} {w w' w0 : World} {ok ok' : Nat → Prop} {E E' : Env} {B : Bd} {σ σ' : St}

theorem wide_iff {n : Nat} {l : List (List C)} : wide n l = true ↔ ∀ el ∈ l, el.length = n := by simp [wide]
theorem cut_len {α : Type} (l : List α) (lo hi : Nat) (h : hi ≤ l.length) : (cut l lo hi).length = hi - lo := by simp [cut]; omega
theorem cut_get {α : Type} {l : List α} {lo hi i : Nat} {x : α} (h : (cut l lo hi)[i]? = some x) : l[lo + i]? = some x := by
  unfold cut at h
  rw [List.getElem?_drop, List.getElem?_take] at h
  split at h <;> simp_all
theorem cut_mem {α : Type} {l : List α} {lo hi : Nat} {x : α} (h : x ∈ cut l lo hi) : x ∈ l := List.mem_of_mem_take (List.mem_of_mem_drop h)
/-- a piece of a row that is seen -/
theorem holds_cut {l : List (List C)} {a a' : Option Addr} {n cap cap' lo hi sz : Nat} (h : Holds w ok (.r l) (.slice a n cap)) (hlo : lo ≤ hi) (hhi : hi ≤ n) (hz : ∀ el ∈ l, el.length = sz) (hc : hi - lo ≤ cap') (ha : 0 < hi - lo → ∀ ad, a = some ad → a' = some (ad.add (lo * sz))) : Holds w ok (.r (cut l lo hi)) (.slice a' (hi - lo) cap') := by
  cases h with
  | r _ _ _ _ s f hn hcap hs hm hf =>
    have hl : (cut l lo hi).length = hi - lo := cut_len l lo hi (by omega)
    refine .r _ _ _ _ sz (fun i j => f (lo + i) j) hl hc (fun el he => hz el (cut_mem he)) (fun i j hi' hj => ?_) (fun i j el c hi' hj => hf _ _ _ _ (cut_get hi') hj)
    have hsz : s = sz := by
      have h1 : l[lo + i]? = some (l[lo + i]'(by omega)) := List.getElem?_eq_getElem _
      rw [← hs _ (List.mem_of_getElem? h1), hz _ (List.mem_of_getElem? h1)]
    subst hsz
    obtain ⟨ad, rfl, hok, hcell⟩ := hm (lo + i) j (by omega) hj
    have e := ha (by omega) ad rfl
    subst e
    exact ⟨_, rfl, by rw [add_block]; exact hok, by rw [add_add]; rw [Nat.add_mul, Nat.add_assoc] at hcell; exact hcell⟩

/-- what the operands hold -/
def Rho (w : World) (ok : Nat → Prop) (E : Env) (ρ : Operand → T) (a : Act) : Prop := ∀ x, TRel w ok E (ρ x) (a.eval x)
variable {ρ : Operand → T}
theorem bound_rel {a : Act} (hT : Rho w ok E ρ a) {x : Option Operand} {d n : Nat} (h : bound ρ x d = some n) : (x = none ∧ n = d) ∨ ∃ y k m, x = some y ∧ a.eval y = .int k m ∧ 0 ≤ m ∧ n = m.toNat := by
  cases x with
  | none => simp [bound] at h; exact .inl ⟨rfl, h.symm⟩
  | some y =>
    simp only [bound] at h
    have := hT y
    split at h
    · rename_i k m he
      rw [he] at this
      split at h
      · rename_i h0; simp at h; exact .inr ⟨y, _, m, rfl, this.sc, h0, h.symm⟩
      · simp at h
    · simp at h
theorem run_slice {t e : TypeId} {sz : Nat} (hu : P.underlying t = some (.slice e)) (hn : szOf P e = some sz) {a : Act} (hT : Rho w ok E ρ a) {lo hi : Option Operand} {l h n cap : Nat} (h1 : bound ρ hi n = some h) (h2 : bound ρ lo 0 = some l) (hl : l ≤ h) (hh : h ≤ n) (hc : n ≤ cap) (ad : Option Addr) :
    (Instr.sliceAt t (.slice ad n cap) (lo.map a.eval) (hi.map a.eval) none).run P w = .ok (.slice (if cap = l then ad else ad.map (·.add (l * sz))) (h - l) (cap - l)) w := by
  have e1 : (Instr.sliceBounds true n cap (lo.map a.eval) (hi.map a.eval) none).run P w = .ok (l, h, cap) w := by
    rcases bound_rel hT h1 with ⟨rfl, rfl⟩ | ⟨y, k, m, rfl, hy, hm0, rfl⟩ <;> rcases bound_rel hT h2 with ⟨rfl, rfl⟩ | ⟨y2, k2, m2, rfl, hy2, hm2, rfl⟩
    · simp [Instr.sliceBounds]
    · simp only [Instr.sliceBounds, Option.map_none, Option.map_some, hy2, Sem.run_bind, Sem.run_pure, Result.andThen_ok, Instr.sliceBound, asIntOf]
      rw [if_pos ⟨hm2, by omega⟩]; simp
    · simp only [Instr.sliceBounds, Option.map_none, Option.map_some, hy, Sem.run_bind, Sem.run_pure, Result.andThen_ok, Instr.sliceBound, asIntOf]
      rw [if_pos ⟨hm0, by omega⟩]; simp
    · simp only [Instr.sliceBounds, Option.map_some, hy, hy2, Sem.run_bind, Sem.run_pure, Result.andThen_ok, Instr.sliceBound, asIntOf]
      rw [if_pos ⟨hm0, by omega⟩]
      simp only [Sem.run_pure, Result.andThen_ok]
      rw [if_pos ⟨hm2, by omega⟩]; simp
  simp only [Instr.sliceAt, Instr.slice, Sem.run_bind, run_und hu, Result.andThen_ok, e1, run_size hn, Sem.run_pure]

theorem span_len (M : Mem w0 B σ E ok w) {x : T} {v : Value} {k : Nat} (hx : TRel w ok E x v) (h : spanT σ x = some k) : ∃ ad cap, v = .slice ad k cap ∧ k ≤ cap := by
  have gen : (elems σ x).map (·.length) = some k → ∃ ad cap, v = .slice ad k cap ∧ k ≤ cap := fun h => by
    obtain ⟨l, h1, rfl⟩ := Option.map_eq_some_iff.1 h
    exact elems_len M hx h1
  cases x <;> try exact gen h
  case row i =>
    simp only [spanT, Option.map_eq_some_iff] at h
    obtain ⟨q, hq, rfl⟩ := h
    obtain ⟨r, hr, rfl⟩ := hx
    have := (M.raw i r q hr hq).len
    exact ⟨_, _, by rw [this.1], by rw [this.1]; exact this.2.1⟩
  case sl i lo hi =>
    simp only [spanT, Option.map_eq_some_iff] at h
    obtain ⟨q, hq, rfl⟩ := h
    obtain ⟨r, a', hr, h1, h2, rfl, _⟩ := hx
    have := (M.raw i r q hr hq).len
    have e : (cut q.l lo hi).length = hi - lo := by unfold cut; simp; omega
    exact ⟨_, _, by rw [e], by rw [e]; omega⟩
theorem ok_slice (M : Mem w0 B σ E ok w) {a : Act} (hT : Rho w ok E ρ a) {x y : T} {av : Value} {t : TypeId} {lo hi : Option Operand} (hx : TRel w ok E x av) (h : opSlice P ρ σ t x lo hi = some (y, σ')) :
    σ' = σ ∧ ∃ v, (Instr.sliceAt t av (lo.map a.eval) (hi.map a.eval) none).run P w = .ok v w ∧ TRel w ok E y v := by
  unfold opSlice at h
  split at h
  · -- a string
    rename_i v
    obtain rfl := hx.sc
    simp only [Option.bind_eq_some_iff] at h
    obtain ⟨lo', hlo, hi', hhi, h⟩ := h
    simp only [Option.map_eq_some_iff, Prod.mk.injEq] at h
    obtain ⟨u, hu, rfl, rfl⟩ := h
    have e1 : lo' = lo.map a.eval := by
      cases lo with
      | none => simpa using hlo.symm
      | some y =>
        simp only at hlo
        have hy := hT y
        split at hlo
        · rename_i he; rw [he] at hy; simp at hlo; subst hlo; simp [hy.sc]
        · simp at hlo
    have e2 : hi' = hi.map a.eval := by
      cases hi with
      | none => simpa using hhi.symm
      | some y =>
        simp only at hhi
        have hy := hT y
        split at hhi
        · rename_i he; rw [he] at hy; simp at hhi; subst hhi; simp [hy.sc]
        · simp at hhi
    subst e1 e2
    have hr := run_pureRun (P := P) (w := w) _ _ hu
    refine ⟨rfl, u, ?_, ofV_t u⟩
    -- not an array: else the pure run would have stood
    unfold Instr.sliceAt
    cases hd : P.underlying t with
    | none => simp [Instr.slice, underlying, hd, pureRun, bind, Sem.bind, program, stuck] at hu
    | some d =>
      rw [Sem.run_bind, run_und hd]
      simp only [Result.andThen_ok]
      cases d <;> first | exact hr | skip
      exfalso
      simp [Instr.slice, underlying, hd, pureRun, bind, Sem.bind, program, stuck, pure] at hu
  · rename_i y0 hns
    simp only [Option.bind_eq_some_iff] at h
    obtain ⟨e, he, sz, hsz, l, hl, hh, hhi, ll, hlo, h⟩ := h
    split at h
    · rename_i hc
      obtain ⟨hc1, hc2⟩ := hc
      have hu := und_elOf he
      obtain ⟨ad, cap, rfl, hcap⟩ := span_len M hx hl
      have hrun := run_slice (P := P) hu hsz hT hhi hlo hc1 hc2 hcap ad
      cases x <;> first | (simp at h; done) | skip
      case c cx =>
        cases cx with
        | s v => exact absurd rfl (hns v)
        | r xs =>
          simp only at h
          split at h
          · rename_i hw
            simp only [Option.some.injEq, Prod.mk.injEq] at h
            obtain ⟨rfl, rfl⟩ := h
            have : l = xs.length := by simpa [spanT, elems] using hl.symm
            subst this
            refine ⟨rfl, _, hrun, ?_⟩
            refine holds_cut (show Holds w ok (.r xs) _ from hx) hc1 hc2 (wide_iff.mp hw) (by omega) fun h0 ad' e' => ?_
            subst e'
            rw [if_neg (by omega)]; rfl
          · simp at h
      case nil =>
        simp only [Option.some.injEq, Prod.mk.injEq] at h
        obtain ⟨rfl, rfl⟩ := h
        have e' : Value.slice ad l cap = .slice none 0 0 := hx
        injection e' with e1 e2 e3
        subst e1 e3
        refine ⟨rfl, _, hrun, ?_⟩
        show _ = _
        have : hh - ll = 0 := by omega
        rw [this]; simp
      case row i =>
        simp only [Option.bind_eq_some_iff] at h
        obtain ⟨q, hq, h⟩ := h
        split at h
        · rename_i hqs
          simp only [Option.some.injEq, Prod.mk.injEq] at h
          obtain ⟨rfl, rfl⟩ := h
          obtain ⟨r, hr, e'⟩ := hx
          injection e' with e1 e2 e3
          subst e1 e3
          have hR := (M.raw i r q hr hq).len
          refine ⟨rfl, _, hrun, r, _, hr, hc1, by omega, rfl, fun h0 => ?_⟩
          have hR' := M.raw i r q hr hq
          obtain ⟨ad, had⟩ := row_addr hR' (by omega)
          refine ⟨ad, had, ?_⟩
          rw [if_neg (by omega), had, ← hR.2.2.2, hqs]; rfl
        · simp at h
      case sl i a0 b0 =>
        simp only [Option.bind_eq_some_iff] at h
        obtain ⟨q, hq, h⟩ := h
        split at h
        · rename_i hqs
          simp only [Option.some.injEq, Prod.mk.injEq] at h
          obtain ⟨rfl, rfl⟩ := h
          obtain ⟨r, a', hr, hlo', hhi', e', ha⟩ := hx
          injection e' with e1 e2 e3
          subst e1 e3
          have hR := (M.raw i r q hr hq).len
          refine ⟨rfl, _, hrun, r, (if r.cap - a0 = ll then ad else ad.map (·.add (ll * sz))), hr, by omega, by omega, ?_, fun h0 => ?_⟩
          · rw [show a0 + hh - (a0 + ll) = hh - ll by omega, show r.cap - (a0 + ll) = r.cap - a0 - ll by omega]
          · obtain ⟨ad', had, rfl⟩ := ha (by omega)
            refine ⟨ad', had, ?_⟩
            rw [if_neg (by omega), ← hqs, hR.2.2.2]
            simp [add_add, Nat.add_mul]
        · simp at h
    · simp at h

/-! conversion of bytes -/
theorem bytes_rel {ad : Addr} : ∀ (l : List (List C)) (b : List UInt8) (i : Nat) (f : Nat → Value), bytesOf l = some b → (∀ j el c, l[j]? = some el → el[0]? = some c → Holds w ok c (f (i + j))) → ∃ ns : List Int, ns.length = l.length ∧ b = ns.map (fun n => UInt8.ofNat n.toNat) ∧ ∀ j n, ns[j]? = some n → f (i + j) = .int .u8 n
  | [], b, i, f, h, _ => ⟨[], rfl, by simpa [bytesOf] using h.symm, fun j n hj => by simp at hj⟩
  | el :: l, b, i, f, h, hf => by
    cases el with
    | nil => simp [bytesOf] at h
    | cons c cs =>
      cases cs with
      | cons _ _ => cases c with
        | s v => cases v <;> simp [bytesOf] at h
        | r _ => simp [bytesOf] at h
      | nil =>
        cases c with
        | r _ => simp [bytesOf] at h
        | s v =>
          cases v <;> try (simp [bytesOf] at h; done)
          rename_i k n
          cases k <;> try (simp [bytesOf] at h; done)
          simp only [bytesOf, Option.map_eq_some_iff] at h
          obtain ⟨b', hb, rfl⟩ := h
          obtain ⟨ns, h1, rfl, h3⟩ := bytes_rel (ad := ad) l b' (i + 1) f hb (fun j el c hj hc => by have := hf (j + 1) el c (by simpa using hj) hc; rw [show i + (j + 1) = i + 1 + j by omega] at this; exact this)
          refine ⟨n :: ns, by simp [h1], rfl, fun j m hj => ?_⟩
          cases j with
          | zero =>
            simp at hj; subst hj
            have := hf 0 _ _ rfl rfl
            generalize f (i + 0) = u at this ⊢
            cases this; rfl
          | succ j => rw [show i + (j + 1) = i + 1 + j by omega]; exact h3 j m (by simpa using hj)
theorem foldl_push : ∀ (ns : List Int) (s : ByteArray), ns.foldl (fun r n => r.push (UInt8.ofNat n.toNat)) s = ⟨s.data ++ (ns.map fun n => UInt8.ofNat n.toNat).toArray⟩
  | [], s => by simp
  | n :: ns, s => by
    rw [List.foldl_cons, foldl_push ns]
    simp [ByteArray.push]
theorem dp_row {i : Nat} {q : Row} (hq : rowAt σ i = some q) (h : deepT σ (.row i) = false) : q.dp = .f := by
  rcases dp_cases hq with h1 | h1
  · exact h1
  · simp [deepT, hq, h1, Dp.q] at h
theorem dp_sl {i lo hi : Nat} {q : Row} (hq : rowAt σ i = some q) (h : deepT σ (.sl i lo hi) = false) : q.dp = .f := dp_row hq h
/-- a row's values, as a list of lists -/
theorem elems_vals (M : Mem w0 B σ E ok w) {x : T} {a : Option Addr} {n cap : Nat} {l : List (List C)} (hx : TRel w ok E x (.slice a n cap)) (h : elems σ x = some l) (hdp : deepT σ x = false) (sz : Nat) (hz : wide sz l = true) (hr : ∀ i lo hi q, (x = .row i ∨ x = .sl i lo hi) → rowAt σ i = some q → q.sz = sz ∨ l = []) :
    l.length = n ∧ ∃ f : Nat → Nat → Value, (∀ i j, i < n → j < sz → ∃ ad, a = some ad ∧ w.cell? (ad.add (i * sz + j)) = some (f i j)) ∧ ∀ i j el c, l[i]? = some el → el[j]? = some c → Holds w ok c (f i j) := by
  replace hz := wide_iff.mp hz
  cases x <;> simp only [elems, Option.some.injEq, Option.map_eq_some_iff, reduceCtorEq] at h
  case c cx =>
    cases cx with
    | s _ => simp at h
    | r l' =>
      simp at h; subst h
      cases (hx : Holds w ok (.r _) (.slice a n cap)) with
      | r _ _ _ _ s f hm hc hz' hmem hf =>
        refine ⟨hm, f, fun i j hi hj => ?_, hf⟩
        have h1 : l'[i]? = some (l'[i]'(by omega)) := List.getElem?_eq_getElem _
        have hs : s = sz := by rw [← hz' _ (List.mem_of_getElem? h1), hz _ (List.mem_of_getElem? h1)]
        subst hs
        obtain ⟨ad, h2, _, h3⟩ := hmem i j hi hj
        exact ⟨ad, h2, h3⟩
  case nil =>
    subst h
    have e' : Value.slice a n cap = .slice none 0 0 := hx
    injection e' with e1 e2 e3
    subst e1 e2 e3
    exact ⟨rfl, fun _ _ => undef, fun i j hi => by omega, fun i j el c hi => by simp at hi⟩
  all_goals
    obtain ⟨q, hq, rfl⟩ := h
  case row i =>
    obtain ⟨r, hrr, e'⟩ := hx
    injection e' with e1 e2 e3
    subst e1 e2 e3
    have hR := M.row i r q hrr hq
    obtain ⟨hl, hcap, hsz, hqz⟩ := hR.len
    refine ⟨hl, ?_⟩
    rcases hr i 0 0 q (.inl rfl) hq with hs | hs
    · have hs' : r.sz = sz := by rw [← hqz, hs]
      subst hs'
      obtain ⟨_, hrow⟩ := hR
      cases ho : q.ow with
      | true =>
        rw [ho, if_pos rfl, dp_row hq hdp] at hrow
        obtain ⟨h1, h2, h3, h3', h4⟩ := hrow
        cases hκ : r.κ with
        | none =>
          simp only [hκ] at h4
          exact ⟨fun _ _ => undef, fun i j hi => by omega, fun i j el c hi => by have := (List.getElem?_eq_some_iff.mp hi).1; omega⟩
        | some k =>
          simp only [hκ] at h4
          obtain ⟨off, t, c0, h5, h6, h7, h8⟩ := h4
          refine ⟨fun i j => (c0[off + (i * r.sz + j)]?).getD undef, fun i j hi hj => ⟨_, h5, ?_⟩, fun i j el c hi hj => ?_⟩
          · have hel : q.l[i]? = some (q.l[i]'(by omega)) := List.getElem?_eq_getElem _
            have hc : (q.l[i]'(by omega))[j]? = some ((q.l[i]'(by omega))[j]'(by rw [hsz _ (List.mem_of_getElem? hel)]; omega)) := List.getElem?_eq_getElem _
            obtain ⟨u, h9, _⟩ := h8 i j _ _ hel hc
            rw [add_none, cell_block h6, h9]; simp only [h9, Option.getD_some]
          · obtain ⟨u, h9, h10⟩ := h8 i j el c hi hj
            simp only [h9, Option.getD_some]; exact h10
      | false =>
        rw [ho] at hrow
        obtain ⟨_, h1, h2, h3, _, f, h4, h5⟩ := hrow
        exact ⟨f, fun i j hi hj => by obtain ⟨ad, h6, _, h7⟩ := h4 i j hi (by omega); exact ⟨ad, h6, h7⟩, h5⟩
    · exact ⟨fun _ _ => undef, fun i j hi => by rw [hs] at hl; simp at hl; omega, fun i j el c hi => by rw [hs] at hi; simp at hi⟩
  case sl i lo hi =>
    obtain ⟨r, a', hrr, hlo, hhi, e', ha⟩ := hx
    injection e' with e1 e2 e3
    subst e1 e2 e3
    have hR := M.row i r q hrr hq
    obtain ⟨hl, hcap, hsz, hqz⟩ := hR.len
    have hlen : (cut q.l lo hi).length = hi - lo := cut_len _ _ _ (by omega)
    refine ⟨hlen, ?_⟩
    rcases hr i lo hi q (.inr rfl) hq with hs | hs
    · have hs' : r.sz = sz := by rw [← hqz, hs]
      subst hs'
      obtain ⟨_, hrow⟩ := hR
      cases ho : q.ow with
      | true =>
        rw [ho, if_pos rfl, dp_row hq hdp] at hrow
        obtain ⟨h1, h2, h3, h3', h4⟩ := hrow
        cases hκ : r.κ with
        | none =>
          simp only [hκ] at h4
          exact ⟨fun _ _ => undef, fun i j hi => by omega, fun i j el c hi => by have := (List.getElem?_eq_some_iff.mp hi).1; omega⟩
        | some k =>
          simp only [hκ] at h4
          obtain ⟨off, t, c0, h5, h6, h7, h8⟩ := h4
          refine ⟨fun i j => (c0[off + ((lo + i) * r.sz + j)]?).getD undef, fun i j hi hj => ?_, fun i j el c hi hj => ?_⟩
          · obtain ⟨ad, had, rfl⟩ := ha (by omega)
            rw [h5] at had; cases had
            refine ⟨_, rfl, ?_⟩
            have hel : q.l[lo + i]? = some (q.l[lo + i]'(by omega)) := List.getElem?_eq_getElem _
            have hc : (q.l[lo + i]'(by omega))[j]? = some ((q.l[lo + i]'(by omega))[j]'(by rw [hsz _ (List.mem_of_getElem? hel)]; omega)) := List.getElem?_eq_getElem _
            obtain ⟨u, h9, _⟩ := h8 (lo + i) j _ _ hel hc
            rw [add_add, add_none, cell_block h6, show lo * r.sz + (i * r.sz + j) = (lo + i) * r.sz + j by rw [Nat.add_mul]; omega, h9]; simp only [h9, Option.getD_some]
          · obtain ⟨u, h9, h10⟩ := h8 (lo + i) j el c (cut_get hi) hj
            simp only [h9, Option.getD_some]; exact h10
      | false =>
        rw [ho] at hrow
        obtain ⟨_, h1, h2, h3, _, f, h4, h5⟩ := hrow
        refine ⟨fun i j => f (lo + i) j, fun i j hi hj => ?_, fun i j el c hi hj => h5 _ _ _ _ (cut_get hi) hj⟩
        obtain ⟨ad, h6, _, h7⟩ := h4 (lo + i) j (by omega) (by omega)
        obtain ⟨ad', had, rfl⟩ := ha (by omega)
        rw [h6] at had; cases had
        exact ⟨_, rfl, by rw [add_add, show lo * r.sz + (i * r.sz + j) = (lo + i) * r.sz + j by rw [Nat.add_mul]; omega]; exact h7⟩
    · exact ⟨fun _ _ => undef, fun i j hi => by rw [hs] at hlen; simp at hlen; omega, fun i j el c hi => by rw [hs] at hi; simp at hi⟩
end Go.SX

set_option linter.unusedVariables false
set_option linter.unusedSimpArgs false
set_option linter.unusedSectionVars false
namespace Go.SX
variable {P : Program} {w w' w0 : World} {ok ok' : Nat → Prop} {E E' : Env} {B : Bd} {σ σ' : St}

theorem elems_vals' (M : Mem w0 B σ E ok w) {x : T} {a : Option Addr} {n cap : Nat} {l : List (List C)} (hx : TRel w ok E x (.slice a n cap)) (h : elems σ x = some l) (hdp : deepT σ x = false) (sz : Nat) (hz : wide sz l = true) :
    l.length = n ∧ ∃ f : Nat → Nat → Value, (∀ i j, i < n → j < sz → ∃ ad, a = some ad ∧ w.cell? (ad.add (i * sz + j)) = some (f i j)) ∧ ∀ i j el c, l[i]? = some el → el[j]? = some c → Holds w ok c (f i j) := by
  refine elems_vals M hx h hdp sz hz fun i lo hi q hxi hq => ?_
  have key : ∀ el, el ∈ l → el ∈ q.l → q.sz = sz := by
    intro el h1 h2
    have hr : ∃ r, E.ρ[i]? = some r := by
      rcases hxi with rfl | rfl
      · obtain ⟨r, hr, _⟩ := hx; exact ⟨r, hr⟩
      · obtain ⟨r, _, hr, _⟩ := hx; exact ⟨r, hr⟩
    obtain ⟨r, hr⟩ := hr
    obtain ⟨_, _, h3, h4⟩ := (M.row i r q hr hq).len
    rw [h4, ← h3 el h2, wide_iff.mp hz el h1]
  cases l with
  | nil => exact .inr rfl
  | cons el l' =>
    refine .inl (key el (by simp) ?_)
    rcases hxi with rfl | rfl
    · simp only [elems, hq, Option.map_some, Option.some.injEq] at h; rw [h]; simp
    · simp only [elems, hq, Option.map_some, Option.some.injEq] at h; exact cut_mem (lo := lo) (hi := hi) (by rw [h]; simp)

theorem bytes_wide : ∀ (l : List (List C)) (b : List UInt8), bytesOf l = some b → wide 1 l = true
  | [], _, _ => rfl
  | el :: l, b, h => by
    cases el with
    | nil => simp [bytesOf] at h
    | cons c cs =>
      cases cs with
      | cons _ _ => cases c with
        | s v => cases v <;> simp [bytesOf] at h
        | r _ => simp [bytesOf] at h
      | nil =>
        cases c with
        | r _ => simp [bytesOf] at h
        | s v =>
          cases v <;> try (simp [bytesOf] at h; done)
          rename_i k n
          cases k <;> try (simp [bytesOf] at h; done)
          simp only [bytesOf, Option.map_eq_some_iff] at h
          obtain ⟨b', hb, rfl⟩ := h
          have := wide_iff.mp (bytes_wide l b' hb)
          exact wide_iff.mpr (by intro e he; simp at he; rcases he with rfl | he; rfl; exact this e he)
theorem ok_conv (M : Mem w0 B σ E ok w) {x y : T} {av : Value} {src dst : TypeId} (hx : TRel w ok E x av) (h : opConv P σ src dst x = some (y, σ')) :
    σ' = σ ∧ ∃ v, (convert src dst av).run P w = .ok v w ∧ TRel w ok E y v := by
  unfold opConv at h
  split at h
  · rename_i v
    obtain rfl := hx.sc
    simp only [Option.map_eq_some_iff, Prod.mk.injEq] at h
    obtain ⟨u, hu, rfl, rfl⟩ := h
    exact ⟨rfl, u, run_pureRun _ _ hu, ofV_t u⟩
  · rename_i y0 hns
    split at h
    · simp at h
    rename_i hdp
    split at h
    · rename_i hd he
      simp only [Option.bind_eq_some_iff, Option.map_eq_some_iff, Prod.mk.injEq] at h he
      obtain ⟨l, hl, b, hb, rfl, rfl⟩ := h
      obtain ⟨e, he, hu8⟩ := he
      have hs := und_elOf he
      obtain ⟨a, cap, rfl, hcap⟩ := elems_len M hx hl
      obtain ⟨_, f, hf1, hf2⟩ := elems_vals' M hx hl (by simpa using hdp) 1 (bytes_wide l b hb)
      refine ⟨rfl, .string ⟨b.toArray⟩, ?_, Holds.s _ rfl⟩
      cases a with
      | none =>
        have hn : l = [] := by
          cases l with
          | nil => rfl
          | cons el l' => obtain ⟨ad, h1, _⟩ := hf1 0 0 (by simp) (by omega); simp at h1
        subst hn
        rw [run_convert_bytes_nil w src e hs hu8 _ _ dst hd]
        simp [bytesOf] at hb; subst hb; rfl
      | some ad =>
        obtain ⟨ns, hlen, rfl, hns⟩ := bytes_rel (w := w) (ok := ok) (ad := ad) l b 0 (fun i => f i 0) hb (fun j el c h1 h2 => by rw [Nat.zero_add]; exact hf2 j 0 el c h1 h2)
        have hload : (loadCells ad l.length).run P w = .ok (ns.map (Value.int .u8)).toArray w := by
          have := run_loadCells (P := P) (w := w) ad (ns.map (Value.int .u8)) (fun j u hj => by
            rw [List.getElem?_map] at hj
            cases hn : ns[j]? with
            | none => rw [hn] at hj; simp at hj
            | some n =>
              rw [hn] at hj; simp at hj; subst hj
              have hlt : j < l.length := by rw [← hlen]; exact (List.getElem?_eq_some_iff.mp hn).1
              obtain ⟨ad', h1, h2⟩ := hf1 j 0 hlt (by omega)
              cases h1
              have h3 := hns j n hn
              simp only [Nat.zero_add] at h3
              rw [← h3]; simpa using h2)
          rw [show (ns.map (Value.int .u8)).length = l.length by simp [hlen]] at this
          exact this
        rw [run_convert_bytes_string w src dst e _ _ cap hs hu8 hd, run_bytesToString w _ _ cap ns hload, foldl_push]
        simp [ByteArray.empty, ByteArray.emptyWithCapacity]; rfl
    · simp at h

/-! build -/
theorem fold_over (off : Nat) : ∀ (vs : List Value) (i : Nat) (cs : Array Value), off + i + vs.length ≤ cs.size → (vs.zipIdx i).foldl (fun cs (c, j) => cs.setIfInBounds (off + j) c) cs = over cs (off + i) vs
  | [], i, cs, _ => by simp [over]
  | v :: vs, i, cs, h => by
    simp only [List.length_cons] at h
    rw [List.zipIdx_cons, List.foldl_cons, fold_over off vs (i + 1) _ (by simp; omega)]
    unfold over
    congr 1
    have e1 : (cs.setIfInBounds (off + i) v).toList = cs.toList.set (off + i) v := by simp
    rw [e1]
    have hl : off + i < cs.toList.length := by simp; omega
    have e2 : (cs.toList.set (off + i) v).take (off + (i + 1)) = cs.toList.take (off + i) ++ [v] := by
      rw [show off + (i + 1) = (off + i) + 1 by omega, List.take_add_one, List.take_set_of_le (by omega), List.getElem?_set_self (by omega)]; simp
    have e3 : (cs.toList.set (off + i) v).drop (off + (i + 1) + vs.length) = cs.toList.drop (off + i + (v :: vs).length) := by
      rw [List.drop_set_of_lt (by omega), show off + (i + 1) + vs.length = off + i + (v :: vs).length by simp; omega]
    rw [e2, e3]; simp
theorem splice_rel {R : T → Value → Prop} {cs l n : List T} {vs : Array Value} {ns : List Value} {o : Nat} (h : splice cs o n = some l) (h1 : All2 R cs vs.toList) (h2 : All2 R n ns) : o + ns.length ≤ vs.size ∧ All2 R l (over vs o ns).toList := by
  unfold splice at h
  split at h
  · rename_i hle
    simp at h; subst h
    have e1 := h1.len; have e2 := h2.len
    simp only [Array.length_toList] at e1
    refine ⟨by omega, ?_⟩
    unfold over
    rw [← e2]
    have := ((h1.take o).append h2).append (h1.drop (o + n.length))
    simpa using this
  · simp at h
theorem fill_rel {place : Nat → Option (Nat × Nat)} : ∀ (ps : List (Nat × T)) (vs : List (Nat × Value)) (cs l : List T) (zs : Array Value), All2 (fun p q => p.1 = q.1 ∧ TRel w ok E p.2 q.2) ps vs → All2 (XRel w ok E) cs zs.toList → fillT place cs ps = some l → ∃ zs', Instr.fill place zs vs = some zs' ∧ All2 (XRel w ok E) l zs'.toList
  | [], _, cs, l, zs, hp, hc, h => by cases hp; simp [fillT] at h; subst h; exact ⟨zs, rfl, hc⟩
  | (i, x) :: ps, _, cs, l, zs, hp, hc, h => by
    cases hp with
    | @cons _ q _ vs hq hps =>
      obtain ⟨j, v⟩ := q
      obtain ⟨rfl, hv⟩ := hq
      simp only [fillT, Option.bind_eq_some_iff] at h
      obtain ⟨⟨off, size⟩, hpl, xs, hxs, h⟩ := h
      split at h
      · rename_i hsz
        simp only [Option.bind_eq_some_iff] at h
        obtain ⟨cs', hcs, h⟩ := h
        have hfl := hv.flat hxs
        have hlen := hfl.len
        obtain ⟨hle, hc'⟩ := splice_rel hcs hc hfl
        obtain ⟨zs', h1, h2⟩ := fill_rel ps vs cs' l _ hps hc' h
        refine ⟨zs', ?_, h2⟩
        simp only [Instr.fill, hpl]
        have e0 : v.cells.size = size := by simpa [hsz] using hlen.symm
        have e1 : ¬ (v.cells.size ≠ size || decide (off + v.cells.size > zs.size)) = true := by
          simp only [ne_eq, Bool.or_eq_true, decide_eq_true_eq, not_or, Decidable.not_not]
          exact ⟨e0, by simp at hle; omega⟩
        rw [if_neg e1, ← h1]
        congr 1
        have := fold_over off v.cells.toList 0 zs (by simp at hle ⊢; omega)
        rw [← Array.foldl_toList]
        simpa [Array.toList_zipIdx] using this
      · simp at h
theorem ok_build {parts : List (Nat × T)} {pv : Array (Nat × Value)} {y : T} {t : TypeId} (hp : All2 (fun p q => p.1 = q.1 ∧ TRel w ok E p.2 q.2) parts pv.toList) (h : opBuild P σ t parts = some (y, σ')) :
    σ' = σ ∧ ∃ v, (Instr.build t pv).run P w = .ok v w ∧ TRel w ok E y v := by
  unfold opBuild at h
  simp only [Option.bind_eq_some_iff] at h
  obtain ⟨it, hit, z, hz, h⟩ := h
  split at h
  · rename_i cs hc
    simp only [Option.bind_eq_some_iff, Option.map_eq_some_iff, Prod.mk.injEq] at h
    obtain ⟨ps, hps, l, hl, rfl, rfl⟩ := h
    have hzr := constT_rel (w := w) (ok := ok) (E := E) z
    rw [hc] at hzr
    obtain ⟨zs, rfl, hzs⟩ := hzr
    obtain ⟨zs', h1, h2⟩ := fill_rel parts pv.toList cs l zs hp hzs hl
    refine ⟨rfl, .agg zs', run_build w t pv zs' ?_, zs', rfl, h2⟩
    unfold Program.built
    unfold placesOf at hps
    cases hd : P.underlying t with
    | none => simp [hd] at hps
    | some d =>
      simp only [hd, Option.bind_some] at hps
      cases d <;> simp only [reduceCtorEq] at hps
      simp only [hit, hz, hps]
      exact h1
  · simp at h
theorem ok_len (M : Mem w0 B σ E ok w) {x : T} {av : Value} {t : TypeId} {l : List (List C)} {e ty : TypeId} (hx : TRel w ok E x av) (he : elOf P t = some e) (h : elems σ x = some l) : (Builtin.len_ #[t] ty #[av]).run P w = .ok (.int .i64 l.length) w := by
  obtain ⟨a, cap, rfl, hcap⟩ := elems_len M hx h
  simp [Builtin.len_, run_und (und_elOf he), goInt]
end Go.SX

set_option linter.unusedVariables false
set_option linter.unusedSimpArgs false
set_option linter.unusedSectionVars false
namespace Go.SX
variable {P : Program} {w w' w0 : World} {ok ok' : Nat → Prop} {E E' : Env} {B : Bd} {σ σ' : St}

theorem push_same {o : Obj} {k : Nat} (h : k < w.heap.size) : (w.alloc o).heap[k]? = w.heap[k]? := by
  show (w.heap.push o)[k]? = _
  rw [Array.getElem?_push, if_neg (by omega)]
theorem push_new {o : Obj} : (w.alloc o).heap[w.heap.size]? = some o := by
  show (w.heap.push o)[w.heap.size]? = _
  simp
theorem Fr.push (h : Fr w0 B.L w) (o : Obj) : Fr w0 B.L (w.alloc o) := ⟨h.os, h.tape, h.output, by have := h.size; simp; omega, fun k hk hl => by rw [push_same (by have := h.size; omega)]; exact h.old k hk hl⟩
def lt (w : World) (ok : Nat → Prop) : Nat → Prop := fun k => ok k ∧ k < w.heap.size
theorem keep_push (o : Obj) : Keep w (w.alloc o) ok (lt w ok) := fun _ h1 h2 => ⟨push_same h2, h1, h2⟩
theorem Mem.push (M : Mem w0 B σ E ok w) (o : Obj) : Mem w0 B σ E (lt w ok) (w.alloc o) :=
  M.go (keep_push o) (fun k h => M.okin k h.1) (M.fr.push o) (by simp) fun x k h => ⟨push_same (M.mine x k h).2.2, fun hk => (M.mine x k h).1 hk.1⟩
theorem newBox_eq (l : List T) : (newBox σ l).2 = setBox { σ with bx := σ.bx ++ [none] } σ.bx.length (some l) := by simp [newBox, setBox]
theorem newRow_eq (q : Row) : (newRow σ q).2 = setRow { σ with rw := σ.rw ++ [none] } σ.rw.length (some q) := by simp [newRow, setRow]
theorem Mem.newB (M : Mem w0 B σ E ok w) {k : Nat} {l : List T} (hb : BoxOk w ok E k l) (ho : ¬ ok k) (hh : w0.heap.size ≤ k ∨ B.L k) (hd : ∀ x, mutAt σ E x ≠ some k) :
    Mem w0 B (newBox σ l).2 ⟨E.β ++ [k], E.ρ, E.δ⟩ ok w ∧ E.Le ⟨E.β ++ [k], E.ρ, E.δ⟩ ∧ TRel w ok ⟨E.β ++ [k], E.ρ, E.δ⟩ (newBox σ l).1 (ptr k) := by
  obtain ⟨M1, hle⟩ := M.roomB k
  have hE : (E.β ++ [k])[σ.bx.length]? = some k := by rw [← M.lb]; simp
  refine ⟨?_, hle, k, hE, rfl⟩
  rw [newBox_eq]
  refine M1.setB hE ?_ (hb.keep (fun _ h _ => ⟨rfl, h⟩) hle rfl) ho hh fun x hx => ?_
  · simp [boxAt]
  · cases x with
    | b b =>
      simp only [mutAt] at hx
      cases hb' : boxAt { σ with bx := σ.bx ++ [none] } b with
      | none => simp [hb'] at hx
      | some l' =>
        have hlt : b < σ.bx.length := by
          have h1 := boxAt_lt hb'
          simp at h1
          rcases Nat.lt_or_ge b σ.bx.length with h | h
          · exact h
          · have : b = σ.bx.length := by omega
            subst this; simp [boxAt] at hb'
        have h2 : boxAt σ b = some l' := by unfold boxAt at hb' ⊢; rw [List.getElem?_append_left hlt] at hb'; exact hb'
        rw [hb'] at hx
        exact hd (.b b) (by simp only [mutAt, h2]; rw [← hx, List.getElem?_append_left (by rw [M.lb]; exact hlt)])
    | r i => exact hd (.r i) hx
    | d i m => exact hd (.d i m) hx
theorem mut_room (M : Mem w0 B σ E ok w) {r : RV} {D : Nat → List Nat} {x : Mt} {k : Nat} (h : mutAt { σ with rw := σ.rw ++ [none] } ⟨E.β, E.ρ ++ [r], E.δ⟩ x = some k) : mutAt σ E x = some k := by
  have key : ∀ {i q'}, rawAt { σ with rw := σ.rw ++ [none] } i = some q' → i < σ.rw.length ∧ rawAt σ i = some q' := by
    intro i q' hb'
    have hlt : i < σ.rw.length := by
      have h1 := rawAt_lt hb'
      simp at h1
      rcases Nat.lt_or_ge i σ.rw.length with h | h
      · exact h
      · have : i = σ.rw.length := by omega
        subst this; simp [rawAt] at hb'
    exact ⟨hlt, by unfold rawAt at hb' ⊢; rw [List.getElem?_append_left hlt] at hb'; exact hb'⟩
  cases x with
  | b b => exact h
  | r i =>
    simp only [mutAt] at h ⊢
    cases hb' : rawAt { σ with rw := σ.rw ++ [none] } i with
    | none => simp [hb'] at h
    | some q' =>
      obtain ⟨hlt, h2⟩ := key hb'
      rw [hb'] at h
      rw [h2]; simp only at h ⊢
      rw [← h, List.getElem?_append_left (by rw [M.lr]; exact hlt)]
  | d i m =>
    simp only [mutAt] at h ⊢
    cases hb' : rawAt { σ with rw := σ.rw ++ [none] } i with
    | none => simp [hb'] at h
    | some q' =>
      obtain ⟨hlt, h2⟩ := key hb'
      rw [hb'] at h
      rw [h2]; exact h
theorem Mem.newRD (M : Mem w0 B σ E ok w) {r : RV} {q : Row} {D : List Nat} (hb : RowOk w ok D r q) (hd : ∀ k, q.ow = true → r.κ = some k → ¬ ok k ∧ (w0.heap.size ≤ k ∨ B.L k) ∧ ∀ x, mutAt σ E x ≠ some k)
    (hD : q.ow = true → q.dp ≠ .f → D.Nodup ∧ ∀ k ∈ D, r.κ ≠ some k ∧ ¬ ok k ∧ (w0.heap.size ≤ k ∨ B.L k) ∧ k < w.heap.size ∧ ∀ x, mutAt σ E x ≠ some k) :
    Mem w0 B (newRow σ q).2 ⟨E.β, E.ρ ++ [r], upd E.δ σ.rw.length D⟩ ok w ∧ E.Le ⟨E.β, E.ρ ++ [r], upd E.δ σ.rw.length D⟩ ∧ TRel w ok ⟨E.β, E.ρ ++ [r], upd E.δ σ.rw.length D⟩ (newRow σ q).1 (.slice r.a r.n r.cap) := by
  obtain ⟨M1, hle⟩ := M.roomR r
  have hE : (E.ρ ++ [r])[σ.rw.length]? = some r := by rw [← M.lr]; simp
  refine ⟨?_, ⟨hle.b, hle.r⟩, r, hE, rfl⟩
  rw [newRow_eq]
  have hk : ∀ {x k}, mutAt (setRow { σ with rw := σ.rw ++ [none] } σ.rw.length none) ⟨E.β, E.ρ ++ [r], E.δ⟩ x = some k → mutAt σ E x = some k := fun h => mut_room M (D := E.δ) (mut_kill_le h)
  exact M1.setRD hE hb (fun k h1 h2 => ⟨(hd k h1 h2).1, (hd k h1 h2).2.1, own_lt hb h1 h2, fun x hx => (hd k h1 h2).2.2 x (hk hx)⟩) fun h1 h2 => ⟨(hD h1 h2).1, fun k hkk => by
    obtain ⟨a1, a2, a3, a4, a5⟩ := (hD h1 h2).2 k hkk
    exact ⟨a1, a2, a3, a4, fun x hx => a5 x (hk hx)⟩⟩
theorem Mem.newR (M : Mem w0 B σ E ok w) {r : RV} {q : Row} (hf : q.dp = .f) (hb : RowOk w ok [] r q) (hd : ∀ k, q.ow = true → r.κ = some k → ¬ ok k ∧ (w0.heap.size ≤ k ∨ B.L k) ∧ ∀ x, mutAt σ E x ≠ some k) :
    Mem w0 B (newRow σ q).2 ⟨E.β, E.ρ ++ [r], upd E.δ σ.rw.length []⟩ ok w ∧ E.Le ⟨E.β, E.ρ ++ [r], upd E.δ σ.rw.length []⟩ ∧ TRel w ok ⟨E.β, E.ρ ++ [r], upd E.δ σ.rw.length []⟩ (newRow σ q).1 (.slice r.a r.n r.cap) :=
  M.newRD hb hd fun _ h => absurd hf h

/-- how an operation ends -/
def StepR (w0 : World) (B : Bd) (w : World) (ok : Nat → Prop) (E : Env) (σ' : St) (x : T) (v : Value) (w' : World) : Prop :=
  ∃ E' ok', Mem w0 B σ' E' ok' w' ∧ E.Le E' ∧ Keep w w' ok ok' ∧ TRel w' ok' E' x v
theorem keep_refl : Keep w w ok ok := fun _ h _ => ⟨rfl, h⟩
theorem StepR.still (M : Mem w0 B σ E ok w) {x : T} {v : Value} (h : TRel w ok E x v) : StepR w0 B w ok E σ x v w := ⟨E, ok, M, .refl _, keep_refl, h⟩

theorem step_newBox (M : Mem w0 B σ E ok w) {l : List T} {cs : Array Value} (t : TypeId) (h : All2 (XRel w ok E) l cs.toList) : StepR w0 B w ok E (newBox σ l).2 (newBox σ l).1 (ptr w.heap.size) (w.alloc (.cells cs t)) := by
  obtain ⟨h1, h2, h3⟩ := (M.push (.cells cs t)).newB (k := w.heap.size) (l := l) ⟨t, cs, push_new, h.imp fun _ _ h => h.keep (keep_push _) (.refl _)⟩ (fun hk => by have := hk.2; omega) (.inl M.fr.size) (fun x hx => by have := (M.mine x _ hx).2.2; omega)
  exact ⟨_, _, h1, h2, keep_push _, h3⟩
theorem ok_box (M : Mem w0 B σ E ok w) {x y : T} {av : Value} {t : TypeId} (hx : TRel w ok E x av) (h : opBox P σ t x = some (y, σ')) :
    ∃ v w', (Instr.box t av).run P w = .ok v w' ∧ StepR w0 B w ok E σ' y v w' := by
  unfold opBox at h
  simp only [Option.bind_eq_some_iff] at h
  obtain ⟨l, hl, h⟩ := h
  split at h
  · simp only [Option.some.injEq] at h
    have := step_newBox M t (hx.flat hl)
    rw [h] at this
    exact ⟨_, _, by simp [Instr.box, newVar, Go.newRow]; rfl, this⟩
  · simp at h
theorem ok_alloc (M : Mem w0 B σ E ok w) {y : T} {t : TypeId} {u : Value} (h : opAlloc P σ t = some (y, σ')) :
    ∃ v w', (Instr.alloc t true u).run P w = .ok v w' ∧ StepR w0 B w ok E σ' y v w' := by
  unfold opAlloc at h
  simp only [Option.bind_eq_some_iff, Option.map_eq_some_iff] at h
  obtain ⟨i, hi, z, hz, l, hl, h⟩ := h
  have hzr := constT_rel (w := w) (ok := ok) (E := E) z
  have := step_newBox M t (hzr.flat hl)
  rw [h] at this
  exact ⟨_, _, by simp [Instr.alloc, run_zero hi hz, newVar, Go.newRow]; rfl, this⟩

/-- what is ours alone -/
def Muts (σ : St) (E : Env) (k : Nat) : Prop := ∃ x, mutAt σ E x = some k
/-! seen from now on -/
theorem own_sh {r : RV} {l : List (List C)} (h : OwnAt w ok r l) (hk : ∀ k, ok k → ok' k) (hκ : ∀ k, r.κ = some k → ok' k) : ShAt w ok' r l := by
  obtain ⟨h1, h2, h3, h3', h4⟩ := h
  have hup : ∀ {c : C} {v : Value}, Holds w ok c v → Holds w ok' c v := fun h => h.keep fun k h _ => ⟨rfl, hk k h⟩
  cases hκ' : r.κ with
  | none =>
    simp only [hκ'] at h4
    exact ⟨h1, h2, h3, fun h => absurd h4 h, fun _ _ => undef, fun i j hi => by omega, fun i j el c hi => by have := (List.getElem?_eq_some_iff.mp hi).1; omega⟩
  | some k =>
    simp only [hκ'] at h4
    obtain ⟨off, t, c0, h5, h6, h7, h8⟩ := h4
    refine ⟨h1, h2, h3, fun _ => ⟨_, h5⟩, fun i j => (c0[off + (i * r.sz + j)]?).getD undef, fun i j hi hj => ⟨_, h5, hκ k hκ', ?_⟩, fun i j el c hi hj => ?_⟩
    · have hel : l[i]? = some (l[i]'(by omega)) := List.getElem?_eq_getElem _
      have hc : (l[i]'(by omega))[j]? = some ((l[i]'(by omega))[j]'(by rw [h3 _ (List.mem_of_getElem? hel)]; omega)) := List.getElem?_eq_getElem _
      obtain ⟨u, h9, _⟩ := h8 i j _ _ hel hc
      rw [add_none, cell_block h6, h9]; simp only [h9, Option.getD_some]
    · obtain ⟨u, h9, h10⟩ := h8 i j el c hi hj
      simp only [h9, Option.getD_some]; exact hup h10
theorem dh_holds {c : C} {v : Value} {D : List Nat} (h : DH w c v D) (hk : ∀ b ∈ D, ok b) : Holds w ok c v := by
  induction h with
  | s v h => exact .s v h
  | r l a n cap sz κ off t cs D u f hn hc hz h0 hN hS hu hf hD hkk hd hE ih =>
    refine .r l a n cap sz u hn hc hz (fun i j hi hj => ?_) (fun i j el c hi hj => ih i j el c hi hj fun b hb => hk b ((hD b).2 (.inr ⟨i, j, ?_, ?_, hb⟩)))
    · cases hκ : κ with
      | none =>
        have := hN hκ
        omega
      | some k =>
        obtain ⟨h1, h2, h3⟩ := hS k hκ
        exact ⟨_, h1, hk k ((hD k).2 (.inl hκ)), by rw [add_none, cell_block h2]; exact hu i j hi hj⟩
    · rw [← hn]; exact (List.getElem?_eq_some_iff.mp hi).1
    · rw [← hz el (List.mem_of_getElem? hi)]; exact (List.getElem?_eq_some_iff.mp hj).1
theorem deep_sh {r : RV} {l : List (List C)} {δ : List Nat} (h : DeepAt w r l δ none) (hκ : ∀ k, r.κ = some k → ok k) (hδ : ∀ k ∈ δ, ok k) : ShAt w ok r l := by
  obtain ⟨off, t, cs, u, f, a1, a2, a3, a4, a5, a6, a7, a8, a9, _⟩ := h
  refine ⟨a1, a2, a3, fun h0 => ?_, u, fun i j hi hj => ?_, fun i j el c hi hj => dh_holds (a8 i j el c hi hj (by simp)).1 fun b hb => hδ b ((a9 b).2 ⟨i, j, ?_, ?_, by simp, hb⟩)⟩
  · cases hk : r.κ with
    | none => exact absurd (a5 hk) h0
    | some k => exact ⟨_, (a6 k hk).1⟩
  · cases hk : r.κ with
    | none =>
      have := a5 hk
      omega
    | some k =>
      obtain ⟨h1, h2, h3⟩ := a6 k hk
      exact ⟨_, h1, hκ k hk, by rw [add_none, cell_block h2]; exact a7 i j hi hj⟩
  · rw [← a1]; exact (List.getElem?_eq_some_iff.mp hi).1
  · rw [← a3 el (List.mem_of_getElem? hi)]; exact (List.getElem?_eq_some_iff.mp hj).1
/-- a row of ours, all below it seen from elsewhere too from now on -/
theorem deep_own {r : RV} {l : List (List C)} {δ : List Nat} (h : DeepAt w r l δ none) (hδ : ∀ k ∈ δ, ok k) : OwnAt w ok r l := by
  obtain ⟨off, t, cs, u, f, a1, a2, a3, a4, a5, a6, a7, a8, a9, _⟩ := h
  refine ⟨a1, a2, a3, a4, ?_⟩
  cases hk : r.κ with
  | none => exact a5 hk
  | some k =>
    obtain ⟨h1, h2, h3⟩ := a6 k hk
    refine ⟨off, t, cs, h1, h2, h3, fun i j el c hi hj => ?_⟩
    have hi' : i < r.n := by rw [← a1]; exact (List.getElem?_eq_some_iff.mp hi).1
    have hj' : j < r.sz := by rw [← a3 el (List.mem_of_getElem? hi)]; exact (List.getElem?_eq_some_iff.mp hj).1
    exact ⟨u i j, a7 i j hi' hj', dh_holds (a8 i j el c hi hj (by simp)).1 fun b hb => hδ b ((a9 b).2 ⟨i, j, hi', hj', by simp, hb⟩)⟩
theorem setRow_none_some {i : Nat} {q : Row} : setRow (setRow σ i none) i (some q) = setRow σ i (some q) := by simp [setRow]
theorem mut_killR0 {i : Nat} {x : Mt} {k : Nat} (hlt : i < σ.rw.length) (h : mutAt (setRow σ i none) E x = some k) : x ≠ .r i ∧ (∀ m, x ≠ .d i m) ∧ mutAt σ E x = some k := by
  refine ⟨?_, ?_, mut_kill_le h⟩
  · rintro rfl; simp [mutAt, rawAt_set, hlt] at h
  · rintro m rfl; simp [mutAt, rawAt_set, hlt] at h
/-- all of a row's blocks -/
def blks (r : RV) (q : Row) (δ : List Nat) (k : Nat) : Prop := q.ow = true ∧ (r.κ = some k ∨ (q.dp ≠ .f ∧ k ∈ δ))
theorem blks_mut {i : Nat} {r : RV} {q : Row} {k : Nat} (hr : E.ρ[i]? = some r) (hq : rawAt σ i = some q) (h : blks r q (E.δ i) k) : ∃ x, mutAt σ E x = some k ∧ (x = .r i ∨ ∃ m, x = .d i m) := by
  obtain ⟨ho, h | ⟨h1, h2⟩⟩ := h
  · exact ⟨.r i, mut_raw hr hq ho h, .inl rfl⟩
  · obtain ⟨m, hm⟩ := mut_mem (E := E) hq ho h1 h2
    exact ⟨.d i m, hm, .inr ⟨m, rfl⟩⟩
theorem blks_dead (M : Mem w0 B σ E ok w) {i : Nat} {r : RV} {q : Row} {k : Nat} (hr : E.ρ[i]? = some r) (hq : rawAt σ i = some q) (h : blks r q (E.δ i) k) (x : Mt) : mutAt (setRow σ i none) E x ≠ some k := by
  intro hx
  obtain ⟨h1, h2, h3⟩ := mut_killR0 (rawAt_lt hq) hx
  obtain ⟨y, h4, h5⟩ := blks_mut hr hq h
  have := M.dis x y k h3 h4
  subst this
  rcases h5 with h5 | ⟨m, h5⟩
  · exact h1 h5
  · exact h2 m h5
/-- a row is not written any more: one may look at it from anywhere -/
theorem Mem.demoteR (M : Mem w0 B σ E ok w) {i : Nat} {q : Row} (hq : rowAt σ i = some q) : ∃ ok', Mem w0 B (setRow σ i (some { q with ow := false, dp := .f })) E ok' w ∧ (∀ k, ok k → ok' k) ∧ (∀ k, ok' k → ok k ∨ Muts σ E k) ∧ ∀ r, E.ρ[i]? = some r → ShAt w ok' r q.l := by
  have hlt := rowAt_lt hq
  obtain ⟨r, hr⟩ : ∃ r, E.ρ[i]? = some r := ⟨_, List.getElem?_eq_getElem (by rw [M.lr]; exact hlt)⟩
  have hR := M.row i r q hr hq
  have M1 := M.killR i
  have hrest : ∀ okN : Nat → Prop, (∀ k, ok k → okN k) → (∀ k, okN k → ok k ∨ blks r q (E.δ i) k) → ShAt w okN r q.l → ∃ ok', Mem w0 B (setRow σ i (some { q with ow := false, dp := .f })) E ok' w ∧ (∀ k, ok k → ok' k) ∧ (∀ k, ok' k → ok k ∨ Muts σ E k) ∧ ∀ r, E.ρ[i]? = some r → ShAt w ok' r q.l := by
    intro okN hup hdn hS
    have M2 : Mem w0 B (setRow σ i none) E okN w := by
      refine M1.okUp (fun k h _ => hup k h) (fun k h => ?_) fun x k h hk => ?_
      · rcases hdn k h with h | h
        · exact M.okin k h
        · obtain ⟨y, h1, _⟩ := blks_mut hr (row_raw hq) h
          exact .inr (M.mine y k h1).2.1
      · rcases hdn k hk with h3 | h3
        · exact (M1.mine x k h).1 h3
        · exact blks_dead M hr (row_raw hq) h3 x h
    refine ⟨okN, ?_, hup, fun k h => (hdn k h).imp id fun h => ?_, fun r' h' => by rw [hr] at h'; cases h'; exact hS⟩
    · rw [← setRow_none_some]
      exact M2.setR hr rfl ⟨hR.1, by simpa using hS⟩ (by simp)
    · obtain ⟨y, h1, _⟩ := blks_mut hr (row_raw hq) h
      exact ⟨y, h1⟩
  cases ho : q.ow with
  | false =>
    have := hR.2; rw [ho, if_neg (by simp)] at this
    exact hrest ok (fun _ h => h) (fun _ h => .inl h) this.2
  | true =>
    have h2 := hR.2
    rw [ho, if_pos rfl] at h2
    rcases dp_cases hq with hp | hp
    · rw [hp] at h2
      exact hrest (fun k => ok k ∨ r.κ = some k) (fun k h => .inl h) (fun k h => h.imp id fun h => ⟨ho, .inl h⟩) (own_sh h2 (fun k h => .inl h) fun k h => .inr h)
    · rw [hp] at h2
      exact hrest (fun k => ok k ∨ r.κ = some k ∨ k ∈ E.δ i) (fun k h => .inl h) (fun k h => h.imp id fun h => ⟨ho, h.imp id fun h => ⟨by rw [hp]; simp, h⟩⟩) (deep_sh h2 (fun k h => .inr (.inl h)) fun k h => .inr (.inr h))
/-- what lies below a row of ours may be seen from anywhere from now on -/
theorem Mem.thawR (M : Mem w0 B σ E ok w) {i : Nat} {q : Row} (hq : rowAt σ i = some q) (ho : q.ow = true) : ∃ ok', Mem w0 B (setRow σ i (some { q with dp := .f })) E ok' w ∧ (∀ k, ok k → ok' k) ∧ (∀ k, ok' k → ok k ∨ Muts σ E k) := by
  have hlt := rowAt_lt hq
  obtain ⟨r, hr⟩ : ∃ r, E.ρ[i]? = some r := ⟨_, List.getElem?_eq_getElem (by rw [M.lr]; exact hlt)⟩
  have hR := M.row i r q hr hq
  have M1 := M.killR i
  have hrest : ∀ okN : Nat → Prop, (∀ k, ok k → okN k) → (∀ k, okN k → ok k ∨ (blks r q (E.δ i) k ∧ r.κ ≠ some k)) → OwnAt w okN r q.l → ∃ ok', Mem w0 B (setRow σ i (some { q with dp := .f })) E ok' w ∧ (∀ k, ok k → ok' k) ∧ (∀ k, ok' k → ok k ∨ Muts σ E k) := by
    intro okN hup hdn hS
    have M2 : Mem w0 B (setRow σ i none) E okN w := by
      refine M1.okUp (fun k h _ => hup k h) (fun k h => ?_) fun x k h hk => ?_
      · rcases hdn k h with h | h
        · exact M.okin k h
        · obtain ⟨y, h1, _⟩ := blks_mut hr (row_raw hq) h.1
          exact .inr (M.mine y k h1).2.1
      · rcases hdn k hk with h3 | h3
        · exact (M1.mine x k h).1 h3
        · exact blks_dead M hr (row_raw hq) h3.1 x h
    refine ⟨okN, ?_, hup, fun k h => (hdn k h).imp id fun h => ?_⟩
    · rw [← setRow_none_some]
      refine M2.setR hr rfl ⟨hR.1, by simp only [ho, if_true]; exact hS⟩ fun k _ hk => ⟨fun hk' => ?_, (M.mine _ k (mut_r hr hq ho hk)).2.1, blks_dead M hr (row_raw hq) ⟨ho, .inl hk⟩⟩
      rcases hdn k hk' with h | h
      · exact (M.mine _ k (mut_r hr hq ho hk)).1 h
      · exact h.2 hk
    · obtain ⟨y, h1, _⟩ := blks_mut hr (row_raw hq) h.1
      exact ⟨y, h1⟩
  have h2 := hR.2
  rw [ho, if_pos rfl] at h2
  rcases dp_cases hq with hp | hp
  · rw [hp] at h2
    exact hrest ok (fun _ h => h) (fun _ h => .inl h) h2
  · rw [hp] at h2
    have hne : ∀ k ∈ E.δ i, r.κ ≠ some k := by
      intro k hk e
      obtain ⟨m, hm⟩ := mut_mem (E := E) (row_raw hq) ho (by rw [hp]; simp) hk
      have := M.dis _ _ _ hm (mut_r hr hq ho e)
      cases this
    exact hrest (fun k => ok k ∨ k ∈ E.δ i) (fun k h => .inl h) (fun k h => h.imp id fun h => ⟨⟨ho, .inr ⟨by rw [hp]; simp, h⟩⟩, hne k h⟩) (deep_own h2 fun k h => .inr h)
theorem mut_demoteR {i : Nat} {q : Row} {x : Mt} {k : Nat} (h : mutAt (setRow σ i (some { q with ow := false, dp := .f })) E x = some k) : mutAt σ E x = some k := by
  cases x with
  | b b => exact h
  | r j =>
    simp only [mutAt, rawAt_set] at h
    by_cases hij : i = j ∧ i < σ.rw.length
    · obtain ⟨rfl, hlt⟩ := hij; simp [hlt] at h
    · simp only [hij, if_false] at h; exact h
  | d j m =>
    simp only [mutAt, rawAt_set] at h
    by_cases hij : i = j ∧ i < σ.rw.length
    · obtain ⟨rfl, hlt⟩ := hij; simp [hlt] at h
    · simp only [hij, if_false] at h; exact h
theorem mut_demote {y : T} {x : Mt} {k : Nat} (h : mutAt (demote σ y) E x = some k) : mutAt σ E x = some k := by
  unfold SX.demote at h
  split at h
  · split at h
    · exact mut_demoteR h
    · exact h
  · split at h
    · exact mut_demoteR h
    · exact h
  · exact h
theorem Mem.demote (M : Mem w0 B σ E ok w) (x : T) : ∃ ok', Mem w0 B (demote σ x) E ok' w ∧ (∀ k, ok k → ok' k) ∧ (∀ k, ok' k → ok k ∨ Muts σ E k) := by
  unfold SX.demote
  split
  · split
    · rename_i i q hq; obtain ⟨ok', h1, h2, h3, _⟩ := M.demoteR hq; exact ⟨ok', h1, h2, h3⟩
    · exact ⟨ok, M, fun _ h => h, fun _ h => .inl h⟩
  · split
    · rename_i i _ _ q hq; obtain ⟨ok', h1, h2, h3, _⟩ := M.demoteR hq; exact ⟨ok', h1, h2, h3⟩
    · exact ⟨ok, M, fun _ h => h, fun _ h => .inl h⟩
  · exact ⟨ok, M, fun _ h => h, fun _ h => .inl h⟩
end Go.SX
