import Derived.Test.YtligkplajabcfaaSx4
import Derived.Laws.BytesArg
set_option linter.unusedVariables false
set_option linter.unusedSimpArgs false
set_option linter.unusedSectionVars false
namespace Go.SX
variable {P : Program} {w w' w0 : World} {ok ok' : Nat → Prop} {E E' : Env} {B : Bd} {σ σ' : St}

theorem wide_iff {n : Nat} {l : List (List C)} : wide n l = true ↔ ∀ el ∈ l, el.length = n := by simp [wide]
theorem cut_len {α : Type} (l : List α) (lo hi : Nat) (h : hi ≤ l.length) : (cut l lo hi).length = hi - lo := by simp [cut]; omega
theorem cut_get {α : Type} {l : List α} {lo hi i : Nat} {x : α} (h : (cut l lo hi)[i]? = some x) : l[lo + i]? = some x := by
  unfold cut at h
  rw [List.getElem?_drop, List.getElem?_take] at h
  split at h <;> simp_all
theorem cut_mem {α : Type} {l : List α} {lo hi : Nat} {x : α} (h : x ∈ cut l lo hi) : x ∈ l := List.mem_of_mem_take (List.mem_of_mem_drop h)
/-- a piece of a row that is seen -/
theorem holds_cut {l : List (List C)} {a a' : Option Addr} {n cap cap' lo hi sz : Nat} (h : Holds w ok (.r l) (.slice a n cap)) (hlo : lo ≤ hi) (hhi : hi ≤ n) (hz : ∀ el ∈ l, el.length = sz) (hc : hi - lo ≤ cap') (ha : 0 < hi - lo → ∀ ad, a = some ad → a' = some (ad.add (lo * sz))) : Holds w ok (.r (cut l lo hi)) (.slice a' (hi - lo) cap') := by
  cases h with
  | r _ _ _ _ s f hn hcap hs hm hf =>
    have hl : (cut l lo hi).length = hi - lo := cut_len l lo hi (by omega)
    refine .r _ _ _ _ sz (fun i j => f (lo + i) j) hl hc (fun el he => hz el (cut_mem he)) (fun i j hi' hj => ?_) (fun i j el c hi' hj => hf _ _ _ _ (cut_get hi') hj)
    have hsz : s = sz := by
      have h1 : l[lo + i]? = some (l[lo + i]'(by omega)) := List.getElem?_eq_getElem _
      rw [← hs _ (List.mem_of_getElem? h1), hz _ (List.mem_of_getElem? h1)]
    subst hsz
    obtain ⟨ad, rfl, hok, hcell⟩ := hm (lo + i) j (by omega) hj
    have e := ha (by omega) ad rfl
    subst e
    exact ⟨_, rfl, by rw [add_block]; exact hok, by rw [add_add]; rw [Nat.add_mul, Nat.add_assoc] at hcell; exact hcell⟩

/-- what the operands hold -/
def Rho (w : World) (ok : Nat → Prop) (E : Env) (ρ : Operand → T) (a : Act) : Prop := ∀ x, TRel w ok E (ρ x) (a.eval x)
variable {ρ : Operand → T}
theorem bound_rel {a : Act} (hT : Rho w ok E ρ a) {x : Option Operand} {d n : Nat} (h : bound ρ x d = some n) : (x = none ∧ n = d) ∨ ∃ y k m, x = some y ∧ a.eval y = .int k m ∧ 0 ≤ m ∧ n = m.toNat := by
  cases x with
  | none => simp [bound] at h; exact .inl ⟨rfl, h.symm⟩
  | some y =>
    simp only [bound] at h
    have := hT y
    split at h
    · rename_i k m he
      rw [he] at this
      split at h
      · rename_i h0; simp at h; exact .inr ⟨y, _, m, rfl, this.sc, h0, h.symm⟩
      · simp at h
    · simp at h
theorem run_slice {t e : TypeId} {sz : Nat} (hu : P.underlying t = some (.slice e)) (hn : szOf P e = some sz) {a : Act} (hT : Rho w ok E ρ a) {lo hi : Option Operand} {l h n cap : Nat} (h1 : bound ρ hi n = some h) (h2 : bound ρ lo 0 = some l) (hl : l ≤ h) (hh : h ≤ n) (hc : n ≤ cap) (ad : Option Addr) :
    (Instr.sliceAt t (.slice ad n cap) (lo.map a.eval) (hi.map a.eval) none).run P w = .ok (.slice (if cap = l then ad else ad.map (·.add (l * sz))) (h - l) (cap - l)) w := by
  have e1 : (Instr.sliceBounds true n cap (lo.map a.eval) (hi.map a.eval) none).run P w = .ok (l, h, cap) w := by
    rcases bound_rel hT h1 with ⟨rfl, rfl⟩ | ⟨y, k, m, rfl, hy, hm0, rfl⟩ <;> rcases bound_rel hT h2 with ⟨rfl, rfl⟩ | ⟨y2, k2, m2, rfl, hy2, hm2, rfl⟩
    · simp [Instr.sliceBounds]
    · simp only [Instr.sliceBounds, Option.map_none, Option.map_some, hy2, Sem.run_bind, Sem.run_pure, Result.andThen_ok, Instr.sliceBound, asIntOf]
      rw [if_pos ⟨hm2, by omega⟩]; simp
    · simp only [Instr.sliceBounds, Option.map_none, Option.map_some, hy, Sem.run_bind, Sem.run_pure, Result.andThen_ok, Instr.sliceBound, asIntOf]
      rw [if_pos ⟨hm0, by omega⟩]; simp
    · simp only [Instr.sliceBounds, Option.map_some, hy, hy2, Sem.run_bind, Sem.run_pure, Result.andThen_ok, Instr.sliceBound, asIntOf]
      rw [if_pos ⟨hm0, by omega⟩]
      simp only [Sem.run_pure, Result.andThen_ok]
      rw [if_pos ⟨hm2, by omega⟩]; simp
  simp only [Instr.sliceAt, Instr.slice, Sem.run_bind, run_und hu, Result.andThen_ok, e1, run_size hn, Sem.run_pure]

theorem ok_slice (M : Mem w0 B σ E ok w) {a : Act} (hT : Rho w ok E ρ a) {x y : T} {av : Value} {t : TypeId} {lo hi : Option Operand} (hx : TRel w ok E x av) (h : opSlice P ρ σ t x lo hi = some (y, σ')) :
    σ' = σ ∧ ∃ v, (Instr.sliceAt t av (lo.map a.eval) (hi.map a.eval) none).run P w = .ok v w ∧ TRel w ok E y v := by
  unfold opSlice at h
  split at h
  · -- a string
    rename_i v
    obtain rfl := hx.sc
    simp only [Option.bind_eq_some_iff] at h
    obtain ⟨lo', hlo, hi', hhi, h⟩ := h
    simp only [Option.map_eq_some_iff, Prod.mk.injEq] at h
    obtain ⟨u, hu, rfl, rfl⟩ := h
    have e1 : lo' = lo.map a.eval := by
      cases lo with
      | none => simpa using hlo.symm
      | some y =>
        simp only at hlo
        have hy := hT y
        split at hlo
        · rename_i he; rw [he] at hy; simp at hlo; subst hlo; simp [hy.sc]
        · simp at hlo
    have e2 : hi' = hi.map a.eval := by
      cases hi with
      | none => simpa using hhi.symm
      | some y =>
        simp only at hhi
        have hy := hT y
        split at hhi
        · rename_i he; rw [he] at hy; simp at hhi; subst hhi; simp [hy.sc]
        · simp at hhi
    subst e1 e2
    have hr := run_pureRun (P := P) (w := w) _ _ hu
    refine ⟨rfl, u, ?_, ofV_t u⟩
    -- not an array: else the pure run would have stood
    unfold Instr.sliceAt
    cases hd : P.underlying t with
    | none => simp [Instr.slice, underlying, hd, pureRun, bind, Sem.bind, program, stuck] at hu
    | some d =>
      rw [Sem.run_bind, run_und hd]
      simp only [Result.andThen_ok]
      cases d <;> first | exact hr | skip
      exfalso
      simp [Instr.slice, underlying, hd, pureRun, bind, Sem.bind, program, stuck, pure] at hu
  · rename_i y0 hns
    simp only [Option.bind_eq_some_iff] at h
    obtain ⟨e, he, sz, hsz, l, hl, hh, hhi, ll, hlo, h⟩ := h
    split at h
    · rename_i hc
      obtain ⟨hc1, hc2⟩ := hc
      have hu := und_elOf he
      obtain ⟨ad, cap, rfl, hcap⟩ := elems_len M hx hl
      have hrun := run_slice (P := P) hu hsz hT hhi hlo hc1 hc2 hcap ad
      cases x <;> first | (simp at h; done) | skip
      case c cx =>
        cases cx with
        | s v => exact absurd rfl (hns v)
        | r xs =>
          simp only at h
          split at h
          · rename_i hw
            simp only [Option.some.injEq, Prod.mk.injEq] at h
            obtain ⟨rfl, rfl⟩ := h
            have : l = xs := by simpa [elems] using hl.symm
            subst this
            refine ⟨rfl, _, hrun, ?_⟩
            refine holds_cut (show Holds w ok (.r l) _ from hx) hc1 hc2 (wide_iff.mp hw) (by omega) fun h0 ad' e' => ?_
            subst e'
            rw [if_neg (by omega)]; rfl
          · simp at h
      case nil =>
        simp only [Option.some.injEq, Prod.mk.injEq] at h
        obtain ⟨rfl, rfl⟩ := h
        have e' : Value.slice ad l.length cap = .slice none 0 0 := hx
        injection e' with e1 e2 e3
        subst e1 e3
        refine ⟨rfl, _, hrun, ?_⟩
        show _ = _
        have : hh - ll = 0 := by omega
        rw [this]; simp
      case row i =>
        simp only [Option.bind_eq_some_iff] at h
        obtain ⟨q, hq, h⟩ := h
        split at h
        · rename_i hqs
          simp only [Option.some.injEq, Prod.mk.injEq] at h
          obtain ⟨rfl, rfl⟩ := h
          obtain ⟨r, hr, e'⟩ := hx
          injection e' with e1 e2 e3
          subst e1 e3
          have hR := (M.row i r q hr hq).len
          refine ⟨rfl, _, hrun, r, _, hr, hc1, by omega, rfl, fun h0 => ?_⟩
          have hR' := M.row i r q hr hq
          obtain ⟨ad, had⟩ := row_addr hR' (by omega)
          refine ⟨ad, had, ?_⟩
          rw [if_neg (by omega), had, ← hR.2.2.2, hqs]; rfl
        · simp at h
      case sl i a0 b0 =>
        simp only [Option.bind_eq_some_iff] at h
        obtain ⟨q, hq, h⟩ := h
        split at h
        · rename_i hqs
          simp only [Option.some.injEq, Prod.mk.injEq] at h
          obtain ⟨rfl, rfl⟩ := h
          obtain ⟨r, a', hr, hlo', hhi', e', ha⟩ := hx
          injection e' with e1 e2 e3
          subst e1 e3
          have hR := (M.row i r q hr hq).len
          refine ⟨rfl, _, hrun, r, (if r.cap - a0 = ll then ad else ad.map (·.add (ll * sz))), hr, by omega, by omega, ?_, fun h0 => ?_⟩
          · rw [show a0 + hh - (a0 + ll) = hh - ll by omega, show r.cap - (a0 + ll) = r.cap - a0 - ll by omega]
          · obtain ⟨ad', had, rfl⟩ := ha (by omega)
            refine ⟨ad', had, ?_⟩
            rw [if_neg (by omega), ← hqs, hR.2.2.2]
            simp [add_add, Nat.add_mul]
        · simp at h
    · simp at h

/-! conversion of bytes -/
theorem bytes_rel {ad : Addr} : ∀ (l : List (List C)) (b : List UInt8) (i : Nat) (f : Nat → Value), bytesOf l = some b → (∀ j el c, l[j]? = some el → el[0]? = some c → Holds w ok c (f (i + j))) → ∃ ns : List Int, ns.length = l.length ∧ b = ns.map (fun n => UInt8.ofNat n.toNat) ∧ ∀ j n, ns[j]? = some n → f (i + j) = .int .u8 n
  | [], b, i, f, h, _ => ⟨[], rfl, by simpa [bytesOf] using h.symm, fun j n hj => by simp at hj⟩
  | el :: l, b, i, f, h, hf => by
    cases el with
    | nil => simp [bytesOf] at h
    | cons c cs =>
      cases cs with
      | cons _ _ => cases c with
        | s v => cases v <;> simp [bytesOf] at h
        | r _ => simp [bytesOf] at h
      | nil =>
        cases c with
        | r _ => simp [bytesOf] at h
        | s v =>
          cases v <;> try (simp [bytesOf] at h; done)
          rename_i k n
          cases k <;> try (simp [bytesOf] at h; done)
          simp only [bytesOf, Option.map_eq_some_iff] at h
          obtain ⟨b', hb, rfl⟩ := h
          obtain ⟨ns, h1, rfl, h3⟩ := bytes_rel (ad := ad) l b' (i + 1) f hb (fun j el c hj hc => by have := hf (j + 1) el c (by simpa using hj) hc; rw [show i + (j + 1) = i + 1 + j by omega] at this; exact this)
          refine ⟨n :: ns, by simp [h1], rfl, fun j m hj => ?_⟩
          cases j with
          | zero =>
            simp at hj; subst hj
            have := hf 0 _ _ rfl rfl
            generalize f (i + 0) = u at this ⊢
            cases this; rfl
          | succ j => rw [show i + (j + 1) = i + 1 + j by omega]; exact h3 j m (by simpa using hj)
theorem foldl_push : ∀ (ns : List Int) (s : ByteArray), ns.foldl (fun r n => r.push (UInt8.ofNat n.toNat)) s = ⟨s.data ++ (ns.map fun n => UInt8.ofNat n.toNat).toArray⟩
  | [], s => by simp
  | n :: ns, s => by
    rw [List.foldl_cons, foldl_push ns]
    simp [ByteArray.push]
theorem dp_row {i : Nat} {q : Row} (hq : rowAt σ i = some q) (h : deepT σ (.row i) = false) : q.dp = .f := by
  rcases dp_cases hq with h1 | h1
  · exact h1
  · simp [deepT, hq, h1, Dp.q] at h
theorem dp_sl {i lo hi : Nat} {q : Row} (hq : rowAt σ i = some q) (h : deepT σ (.sl i lo hi) = false) : q.dp = .f := dp_row hq h
/-- a row's values, as a list of lists -/
theorem elems_vals (M : Mem w0 B σ E ok w) {x : T} {a : Option Addr} {n cap : Nat} {l : List (List C)} (hx : TRel w ok E x (.slice a n cap)) (h : elems σ x = some l) (hdp : deepT σ x = false) (sz : Nat) (hz : wide sz l = true) (hr : ∀ i lo hi q, (x = .row i ∨ x = .sl i lo hi) → rowAt σ i = some q → q.sz = sz ∨ l = []) :
    l.length = n ∧ ∃ f : Nat → Nat → Value, (∀ i j, i < n → j < sz → ∃ ad, a = some ad ∧ w.cell? (ad.add (i * sz + j)) = some (f i j)) ∧ ∀ i j el c, l[i]? = some el → el[j]? = some c → Holds w ok c (f i j) := by
  replace hz := wide_iff.mp hz
  cases x <;> simp only [elems, Option.some.injEq, Option.map_eq_some_iff, reduceCtorEq] at h
  case c cx =>
    cases cx with
    | s _ => simp at h
    | r l' =>
      simp at h; subst h
      cases (hx : Holds w ok (.r _) (.slice a n cap)) with
      | r _ _ _ _ s f hm hc hz' hmem hf =>
        refine ⟨hm, f, fun i j hi hj => ?_, hf⟩
        have h1 : l'[i]? = some (l'[i]'(by omega)) := List.getElem?_eq_getElem _
        have hs : s = sz := by rw [← hz' _ (List.mem_of_getElem? h1), hz _ (List.mem_of_getElem? h1)]
        subst hs
        obtain ⟨ad, h2, _, h3⟩ := hmem i j hi hj
        exact ⟨ad, h2, h3⟩
  case nil =>
    subst h
    have e' : Value.slice a n cap = .slice none 0 0 := hx
    injection e' with e1 e2 e3
    subst e1 e2 e3
    exact ⟨rfl, fun _ _ => undef, fun i j hi => by omega, fun i j el c hi => by simp at hi⟩
  all_goals
    obtain ⟨q, hq, rfl⟩ := h
  case row i =>
    obtain ⟨r, hrr, e'⟩ := hx
    injection e' with e1 e2 e3
    subst e1 e2 e3
    have hR := M.row i r q hrr hq
    obtain ⟨hl, hcap, hsz, hqz⟩ := hR.len
    refine ⟨hl, ?_⟩
    rcases hr i 0 0 q (.inl rfl) hq with hs | hs
    · have hs' : r.sz = sz := by rw [← hqz, hs]
      subst hs'
      obtain ⟨_, hrow⟩ := hR
      cases ho : q.ow with
      | true =>
        rw [ho, if_pos rfl, dp_row hq hdp] at hrow
        obtain ⟨h1, h2, h3, h3', h4⟩ := hrow
        cases hκ : r.κ with
        | none =>
          simp only [hκ] at h4
          exact ⟨fun _ _ => undef, fun i j hi => by omega, fun i j el c hi => by have := (List.getElem?_eq_some_iff.mp hi).1; omega⟩
        | some k =>
          simp only [hκ] at h4
          obtain ⟨off, t, c0, h5, h6, h7, h8⟩ := h4
          refine ⟨fun i j => (c0[off + (i * r.sz + j)]?).getD undef, fun i j hi hj => ⟨_, h5, ?_⟩, fun i j el c hi hj => ?_⟩
          · have hel : q.l[i]? = some (q.l[i]'(by omega)) := List.getElem?_eq_getElem _
            have hc : (q.l[i]'(by omega))[j]? = some ((q.l[i]'(by omega))[j]'(by rw [hsz _ (List.mem_of_getElem? hel)]; omega)) := List.getElem?_eq_getElem _
            obtain ⟨u, h9, _⟩ := h8 i j _ _ hel hc
            rw [add_none, cell_block h6, h9]; simp only [h9, Option.getD_some]
          · obtain ⟨u, h9, h10⟩ := h8 i j el c hi hj
            simp only [h9, Option.getD_some]; exact h10
      | false =>
        rw [ho] at hrow
        obtain ⟨_, h1, h2, h3, _, f, h4, h5⟩ := hrow
        exact ⟨f, fun i j hi hj => by obtain ⟨ad, h6, _, h7⟩ := h4 i j hi (by omega); exact ⟨ad, h6, h7⟩, h5⟩
    · exact ⟨fun _ _ => undef, fun i j hi => by rw [hs] at hl; simp at hl; omega, fun i j el c hi => by rw [hs] at hi; simp at hi⟩
  case sl i lo hi =>
    obtain ⟨r, a', hrr, hlo, hhi, e', ha⟩ := hx
    injection e' with e1 e2 e3
    subst e1 e2 e3
    have hR := M.row i r q hrr hq
    obtain ⟨hl, hcap, hsz, hqz⟩ := hR.len
    have hlen : (cut q.l lo hi).length = hi - lo := cut_len _ _ _ (by omega)
    refine ⟨hlen, ?_⟩
    rcases hr i lo hi q (.inr rfl) hq with hs | hs
    · have hs' : r.sz = sz := by rw [← hqz, hs]
      subst hs'
      obtain ⟨_, hrow⟩ := hR
      cases ho : q.ow with
      | true =>
        rw [ho, if_pos rfl, dp_row hq hdp] at hrow
        obtain ⟨h1, h2, h3, h3', h4⟩ := hrow
        cases hκ : r.κ with
        | none =>
          simp only [hκ] at h4
          exact ⟨fun _ _ => undef, fun i j hi => by omega, fun i j el c hi => by have := (List.getElem?_eq_some_iff.mp hi).1; omega⟩
        | some k =>
          simp only [hκ] at h4
          obtain ⟨off, t, c0, h5, h6, h7, h8⟩ := h4
          refine ⟨fun i j => (c0[off + ((lo + i) * r.sz + j)]?).getD undef, fun i j hi hj => ?_, fun i j el c hi hj => ?_⟩
          · obtain ⟨ad, had, rfl⟩ := ha (by omega)
            rw [h5] at had; cases had
            refine ⟨_, rfl, ?_⟩
            have hel : q.l[lo + i]? = some (q.l[lo + i]'(by omega)) := List.getElem?_eq_getElem _
            have hc : (q.l[lo + i]'(by omega))[j]? = some ((q.l[lo + i]'(by omega))[j]'(by rw [hsz _ (List.mem_of_getElem? hel)]; omega)) := List.getElem?_eq_getElem _
            obtain ⟨u, h9, _⟩ := h8 (lo + i) j _ _ hel hc
            rw [add_add, add_none, cell_block h6, show lo * r.sz + (i * r.sz + j) = (lo + i) * r.sz + j by rw [Nat.add_mul]; omega, h9]; simp only [h9, Option.getD_some]
          · obtain ⟨u, h9, h10⟩ := h8 (lo + i) j el c (cut_get hi) hj
            simp only [h9, Option.getD_some]; exact h10
      | false =>
        rw [ho] at hrow
        obtain ⟨_, h1, h2, h3, _, f, h4, h5⟩ := hrow
        refine ⟨fun i j => f (lo + i) j, fun i j hi hj => ?_, fun i j el c hi hj => h5 _ _ _ _ (cut_get hi) hj⟩
        obtain ⟨ad, h6, _, h7⟩ := h4 (lo + i) j (by omega) (by omega)
        obtain ⟨ad', had, rfl⟩ := ha (by omega)
        rw [h6] at had; cases had
        exact ⟨_, rfl, by rw [add_add, show lo * r.sz + (i * r.sz + j) = (lo + i) * r.sz + j by rw [Nat.add_mul]; omega]; exact h7⟩
    · exact ⟨fun _ _ => undef, fun i j hi => by rw [hs] at hlen; simp at hlen; omega, fun i j el c hi => by rw [hs] at hi; simp at hi⟩
end Go.SX
