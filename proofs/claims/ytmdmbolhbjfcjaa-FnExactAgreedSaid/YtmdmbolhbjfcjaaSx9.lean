import Derived.Test.YtmdmbolhbjfcjaaSx8
import Derived.Laws.StructEq
set_option linter.unusedVariables false
set_option linter.unusedSimpArgs false
set_option linter.unusedSectionVars false
namespace Go.SX
variable {P : Program} {w w' w0 : World} {ok ok' : Nat → Prop} {E E' : Env} {B : Bd} {σ σ' : St}

/-! append -/
theorem range_get {α : Type} (g : Nat → α) (m k : Nat) : ((List.range m).map g)[k]? = if k < m then some (g k) else none := by
  by_cases h : k < m
  · simp [h]
  · simp [h]
/-- a row's cells, one after another -/
theorem rows_vals (M : Mem w0 B σ E ok w) {x : T} {a : Option Addr} {n cap : Nat} {l : List (List C)} (hx : TRel w ok E x (.slice a n cap)) (h : elems σ x = some l) (sz : Nat) (h0 : 0 < sz) (hz : wide sz l = true) :
    l.length = n ∧ ∃ vs : List Value, vs.length = n * sz ∧ (∀ k v, vs[k]? = some v → ∃ ad, a = some ad ∧ w.cell? (ad.add k) = some v) ∧ (∀ u ∈ vs, u.oneCell' = true) ∧
      ∀ i j el c, l[i]? = some el → el[j]? = some c → ∃ u, vs[i * sz + j]? = some u ∧ Holds w ok c u := by
  obtain ⟨hl, f, h1, h2⟩ := elems_vals' M hx h sz hz
  have hdm : ∀ i j, j < sz → (i * sz + j) / sz = i ∧ (i * sz + j) % sz = j := fun i j hj => by
    rw [Nat.mul_comm]; exact ⟨by rw [Nat.mul_add_div h0, Nat.div_eq_of_lt hj, Nat.add_zero], by rw [Nat.mul_add_mod, Nat.mod_eq_of_lt hj]⟩
  refine ⟨hl, (List.range (n * sz)).map fun k => f (k / sz) (k % sz), by simp, fun k v hk => ?_, fun u hu => ?_, fun i j el c hi hj => ?_⟩
  · rw [range_get] at hk
    by_cases hlt : k < n * sz
    · simp only [hlt, if_true, Option.some.injEq] at hk
      subst hk
      have e := Nat.div_add_mod k sz
      obtain ⟨ad, h3, h4⟩ := h1 (k / sz) (k % sz) ((Nat.div_lt_iff_lt_mul h0).2 hlt) (Nat.mod_lt _ h0)
      exact ⟨ad, h3, by rw [← h4, Nat.mul_comm, e]⟩
    · simp [hlt] at hk
  · obtain ⟨k, hk, rfl⟩ := List.mem_map.1 hu
    have hlt : k < n * sz := List.mem_range.1 hk
    have hi : k / sz < n := (Nat.div_lt_iff_lt_mul h0).2 hlt
    have hj := Nat.mod_lt k h0
    have hel : l[k / sz]? = some (l[k / sz]'(by omega)) := List.getElem?_eq_getElem _
    have hc : (l[k / sz]'(by omega))[k % sz]? = some ((l[k / sz]'(by omega))[k % sz]'(by rw [wide_iff.mp hz _ (List.mem_of_getElem? hel)]; exact hj)) := List.getElem?_eq_getElem _
    exact (h2 _ _ _ _ hel hc).one
  · have hi' : i < n := by rw [← hl]; exact (List.getElem?_eq_some_iff.mp hi).1
    have hj' : j < sz := by rw [← wide_iff.mp hz el (List.mem_of_getElem? hi)]; exact (List.getElem?_eq_some_iff.mp hj).1
    have hlt : i * sz + j < n * sz := by have := Nat.mul_le_mul_right sz (show i + 1 ≤ n by omega); rw [Nat.add_mul, Nat.one_mul] at this; omega
    refine ⟨f i j, ?_, h2 i j el c hi hj⟩
    rw [range_get, if_pos hlt]
    simp [hdm i j hj']
theorem src_of {sz : Nat} {u e' : TypeId} (hu : P.underlying u = some (.slice e')) {a : Option Addr} {n cap : Nat} {vs : List Value} (h1 : vs.length = n * sz) (h2 : ∀ k v, vs[k]? = some v → ∃ ad, a = some ad ∧ w.cell? (ad.add k) = some v) (h3 : ∀ u ∈ vs, u.oneCell' = true) (h4 : a = none → n = 0) : Src P sz u (.slice a n cap) n vs w := by
  cases a with
  | none =>
    obtain rfl := h4 rfl
    have : vs = [] := by simpa using h1
    subst this
    exact Src.ofNil w hu cap
  | some ad => exact Src.ofSlice w hu ad n cap vs h1 (fun j v hj => by obtain ⟨_, e, h⟩ := h2 j v hj; cases e; exact h) h3
theorem none_zero {sz n : Nat} {vs : List Value} {a : Option Addr} (h0 : 0 < sz) (h1 : vs.length = n * sz) (h2 : ∀ k v, vs[k]? = some v → ∃ ad, a = some ad ∧ w.cell? (ad.add k) = some v) (h : a = none) : n = 0 := by
  cases vs with
  | nil =>
    cases n with
    | zero => rfl
    | succ n => simp only [List.length_nil, Nat.add_mul, Nat.one_mul] at h1; omega
  | cons v vs => obtain ⟨_, h3, _⟩ := h2 0 v rfl; rw [h] at h3; simp at h3
theorem Fr.drew (h : Fr w0 B.L w) : Fr w0 B.L w.drew := ⟨h.os, h.tape, h.output, h.size, h.old⟩
theorem Mem.drew (M : Mem w0 B σ E ok w) : Mem w0 B σ E ok w.drew ∧ Keep w w.drew ok ok :=
  ⟨M.go (fun _ h _ => ⟨rfl, h⟩) M.okin M.fr.drew (Nat.le_refl _) fun x k h => ⟨rfl, (M.mine x k h).1⟩, fun _ h _ => ⟨rfl, h⟩⟩
/-- a new row -/
theorem step_newRow (M : Mem w0 B σ E ok w) {l : List (List C)} {cs : Array Value} {n cap sz : Nat} (e : TypeId) (hn : l.length = n) (hc : n ≤ cap) (h0 : 0 < sz) (hz : ∀ el ∈ l, el.length = sz) (hs : cap * sz ≤ cs.size)
    (h : ∀ i j el c, l[i]? = some el → el[j]? = some c → ∃ u, cs[i * sz + j]? = some u ∧ Holds w ok c u) :
    StepR w0 B w ok E (newRow σ ⟨sz, l, true⟩).2 (newRow σ ⟨sz, l, true⟩).1 (.slice (some ⟨w.heap.size, 0, none⟩) n cap) (w.alloc (.cells cs e)) := by
  have hR : RowOk (w.alloc (.cells cs e)) (lt w ok) ⟨some ⟨w.heap.size, 0, none⟩, n, cap, sz, some w.heap.size⟩ ⟨sz, l, true⟩ := by
    refine ⟨rfl, ?_⟩
    simp only [if_true]
    refine ⟨hn, hc, hz, fun h => by simp at h; omega, 0, e, cs, rfl, push_new, by simpa using hs, fun i j el c hi hj => ?_⟩
    obtain ⟨u, h1, h2⟩ := h i j el c hi hj
    exact ⟨u, by simpa using h1, h2.keep (keep_push _)⟩
  obtain ⟨h1, h2, h3⟩ := (M.push (.cells cs e)).newR hR fun k _ hk => by
    cases hk
    exact ⟨fun hk => by have := hk.2; omega, .inl M.fr.size, fun x hx => by have := (M.mine x _ hx).2.2; omega⟩
  exact ⟨_, _, h1, h2, keep_push _, h3⟩
theorem StepR.from {w1 : World} {ok1 : Nat → Prop} {E1 : Env} {x : T} {v : Value} (hE : E.Le E1) (hk : Keep w w1 ok ok1) (hs : w.heap.size ≤ w1.heap.size) (h : StepR w0 B w1 ok1 E1 σ' x v w') : StepR w0 B w ok E σ' x v w' := by
  obtain ⟨E', ok', h1, h2, h3, h4⟩ := h
  refine ⟨E', ok', h1, hE.trans h2, fun k hk1 hk2 => ?_, h4⟩
  obtain ⟨h5, h6⟩ := hk k hk1 hk2
  obtain ⟨h7, h8⟩ := h3 k h6 (by omega)
  exact ⟨h7.trans h5, h8⟩
theorem app_get {xs ys : List (List C)} {us vs : List Value} {sz : Nat} {R : C → Value → Prop} (hl : us.length = xs.length * sz)
    (h1 : ∀ i j el c, xs[i]? = some el → el[j]? = some c → ∃ u, us[i * sz + j]? = some u ∧ R c u) (h2 : ∀ i j el c, ys[i]? = some el → el[j]? = some c → ∃ u, vs[i * sz + j]? = some u ∧ R c u)
    (hz : ∀ el ∈ xs, el.length = sz) : ∀ i j el c, (xs ++ ys)[i]? = some el → el[j]? = some c → ∃ u, (us ++ vs)[i * sz + j]? = some u ∧ R c u := by
  intro i j el c hi hj
  by_cases hlt : i < xs.length
  · rw [List.getElem?_append_left hlt] at hi
    obtain ⟨u, h3, h4⟩ := h1 i j el c hi hj
    exact ⟨u, by rw [List.getElem?_append_left (List.getElem?_eq_some_iff.mp h3).1]; exact h3, h4⟩
  · rw [List.getElem?_append_right (by omega)] at hi
    obtain ⟨u, h3, h4⟩ := h2 (i - xs.length) j el c hi hj
    refine ⟨u, ?_, h4⟩
    have : i * sz = xs.length * sz + (i - xs.length) * sz := by rw [← Nat.add_mul]; congr 1; omega
    rw [List.getElem?_append_right (by omega), show i * sz + j - us.length = (i - xs.length) * sz + j by omega]; exact h3
theorem run_append_in {t u ty e : TypeId} {i : TypeInfo} (ht : P.underlying t = some (.slice e)) (hi : P.info? e = some i) {b o sLen sCap : Nat} {x : Value} {n : Nat} {news : List Value} (hs : Src P i.size u x n news w) (hroom : sLen + n ≤ sCap)
    {cur : Array Value} {t0 : TypeId} (hg : w.heap[b]? = some (.cells cur t0 (0, 0))) (hfit : o + sLen * i.size + news.length ≤ cur.size) :
    ∃ w', (Builtin.append_ #[t, u] ty #[.slice (some ⟨b, o, none⟩) sLen sCap, x]).run P w = .ok (.slice (some ⟨b, o, none⟩) (sLen + n) sCap) w' ∧ Poked w b (over cur (o + sLen * i.size) news) w' ∧ w'.heap[b]? = some (.cells (over cur (o + sLen * i.size) news) t0 (0, 0)) := by
  obtain ⟨w', h1, h2, h3⟩ := run_storeCells (P := P) news (o + sLen * i.size) 0 cur w hg (by simpa using hfit) hs.one
  refine ⟨w', ?_, h2, h3⟩
  rcases hs.kind with ⟨e', hk⟩ | hk <;> simp [Builtin.append_, run_underlying ht, run_underlying hk, sizeOf, typeInfo, hi, hs.len, hroom, hs.cells, add_none, h1]
theorem firstCells_run {sz n cap : Nat} {a : Option Addr} {vs : List Value} (h1 : vs.length = n * sz) (h2 : ∀ k v, vs[k]? = some v → ∃ ad, a = some ad ∧ w.cell? (ad.add k) = some v) (h3 : a = none → n = 0) : (Builtin.firstCells sz n (.slice a n cap)).run P w.drew = .ok vs.toArray w.drew := by
  cases a with
  | none => obtain rfl := h3 rfl; have : vs = [] := by simpa using h1
            subst this; exact run_firstCells_none w.drew sz 0 0 cap
  | some ad => exact run_firstCells_some w.drew sz n ad n cap vs h1 (fun j v hj => by obtain ⟨_, e, h⟩ := h2 j v hj; cases e; simpa using h)

theorem ok_append (M : Mem w0 B σ E ok w) {s x y : T} {sv xv : Value} {t u e' ty : TypeId} (hu : P.underlying u = some (.slice e')) (hs : TRel w ok E s sv) (hx : TRel w ok E x xv) (h : opAppend P σ t s x = some (y, σ')) :
    ∃ v w', (Builtin.append_ #[t, u] ty #[sv, xv]).run P w = .ok v w' ∧ StepR w0 B w ok E σ' y v w' := by
  unfold opAppend at h
  simp only [Option.bind_eq_some_iff] at h
  obtain ⟨e, he, i, hi, z, hz, xs, hxs, old, hold, h⟩ := h
  split at h
  · rename_i hc
    obtain ⟨hzs, hwx, hwo, h0, hb0, hbig⟩ := hc
    have ht := und_elOf he
    obtain ⟨xa, xcap, rfl, _⟩ := elems_len M hx hxs
    obtain ⟨sa, scap, rfl, hscap⟩ := elems_len M hs hold
    obtain ⟨_, news, n1, n2, n3, n4⟩ := rows_vals M hx hxs i.size h0 hwx
    obtain ⟨_, olds, o1, o2, o3, o4⟩ := rows_vals M hs hold i.size h0 hwo
    have hn0 := none_zero (w := w) h0 n1 n2
    have ho0 := none_zero (w := w) h0 o1 o2
    have hsrc : Src P i.size u (.slice xa xs.length xcap) xs.length news w := src_of hu n1 n2 n3 hn0
    have hzz : ∀ el ∈ old ++ xs, el.length = i.size := by
      intro el hel
      rcases List.mem_append.1 hel with h | h
      · exact wide_iff.mp hwo el h
      · exact wide_iff.mp hwx el h
    have hget := app_get (R := Holds w ok) o1 o4 n4 (wide_iff.mp hwo)
    have h63 : ((old.length + xs.length : Nat) : Int) ≤ 9223372036854775807 := by
      have : old.length + xs.length ≤ (old.length + xs.length) * i.bytes := Nat.le_mul_of_pos_right _ hb0
      omega
    -- a new row, whatever became of the old one
    have grow : ∀ σ1 : St, Mem w0 B σ1 E ok w → scap < old.length + xs.length → ∃ v w', (Builtin.append_ #[t, u] ty #[.slice sa old.length scap, .slice xa xs.length xcap]).run P w = .ok v w' ∧ StepR w0 B w ok E (newRow σ1 ⟨i.size, old ++ xs, true⟩).2 (newRow σ1 ⟨i.size, old ++ xs, true⟩).1 v w' := by
      intro σ1 M1 hg
      refine ⟨_, _, run_append_grow_src (P := P) w t u ty e i z ht hi hz sa old.length scap olds (firstCells_run o1 o2 ho0) _ _ news hsrc hg h63 (growslice_fits hg (by omega)), ?_⟩
      obtain ⟨M2, k2⟩ := M1.drew
      refine StepR.from (.refl _) k2 (Nat.le_refl _) (step_newRow M2 e (by simp) (grownCap_ge _ _ _ _) h0 hzz ?_ fun a b el c hi hj => ?_)
      · have := Builtin.zeroCells z.cells (grownCap w (old.length + xs.length) scap e - (old.length + xs.length))
        have hge := grownCap_ge w (old.length + xs.length) scap e
        simp only [Array.size_append, List.size_toArray, List.length_append, o1, n1, size_zeroCells, hzs]
        rw [← Nat.add_mul, ← Nat.add_mul]
        exact Nat.mul_le_mul_right _ (by omega)
      · obtain ⟨u', h1, h2⟩ := hget a b el c hi hj
        refine ⟨u', ?_, h2.keep k2⟩
        have hlt := (List.getElem?_eq_some_iff.mp h1).1
        rw [Array.getElem?_append_left (by simpa using hlt)]
        simpa using h1
    -- in place
    have inPlace : ∀ (j : Nat) (r : RV) (q : Row) (lo : Nat), E.ρ[j]? = some r → rowAt σ j = some q → q.ow = true → (r.sz = 0 ∨ r.sz = i.size) → scap = r.cap - lo → lo ≤ r.n → lo + old.length ≤ r.n → (scap ≠ 0 → ∃ ad, r.a = some ad ∧ sa = some (ad.add (lo * r.sz))) → old.length + xs.length ≤ scap →
        ∃ v w', (Builtin.append_ #[t, u] ty #[.slice sa old.length scap, .slice xa xs.length xcap]).run P w = .ok v w' ∧ StepR w0 B w ok E (newRow (setRow σ j none) ⟨i.size, old ++ xs, true⟩).2 (newRow (setRow σ j none) ⟨i.size, old ++ xs, true⟩).1 v w' := by
      intro j r q lo hr hq how hrs hcap hlo hlo2 hsa hroom
      have hO : OwnAt w ok r q.l := by have := (M.row j r q hr hq).2; rw [how] at this; simpa using this
      obtain ⟨p1, p2, p3, p4, p5⟩ := hO
      by_cases hc0 : scap = 0
      · -- nothing at all
        have hx0 : xs = [] := List.eq_nil_of_length_eq_zero (by omega)
        have ho0' : old = [] := List.eq_nil_of_length_eq_zero (by omega)
        subst hx0 ho0'
        have hnews : news = [] := by simpa using n1
        subst hnews
        refine ⟨_, w, run_append_nothing (P := P) w t u ty e i ht hi sa 0 scap (by omega) _ hsrc, ?_⟩
        rw [hc0]
        obtain ⟨h1, h2, h3⟩ := (M.killR j).newR (r := ⟨sa, 0, 0, i.size, none⟩) (q := ⟨i.size, [] ++ [], true⟩) ⟨rfl, by
          simp only [if_true]; exact ⟨rfl, Nat.le_refl _, by simp, fun h => by simp at h; omega, rfl⟩⟩ (by simp)
        exact ⟨_, _, h1, h2, keep_refl, h3⟩
      · obtain ⟨ad, had, rfl⟩ := hsa hc0
        cases hκ : r.κ with
        | none => simp only [hκ] at p5; omega
        | some k =>
          have hrsz : r.sz = i.size := by
            rcases hrs with h | h
            · rw [p4 h] at hκ; simp at hκ
            · exact h
          simp only [hκ] at p5
          obtain ⟨off, t0, c0, q1, q2, q3, q4⟩ := p5
          rw [had] at q1; cases q1
          have hm := M.mine (.r j) k (mut_r hr hq how hκ)
          have hd : ∀ x, mutAt (setRow σ j none) E x ≠ some k := fun x hx => (mut_killR hx).1 (M.dis x (.r j) k (mut_killR hx).2 (mut_r hr hq how hκ))
          have hmul : (lo + (old.length + xs.length)) * i.size ≤ r.cap * r.sz := by rw [hrsz]; exact Nat.mul_le_mul_right _ (by omega)
          simp only [Nat.add_mul] at hmul
          obtain ⟨w', h3, h4, h5⟩ := run_append_in (ty := ty) (b := k) (o := off + lo * r.sz) (sLen := old.length) (sCap := scap) ht hi hsrc hroom q2 (by rw [n1, hrsz] at *; omega)
          obtain ⟨M2, kp⟩ := (M.killR j).poke h4 hd hm.1 hm.2.1
          refine ⟨_, w', by rw [add_none]; exact h3, ?_⟩
          have hfit : off + lo * r.sz + old.length * i.size + news.length ≤ c0.size := by rw [n1, hrsz]; rw [hrsz] at q3 hmul; omega
          obtain ⟨g1, g2, g3⟩ := M2.newR (r := ⟨some ⟨k, off + lo * r.sz, none⟩, old.length + xs.length, scap, i.size, some k⟩) (q := ⟨i.size, old ++ xs, true⟩) ⟨rfl, by
            simp only [if_true]
            refine ⟨by simp, hroom, hzz, fun h => by simp at h; omega, off + lo * r.sz, t0, _, rfl, h5, ?_, fun a b el c hi hj => ?_⟩
            · rw [over_size hfit]
              show off + lo * r.sz + scap * i.size ≤ c0.size
              rw [hcap]
              have : lo * r.sz + (r.cap - lo) * i.size = r.cap * r.sz := by rw [hrsz, ← Nat.add_mul]; congr 1; omega
              omega
            · show ∃ u, (over c0 (off + lo * r.sz + old.length * i.size) news)[off + lo * r.sz + (a * i.size + b)]? = some u ∧ Holds w' ok c u
              rw [over_get hfit]
              by_cases hlt : a < old.length
              · rw [List.getElem?_append_left hlt] at hi
                have hb : b < i.size := by rw [← wide_iff.mp hwo el (List.mem_of_getElem? hi)]; exact (List.getElem?_eq_some_iff.mp hj).1
                have := Nat.mul_le_mul_right i.size (show a + 1 ≤ old.length by omega)
                rw [Nat.add_mul, Nat.one_mul] at this
                rw [if_neg (by omega)]
                obtain ⟨u', h1, h2⟩ := o4 a b el c hi hj
                obtain ⟨ad', e1, e2⟩ := o2 _ _ h1
                cases e1
                rw [add_none, add_none, cell_block q2] at e2
                exact ⟨u', by rw [← e2], h2.keep kp⟩
              · rw [List.getElem?_append_right (by omega)] at hi
                obtain ⟨u', h1, h2⟩ := n4 (a - old.length) b el c hi hj
                have hlt2 := (List.getElem?_eq_some_iff.mp h1).1
                have : a * i.size = old.length * i.size + (a - old.length) * i.size := by rw [← Nat.add_mul]; congr 1; omega
                rw [if_pos (by omega)]
                exact ⟨u', by rw [show off + lo * r.sz + (a * i.size + b) - (off + lo * r.sz + old.length * i.size) = (a - old.length) * i.size + b by omega]; exact h1, h2.keep kp⟩⟩
            fun k' _ hk' => by cases hk'; exact ⟨hm.1, hm.2.1, hd⟩
          exact ⟨_, _, g1, g2, kp, g3⟩
    cases s <;> try (simp at h; done)
    case nil =>
      simp only [Option.some.injEq] at h
      have : old = [] := by simpa [elems] using hold.symm
      subst this
      have e' : Value.slice sa _ scap = .slice none 0 0 := hs
      injection e' with e1 e2 e3
      subst e1 e3
      by_cases hx0 : xs = []
      · subst hx0
        have hnews : news = [] := by simpa using n1
        subst hnews
        refine ⟨_, w, run_append_nothing (P := P) w t u ty e i ht hi none 0 0 (Nat.le_refl _) _ hsrc, ?_⟩
        obtain ⟨h1, h2, h3⟩ := M.newR (r := ⟨none, 0, 0, i.size, none⟩) (q := ⟨i.size, [], true⟩) ⟨rfl, by
          simp only [if_true]; exact ⟨rfl, Nat.le_refl _, by simp, fun h => by simp at h; omega, rfl⟩⟩ (by simp)
        rw [h] at h1 h3
        exact ⟨_, _, h1, h2, keep_refl, h3⟩
      · have := grow σ M (by have := List.length_pos_iff.2 hx0; simp; omega)
        simp only [List.nil_append] at this
        rw [h] at this
        exact this
    case row j =>
      simp only [Option.bind_eq_some_iff] at h
      obtain ⟨q, hq, h⟩ := h
      split at h
      · rename_i hc
        simp only [Option.some.injEq] at h
        obtain ⟨r, hr, e'⟩ := hs
        injection e' with e1 e2 e3
        subst e1 e3
        have hL := (M.row j r q hr hq).len
        by_cases hroom : old.length + xs.length ≤ r.cap
        · have := inPlace j r q 0 hr hq hc.1 (by rw [← hL.2.2.2]; exact hc.2) (by omega) (by omega) (by omega) (fun h0 => by
            obtain ⟨ad, had⟩ := row_addr (M.row j r q hr hq) h0
            exact ⟨ad, had, by rw [had]; simp [Addr.add]⟩) hroom
          rw [h] at this; exact this
        · have := grow _ (M.killR j) (by omega)
          rw [h] at this; exact this
      · simp at h
    case sl j lo hi' =>
      simp only [Option.bind_eq_some_iff] at h
      obtain ⟨q, hq, h⟩ := h
      split at h
      · rename_i hc
        simp only [Option.some.injEq] at h
        obtain ⟨r, a', hr, hlo, hhi, e', ha⟩ := hs
        injection e' with e1 e2 e3
        subst e1 e3
        have hL := (M.row j r q hr hq).len
        by_cases hroom : old.length + xs.length ≤ r.cap - lo
        · have := inPlace j r q lo hr hq hc.1 (by rw [← hL.2.2.2]; exact hc.2) rfl (by omega) (by omega) ha hroom
          rw [h] at this; exact this
        · have := grow _ (M.killR j) (by omega)
          rw [h] at this; exact this
      · simp at h
  · simp at h
end Go.SX
