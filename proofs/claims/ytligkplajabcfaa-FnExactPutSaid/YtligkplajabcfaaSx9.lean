import Derived.Test.YtligkplajabcfaaSx8
import Derived.Laws.StructEq
set_option linter.unusedVariables false
set_option linter.unusedSimpArgs false
set_option linter.unusedSectionVars false
namespace Go.SX
variable {P : Program} {w w' w0 : World} {ok ok' : Nat → Prop} {E E' : Env} {B : Bd} {σ σ' : St}

/-! append -/
theorem range_get {α : Type} (g : Nat → α) (m k : Nat) : ((List.range m).map g)[k]? = if k < m then some (g k) else none := by
  by_cases h : k < m
  · simp [h]
  · simp [h]
/-- a row's cells, one after another -/
theorem rows_vals (M : Mem w0 B σ E ok w) {x : T} {a : Option Addr} {n cap : Nat} {l : List (List C)} (hx : TRel w ok E x (.slice a n cap)) (h : elems σ x = some l) (hdp : deepT σ x = false) (sz : Nat) (h0 : 0 < sz) (hz : wide sz l = true) :
    l.length = n ∧ ∃ vs : List Value, vs.length = n * sz ∧ (∀ k v, vs[k]? = some v → ∃ ad, a = some ad ∧ w.cell? (ad.add k) = some v) ∧ (∀ u ∈ vs, u.oneCell' = true) ∧
      ∀ i j el c, l[i]? = some el → el[j]? = some c → ∃ u, vs[i * sz + j]? = some u ∧ Holds w ok c u := by
  obtain ⟨hl, f, h1, h2⟩ := elems_vals' M hx h hdp sz hz
  have hdm : ∀ i j, j < sz → (i * sz + j) / sz = i ∧ (i * sz + j) % sz = j := fun i j hj => by
    rw [Nat.mul_comm]; exact ⟨by rw [Nat.mul_add_div h0, Nat.div_eq_of_lt hj, Nat.add_zero], by rw [Nat.mul_add_mod, Nat.mod_eq_of_lt hj]⟩
  refine ⟨hl, (List.range (n * sz)).map fun k => f (k / sz) (k % sz), by simp, fun k v hk => ?_, fun u hu => ?_, fun i j el c hi hj => ?_⟩
  · rw [range_get] at hk
    by_cases hlt : k < n * sz
    · simp only [hlt, if_true, Option.some.injEq] at hk
      subst hk
      have e := Nat.div_add_mod k sz
      obtain ⟨ad, h3, h4⟩ := h1 (k / sz) (k % sz) ((Nat.div_lt_iff_lt_mul h0).2 hlt) (Nat.mod_lt _ h0)
      exact ⟨ad, h3, by rw [← h4, Nat.mul_comm, e]⟩
    · simp [hlt] at hk
  · obtain ⟨k, hk, rfl⟩ := List.mem_map.1 hu
    have hlt : k < n * sz := List.mem_range.1 hk
    have hi : k / sz < n := (Nat.div_lt_iff_lt_mul h0).2 hlt
    have hj := Nat.mod_lt k h0
    have hel : l[k / sz]? = some (l[k / sz]'(by omega)) := List.getElem?_eq_getElem _
    have hc : (l[k / sz]'(by omega))[k % sz]? = some ((l[k / sz]'(by omega))[k % sz]'(by rw [wide_iff.mp hz _ (List.mem_of_getElem? hel)]; exact hj)) := List.getElem?_eq_getElem _
    exact (h2 _ _ _ _ hel hc).one
  · have hi' : i < n := by rw [← hl]; exact (List.getElem?_eq_some_iff.mp hi).1
    have hj' : j < sz := by rw [← wide_iff.mp hz el (List.mem_of_getElem? hi)]; exact (List.getElem?_eq_some_iff.mp hj).1
    have hlt : i * sz + j < n * sz := by have := Nat.mul_le_mul_right sz (show i + 1 ≤ n by omega); rw [Nat.add_mul, Nat.one_mul] at this; omega
    refine ⟨f i j, ?_, h2 i j el c hi hj⟩
    rw [range_get, if_pos hlt]
    simp [hdm i j hj']
theorem src_of {sz : Nat} {u e' : TypeId} (hu : P.underlying u = some (.slice e')) {a : Option Addr} {n cap : Nat} {vs : List Value} (h1 : vs.length = n * sz) (h2 : ∀ k v, vs[k]? = some v → ∃ ad, a = some ad ∧ w.cell? (ad.add k) = some v) (h3 : ∀ u ∈ vs, u.oneCell' = true) (h4 : a = none → n = 0) : Src P sz u (.slice a n cap) n vs w := by
  cases a with
  | none =>
    obtain rfl := h4 rfl
    have : vs = [] := by simpa using h1
    subst this
    exact Src.ofNil w hu cap
  | some ad => exact Src.ofSlice w hu ad n cap vs h1 (fun j v hj => by obtain ⟨_, e, h⟩ := h2 j v hj; cases e; exact h) h3
theorem none_zero {sz n : Nat} {vs : List Value} {a : Option Addr} (h0 : 0 < sz) (h1 : vs.length = n * sz) (h2 : ∀ k v, vs[k]? = some v → ∃ ad, a = some ad ∧ w.cell? (ad.add k) = some v) (h : a = none) : n = 0 := by
  cases vs with
  | nil =>
    cases n with
    | zero => rfl
    | succ n => simp only [List.length_nil, Nat.add_mul, Nat.one_mul] at h1; omega
  | cons v vs => obtain ⟨_, h3, _⟩ := h2 0 v rfl; rw [h] at h3; simp at h3
theorem Fr.drew (h : Fr w0 B.L w) : Fr w0 B.L w.drew := ⟨h.os, h.tape, h.output, h.size, h.old⟩
theorem Mem.drew (M : Mem w0 B σ E ok w) : Mem w0 B σ E ok w.drew ∧ Keep w w.drew ok ok :=
  ⟨M.go (fun _ h _ => ⟨rfl, h⟩) M.okin M.fr.drew (Nat.le_refl _) fun x k h => ⟨rfl, (M.mine x k h).1⟩, fun _ h _ => ⟨rfl, h⟩⟩
/-- a new row -/
theorem step_newRow (M : Mem w0 B σ E ok w) {l : List (List C)} {cs : Array Value} {n cap sz : Nat} (e : TypeId) (hn : l.length = n) (hc : n ≤ cap) (h0 : 0 < sz) (hz : ∀ el ∈ l, el.length = sz) (hs : cap * sz ≤ cs.size)
    (h : ∀ i j el c, l[i]? = some el → el[j]? = some c → ∃ u, cs[i * sz + j]? = some u ∧ Holds w ok c u) :
    StepR w0 B w ok E (newRow σ ⟨sz, l, true, .f⟩).2 (newRow σ ⟨sz, l, true, .f⟩).1 (.slice (some ⟨w.heap.size, 0, none⟩) n cap) (w.alloc (.cells cs e)) := by
  have hR : RowOk (w.alloc (.cells cs e)) (lt w ok) [] ⟨some ⟨w.heap.size, 0, none⟩, n, cap, sz, some w.heap.size⟩ ⟨sz, l, true, .f⟩ := by
    refine ⟨rfl, ?_⟩
    simp only [if_true]
    refine ⟨hn, hc, hz, fun h => by simp at h; omega, 0, e, cs, rfl, push_new, by simpa using hs, fun i j el c hi hj => ?_⟩
    obtain ⟨u, h1, h2⟩ := h i j el c hi hj
    exact ⟨u, by simpa using h1, h2.keep (keep_push _)⟩
  obtain ⟨h1, h2, h3⟩ := (M.push (.cells cs e)).newR rfl hR fun k _ hk => by
    cases hk
    exact ⟨fun hk => by have := hk.2; omega, .inl M.fr.size, fun x hx => by have := (M.mine x _ hx).2.2; omega⟩
  exact ⟨_, _, h1, h2, keep_push _, h3⟩
theorem StepR.from {w1 : World} {ok1 : Nat → Prop} {E1 : Env} {x : T} {v : Value} (hE : E.Le E1) (hk : Keep w w1 ok ok1) (hs : w.heap.size ≤ w1.heap.size) (h : StepR w0 B w1 ok1 E1 σ' x v w') : StepR w0 B w ok E σ' x v w' := by
  obtain ⟨E', ok', h1, h2, h3, h4⟩ := h
  refine ⟨E', ok', h1, hE.trans h2, fun k hk1 hk2 => ?_, h4⟩
  obtain ⟨h5, h6⟩ := hk k hk1 hk2
  obtain ⟨h7, h8⟩ := h3 k h6 (by omega)
  exact ⟨h7.trans h5, h8⟩
theorem app_get {xs ys : List (List C)} {us vs : List Value} {sz : Nat} {R : C → Value → Prop} (hl : us.length = xs.length * sz)
    (h1 : ∀ i j el c, xs[i]? = some el → el[j]? = some c → ∃ u, us[i * sz + j]? = some u ∧ R c u) (h2 : ∀ i j el c, ys[i]? = some el → el[j]? = some c → ∃ u, vs[i * sz + j]? = some u ∧ R c u)
    (hz : ∀ el ∈ xs, el.length = sz) : ∀ i j el c, (xs ++ ys)[i]? = some el → el[j]? = some c → ∃ u, (us ++ vs)[i * sz + j]? = some u ∧ R c u := by
  intro i j el c hi hj
  by_cases hlt : i < xs.length
  · rw [List.getElem?_append_left hlt] at hi
    obtain ⟨u, h3, h4⟩ := h1 i j el c hi hj
    exact ⟨u, by rw [List.getElem?_append_left (List.getElem?_eq_some_iff.mp h3).1]; exact h3, h4⟩
  · rw [List.getElem?_append_right (by omega)] at hi
    obtain ⟨u, h3, h4⟩ := h2 (i - xs.length) j el c hi hj
    refine ⟨u, ?_, h4⟩
    have : i * sz = xs.length * sz + (i - xs.length) * sz := by rw [← Nat.add_mul]; congr 1; omega
    rw [List.getElem?_append_right (by omega), show i * sz + j - us.length = (i - xs.length) * sz + j by omega]; exact h3
theorem run_append_in {t u ty e : TypeId} {i : TypeInfo} (ht : P.underlying t = some (.slice e)) (hi : P.info? e = some i) {b o sLen sCap : Nat} {x : Value} {n : Nat} {news : List Value} (hs : Src P i.size u x n news w) (hroom : sLen + n ≤ sCap)
    {cur : Array Value} {t0 : TypeId} (hg : w.heap[b]? = some (.cells cur t0 (0, 0))) (hfit : o + sLen * i.size + news.length ≤ cur.size) :
    ∃ w', (Builtin.append_ #[t, u] ty #[.slice (some ⟨b, o, none⟩) sLen sCap, x]).run P w = .ok (.slice (some ⟨b, o, none⟩) (sLen + n) sCap) w' ∧ Poked w b (over cur (o + sLen * i.size) news) w' ∧ w'.heap[b]? = some (.cells (over cur (o + sLen * i.size) news) t0 (0, 0)) := by
  obtain ⟨w', h1, h2, h3⟩ := run_storeCells (P := P) news (o + sLen * i.size) 0 cur w hg (by simpa using hfit) hs.one
  refine ⟨w', ?_, h2, h3⟩
  rcases hs.kind with ⟨e', hk⟩ | hk <;> simp [Builtin.append_, run_underlying ht, run_underlying hk, sizeOf, typeInfo, hi, hs.len, hroom, hs.cells, add_none, h1]
theorem firstCells_run {sz n cap : Nat} {a : Option Addr} {vs : List Value} (h1 : vs.length = n * sz) (h2 : ∀ k v, vs[k]? = some v → ∃ ad, a = some ad ∧ w.cell? (ad.add k) = some v) (h3 : a = none → n = 0) : (Builtin.firstCells sz n (.slice a n cap)).run P w.drew = .ok vs.toArray w.drew := by
  cases a with
  | none => obtain rfl := h3 rfl; have : vs = [] := by simpa using h1
            subst this; exact run_firstCells_none w.drew sz 0 0 cap
  | some ad => exact run_firstCells_some w.drew sz n ad n cap vs h1 (fun j v hj => by obtain ⟨_, e, h⟩ := h2 j v hj; cases e; simpa using h)

theorem ok_append0 (M : Mem w0 B σ E ok w) {s x y : T} {sv xv : Value} {t u e' ty : TypeId} (hu : P.underlying u = some (.slice e')) (hs : TRel w ok E s sv) (hx : TRel w ok E x xv) (hdx : deepT σ x = false) (hds : deepT σ s = false) (h : opAppend0 P σ t s x = some (y, σ')) :
    ∃ v w', (Builtin.append_ #[t, u] ty #[sv, xv]).run P w = .ok v w' ∧ StepR w0 B w ok E σ' y v w' := by
  unfold opAppend0 at h
  simp only [Option.bind_eq_some_iff] at h
  obtain ⟨e, he, i, hi, z, hz, xs, hxs, old, hold, h⟩ := h
  split at h
  · rename_i hc
    obtain ⟨hzs, hwx, hwo, h0, hb0, hbig⟩ := hc
    have ht := und_elOf he
    obtain ⟨xa, xcap, rfl, _⟩ := elems_len M hx hxs
    obtain ⟨sa, scap, rfl, hscap⟩ := elems_len M hs hold
    obtain ⟨_, news, n1, n2, n3, n4⟩ := rows_vals M hx hxs hdx i.size h0 hwx
    obtain ⟨_, olds, o1, o2, o3, o4⟩ := rows_vals M hs hold hds i.size h0 hwo
    have hn0 := none_zero (w := w) h0 n1 n2
    have ho0 := none_zero (w := w) h0 o1 o2
    have hsrc : Src P i.size u (.slice xa xs.length xcap) xs.length news w := src_of hu n1 n2 n3 hn0
    have hzz : ∀ el ∈ old ++ xs, el.length = i.size := by
      intro el hel
      rcases List.mem_append.1 hel with h | h
      · exact wide_iff.mp hwo el h
      · exact wide_iff.mp hwx el h
    have hget := app_get (R := Holds w ok) o1 o4 n4 (wide_iff.mp hwo)
    have h63 : ((old.length + xs.length : Nat) : Int) ≤ 9223372036854775807 := by
      have : old.length + xs.length ≤ (old.length + xs.length) * i.bytes := Nat.le_mul_of_pos_right _ hb0
      omega
    -- a new row, whatever became of the old one
    have grow : ∀ σ1 : St, Mem w0 B σ1 E ok w → scap < old.length + xs.length → ∃ v w', (Builtin.append_ #[t, u] ty #[.slice sa old.length scap, .slice xa xs.length xcap]).run P w = .ok v w' ∧ StepR w0 B w ok E (newRow σ1 ⟨i.size, old ++ xs, true, .f⟩).2 (newRow σ1 ⟨i.size, old ++ xs, true, .f⟩).1 v w' := by
      intro σ1 M1 hg
      refine ⟨_, _, run_append_grow_src (P := P) w t u ty e i z ht hi hz sa old.length scap olds (firstCells_run o1 o2 ho0) _ _ news hsrc hg h63 (growslice_fits hg (by omega)), ?_⟩
      obtain ⟨M2, k2⟩ := M1.drew
      refine StepR.from (.refl _) k2 (Nat.le_refl _) (step_newRow M2 e (by simp) (grownCap_ge _ _ _ _) h0 hzz ?_ fun a b el c hi hj => ?_)
      · have := Builtin.zeroCells z.cells (grownCap w (old.length + xs.length) scap e - (old.length + xs.length))
        have hge := grownCap_ge w (old.length + xs.length) scap e
        simp only [Array.size_append, List.size_toArray, List.length_append, o1, n1, size_zeroCells, hzs]
        rw [← Nat.add_mul, ← Nat.add_mul]
        exact Nat.mul_le_mul_right _ (by omega)
      · obtain ⟨u', h1, h2⟩ := hget a b el c hi hj
        refine ⟨u', ?_, h2.keep k2⟩
        have hlt := (List.getElem?_eq_some_iff.mp h1).1
        rw [Array.getElem?_append_left (by simpa using hlt)]
        simpa using h1
    -- in place
    have inPlace : ∀ (j : Nat) (r : RV) (q : Row) (lo : Nat), E.ρ[j]? = some r → rowAt σ j = some q → q.ow = true → q.dp = .f → (r.sz = 0 ∨ r.sz = i.size) → scap = r.cap - lo → lo ≤ r.n → lo + old.length ≤ r.n → (scap ≠ 0 → ∃ ad, r.a = some ad ∧ sa = some (ad.add (lo * r.sz))) → old.length + xs.length ≤ scap →
        ∃ v w', (Builtin.append_ #[t, u] ty #[.slice sa old.length scap, .slice xa xs.length xcap]).run P w = .ok v w' ∧ StepR w0 B w ok E (newRow (setRow σ j none) ⟨i.size, old ++ xs, true, .f⟩).2 (newRow (setRow σ j none) ⟨i.size, old ++ xs, true, .f⟩).1 v w' := by
      intro j r q lo hr hq how hqf hrs hcap hlo hlo2 hsa hroom
      have hO : OwnAt w ok r q.l := M.own hr hq how hqf
      obtain ⟨p1, p2, p3, p4, p5⟩ := hO
      by_cases hc0 : scap = 0
      · -- nothing at all
        have hx0 : xs = [] := List.eq_nil_of_length_eq_zero (by omega)
        have ho0' : old = [] := List.eq_nil_of_length_eq_zero (by omega)
        subst hx0 ho0'
        have hnews : news = [] := by simpa using n1
        subst hnews
        refine ⟨_, w, run_append_nothing (P := P) w t u ty e i ht hi sa 0 scap (by omega) _ hsrc, ?_⟩
        rw [hc0]
        obtain ⟨h1, h2, h3⟩ := (M.killR j).newR (r := ⟨sa, 0, 0, i.size, none⟩) (q := ⟨i.size, [] ++ [], true, .f⟩) rfl ⟨rfl, by
          simp only [if_true]; exact ⟨rfl, Nat.le_refl _, by simp, fun h => by simp at h; omega, rfl⟩⟩ (by simp)
        exact ⟨_, _, h1, h2, keep_refl, h3⟩
      · obtain ⟨ad, had, rfl⟩ := hsa hc0
        cases hκ : r.κ with
        | none => simp only [hκ] at p5; omega
        | some k =>
          have hrsz : r.sz = i.size := by
            rcases hrs with h | h
            · rw [p4 h] at hκ; simp at hκ
            · exact h
          simp only [hκ] at p5
          obtain ⟨off, t0, c0, q1, q2, q3, q4⟩ := p5
          rw [had] at q1; cases q1
          have hm := M.mine (.r j) k (mut_r hr hq how hκ)
          have hd : ∀ x, mutAt (setRow σ j none) E x ≠ some k := fun x hx => (mut_killR hx).1 (M.dis x (.r j) k (mut_killR hx).2 (mut_r hr hq how hκ))
          have hmul : (lo + (old.length + xs.length)) * i.size ≤ r.cap * r.sz := by rw [hrsz]; exact Nat.mul_le_mul_right _ (by omega)
          simp only [Nat.add_mul] at hmul
          obtain ⟨w', h3, h4, h5⟩ := run_append_in (ty := ty) (b := k) (o := off + lo * r.sz) (sLen := old.length) (sCap := scap) ht hi hsrc hroom q2 (by rw [n1, hrsz] at *; omega)
          obtain ⟨M2, kp⟩ := (M.killR j).poke h4 hd hm.1 hm.2.1
          refine ⟨_, w', by rw [add_none]; exact h3, ?_⟩
          have hfit : off + lo * r.sz + old.length * i.size + news.length ≤ c0.size := by rw [n1, hrsz]; rw [hrsz] at q3 hmul; omega
          obtain ⟨g1, g2, g3⟩ := M2.newR (r := ⟨some ⟨k, off + lo * r.sz, none⟩, old.length + xs.length, scap, i.size, some k⟩) (q := ⟨i.size, old ++ xs, true, .f⟩) rfl ⟨rfl, by
            simp only [if_true]
            refine ⟨by simp, hroom, hzz, fun h => by simp at h; omega, off + lo * r.sz, t0, _, rfl, h5, ?_, fun a b el c hi hj => ?_⟩
            · rw [over_size hfit]
              show off + lo * r.sz + scap * i.size ≤ c0.size
              rw [hcap]
              have : lo * r.sz + (r.cap - lo) * i.size = r.cap * r.sz := by rw [hrsz, ← Nat.add_mul]; congr 1; omega
              omega
            · show ∃ u, (over c0 (off + lo * r.sz + old.length * i.size) news)[off + lo * r.sz + (a * i.size + b)]? = some u ∧ Holds w' ok c u
              rw [over_get hfit]
              by_cases hlt : a < old.length
              · rw [List.getElem?_append_left hlt] at hi
                have hb : b < i.size := by rw [← wide_iff.mp hwo el (List.mem_of_getElem? hi)]; exact (List.getElem?_eq_some_iff.mp hj).1
                have := Nat.mul_le_mul_right i.size (show a + 1 ≤ old.length by omega)
                rw [Nat.add_mul, Nat.one_mul] at this
                rw [if_neg (by omega)]
                obtain ⟨u', h1, h2⟩ := o4 a b el c hi hj
                obtain ⟨ad', e1, e2⟩ := o2 _ _ h1
                cases e1
                rw [add_none, add_none, cell_block q2] at e2
                exact ⟨u', by rw [← e2], h2.keep kp⟩
              · rw [List.getElem?_append_right (by omega)] at hi
                obtain ⟨u', h1, h2⟩ := n4 (a - old.length) b el c hi hj
                have hlt2 := (List.getElem?_eq_some_iff.mp h1).1
                have : a * i.size = old.length * i.size + (a - old.length) * i.size := by rw [← Nat.add_mul]; congr 1; omega
                rw [if_pos (by omega)]
                exact ⟨u', by rw [show off + lo * r.sz + (a * i.size + b) - (off + lo * r.sz + old.length * i.size) = (a - old.length) * i.size + b by omega]; exact h1, h2.keep kp⟩⟩
            fun k' _ hk' => by cases hk'; exact ⟨hm.1, hm.2.1, hd⟩
          exact ⟨_, _, g1, g2, kp, g3⟩
    cases s <;> try (simp at h; done)
    case nil =>
      simp only [Option.some.injEq] at h
      have : old = [] := by simpa [elems] using hold.symm
      subst this
      have e' : Value.slice sa _ scap = .slice none 0 0 := hs
      injection e' with e1 e2 e3
      subst e1 e3
      by_cases hx0 : xs = []
      · subst hx0
        have hnews : news = [] := by simpa using n1
        subst hnews
        refine ⟨_, w, run_append_nothing (P := P) w t u ty e i ht hi none 0 0 (Nat.le_refl _) _ hsrc, ?_⟩
        obtain ⟨h1, h2, h3⟩ := M.newR (r := ⟨none, 0, 0, i.size, none⟩) (q := ⟨i.size, [], true, .f⟩) rfl ⟨rfl, by
          simp only [if_true]; exact ⟨rfl, Nat.le_refl _, by simp, fun h => by simp at h; omega, rfl⟩⟩ (by simp)
        rw [h] at h1 h3
        exact ⟨_, _, h1, h2, keep_refl, h3⟩
      · have := grow σ M (by have := List.length_pos_iff.2 hx0; simp; omega)
        simp only [List.nil_append] at this
        rw [h] at this
        exact this
    case row j =>
      simp only [Option.bind_eq_some_iff] at h
      obtain ⟨q, hq, h⟩ := h
      split at h
      · rename_i hc
        simp only [Option.some.injEq] at h
        obtain ⟨r, hr, e'⟩ := hs
        injection e' with e1 e2 e3
        subst e1 e3
        have hL := (M.row j r q hr hq).len
        by_cases hroom : old.length + xs.length ≤ r.cap
        · have := inPlace j r q 0 hr hq hc.1 (dp_row hq hds) (by rw [← hL.2.2.2]; exact hc.2) (by omega) (by omega) (by omega) (fun h0 => by
            obtain ⟨ad, had⟩ := row_addr (M.row j r q hr hq) h0
            exact ⟨ad, had, by rw [had]; simp [Addr.add]⟩) hroom
          rw [h] at this; exact this
        · have := grow _ (M.killR j) (by omega)
          rw [h] at this; exact this
      · simp at h
    case sl j lo hi' =>
      simp only [Option.bind_eq_some_iff] at h
      obtain ⟨q, hq, h⟩ := h
      split at h
      · rename_i hc
        simp only [Option.some.injEq] at h
        obtain ⟨r, a', hr, hlo, hhi, e', ha⟩ := hs
        injection e' with e1 e2 e3
        subst e1 e3
        have hL := (M.row j r q hr hq).len
        by_cases hroom : old.length + xs.length ≤ r.cap - lo
        · have := inPlace j r q lo hr hq hc.1 (dp_sl hq hds) (by rw [← hL.2.2.2]; exact hc.2) rfl (by omega) (by omega) ha hroom
          rw [h] at this; exact this
        · have := grow _ (M.killR j) (by omega)
          rw [h] at this; exact this
      · simp at h
  · simp at h
/-! rows all below which is ours -/
theorem newDeep (M : Mem w0 B σ E ok w) {l : List (List C)} {n cap sz k off : Nat} {t : TypeId} {cs : Array Value} (u : Nat → Nat → Value) (f : Nat → Nat → List Nat) (hn : l.length = n) (hc : n ≤ cap) (h0 : 0 < sz) (hz : ∀ el ∈ l, el.length = sz)
    (hk : w.heap[k]? = some (.cells cs t (0, 0))) (hs : off + cap * sz ≤ cs.size) (hu : ∀ i j, i < n → j < sz → cs[off + (i * sz + j)]? = some (u i j)) (hf : ∀ i j el c, l[i]? = some el → el[j]? = some c → DHc w (colZ sz j) c (u i j) (f i j))
    (hd : ∀ i j i' j', i < n → j < sz → i' < n → j' < sz → ∀ b, b ∈ f i j → b ∈ f i' j' → i = i' ∧ j = j') (hPk : ¬ ok k ∧ (w0.heap.size ≤ k ∨ B.L k) ∧ ∀ x, mutAt σ E x ≠ some k)
    (hP : ∀ i j, i < n → j < sz → ∀ b ∈ f i j, b ≠ k ∧ ¬ ok b ∧ (w0.heap.size ≤ b ∨ B.L b) ∧ b < w.heap.size ∧ ∀ x, mutAt σ E x ≠ some b) :
    ∃ E', Mem w0 B (newRow σ ⟨sz, l, true, .d⟩).2 E' ok w ∧ E.Le E' ∧ TRel w ok E' (newRow σ ⟨sz, l, true, .d⟩).1 (.slice (some ⟨k, off, none⟩) n cap) := by
  obtain ⟨δ, d1, d2⟩ := gather n sz (fun _ _ => True) f
  obtain ⟨h1, h2, h3⟩ := M.newRD (r := ⟨some ⟨k, off, none⟩, n, cap, sz, some k⟩) (q := ⟨sz, l, true, .d⟩) (D := δ) ⟨rfl, by
      simp only [if_true]
      exact ⟨off, t, cs, u, f, hn, hc, hz, fun h => by simp only at h; omega, fun h => by simp at h, fun k' hk' => by cases hk'; exact ⟨rfl, hk, hs⟩, hu, fun i j el c hi hj _ => hf i j el c hi hj, fun b => by rw [d2]; simp, fun i j hi hj _ b hb e => by cases e; exact (hP i j hi hj _ hb).1 rfl, fun i j i' j' a b c d _ _ => hd i j i' j' a b c d, d1⟩⟩
    (fun k' _ hk' => by cases hk'; exact hPk) fun _ _ => ⟨d1, fun b hb => by
      obtain ⟨i, j, hi, hj, _, hb⟩ := (d2 b).1 hb
      obtain ⟨p1, p2, p3, p4, p5⟩ := hP i j hi hj b hb
      exact ⟨fun e => by cases e; exact p1 rfl, p2, p3, p4, p5⟩⟩
  exact ⟨_, h1, h2, h3⟩
theorem newDeep0 (M : Mem w0 B σ E ok w) {sz : Nat} (h0 : 0 < sz) (a : Option Addr) : ∃ E', Mem w0 B (newRow σ ⟨sz, [], true, .d⟩).2 E' ok w ∧ E.Le E' ∧ TRel w ok E' (newRow σ ⟨sz, [], true, .d⟩).1 (.slice a 0 0) := by
  obtain ⟨h1, h2, h3⟩ := M.newRD (r := ⟨a, 0, 0, sz, none⟩) (q := ⟨sz, [], true, .d⟩) (D := []) ⟨rfl, by
      simp only [if_true]
      exact ⟨0, default, #[], fun _ _ => undef, fun _ _ => [], rfl, Nat.le_refl _, by simp, fun h => by simp only at h; omega, fun _ => rfl, by simp, by simp, by simp, by simp, by simp, by simp, List.nodup_nil⟩⟩ (by simp) (by simp)
  exact ⟨_, h1, h2, h3⟩
theorem step_newRowD (M : Mem w0 B σ E ok w) {l : List (List C)} {cs : Array Value} {n cap sz : Nat} (e : TypeId) (u : Nat → Nat → Value) (f : Nat → Nat → List Nat) (hn : l.length = n) (hc : n ≤ cap) (h0 : 0 < sz) (hz : ∀ el ∈ l, el.length = sz) (hs : cap * sz ≤ cs.size)
    (hu : ∀ i j, i < n → j < sz → cs[i * sz + j]? = some (u i j)) (hf : ∀ i j el c, l[i]? = some el → el[j]? = some c → DHc w (colZ sz j) c (u i j) (f i j))
    (hd : ∀ i j i' j', i < n → j < sz → i' < n → j' < sz → ∀ b, b ∈ f i j → b ∈ f i' j' → i = i' ∧ j = j')
    (hP : ∀ i j, i < n → j < sz → ∀ b ∈ f i j, ¬ ok b ∧ (w0.heap.size ≤ b ∨ B.L b) ∧ b < w.heap.size ∧ ∀ x, mutAt σ E x ≠ some b) :
    StepR w0 B w ok E (newRow σ ⟨sz, l, true, .d⟩).2 (newRow σ ⟨sz, l, true, .d⟩).1 (.slice (some ⟨w.heap.size, 0, none⟩) n cap) (w.alloc (.cells cs e)) := by
  have hb : ∀ i j el c, l[i]? = some el → el[j]? = some c → i < n ∧ j < sz := fun i j el c hi hj => ⟨by rw [← hn]; exact (List.getElem?_eq_some_iff.mp hi).1, by rw [← hz el (List.mem_of_getElem? hi)]; exact (List.getElem?_eq_some_iff.mp hj).1⟩
  obtain ⟨E', h1, h2, h3⟩ := newDeep (M.push (.cells cs e)) (l := l) (n := n) (cap := cap) (sz := sz) (k := w.heap.size) (off := 0) (t := e) (cs := cs) u f hn hc h0 hz push_new (by simpa using hs) (by simpa using hu)
    (fun i j el c hi hj => (hf i j el c hi hj).keep fun b hbf => push_same (hP i j (hb i j el c hi hj).1 (hb i j el c hi hj).2 b hbf).2.2.1) hd
    ⟨fun hk => by have := hk.2; omega, .inl M.fr.size, fun x hx => by have := (M.mine x _ hx).2.2; omega⟩
    fun i j hi hj b hbf => by
      obtain ⟨p1, p2, p3, p4⟩ := hP i j hi hj b hbf
      exact ⟨by omega, fun h => p1 h.1, p2, by simp; omega, p4⟩
  exact ⟨E', _, h1, h2, keep_push _, h3⟩
theorem DH.one {c : C} {v : Value} {D : List Nat} (h : DH w c v D) : v.oneCell' = true := by cases h <;> first | assumption | rfl
theorem DHc.one {z : Nat} {c : C} {v : Value} {D : List Nat} (h : DHc w z c v D) : v.oneCell' = true := h.1.one
/-- a deep row's cells, one after another -/
theorem deep_vals {r : RV} {l : List (List C)} {δ : List Nat} (h : DeepAt w r l δ none) (h0 : 0 < r.sz) : ∃ (u : Nat → Nat → Value) (f : Nat → Nat → List Nat) (vs : List Value), vs.length = l.length * r.sz ∧ (∀ k v, vs[k]? = some v → ∃ ad, r.a = some ad ∧ w.cell? (ad.add k) = some v) ∧ (∀ v ∈ vs, v.oneCell' = true) ∧
    (∀ i j, i < l.length → j < r.sz → vs[i * r.sz + j]? = some (u i j)) ∧ (∀ i j el c, l[i]? = some el → el[j]? = some c → DHc w (colZ r.sz j) c (u i j) (f i j)) ∧ (∀ i j, i < l.length → j < r.sz → ∀ b ∈ f i j, b ∈ δ) ∧
    (∀ i j i' j', i < l.length → j < r.sz → i' < l.length → j' < r.sz → ∀ b, b ∈ f i j → b ∈ f i' j' → i = i' ∧ j = j') := by
  obtain ⟨off, t, cs, u, f, a1, a2, a3, a4, a5, a6, a7, a8, a9, a10, a11, a12⟩ := h
  have hdm : ∀ i j, j < r.sz → (i * r.sz + j) / r.sz = i ∧ (i * r.sz + j) % r.sz = j := fun i j hj => by
    rw [Nat.mul_comm]; exact ⟨by rw [Nat.mul_add_div h0, Nat.div_eq_of_lt hj, Nat.add_zero], by rw [Nat.mul_add_mod, Nat.mod_eq_of_lt hj]⟩
  refine ⟨u, f, (List.range (l.length * r.sz)).map fun k => u (k / r.sz) (k % r.sz), by simp, fun k v hk => ?_, fun v hv => ?_, fun i j hi hj => ?_, fun i j el c hi hj => a8 i j el c hi hj (by simp), fun i j hi hj b hb => (a9 b).2 ⟨i, j, by omega, hj, by simp, hb⟩, fun i j i' j' h1 h2 h3 h4 => a11 i j i' j' (by omega) h2 (by omega) h4 (by simp) (by simp)⟩
  · rw [range_get] at hk
    by_cases hlt : k < l.length * r.sz
    · simp only [hlt, if_true, Option.some.injEq] at hk
      subst hk
      have e := Nat.div_add_mod k r.sz
      have hi : k / r.sz < r.n := by rw [← a1]; exact (Nat.div_lt_iff_lt_mul h0).2 hlt
      cases hκ : r.κ with
      | none => exact absurd (Nat.lt_of_lt_of_le hi a2) (by rw [a5 hκ]; exact Nat.not_lt_zero _)
      | some k' =>
        obtain ⟨b1, b2, b3⟩ := a6 k' hκ
        refine ⟨_, b1, ?_⟩
        rw [add_none, cell_block b2, ← a7 _ _ hi (Nat.mod_lt k h0), Nat.mul_comm (k / r.sz), e]
    · simp [hlt] at hk
  · obtain ⟨k, hk, rfl⟩ := List.mem_map.1 hv
    have hlt : k < l.length * r.sz := List.mem_range.1 hk
    have hi : k / r.sz < l.length := (Nat.div_lt_iff_lt_mul h0).2 hlt
    have hj := Nat.mod_lt k h0
    have hel : l[k / r.sz]? = some (l[k / r.sz]'hi) := List.getElem?_eq_getElem _
    have hc : (l[k / r.sz]'hi)[k % r.sz]? = some ((l[k / r.sz]'hi)[k % r.sz]'(by rw [a3 _ (List.mem_of_getElem? hel)]; exact hj)) := List.getElem?_eq_getElem _
    exact (a8 _ _ _ _ hel hc (by simp)).one
  · have hlt : i * r.sz + j < l.length * r.sz := by have := Nat.mul_le_mul_right r.sz (show i + 1 ≤ l.length by omega); rw [Nat.add_mul, Nat.one_mul] at this; omega
    rw [range_get, if_pos hlt]
    simp [hdm i j hj]
/-- a part's cells, one after another -/
theorem deep_valsP {r : RV} {l : List (List C)} {δ : List Nat} {x : Option Nat} {lo hi : Nat} (h : DeepAt w r l δ x) (h0 : 0 < r.sz) (hx : ∀ m, x = some m → m ≤ lo) (hl : lo ≤ hi) (hh : hi ≤ l.length) : ∃ (u : Nat → Nat → Value) (f : Nat → Nat → List Nat) (vs : List Value), vs.length = (cut l lo hi).length * r.sz ∧ (∀ k v, vs[k]? = some v → ∃ ad, r.a = some ad ∧ w.cell? (ad.add (lo * r.sz + k)) = some v) ∧ (∀ v ∈ vs, v.oneCell' = true) ∧
    (∀ i j, i < (cut l lo hi).length → j < r.sz → vs[i * r.sz + j]? = some (u i j)) ∧ (∀ i j el c, (cut l lo hi)[i]? = some el → el[j]? = some c → DHc w (colZ r.sz j) c (u i j) (f i j)) ∧ (∀ i j, i < (cut l lo hi).length → j < r.sz → ∀ b ∈ f i j, b ∈ δ) ∧
    (∀ i j i' j', i < (cut l lo hi).length → j < r.sz → i' < (cut l lo hi).length → j' < r.sz → ∀ b, b ∈ f i j → b ∈ f i' j' → i = i' ∧ j = j') ∧
    ∃ δ', DeepAt w r l δ' (some hi) ∧ (∀ b ∈ δ', b ∈ δ) ∧ ∀ i j, i < (cut l lo hi).length → j < r.sz → ∀ b ∈ f i j, b ∉ δ' := by
  obtain ⟨off, t, cs, u, f, a1, a2, a3, a4, a5, a6, a7, a8, a9, a10, a11, a12⟩ := h
  have hcl : (cut l lo hi).length = hi - lo := by simp [cut]; omega
  have hok : ∀ i, lo ≤ i → ∀ m, x = some m → m ≤ i := fun i hi m hm => Nat.le_trans (hx m hm) hi
  have hdm : ∀ i j, j < r.sz → (i * r.sz + j) / r.sz = i ∧ (i * r.sz + j) % r.sz = j := fun i j hj => by
    rw [Nat.mul_comm]; exact ⟨by rw [Nat.mul_add_div h0, Nat.div_eq_of_lt hj, Nat.add_zero], by rw [Nat.mul_add_mod, Nat.mod_eq_of_lt hj]⟩
  have hget : ∀ i, i < hi - lo → (cut l lo hi)[i]? = l[lo + i]? := fun i hi' => by
    unfold cut; rw [List.getElem?_drop, List.getElem?_take, if_pos (by omega)]
  obtain ⟨δ', d1, d2⟩ := gather r.n r.sz (fun i _ => hi ≤ i) f
  refine ⟨fun i j => u (lo + i) j, fun i j => f (lo + i) j, (List.range ((cut l lo hi).length * r.sz)).map fun k => u (lo + k / r.sz) (k % r.sz), by simp, fun k v hk => ?_, fun v hv => ?_, fun i j hi' hj => ?_, fun i j el c hi' hj => ?_, fun i j hi' hj b hb => (a9 b).2 ⟨lo + i, j, by omega, hj, hok _ (by omega), hb⟩, fun i j i' j' h1 h2 h3 h4 b hb hb' => ?_, δ', ⟨off, t, cs, u, f, a1, a2, a3, a4, a5, a6, a7, fun i j el c hi' hj hm => a8 i j el c hi' hj (hok i (by have := hm hi rfl; omega)), fun b => ?_, fun i j h1 h2 hm => a10 i j h1 h2 (hok i (by have := hm hi rfl; omega)), fun i j i' j' h1 h2 h3 h4 hm hm' => a11 i j i' j' h1 h2 h3 h4 (hok i (by have := hm hi rfl; omega)) (hok i' (by have := hm' hi rfl; omega)), d1⟩, fun b hb => ?_, fun i j hi' hj b hb hb' => ?_⟩
  · rw [range_get] at hk
    by_cases hlt : k < (cut l lo hi).length * r.sz
    · simp only [hlt, if_true, Option.some.injEq] at hk
      subst hk
      have e := Nat.div_add_mod k r.sz
      have hi' : k / r.sz < hi - lo := by rw [← hcl]; exact (Nat.div_lt_iff_lt_mul h0).2 hlt
      cases hκ : r.κ with
      | none =>
        have hz := a5 hκ
        have : hi - lo = 0 := by omega
        rw [this] at hi'; exact absurd hi' (Nat.not_lt_zero _)
      | some k' =>
        obtain ⟨b1, b2, b3⟩ := a6 k' hκ
        refine ⟨_, b1, ?_⟩
        rw [add_none, cell_block b2, ← a7 (lo + k / r.sz) _ (by omega) (Nat.mod_lt k h0)]
        congr 1
        rw [Nat.add_mul, Nat.mul_comm (k / r.sz)]; omega
    · simp [hlt] at hk
  · obtain ⟨k, hk, rfl⟩ := List.mem_map.1 hv
    have hlt : k < (cut l lo hi).length * r.sz := List.mem_range.1 hk
    have hi' : lo + k / r.sz < l.length := by have := (Nat.div_lt_iff_lt_mul h0).2 hlt; omega
    have hj := Nat.mod_lt k h0
    have hel : l[lo + k / r.sz]? = some (l[lo + k / r.sz]'hi') := List.getElem?_eq_getElem _
    have hc : (l[lo + k / r.sz]'hi')[k % r.sz]? = some ((l[lo + k / r.sz]'hi')[k % r.sz]'(by rw [a3 _ (List.mem_of_getElem? hel)]; exact hj)) := List.getElem?_eq_getElem _
    exact (a8 _ _ _ _ hel hc (hok _ (Nat.le_add_right _ _))).one
  · have hlt : i * r.sz + j < (cut l lo hi).length * r.sz := by have := Nat.mul_le_mul_right r.sz (show i + 1 ≤ (cut l lo hi).length by omega); rw [Nat.add_mul, Nat.one_mul] at this; omega
    rw [range_get, if_pos hlt]
    simp [hdm i j hj]
  · have hlt := (List.getElem?_eq_some_iff.mp hi').1
    rw [hget i (by omega)] at hi'
    exact a8 _ j el c hi' hj (hok _ (by omega))
  · obtain ⟨e1, e2⟩ := a11 _ _ _ _ (by omega) h2 (by omega) h4 (hok _ (by omega)) (hok _ (by omega)) b hb hb'
    exact ⟨by omega, e2⟩
  · rw [d2]
    constructor
    · rintro ⟨i, j, h1, h2, h3, h4⟩; exact ⟨i, j, h1, h2, fun m hm => by cases hm; exact h3, h4⟩
    · rintro ⟨i, j, h1, h2, h3, h4⟩; exact ⟨i, j, h1, h2, h3 hi rfl, h4⟩
  · obtain ⟨i, j, h1, h2, h3, h4⟩ := (d2 b).1 hb
    exact (a9 b).2 ⟨i, j, h1, h2, hok i (by omega), h4⟩
  · obtain ⟨i', j', h1, h2, h3, h4⟩ := (d2 b).1 hb'
    have := (a11 _ _ _ _ (by omega) hj h1 h2 (hok _ (by omega)) (hok i' (by omega)) b hb h4).1
    omega
/-- elements all below which is ours, their row gone already, laid behind a row -/
theorem app_deep (M : Mem w0 B σ E ok w) {s y : T} {sv xv : Value} {t u ty e : TypeId} {i : TypeInfo} {z : Value} {lx : List (List C)} {δx : List Nat} {news : List Value} {u2 : Nat → Nat → Value} {f2 : Nat → Nat → List Nat}
    (ht : P.underlying t = some (.slice e)) (hi : P.info? e = some i) (hz : i.zero = some z) (hzs : z.cells.size = i.size) (h0 : 0 < i.size) (hb0 : 0 < i.bytes) (hwx : wide i.size lx = true) (hs : TRel w ok E s sv) (hsrc : Src P i.size u xv lx.length news w)
    (n1 : news.length = lx.length * i.size) (n4 : ∀ a b, a < lx.length → b < i.size → news[a * i.size + b]? = some (u2 a b)) (n5 : ∀ a b el c, lx[a]? = some el → el[b]? = some c → DHc w (colZ i.size b) c (u2 a b) (f2 a b)) (n6 : ∀ a b, a < lx.length → b < i.size → ∀ x ∈ f2 a b, x ∈ δx)
    (n7 : ∀ a b a' b', a < lx.length → b < i.size → a' < lx.length → b' < i.size → ∀ x, x ∈ f2 a b → x ∈ f2 a' b' → a = a' ∧ b = b')
    (hPx : ∀ b ∈ δx, ¬ ok b ∧ (w0.heap.size ≤ b ∨ B.L b) ∧ b < w.heap.size ∧ ∀ x, mutAt σ E x ≠ some b) (h : appTo σ i s lx = some (y, σ')) :
    ∃ v w', (Builtin.append_ #[t, u] ty #[sv, xv]).run P w = .ok v w' ∧ StepR w0 B w ok E σ' y v w' := by
  unfold appTo at h
  cases s <;> try (simp at h; done)
  case nil =>
    simp only at h
    split at h
    case isFalse => simp at h
    rename_i hbig
    simp only [Option.some.injEq] at h
    rw [show sv = _ from hs]
    by_cases hx0 : lx = []
    · have hnews : news = [] := by rw [hx0] at n1; simpa using n1
      rw [hx0] at hsrc h
      subst hnews
      refine ⟨_, w, run_append_nothing (P := P) w t u ty e i ht hi none 0 0 (Nat.le_refl _) _ hsrc, ?_⟩
      obtain ⟨E', h1, h2, h3⟩ := newDeep0 M h0 none
      rw [h] at h1 h3
      exact ⟨E', ok, h1, h2, keep_refl, h3⟩
    · have hg : 0 < 0 + lx.length := by have := List.length_pos_iff.2 hx0; omega
      have h63 : ((0 + lx.length : Nat) : Int) ≤ 9223372036854775807 := by
        have : lx.length ≤ lx.length * i.bytes := Nat.le_mul_of_pos_right _ hb0
        omega
      refine ⟨_, _, run_append_grow_src (P := P) w t u ty e i z ht hi hz none 0 0 [] (firstCells_run (vs := []) (by simp) (by simp) (fun _ => rfl)) _ _ news hsrc hg h63 (growslice_fits hg (by rw [Nat.zero_add]; omega)), ?_⟩
      obtain ⟨M2, k2⟩ := M.drew
      have hge := grownCap_ge w (0 + lx.length) 0 e
      have key := step_newRowD M2 (l := lx) (n := 0 + lx.length) (cap := grownCap w (0 + lx.length) 0 e) (cs := ([] ++ news).toArray ++ Builtin.zeroCells z.cells (grownCap w (0 + lx.length) 0 e - (0 + lx.length))) e u2 f2 (by omega) hge h0 (wide_iff.mp hwx) (by
          have h5 := Nat.mul_le_mul_right i.size (show grownCap w (0 + lx.length) 0 e ≤ lx.length + (grownCap w (0 + lx.length) 0 e - (0 + lx.length)) by omega)
          rw [Nat.add_mul] at h5
          simp only [Array.size_append, List.size_toArray, List.nil_append, n1, size_zeroCells, hzs, Nat.zero_add] at h5 ⊢
          exact h5) (fun a b ha hb => by
          have h1 := n4 a b (by omega) hb
          have hlt := (List.getElem?_eq_some_iff.mp h1).1
          rw [Array.getElem?_append_left (by simpa using hlt)]
          simpa using h1) (fun a b el c hi hj => (n5 a b el c hi hj).keep fun _ _ => rfl) (fun a b a' b' h1 h2 h3 h4 => n7 a b a' b' (by omega) h2 (by omega) h4) (fun a b ha hb x hx => hPx x (n6 a b (by omega) hb x hx))
      rw [h] at key
      exact StepR.from (.refl _) k2 (Nat.le_refl _) key
  case row j =>
    simp only at h
    simp only [Option.bind_eq_some_iff] at h
    obtain ⟨q, hq, h⟩ := h
    split at h
    case isFalse => simp at h
    rename_i hc
    obtain ⟨hso, hsd, hssz, hws, hbig⟩ := hc
    simp only [Option.some.injEq] at h
    obtain ⟨r, hr, rfl⟩ := hs
    have hR := M.row j r q hr hq
    have hD : DeepAt w r q.l (E.δ j) none := by have := hR.2; rw [hso, if_pos rfl, hsd] at this; exact this
    have hrsz : r.sz = i.size := by rw [← hR.1, hssz]
    have hlen := hR.all
    obtain ⟨u1, f1, olds, o1, o2, o3, o4, o5, o6, o7⟩ := deep_vals hD (by rw [hrsz]; exact h0)
    rw [hrsz] at o1 o4 o5 o6 o7
    have ho0 := none_zero (w := w) h0 o1 o2
    have hbl : ∀ b ∈ E.δ j, blks r q (E.δ j) b := fun b hb => ⟨hso, .inr ⟨by rw [hsd]; simp, hb⟩⟩
    have hdead : ∀ b, (blks r q (E.δ j) b ∨ b ∈ δx) → ∀ x, mutAt (setRow σ j none) E x ≠ some b := by
      intro b hb x hx
      rcases hb with hb | hb
      · exact blks_dead M hr (row_raw hq) hb x hx
      · exact (hPx b hb).2.2.2 x (mut_kill_le hx)
    have hmine : ∀ b, (blks r q (E.δ j) b ∨ b ∈ δx) → ¬ ok b ∧ (w0.heap.size ≤ b ∨ B.L b) ∧ b < w.heap.size := by
      intro b hb
      rcases hb with hb | hb
      · obtain ⟨y, hy, _⟩ := blks_mut hr (row_raw hq) hb; exact M.mine y b hy
      · exact ⟨(hPx b hb).1, (hPx b hb).2.1, (hPx b hb).2.2.1⟩
    have hcross : ∀ b, blks r q (E.δ j) b → b ∈ δx → False := by
      intro b h1 h2
      obtain ⟨y, hy, _⟩ := blks_mut hr (row_raw hq) h1
      exact (hPx b h2).2.2.2 y hy
    have hzz : ∀ el ∈ q.l ++ lx, el.length = i.size := by
      intro el hel
      rcases List.mem_append.1 hel with h | h
      · exact wide_iff.mp hws el h
      · exact wide_iff.mp hwx el h
    let U : Nat → Nat → Value := fun a b => if a < q.l.length then u1 a b else u2 (a - q.l.length) b
    let F : Nat → Nat → List Nat := fun a b => if a < q.l.length then f1 a b else f2 (a - q.l.length) b
    have hU : ∀ a b, a < q.l.length + lx.length → b < i.size → (olds ++ news)[a * i.size + b]? = some (U a b) := by
      intro a b ha hb
      simp only [U]
      split
      · rename_i hlt
        have h1 := o4 a b hlt hb
        rw [List.getElem?_append_left (List.getElem?_eq_some_iff.mp h1).1]; exact h1
      · rename_i hlt
        have : a * i.size = q.l.length * i.size + (a - q.l.length) * i.size := by rw [← Nat.add_mul]; congr 1; omega
        rw [List.getElem?_append_right (by omega), show a * i.size + b - olds.length = (a - q.l.length) * i.size + b by omega]
        exact n4 _ b (by omega) hb
    have hFD : ∀ a b el c, (q.l ++ lx)[a]? = some el → el[b]? = some c → DHc w (colZ i.size b) c (U a b) (F a b) := by
      intro a b el c hi hj
      simp only [U, F]
      split
      · rename_i hlt; rw [List.getElem?_append_left hlt] at hi; exact o5 a b el c hi hj
      · rename_i hlt; rw [List.getElem?_append_right (by omega)] at hi; exact n5 _ b el c hi hj
    have hFb : ∀ a b, a < q.l.length + lx.length → b < i.size → ∀ x ∈ F a b, (a < q.l.length ∧ x ∈ E.δ j) ∨ (¬ a < q.l.length ∧ x ∈ δx) := by
      intro a b ha hb x hx
      simp only [F] at hx
      split at hx
      · rename_i hlt; exact .inl ⟨hlt, o6 a b hlt hb x hx⟩
      · rename_i hlt; exact .inr ⟨hlt, n6 _ b (by omega) hb x hx⟩
    have hFd : ∀ a b a' b', a < q.l.length + lx.length → b < i.size → a' < q.l.length + lx.length → b' < i.size → ∀ x, x ∈ F a b → x ∈ F a' b' → a = a' ∧ b = b' := by
      intro a b a' b' h1 h2 h3 h4 x hx hx'
      have k1 := hFb a b h1 h2 x hx
      have k2 := hFb a' b' h3 h4 x hx'
      rcases k1 with ⟨c1, c2⟩ | ⟨c1, c2⟩ <;> rcases k2 with ⟨c3, c4⟩ | ⟨c3, c4⟩
      · simp only [F, c1, c3, if_true] at hx hx'
        exact o7 a b a' b' c1 h2 c3 h4 x hx hx'
      · exact (hcross x (hbl x c2) c4).elim
      · exact (hcross x (hbl x c4) c2).elim
      · simp only [F, c1, c3, if_false] at hx hx'
        have := n7 _ b _ b' (by omega) h2 (by omega) h4 x hx hx'
        exact ⟨by omega, this.2⟩
    have hFP : ∀ a b, a < q.l.length + lx.length → b < i.size → ∀ x ∈ F a b, ¬ ok x ∧ (w0.heap.size ≤ x ∨ B.L x) ∧ x < w.heap.size ∧ ∀ y, mutAt (setRow σ j none) E y ≠ some x := by
      intro a b ha hb x hx
      have hk : blks r q (E.δ j) x ∨ x ∈ δx := (hFb a b ha hb x hx).imp (fun h => hbl x h.2) (fun h => h.2)
      obtain ⟨p1, p2, p3⟩ := hmine x hk
      exact ⟨p1, p2, p3, hdead x hk⟩
    have M' := M.killR j
    rw [← hlen.1]
    by_cases hroom : q.l.length + lx.length ≤ r.cap
    · by_cases hc0 : r.cap = 0
      · have hx0 : lx = [] := List.eq_nil_of_length_eq_zero (by omega)
        have hs0 : q.l = [] := List.eq_nil_of_length_eq_zero (by omega)
        have hnews : news = [] := by rw [hx0] at n1; simpa using n1
        rw [hx0] at hsrc
        rw [hs0, hc0]
        subst hnews
        refine ⟨_, w, run_append_nothing (P := P) w t u ty e i ht hi r.a 0 0 (Nat.le_refl _) _ hsrc, ?_⟩
        obtain ⟨E', h1, h2, h3⟩ := newDeep0 M' h0 r.a
        rw [hs0, hx0, List.append_nil] at h
        rw [h] at h1 h3
        exact ⟨E', ok, h1, h2, keep_refl, h3⟩
      · obtain ⟨off, t0, c0, _, _, a1, a2, a3, a4, a5, a6, _⟩ := hD
        cases hκ : r.κ with
        | none => exact absurd (a5 hκ) hc0
        | some k =>
          obtain ⟨q1, q2, q3⟩ := a6 k hκ
          have hkb : blks r q (E.δ j) k := ⟨hso, .inl hκ⟩
          have hkm := hmine k (.inl hkb)
          rw [hrsz] at q3
          have hmul : (q.l.length + lx.length) * i.size ≤ r.cap * i.size := Nat.mul_le_mul_right _ hroom
          rw [Nat.add_mul] at hmul
          obtain ⟨w', h3, h4, h5⟩ := run_append_in (ty := ty) (b := k) (o := off) (sLen := q.l.length) (sCap := r.cap) ht hi hsrc hroom q2 (by rw [n1]; omega)
          obtain ⟨M2, kp⟩ := M'.poke h4 (hdead k (.inl hkb)) hkm.1 hkm.2.1
          have hfit : off + q.l.length * i.size + news.length ≤ c0.size := by rw [n1]; omega
          refine ⟨_, w', by rw [q1]; exact h3, ?_⟩
          obtain ⟨E', g1, g2, g3⟩ := newDeep M2 (l := q.l ++ lx) (n := q.l.length + lx.length) (cap := r.cap) (sz := i.size) (k := k) (off := off) (t := t0) U F (by simp) hroom h0 hzz h5 (by rw [over_size hfit]; exact q3) (fun a b ha hb => by
              rw [over_get hfit]
              have hv := hU a b ha hb
              by_cases hlt : a < q.l.length
              · have := Nat.mul_le_mul_right i.size (show a + 1 ≤ q.l.length by omega)
                rw [Nat.add_mul, Nat.one_mul] at this
                rw [if_neg (by omega)]
                rw [List.getElem?_append_left (by omega)] at hv
                obtain ⟨ad', e1, e2⟩ := o2 _ _ hv
                rw [q1] at e1; cases e1
                rw [add_none, cell_block q2] at e2
                exact e2
              · have : a * i.size = q.l.length * i.size + (a - q.l.length) * i.size := by rw [← Nat.add_mul]; congr 1; omega
                have hlt2 : (a - q.l.length) * i.size + b < lx.length * i.size := by have := Nat.mul_le_mul_right i.size (show a - q.l.length + 1 ≤ lx.length by omega); rw [Nat.add_mul, Nat.one_mul] at this; omega
                rw [if_pos (by omega)]
                rw [List.getElem?_append_right (by omega)] at hv
                rw [← hv]; congr 1; omega)
            (fun a b el c hi hj => (hFD a b el c hi hj).keep fun x hx => h4.other x fun e' => by
              have hin : a < q.l.length + lx.length ∧ b < i.size := ⟨by have := (List.getElem?_eq_some_iff.mp hi).1; simpa using this, by rw [← hzz el (List.mem_of_getElem? hi)]; exact (List.getElem?_eq_some_iff.mp hj).1⟩
              subst e'
              rcases hFb a b hin.1 hin.2 x hx with ⟨_, h6⟩ | ⟨_, h6⟩
              · obtain ⟨m, hm⟩ := mut_mem (E := E) (row_raw hq) hso (by rw [hsd]; simp) h6
                have := M.dis _ _ _ hm (mut_r hr hq hso hκ)
                cases this
              · exact hcross x hkb h6) hFd ⟨hkm.1, hkm.2.1, hdead k (.inl hkb)⟩ (fun a b ha hb x hx => by
              obtain ⟨p1, p2, p3, p4⟩ := hFP a b ha hb x hx
              refine ⟨fun e' => ?_, p1, p2, by rw [h4.size]; exact p3, p4⟩
              subst e'
              rcases hFb a b ha hb x hx with ⟨_, h6⟩ | ⟨_, h6⟩
              · obtain ⟨m, hm⟩ := mut_mem (E := E) (row_raw hq) hso (by rw [hsd]; simp) h6
                have := M.dis _ _ _ hm (mut_r hr hq hso hκ)
                cases this
              · exact hcross x hkb h6)
          rw [h] at g1 g3
          exact ⟨E', ok, g1, g2, kp, g3⟩
    · have hg : r.cap < q.l.length + lx.length := by omega
      have h63 : ((q.l.length + lx.length : Nat) : Int) ≤ 9223372036854775807 := by
        have : q.l.length + lx.length ≤ (q.l.length + lx.length) * i.bytes := Nat.le_mul_of_pos_right _ hb0
        omega
      refine ⟨_, _, run_append_grow_src (P := P) w t u ty e i z ht hi hz r.a q.l.length r.cap olds (firstCells_run o1 o2 ho0) _ _ news hsrc hg h63 (growslice_fits hg (by omega)), ?_⟩
      obtain ⟨M2, k2⟩ := M'.drew
      have hge := grownCap_ge w (q.l.length + lx.length) r.cap e
      have key := step_newRowD M2 (l := q.l ++ lx) (n := q.l.length + lx.length) (cap := grownCap w (q.l.length + lx.length) r.cap e) (cs := (olds ++ news).toArray ++ Builtin.zeroCells z.cells (grownCap w (q.l.length + lx.length) r.cap e - (q.l.length + lx.length))) e U F (by simp) hge h0 hzz (by
          simp only [Array.size_append, List.size_toArray, List.length_append, o1, n1, size_zeroCells, hzs]
          rw [← Nat.add_mul, ← Nat.add_mul]
          exact Nat.mul_le_mul_right _ (by omega)) (fun a b ha hb => by
          have h1 := hU a b ha hb
          have hlt := (List.getElem?_eq_some_iff.mp h1).1
          rw [Array.getElem?_append_left (by simpa using hlt)]
          simpa using h1) (fun a b el c hi hj => (hFD a b el c hi hj).keep fun _ _ => rfl) hFd (fun a b ha hb x hx => hFP a b ha hb x hx)
      rw [h] at key
      exact StepR.from (.refl _) k2 (Nat.le_refl _) key
theorem ok_appendD (M : Mem w0 B σ E ok w) {s y : T} {jx : Nat} {sv xv : Value} {t u e' ty : TypeId} (hu : P.underlying u = some (.slice e')) (hs : TRel w ok E s sv) (hx : TRel w ok E (.row jx) xv) (h : opAppendD P σ t s jx = some (y, σ')) :
    ∃ v w', (Builtin.append_ #[t, u] ty #[sv, xv]).run P w = .ok v w' ∧ StepR w0 B w ok E σ' y v w' := by
  unfold opAppendD at h
  simp only [Option.bind_eq_some_iff] at h
  obtain ⟨e, he, i, hi, z, hz, qx, hqx, h⟩ := h
  split at h
  case isFalse => simp at h
  rename_i hc
  obtain ⟨hzs, hwx, h0, hb0, hxo, hxd, hxz⟩ := hc
  have ht := und_elOf he
  obtain ⟨rx, hrx, rfl⟩ := hx
  have hRx := M.row jx rx qx hrx hqx
  have hDx : DeepAt w rx qx.l (E.δ jx) none := by have := hRx.2; rw [hxo, if_pos rfl, hxd] at this; exact this
  have hxsz : rx.sz = i.size := by rw [← hRx.1, hxz]
  have hxlen := hRx.all
  obtain ⟨u2, f2, news, n1, n2, n3, n4, n5, n6, n7⟩ := deep_vals hDx (by rw [hxsz]; exact h0)
  rw [hxsz] at n1 n4 n5 n6 n7
  have hsrc : Src P i.size u (.slice rx.a rx.n rx.cap) qx.l.length news w := by
    have := src_of (w := w) (P := P) (cap := rx.cap) hu n1 n2 n3 (none_zero (w := w) h0 n1 n2)
    rw [← hxlen.1]; exact this
  have hblx : ∀ b ∈ E.δ jx, blks rx qx (E.δ jx) b := fun b hb => ⟨hxo, .inr ⟨by rw [hxd]; simp, hb⟩⟩
  exact app_deep (M.killR jx) ht hi hz hzs h0 hb0 hwx hs hsrc n1 n4 n5 n6 n7 (fun b hb => by
    obtain ⟨y, hy, _⟩ := blks_mut hrx (row_raw hqx) (hblx b hb)
    exact ⟨(M.mine y b hy).1, (M.mine y b hy).2.1, (M.mine y b hy).2.2, blks_dead M hrx (row_raw hqx) (hblx b hb)⟩) h
theorem from_hole {dq : Dp} {lo : Nat} {r : RV} {l : List (List C)} {δ : List Nat} (h : dq.from lo = true) (hk : OwnK w ok r l δ dq) : dq ≠ .f ∧ ∃ x, DeepAt w r l δ x ∧ ∀ m, x = some m → m ≤ lo := by
  cases dq with
  | f => simp [Dp.from] at h
  | d => exact ⟨by simp, none, hk, by simp⟩
  | p m => exact ⟨by simp, some m, hk, fun m' e => by cases e; simpa [Dp.from] using h⟩
/-- a part is moved -/
theorem ok_appendP (M : Mem w0 B σ E ok w) {s y : T} {jx lo hi : Nat} {sv xv : Value} {t u e' ty : TypeId} (hu : P.underlying u = some (.slice e')) (hs : TRel w ok E s sv) (hx : TRel w ok E (.sl jx lo hi) xv) (h : opAppendP P σ t s jx lo hi = some (y, σ')) :
    ∃ v w', (Builtin.append_ #[t, u] ty #[sv, xv]).run P w = .ok v w' ∧ StepR w0 B w ok E σ' y v w' := by
  unfold opAppendP at h
  simp only [Option.bind_eq_some_iff] at h
  obtain ⟨e, he, i, hi', z, hz, qx, hqx, h⟩ := h
  split at h
  case isFalse => simp at h
  rename_i hc
  obtain ⟨hzs, hwx, h0, hb0, hxo, hxd, hxz, hlh, hhl⟩ := hc
  obtain ⟨⟨y', τ⟩, h1, h2⟩ := Option.map_eq_some_iff.1 h
  clear h
  simp only [Prod.mk.injEq] at h2
  obtain ⟨rfl, rfl⟩ := h2
  have ht := und_elOf he
  obtain ⟨rx, a', hrx, g1, g2, rfl, g3⟩ := hx
  have hRx := M.raw jx rx qx hrx hqx
  have hK : OwnK w ok rx qx.l (E.δ jx) qx.dp := by have := hRx.2; rw [hxo, if_pos rfl] at this; exact this
  obtain ⟨hnf, x0, hDx, hx0⟩ := from_hole hxd hK
  have hxsz : rx.sz = i.size := by rw [← hRx.1, hxz]
  have hxlen := deep_len hDx
  obtain ⟨u2, f2, news, n1, n2, n3, n4, n5, n6, n7, δr, r1, r2, r3⟩ := deep_valsP hDx (by rw [hxsz]; exact h0) hx0 hlh hhl
  rw [hxsz] at n1 n2 n4 n5 n6 n7 r3
  have hcl : (cut qx.l lo hi).length = hi - lo := by simp [cut]; omega
  have hn2 : ∀ k v, news[k]? = some v → ∃ ad, a' = some ad ∧ w.cell? (ad.add k) = some v := fun k v hk => by
    have hk1 := (List.getElem?_eq_some_iff.1 hk).1
    rw [n1, hcl] at hk1
    have hpos : hi - lo ≠ 0 := fun e => by rw [e] at hk1; omega
    obtain ⟨ad, e1, e2⟩ := g3 (by omega)
    obtain ⟨ad', e3, e4⟩ := n2 k v hk
    rw [e1] at e3; cases e3
    exact ⟨_, e2, by rw [hxsz, add_add]; exact e4⟩
  have hsrc : Src P i.size u (.slice a' (hi - lo) (rx.cap - lo)) (cut qx.l lo hi).length news w := by
    have := src_of (w := w) (P := P) (cap := rx.cap - lo) hu n1 hn2 n3 (none_zero (w := w) h0 n1 hn2)
    rw [hcl] at this ⊢; exact this
  have hwp : wide i.size (cut qx.l lo hi) = true := wide_iff.2 fun el hel => wide_iff.1 hwx el (cut_mem hel)
  have hbl : ∀ b, (rx.κ = some b ∨ b ∈ E.δ jx) → blks rx qx (E.δ jx) b := fun b hb => ⟨hxo, hb.imp id fun h => ⟨hnf, h⟩⟩
  -- what stays with the row
  let rest : Nat → Prop := fun b => rx.κ = some b ∨ b ∈ δr
  have hrest : ∀ b, rest b → blks rx qx (E.δ jx) b := fun b hb => hbl b (hb.imp id (r2 b))
  have hmine : ∀ b, blks rx qx (E.δ jx) b → ¬ ok b ∧ (w0.heap.size ≤ b ∨ B.L b) ∧ b < w.heap.size := fun b hb => by
    obtain ⟨y, hy, _⟩ := blks_mut hrx hqx hb; exact M.mine y b hy
  let L1 : Nat → Prop := fun b => Muts σ E b ∧ ¬ rest b
  have hL1 : ∀ b, L1 b → w0.heap.size ≤ b ∨ B.L b := fun b ⟨⟨y, hy⟩, _⟩ => (M.mine y b hy).2.1
  have M1 : Mem w ⟨L1, ok⟩ (setRow σ jx none) E ok w := by
    have M0 := M.killR jx
    exact ⟨⟨rfl, rfl, rfl, Nat.le_refl _, fun _ _ _ => rfl⟩, fun k h => .inl h, M0.lb, M0.lr, M0.box, M0.raw, fun y k hy => ⟨(M0.mine y k hy).1, .inr ⟨⟨y, mut_kill_le hy⟩, fun hr => blks_dead M hrx hqx (hrest k hr) y hy⟩, (M0.mine y k hy).2.2⟩, M0.dis⟩
  have hκδ : ∀ b ∈ E.δ jx, (∃ i' j', i' < (cut qx.l lo hi).length ∧ j' < i.size ∧ b ∈ f2 i' j') → ¬ rest b := fun b hb ⟨i', j', h1, h2, h3⟩ hr => by
    rcases hr with hr | hr
    · obtain ⟨m, hm⟩ := mut_mem (E := E) hqx hxo hnf hb
      have := M.dis _ _ _ hm (mut_raw hrx hqx hxo hr)
      cases this
    · exact r3 i' j' h1 h2 b h3 hr
  obtain ⟨δp, p1, p2⟩ := gather (cut qx.l lo hi).length i.size (fun _ _ => True) f2
  obtain ⟨v, w', hrun, E', ok', M2, hle, hkp, hy⟩ := app_deep (ty := ty) M1 ht hi' hz hzs h0 hb0 hwp hs hsrc n1 n4 n5 (δx := δp) (fun a b ha hb x hx => (p2 x).2 ⟨a, b, ha, hb, trivial, hx⟩) n7 (fun b hb => by
    obtain ⟨a, c, h1, h2, _, h3⟩ := (p2 b).1 hb
    have hbδ := n6 a c h1 h2 b h3
    have hbk := hbl b (.inr hbδ)
    obtain ⟨y, hy, _⟩ := blks_mut hrx hqx hbk
    exact ⟨(M.mine y b hy).1, .inr ⟨⟨y, hy⟩, hκδ b hbδ ⟨a, c, h1, h2, h3⟩⟩, (M.mine y b hy).2.2, blks_dead M hrx hqx hbk⟩) h1
  refine ⟨v, w', hrun, ?_⟩
  have hsame : ∀ b, rest b → w'.heap[b]? = w.heap[b]? ∧ ¬ ok' b ∧ ∀ y, mutAt τ E' y ≠ some b := fun b hb => by
    have hm := hmine b (hrest b hb)
    have hnl : ¬ L1 b := fun h => h.2 hb
    refine ⟨M2.fr.old b hm.2.2 hnl, fun h => ?_, fun y hy => ?_⟩
    · rcases M2.okin b h with h | h | h
      · exact hm.1 h
      · have := hm.2.2; omega
      · exact hnl h
    · rcases (M2.mine y b hy).2.1 with h | h
      · have := hm.2.2; omega
      · exact hnl h
  have hup : ∀ b, (w.heap.size ≤ b ∨ L1 b) → w0.heap.size ≤ b ∨ B.L b := fun b h => h.elim (fun h => .inl (Nat.le_trans M.fr.size h)) fun h => hL1 b h
  have M3 : Mem w0 B τ E' ok' w' :=
    ⟨⟨M2.fr.os.trans M.fr.os, M2.fr.tape.trans M.fr.tape, M2.fr.output.trans M.fr.output, Nat.le_trans M.fr.size M2.fr.size, fun b hb hnb => (M2.fr.old b (Nat.lt_of_lt_of_le hb M.fr.size) fun hl => (hL1 b hl).elim (fun h => by omega) hnb).trans (M.fr.old b hb hnb)⟩,
      fun b h => (M2.okin b h).elim (fun h => M.okin b h) fun h => .inr (hup b h), M2.lb, M2.lr, M2.box, M2.raw, fun y b hy => ⟨(M2.mine y b hy).1, hup b (M2.mine y b hy).2.1, (M2.mine y b hy).2.2⟩, M2.dis⟩
  have hrj : E'.ρ[jx]? = some rx := hle.r _ _ hrx
  have hD' := r1.keep (w' := w') (fun k hk => (hsame k (.inl hk)).1) fun b hb => (hsame b (.inr hb)).1
  have hfin : ∀ b, rest b → ¬ ok' b ∧ (w0.heap.size ≤ b ∨ B.L b) ∧ b < w'.heap.size ∧ ∀ y, mutAt (setRow τ jx none) E' y ≠ some b := fun b hb =>
    ⟨(hsame b hb).2.1, (hmine b (hrest b hb)).2.1, Nat.lt_of_lt_of_le (hmine b (hrest b hb)).2.2 M2.fr.size, fun y hy => (hsame b hb).2.2 y (mut_kill_le hy)⟩
  have hne : ∀ k ∈ δr, rx.κ ≠ some k := fun k hk e => by
    obtain ⟨m, hm⟩ := mut_mem (E := E) hqx hxo hnf (r2 k hk)
    have := M.dis _ _ _ hm (mut_raw hrx hqx hxo e)
    cases this
  have hnd : δr.Nodup := by obtain ⟨_, _, _, _, _, _, _, _, _, _, _, _, _, _, _, _, h⟩ := r1; exact h
  have M4 := M3.setRD (i := jx) (q := { qx with dp := .p hi }) (D := δr) hrj ⟨hRx.1, by simp only [hxo, if_true]; exact hD'⟩ (fun k _ hk => hfin k (.inl hk)) fun _ _ => ⟨hnd, fun k hk => ⟨hne k hk, (hfin k (.inr hk)).1, (hfin k (.inr hk)).2.1, (hfin k (.inr hk)).2.2.1, (hfin k (.inr hk)).2.2.2⟩⟩
  exact ⟨_, ok', M4, hle.trans ⟨fun _ _ h => h, fun _ _ h => h⟩, hkp, hy.keep keep_refl ⟨fun _ _ h => h, fun _ _ h => h⟩⟩
theorem thaw_rel (M : Mem w0 B σ E ok w) (x : T) (hx : deepT σ x = true) : (∃ ok', Mem w0 B (thaw σ x) E ok' w ∧ (∀ k, ok k → ok' k)) ∧ ∀ y, deepT (thaw σ x) y = true → deepT σ y = true := by
  have key : ∀ {i q}, rowAt σ i = some q → q.dp.q = true → (∃ ok', Mem w0 B (setRow σ i (some { q with dp := .f })) E ok' w ∧ (∀ k, ok k → ok' k)) ∧ ∀ y, deepT (setRow σ i (some { q with dp := .f })) y = true → deepT σ y = true := by
    intro i q hq hd
    have hdd : q.dp = .d := by cases h : q.dp <;> rw [h] at hd <;> first | rfl | simp [Dp.q] at hd
    obtain ⟨r, hr⟩ : ∃ r, E.ρ[i]? = some r := ⟨_, List.getElem?_eq_getElem (by rw [M.lr]; exact rowAt_lt hq)⟩
    have ho : q.ow = true := by
      cases ho : q.ow with
      | true => rfl
      | false => have := (M.row i r q hr hq).2; rw [ho, if_neg (by simp)] at this; rw [this.1] at hdd; cases hdd
    refine ⟨?_, fun y hy => ?_⟩
    · obtain ⟨ok', h1, h2, _⟩ := M.thawR hq ho
      exact ⟨ok', h1, h2⟩
    · have k2 : ∀ i', (match rowAt (setRow σ i (some { q with dp := .f })) i' with | some r => r.dp.q | none => false) = true → (match rowAt σ i' with | some r => r.dp.q | none => false) = true := by
        intro i' h
        rw [rowAt_set (show here (some { q with dp := .f }) = _ from rfl)] at h
        split at h <;> rename_i h'
        · split at h' <;> simp_all [Dp.q]
        · simp at h
      cases y <;> first | exact k2 _ hy | simp [deepT] at hy
  cases x <;> try (simp [deepT] at hx; done)
  all_goals
    simp only [deepT] at hx
    simp only [thaw]
    split at hx
    · rename_i hq; exact key hq hx
    · simp at hx
theorem keep_up (h : ∀ k, ok k → ok' k) : Keep w w ok ok' := fun k hk _ => ⟨rfl, h k hk⟩
theorem ok_append (M : Mem w0 B σ E ok w) {s x y : T} {sv xv : Value} {t u e' ty : TypeId} (hu : P.underlying u = some (.slice e')) (hs : TRel w ok E s sv) (hx : TRel w ok E x xv) (h : opAppend P σ t s x = some (y, σ')) :
    ∃ v w', (Builtin.append_ #[t, u] ty #[sv, xv]).run P w = .ok v w' ∧ StepR w0 B w ok E σ' y v w' := by
  unfold opAppend at h
  split at h
  · rename_i p hj
    have hw : isPart x = some p := by
      generalize (movQ σ x && (deepT σ s || isNil s)) = b at hj
      cases b <;> simp_all
    cases x <;> simp [isPart] at hw
    subst hw
    exact ok_appendP M hu hs hx h
  split at h
  · rename_i jx hj
    have hw : isWhole x = some jx := by
      generalize (deepT σ x && (deepT σ s || isNil s)) = b at hj
      cases b <;> simp_all
    cases x <;> simp [isWhole] at hw
    subst hw
    exact ok_appendD M hu hs hx h
  · obtain ⟨ok1, M1, u1, hds, hdx⟩ : ∃ ok1, Mem w0 B (meltS σ s) E ok1 w ∧ (∀ k, ok k → ok1 k) ∧ deepT (meltS σ s) s = false ∧ True := by
      unfold meltS
      split
      · rename_i hd
        obtain ⟨⟨ok1, h1, h2⟩, _⟩ := thaw_rel M s hd
        refine ⟨ok1, h1, h2, ?_, trivial⟩
        cases s <;> try (simp [deepT] at hd; done)
        all_goals
          simp only [deepT] at hd ⊢
          simp only [thaw]
          split at hd
          · rename_i hq
            rw [rowAt_set (show here (some _) = some _ from rfl)]
            simp [rowAt_lt hq, Dp.q]
          · simp at hd
      · rename_i hd; exact ⟨ok, M, fun _ h => h, by simpa using hd, trivial⟩
    obtain ⟨ok2, M2, u2, hdx, hds2⟩ : ∃ ok2, Mem w0 B (meltX (meltS σ s) x) E ok2 w ∧ (∀ k, ok1 k → ok2 k) ∧ deepT (meltX (meltS σ s) x) x = false ∧ deepT (meltX (meltS σ s) x) s = false := by
      unfold meltX
      split
      · rename_i hd
        obtain ⟨ok2, h1, h2, _⟩ := M1.demote x
        have mono : ∀ i, (match rowAt (demote (meltS σ s) x) i with | some r => r.dp.q | none => false) = true → (match rowAt (meltS σ s) i with | some r => r.dp.q | none => false) = true := by
          intro i hi
          split at hi
          · rename_i q hq
            have : q.dp = .d := by cases h : q.dp <;> rw [h] at hi <;> first | rfl | simp [Dp.q] at hi
            rw [dp_demote hq this]; exact hi
          · simp at hi
        refine ⟨ok2, h1, h2, ?_, ?_⟩
        · cases x <;> try (simp [deepT] at hd; done)
          all_goals
            simp only [deepT] at hd ⊢
            simp only [SX.demote]
            split at hd
            · rename_i hq
              rw [rowAt_set (show here (some _) = some _ from rfl)]
              simp [rowAt_lt hq, Dp.q]
            · simp at hd
        · cases hv : deepT (demote (meltS σ s) x) s with
          | false => rfl
          | true =>
            have : deepT (meltS σ s) s = true := by cases s <;> first | exact mono _ hv | simp [deepT] at hv
            rw [hds] at this; simp at this
      · rename_i hd; exact ⟨ok1, M1, fun _ h => h, by simpa using hd, hds⟩
    have up := keep_up (w := w) (fun k hk => u2 k (u1 k hk))
    obtain ⟨v, w', h1, E', ok', h2, h3, h4, h5⟩ := ok_append0 M2 hu (hs.keep up (.refl _)) (hx.keep up (.refl _)) hdx hds2 h
    exact ⟨v, w', h1, E', ok', h2, h3, fun k hk hl => h4 k (u2 k (u1 k hk)) hl, h5⟩
end Go.SX
