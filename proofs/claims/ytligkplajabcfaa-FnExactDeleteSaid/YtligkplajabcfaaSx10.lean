import Derived.Test.YtligkplajabcfaaSx9
import Derived.Laws.MakeOwn
set_option linter.unusedVariables false
set_option linter.unusedSimpArgs false
set_option linter.unusedSectionVars false
namespace Go.SX
variable {P : Program} {w w' w0 : World} {ok ok' : Nat → Prop} {E E' : Env} {B : Bd} {σ σ' : St}

/-! equality of structs -/
def Is (P : Program) (w : World) (ok : Nat → Prop) (E : Env) (t : TypeId) (l : List T) (v : Value) : Prop :=
  (aggQ P t = some true ∧ ∃ xs, v = .agg xs ∧ All2 (XRel w ok E) l xs.toList) ∨ (aggQ P t = some false ∧ ∃ x, l = [x] ∧ XRel w ok E x v)
theorem eqFs_run {d : Nat} {g : TypeId → List T → List T → Option Bool} {l m : List T} {xs ys : Array Value} (hl : All2 (XRel w ok E) l xs.toList) (hm : All2 (XRel w ok E) m ys.toList)
    (hg : ∀ t l m v u b, Is P w ok E t l v → Is P w ok E t m u → g t l m = some b → (Op.equalIn d t v u).run P w = .ok b w) : ∀ (fs : List Field) (b : Bool), eqFs P g l m fs = some b → (Op.eqFields d xs ys fs).run P w = .ok b w
  | [], b, h => by simp [eqFs] at h; subst h; rfl
  | f :: fs, b, h => by
    simp only [eqFs] at h
    split at h
    · simp at h
    rename_i hname
    simp only [Option.bind_eq_some_iff, Option.map_eq_some_iff] at h
    obtain ⟨a, ha, r, hr, s, hs, rfl⟩ := h
    have ih := eqFs_run hl hm hg fs s hs
    have key : ∃ v u, (part f.type xs f.offset).run P w = .ok v w ∧ (part f.type ys f.offset).run P w = .ok u w ∧ (Op.equalIn d f.type v u).run P w = .ok r w := by
      cases a with
      | true =>
        simp only [if_true, Option.bind_eq_some_iff] at hr
        obtain ⟨n, hn, hr⟩ := hr
        refine ⟨.agg (xs.extract f.offset (f.offset + n)), .agg (ys.extract f.offset (f.offset + n)), ?_, ?_, hg _ _ _ _ _ _ (.inl ⟨ha, _, rfl, ?_⟩) (.inl ⟨ha, _, rfl, ?_⟩) hr⟩
        · simp only [part, Sem.run_bind, run_agg ha, Result.andThen_ok, if_true, run_size hn, Sem.run_pure]
        · simp only [part, Sem.run_bind, run_agg ha, Result.andThen_ok, if_true, run_size hn, Sem.run_pure]
        · have := (hl.drop f.offset).take n
          simpa [List.extract_eq_take_drop, List.take_drop, Nat.add_comm] using this
        · have := (hm.drop f.offset).take n
          simpa [List.extract_eq_take_drop, List.take_drop, Nat.add_comm] using this
      | false =>
        simp only [Bool.false_eq_true, if_false, Option.bind_eq_some_iff] at hr
        obtain ⟨x, hx, y, hy, hr⟩ := hr
        obtain ⟨v, h1, h2⟩ := hl.get _ _ hx
        obtain ⟨u, h3, h4⟩ := hm.get _ _ hy
        rw [Array.getElem?_toList] at h1 h3
        refine ⟨v, u, ?_, ?_, hg _ _ _ _ _ _ (.inr ⟨ha, _, rfl, h2⟩) (.inr ⟨ha, _, rfl, h4⟩) hr⟩
        · simp only [part, Sem.run_bind, run_agg ha, Result.andThen_ok, Bool.false_eq_true, if_false, h1, Sem.run_pure]
        · simp only [part, Sem.run_bind, run_agg ha, Result.andThen_ok, Bool.false_eq_true, if_false, h3, Sem.run_pure]
    obtain ⟨v, u, h1, h2, h3⟩ := key
    simp only [Op.eqFields]
    rw [if_pos hname]
    simp only [Sem.run_bind, h1, h2, h3, Result.andThen_ok]
    cases r with
    | true => simpa using ih
    | false => simp
theorem eqT_run : ∀ (k d : Nat) (t : TypeId) (l m : List T) (v u : Value) (b : Bool), k ≤ d → Is P w ok E t l v → Is P w ok E t m u → eqT P k t l m = some b → (Op.equalIn d t v u).run P w = .ok b w
  | 0, _, _, _, _, _, _, _, _, _, _, h => by simp [eqT] at h
  | k + 1, 0, _, _, _, _, _, _, hk, _, _, _ => by omega
  | k + 1, d + 1, t, l, m, v, u, b, hk, hl, hm, h => by
    simp only [eqT] at h
    have na : ∀ dd, P.underlying t = some dd → (match dd with | .struct _ | .array _ _ => true | _ => false) = false → aggQ P t = some false := by
      intro dd h1 h2; simp only [aggQ, h1, Option.map_some]; exact congrArg some h2
    have sc : aggQ P t = some false → ∀ {l : List T} {v u : Value}, Is P w ok E t l v → l = [.c (.s u)] → v = u := by
      intro h1 l v u h2 h3
      rcases h2 with ⟨h2, _⟩ | ⟨_, x, h2, hx⟩
      · rw [h1] at h2; simp at h2
      · rw [h3] at h2; cases h2; cases (hx : Holds w ok (.s u) v); rfl
    split at h
    · rename_i k0 hu
      have hna := na _ hu rfl
      split at h
      · rename_i k1 a1 k2 a2
        split at h
        · rename_i hkk
          simp only [Option.some.injEq] at h
          subst hkk h
          rw [sc hna hl rfl, sc hna hm rfl]
          exact run_equalIn_int w d t _ _ _ _ hu
        · simp at h
      · simp at h
    · rename_i hu
      have hna := na _ hu rfl
      split at h
      · simp only [Option.some.injEq] at h
        subst h
        rw [sc hna hl rfl, sc hna hm rfl, run_equalIn_string w d t _ _ hu, beq_toListBytes]
      · simp at h
    · rename_i hu
      have hna := na _ hu rfl
      split at h
      · simp only [Option.some.injEq] at h
        subst h
        rw [sc hna hl rfl, sc hna hm rfl]
        exact run_equalIn_bool' w d t _ _ hu
      · simp at h
    · rename_i fs hu
      split at h
      · simp at h
      rename_i hst
      have hag : aggQ P t = some true := by simp [aggQ, hu]
      rcases hl with ⟨_, xs, rfl, hxs⟩ | ⟨h1, _⟩
      · rcases hm with ⟨_, ys, rfl, hys⟩ | ⟨h1, _⟩
        · have hf : P.fieldsOf t = fs := by simp [Program.fieldsOf, hu]
          rw [run_equalIn_struct w d t xs ys (by rw [hf]; exact hu) (by simpa using hst), hf]
          exact eqFs_run hxs hys (fun t l m v u b h1 h2 h3 => eqT_run k d t l m v u b (by omega) h1 h2 h3) _ _ h
        · rw [hag] at h1; simp at h1
      · rw [hag] at h1; simp at h1
    · simp at h
theorem ok_eq {l m : List T} {xs ys : Array Value} {op : BinOp} {t : TypeId} {x y : Operand} {z : T} (hl : All2 (XRel w ok E) l xs.toList) (hm : All2 (XRel w ok E) m ys.toList) (h : opEq P σ op t l m = some (z, σ')) :
    σ' = σ ∧ ∃ v, (eqGuard op t x y (.agg xs) (.agg ys)).run P w = .ok () w ∧ (binOp op t (.agg xs) (.agg ys)).run P w = .ok v w ∧ TRel w ok E z v := by
  unfold opEq at h
  split at h
  · rename_i hc
    have hg := run_eqGuard_agg (P := P) w op t x y xs ys hc.2
    have hrun : ∀ b, eqT P 8 t l m = some b → (Op.equal t (.agg xs) (.agg ys)).run P w = .ok b w := fun b hb => eqT_run 8 Op.maxDepth t l m _ _ b (by unfold Op.maxDepth; omega) (.inl ⟨hc.1, _, rfl, hl⟩) (.inl ⟨hc.1, _, rfl, hm⟩) hb
    cases op <;> simp only [Option.map_eq_some_iff, Prod.mk.injEq, reduceCtorEq] at h
    · obtain ⟨b, hb, rfl, rfl⟩ := h
      exact ⟨rfl, _, hg, by simp only [binOp, Sem.run_bind, hrun b hb, Result.andThen_ok, Sem.run_pure], Holds.s _ rfl⟩
    · obtain ⟨b, hb, rfl, rfl⟩ := h
      exact ⟨rfl, _, hg, by simp only [binOp, Sem.run_bind, hrun b hb, Result.andThen_ok, Sem.run_pure], Holds.s _ rfl⟩
  · simp at h

/-! rows laid out at once -/
theorem flat_rep {α : Type} (z : List α) : ∀ (n k : Nat), k < n * z.length → ((List.replicate n z).flatten)[k]? = z[k % z.length]?
  | 0, k, h => by omega
  | n + 1, k, h => by
    rw [List.replicate_succ, List.flatten_cons]
    by_cases hk : k < z.length
    · rw [List.getElem?_append_left hk, Nat.mod_eq_of_lt hk]
    · rw [List.getElem?_append_right (by omega), flat_rep z n (k - z.length) (by rw [Nat.add_mul, Nat.one_mul] at h; omega), ← Nat.mod_eq_sub_mod (by omega)]
theorem flat_rep_len {α : Type} (z : List α) (n : Nat) : ((List.replicate n z).flatten).length = n * z.length := by simp
theorem zeros_rel {R : T → Value → Prop} {z : List T} {zv : Array Value} (n : Nat) (h : All2 R z zv.toList) : All2 R ((List.replicate n z).flatten) ((Array.range (n * zv.size)).map (zv[· % zv.size]!)).toList := by
  have hl := h.len
  simp only [Array.length_toList] at hl
  refine All2.of_get (by rw [flat_rep_len, hl]; simp) fun k a b ha hb => ?_
  have hk : k < n * z.length := by rw [← flat_rep_len]; exact (List.getElem?_eq_some_iff.mp ha).1
  rw [flat_rep z n k hk] at ha
  obtain ⟨u, h1, h2⟩ := h.get _ _ ha
  rw [Array.toList_map, Array.toList_range, range_get, if_pos (by rw [← hl]; exact hk)] at hb
  simp only [Option.some.injEq] at hb
  rw [Array.getElem?_toList] at h1
  rw [← hl, Array.getElem!_eq_getD, Array.getD_eq_getD_getElem?, h1] at hb
  simp only [Option.getD_some] at hb
  rw [← hb]; exact h2
theorem chunk_get {α : Type} {n : Nat} : ∀ (k : Nat) (l : List α) (i j : Nat) (el : List α) (c : α), (chunk n k l)[i]? = some el → el[j]? = some c → l[i * n + j]? = some c
  | 0, _, _, _, _, _, h, _ => by simp [chunk] at h
  | k + 1, l, i, j, el, c, h, hj => by
    cases i with
    | zero =>
      simp [chunk] at h; subst h
      rw [List.getElem?_take] at hj
      split at hj <;> simp_all
    | succ i =>
      simp only [chunk, List.getElem?_cons_succ] at h
      have := chunk_get k (l.drop n) i j el c h hj
      rw [List.getElem?_drop] at this
      rw [← this]; congr 1; rw [Nat.add_mul]; omega
theorem chunk_len {α : Type} {n : Nat} : ∀ (k : Nat) (l : List α), (chunk n k l).length = k
  | 0, _ => rfl
  | k + 1, l => by simp [chunk, chunk_len k]
theorem chunk_wide {α : Type} {n : Nat} : ∀ (k : Nat) (l : List α), l.length = k * n → ∀ el ∈ chunk n k l, el.length = n
  | 0, _, _, el, h => by simp [chunk] at h
  | k + 1, l, hl, el, h => by
    rw [Nat.add_mul, Nat.one_mul] at hl
    simp only [chunk, List.mem_cons] at h
    rcases h with rfl | h
    · simp; omega
    · exact chunk_wide k (l.drop n) (by simp; omega) el h
theorem views_len : ∀ (l : List T) (cs : List C), views σ l = some cs → cs.length = l.length
  | [], cs, h => by simp [views] at h; subst h; rfl
  | x :: l, cs, h => by
    simp only [views, Option.bind_eq_some_iff, Option.map_eq_some_iff] at h
    obtain ⟨c, _, cs, hcs, rfl⟩ := h
    simp [views_len l cs hcs]
theorem ok_buildSlice (M : Mem w0 B σ E ok w) {parts : List (Nat × T)} {pv : Array (Nat × Value)} {y : T} {t : TypeId} {len : Nat} (hp : All2 (fun p q => p.1 = q.1 ∧ TRel w ok E p.2 q.2) parts pv.toList) {dp : Bool} (h : opBuildSlice P dp σ t len parts = some (y, σ')) :
    ∃ v w', (Instr.buildSlice t len pv).run P w = .ok v w' ∧ StepR w0 B w ok E σ' y v w' := by
  unfold opBuildSlice at h
  simp only [Option.bind_eq_some_iff] at h
  obtain ⟨e, he, i, hi, z, hz, zl, hzl, h⟩ := h
  split at h
  · rename_i hc
    obtain ⟨h0, hzlen, hbig, _⟩ := hc
    simp only [Option.bind_eq_some_iff, Option.map_eq_some_iff] at h
    obtain ⟨l, hl, h⟩ := h
    have hzr := (constT_rel (w := w) (ok := ok) (E := E) z).flat hzl
    have hzs : z.cells.size = i.size := by rw [← hzlen, hzr.len]; simp
    have hzero := zeros_rel len hzr
    rw [hzs] at hzero
    obtain ⟨zs', h1, h2⟩ := fill_rel parts pv.toList _ l _ hp hzero hl
    have hll : zs'.size = len * i.size := by
      have e1 := h2.len
      simp only [Array.length_toList] at e1
      have e2 : l.length = len * i.size := by
        have : ∀ (ps : List (Nat × T)) (cs l : List T), fillT (fun j => some (j * i.size, i.size)) cs ps = some l → l.length = cs.length := by
          intro ps
          induction ps with
          | nil => intro cs l h; simp [fillT] at h; rw [h]
          | cons p ps ih =>
            intro cs l h
            obtain ⟨a, x⟩ := p
            simp only [fillT, Option.bind_eq_some_iff, Option.some.injEq] at h
            obtain ⟨_, rfl, x', hx', h⟩ := h
            split at h
            · simp only [Option.bind_eq_some_iff] at h
              obtain ⟨cs', hcs', h⟩ := h
              rw [ih _ _ h]
              unfold splice at hcs'
              split at hcs'
              · simp only [Option.some.injEq] at hcs'; rw [← hcs']; simp; omega
              · simp at hcs'
            · simp at h
        rw [this _ _ _ hl, flat_rep_len, hzlen]
      omega
    have hrun : (Instr.buildSlice t len pv).run P w = .ok (.slice (some ⟨w.heap.size, 0, none⟩) len len) (w.alloc (.cells zs' e)) := by
      have hu := und_elOf he
      have hb' : ¬ (2 ^ 24 < len * i.size) := by omega
      by_cases hl0 : len * i.size = 0
      · have hlen : len = 0 := by rcases Nat.mul_eq_zero.1 hl0 with h | h <;> omega
        subst hlen
        have e1 : ∀ g : Nat → Value, (Array.range 0).map g = #[] := fun g => by simp [Array.range_zero']
        rw [Nat.zero_mul, e1] at h1
        simp [Instr.buildSlice, run_und hu, sizeOf, typeInfo, hi, Go.newRow, e1, h1]
      · simp [Instr.buildSlice, run_und hu, sizeOf, typeInfo, hi, Go.newRow, hb', hl0, zeroValue, hz, hzs, h1]
    refine ⟨_, _, hrun, ?_⟩
    cases dp with
    | true =>
      simp only [if_true, Option.map_eq_some_iff] at h
      obtain ⟨⟨cs, σ1⟩, hcs, h⟩ := h
      simp only at h
      obtain ⟨g, g1, g2, g3, M1, g4, g5, g6⟩ := digs_rel l M h2 hcs
      have hcl : cs.length = len * i.size := by rw [g1, h2.len]; simpa using hll
      have hat : ∀ a b, a < len → b < i.size → a * i.size + b < cs.length := fun a b ha hb => by
        have := Nat.mul_le_mul_right i.size (show a + 1 ≤ len by omega); rw [Nat.add_mul, Nat.one_mul] at this; omega
      have hdm : ∀ a b, b < i.size → (a * i.size + b) / i.size = a ∧ (a * i.size + b) % i.size = b := fun a b hb => by
        rw [Nat.mul_comm]; exact ⟨by rw [Nat.mul_add_div h0, Nat.div_eq_of_lt hb, Nat.add_zero], by rw [Nat.mul_add_mod, Nat.mod_eq_of_lt hb]⟩
      have key := step_newRowD M1 (l := chunk i.size len cs) (cs := zs') (n := len) (cap := len) e (fun a b => (zs'[a * i.size + b]?).getD undef) (fun a b => g (a * i.size + b)) (chunk_len _ _) (Nat.le_refl _) h0 (chunk_wide _ _ hcl) (by omega) (fun a b ha hb => by
          have := hat a b ha hb
          rw [Array.getElem?_eq_getElem (by omega)]; rfl) (fun a b el c ha hb => by
          obtain ⟨v, h3, h4⟩ := g2 _ _ (chunk_get _ _ _ _ _ _ ha hb)
          rw [Array.getElem?_toList] at h3
          simp only [h3, Option.getD_some]; exact h4) (fun a b a' b' h3 h4 h5 h6 x hx hx' => by
          have := g3 _ _ (hat a b h3 h4) (hat a' b' h5 h6) x hx hx'
          have e1 := hdm a b h4
          have e2 := hdm a' b' h6
          rw [this] at e1
          exact ⟨e1.1.symm.trans e2.1, e1.2.symm.trans e2.2⟩) (fun a b ha hb x hx => by
          obtain ⟨⟨y, hy⟩, h3⟩ := g4 _ (hat a b ha hb) x hx
          have := M.mine y x hy
          exact ⟨this.1, this.2.1, this.2.2, fun z hz => h3 ⟨z, hz⟩⟩)
      rw [h] at key
      exact key
    | false =>
    simp only [Bool.false_eq_true, if_false, Option.map_eq_some_iff] at h
    obtain ⟨cs, hcs, h⟩ := h
    obtain ⟨ok1, M1, hup, _, hv⟩ := views_rel l _ cs M h2 hcs
    have := step_newRow M1 (l := chunk i.size len cs) (cs := zs') (n := len) (cap := len) e (chunk_len _ _) (Nat.le_refl _) h0 (chunk_wide _ _ (by rw [hv.len]; simpa using hll)) (by omega) fun a b el c ha hb => by
      obtain ⟨u, h3, h4⟩ := hv.get _ _ (chunk_get _ _ _ _ _ _ ha hb)
      exact ⟨u, by simpa using h3, h4⟩
    rw [h] at this
    exact this.from (.refl _) (fun k h _ => ⟨rfl, hup k h⟩) (Nat.le_refl _)
  · simp at h
theorem zc_digs : ∀ (zl : List T) {cs : List C}, zl.all zcell = true → views σ zl = some cs → digs σ zl = some (cs, σ) ∧ demotes σ zl = σ
  | [], cs, _, h => by simp [views] at h; subst h; exact ⟨rfl, rfl⟩
  | x :: l, cs, ha, h => by
    simp only [List.all_cons, Bool.and_eq_true] at ha
    simp only [views, Option.bind_eq_some_iff, Option.map_eq_some_iff] at h
    obtain ⟨c, hc, cs', hcs, rfl⟩ := h
    obtain ⟨h1, h2⟩ := zc_digs l ha.2 hcs
    cases x <;> try (simp [zcell] at ha; done)
    case c x =>
      cases x with
      | r _ => simp [zcell] at ha
      | s v =>
        simp [view] at hc; subst hc
        exact ⟨by simp [digs, dig, h1], h2⟩
    case nil =>
      simp [view, elems] at hc; subst hc
      exact ⟨by simp [digs, dig, h1], h2⟩
theorem ok_make (M : Mem w0 B σ E ok w) {y l c : T} {lv cv : Value} {t : TypeId} (hl : TRel w ok E l lv) (hc : TRel w ok E c cv) {dp : Bool} (h : opMake P dp σ t l c = some (y, σ')) :
    ∃ v w', (Instr.makeSlice t lv cv).run P w = .ok v w' ∧ StepR w0 B w ok E σ' y v w' := by
  unfold opMake at h
  simp only [Option.bind_eq_some_iff] at h
  obtain ⟨e, he, i, hi, z, hz, zl, hzl, cs, hcs, h⟩ := h
  split at h
  · rename_i n m
    split at h
    · rename_i hcnd
      obtain ⟨hcl, h0, hb0, hn0, hnm, hbig, hzc⟩ := hcnd
      simp only [Option.some.injEq] at h
      obtain rfl := hl.sc
      obtain rfl := hc.sc
      have hzr := (constT_rel (w := w) (ok := ok) (E := E) z).flat hzl
      have hzs : z.cells.size = i.size := by rw [← hcl, views_len _ _ hcs, hzr.len]; simp
      have hm : m ≤ 2 ^ 47 := by
        have : m * 1 ≤ m * (i.bytes : Int) := Int.mul_le_mul_of_nonneg_left (by omega) (by omega)
        rw [Int.mul_comm] at hbig; omega
      have hrun : (Instr.makeSlice t (.int .i64 n) (.int .i64 m)).run P w = .ok (.slice (some ⟨w.heap.size, 0, none⟩) n.toNat m.toNat) (w.alloc (.cells ((Array.range (m.toNat * i.size)).map (z.cells[· % z.cells.size]!)) e)) :=
        run_make w t e i z (und_elOf he) hi hz .i64 .i64 n m hn0 hnm (by omega) (by omega)
      refine ⟨_, _, hrun, ?_⟩
      cases dp with
      | true =>
        simp only [Bool.not_true, Bool.false_or] at hzc
        obtain ⟨hdg, hdem⟩ := zc_digs zl hzc hcs
        rw [hdem] at h
        obtain ⟨g, g1, g2, _, _, g4, _⟩ := digs_rel zl M hzr hdg
        have key := step_newRowD M (l := List.replicate n.toNat cs) (cs := (Array.range (m.toNat * i.size)).map (z.cells[· % z.cells.size]!)) (n := n.toNat) (cap := m.toNat) e (fun _ b => (z.cells[b]?).getD default) (fun _ _ => []) (by simp) (by omega) h0 (fun el hel => by rw [List.eq_of_mem_replicate hel]; exact hcl) (by simp) (fun a b ha hb => by
            have hlt : a * i.size + b < m.toNat * i.size := by have := Nat.mul_le_mul_right i.size (show a + 1 ≤ m.toNat by omega); rw [Nat.add_mul, Nat.one_mul] at this; omega
            have hmod : (a * i.size + b) % i.size = b := by rw [Nat.mul_comm, Nat.mul_add_mod, Nat.mod_eq_of_lt hb]
            simp [hlt, hzs, hmod]
            rw [Array.getElem!_eq_getD, Array.getD_eq_getD_getElem?]) (fun a b el c ha hb => by
            have hel : el = cs := List.eq_of_mem_replicate (List.mem_of_getElem? ha)
            subst hel
            obtain ⟨v, h3, h4⟩ := g2 _ _ hb
            rw [Array.getElem?_toList] at h3
            simp only [h3, Option.getD_some]
            have hnil : g b = [] := by
              cases hg : g b with
              | nil => rfl
              | cons x xs => have := g4 b (List.getElem?_eq_some_iff.mp hb).1 x (by rw [hg]; simp); exact absurd this.1 this.2
            rw [hnil] at h4; exact h4) (by simp) (by simp)
        rw [show Dp.of true = .d from rfl] at h
        rw [h] at key
        exact key
      | false =>
      rw [show Dp.of false = .f from rfl] at h
      obtain ⟨ok1, M1, hup, _, hv⟩ := views_rel zl _ cs M hzr hcs
      have := step_newRow M1 (l := List.replicate n.toNat cs) (cs := (Array.range (m.toNat * i.size)).map (z.cells[· % z.cells.size]!)) (n := n.toNat) (cap := m.toNat) e (by simp) (by omega) h0 (fun el hel => by rw [List.eq_of_mem_replicate hel]; exact hcl) (by simp) fun a b el c ha hb => by
        have hel : el = cs := List.eq_of_mem_replicate (List.mem_of_getElem? ha)
        subst hel
        obtain ⟨u, h3, h4⟩ := hv.get _ _ hb
        have ha' : a < n.toNat := by have := (List.getElem?_eq_some_iff.mp ha).1; simpa using this
        have hb' : b < i.size := by rw [← hcl]; exact (List.getElem?_eq_some_iff.mp hb).1
        refine ⟨u, ?_, h4⟩
        have hlt : a * i.size + b < m.toNat * i.size := by have := Nat.mul_le_mul_right i.size (show a + 1 ≤ m.toNat by omega); rw [Nat.add_mul, Nat.one_mul] at this; omega
        have hmod : (a * i.size + b) % i.size = b := by rw [Nat.mul_comm, Nat.mul_add_mod, Nat.mod_eq_of_lt hb']
        rw [Array.getElem?_toList] at h3
        simp [hlt, hzs, hmod]
        rw [Array.getElem!_eq_getD, Array.getD_eq_getD_getElem?, h3]; rfl
      rw [h] at this
      exact this.from (.refl _) (fun k h _ => ⟨rfl, hup k h⟩) (Nat.le_refl _)
    · simp at h
  · simp at h
end Go.SX
