import Derived.Test.YtligkplajabcfaaSx9
import Derived.Laws.MakeOwn
set_option linter.unusedVariables false
set_option linter.unusedSimpArgs false
set_option linter.unusedSectionVars false
namespace Go.SX
variable {P : Program} {w w' w0 : World} {ok ok' : Nat → Prop} {E E' : Env} {B : Bd} {σ σ' : St}

/-! equality of structs -/
def Is (P : Program) (w : World) (ok : Nat → Prop) (E : Env) (t : TypeId) (l : List T) (v : Value) : Prop :=
  (aggQ P t = some true ∧ ∃ xs, v = .agg xs ∧ All2 (XRel w ok E) l xs.toList) ∨ (aggQ P t = some false ∧ ∃ x, l = [x] ∧ XRel w ok E x v)
theorem eqFs_run {d : Nat} {g : TypeId → List T → List T → Option Bool} {l m : List T} {xs ys : Array Value} (hl : All2 (XRel w ok E) l xs.toList) (hm : All2 (XRel w ok E) m ys.toList)
    (hg : ∀ t l m v u b, Is P w ok E t l v → Is P w ok E t m u → g t l m = some b → (Op.equalIn d t v u).run P w = .ok b w) : ∀ (fs : List Field) (b : Bool), eqFs P g l m fs = some b → (Op.eqFields d xs ys fs).run P w = .ok b w
  | [], b, h => by simp [eqFs] at h; subst h; rfl
  | f :: fs, b, h => by
    simp only [eqFs] at h
    split at h
    · simp at h
    rename_i hname
    simp only [Option.bind_eq_some_iff, Option.map_eq_some_iff] at h
    obtain ⟨a, ha, r, hr, s, hs, rfl⟩ := h
    have ih := eqFs_run hl hm hg fs s hs
    have key : ∃ v u, (part f.type xs f.offset).run P w = .ok v w ∧ (part f.type ys f.offset).run P w = .ok u w ∧ (Op.equalIn d f.type v u).run P w = .ok r w := by
      cases a with
      | true =>
        simp only [if_true, Option.bind_eq_some_iff] at hr
        obtain ⟨n, hn, hr⟩ := hr
        refine ⟨.agg (xs.extract f.offset (f.offset + n)), .agg (ys.extract f.offset (f.offset + n)), ?_, ?_, hg _ _ _ _ _ _ (.inl ⟨ha, _, rfl, ?_⟩) (.inl ⟨ha, _, rfl, ?_⟩) hr⟩
        · simp only [part, Sem.run_bind, run_agg ha, Result.andThen_ok, if_true, run_size hn, Sem.run_pure]
        · simp only [part, Sem.run_bind, run_agg ha, Result.andThen_ok, if_true, run_size hn, Sem.run_pure]
        · have := (hl.drop f.offset).take n
          simpa [List.extract_eq_take_drop, List.take_drop, Nat.add_comm] using this
        · have := (hm.drop f.offset).take n
          simpa [List.extract_eq_take_drop, List.take_drop, Nat.add_comm] using this
      | false =>
        simp only [Bool.false_eq_true, if_false, Option.bind_eq_some_iff] at hr
        obtain ⟨x, hx, y, hy, hr⟩ := hr
        obtain ⟨v, h1, h2⟩ := hl.get _ _ hx
        obtain ⟨u, h3, h4⟩ := hm.get _ _ hy
        rw [Array.getElem?_toList] at h1 h3
        refine ⟨v, u, ?_, ?_, hg _ _ _ _ _ _ (.inr ⟨ha, _, rfl, h2⟩) (.inr ⟨ha, _, rfl, h4⟩) hr⟩
        · simp only [part, Sem.run_bind, run_agg ha, Result.andThen_ok, Bool.false_eq_true, if_false, h1, Sem.run_pure]
        · simp only [part, Sem.run_bind, run_agg ha, Result.andThen_ok, Bool.false_eq_true, if_false, h3, Sem.run_pure]
    obtain ⟨v, u, h1, h2, h3⟩ := key
    simp only [Op.eqFields]
    rw [if_pos hname]
    simp only [Sem.run_bind, h1, h2, h3, Result.andThen_ok]
    cases r with
    | true => simpa using ih
    | false => simp
theorem eqT_run : ∀ (k d : Nat) (t : TypeId) (l m : List T) (v u : Value) (b : Bool), k ≤ d → Is P w ok E t l v → Is P w ok E t m u → eqT P k t l m = some b → (Op.equalIn d t v u).run P w = .ok b w
  | 0, _, _, _, _, _, _, _, _, _, _, h => by simp [eqT] at h
  | k + 1, 0, _, _, _, _, _, _, hk, _, _, _ => by omega
  | k + 1, d + 1, t, l, m, v, u, b, hk, hl, hm, h => by
    simp only [eqT] at h
    have na : ∀ dd, P.underlying t = some dd → (match dd with | .struct _ | .array _ _ => true | _ => false) = false → aggQ P t = some false := by
      intro dd h1 h2; simp only [aggQ, h1, Option.map_some]; exact congrArg some h2
    have sc : aggQ P t = some false → ∀ {l : List T} {v u : Value}, Is P w ok E t l v → l = [.c (.s u)] → v = u := by
      intro h1 l v u h2 h3
      rcases h2 with ⟨h2, _⟩ | ⟨_, x, h2, hx⟩
      · rw [h1] at h2; simp at h2
      · rw [h3] at h2; cases h2; cases (hx : Holds w ok (.s u) v); rfl
    split at h
    · rename_i k0 hu
      have hna := na _ hu rfl
      split at h
      · rename_i k1 a1 k2 a2
        split at h
        · rename_i hkk
          simp only [Option.some.injEq] at h
          subst hkk h
          rw [sc hna hl rfl, sc hna hm rfl]
          exact run_equalIn_int w d t _ _ _ _ hu
        · simp at h
      · simp at h
    · rename_i hu
      have hna := na _ hu rfl
      split at h
      · simp only [Option.some.injEq] at h
        subst h
        rw [sc hna hl rfl, sc hna hm rfl, run_equalIn_string w d t _ _ hu, beq_toListBytes]
      · simp at h
    · rename_i hu
      have hna := na _ hu rfl
      split at h
      · simp only [Option.some.injEq] at h
        subst h
        rw [sc hna hl rfl, sc hna hm rfl]
        exact run_equalIn_bool' w d t _ _ hu
      · simp at h
    · rename_i fs hu
      split at h
      · simp at h
      rename_i hst
      have hag : aggQ P t = some true := by simp [aggQ, hu]
      rcases hl with ⟨_, xs, rfl, hxs⟩ | ⟨h1, _⟩
      · rcases hm with ⟨_, ys, rfl, hys⟩ | ⟨h1, _⟩
        · have hf : P.fieldsOf t = fs := by simp [Program.fieldsOf, hu]
          rw [run_equalIn_struct w d t xs ys (by rw [hf]; exact hu) (by simpa using hst), hf]
          exact eqFs_run hxs hys (fun t l m v u b h1 h2 h3 => eqT_run k d t l m v u b (by omega) h1 h2 h3) _ _ h
        · rw [hag] at h1; simp at h1
      · rw [hag] at h1; simp at h1
    · simp at h
theorem ok_eq {l m : List T} {xs ys : Array Value} {op : BinOp} {t : TypeId} {x y : Operand} {z : T} (hl : All2 (XRel w ok E) l xs.toList) (hm : All2 (XRel w ok E) m ys.toList) (h : opEq P σ op t l m = some (z, σ')) :
    σ' = σ ∧ ∃ v, (eqGuard op t x y (.agg xs) (.agg ys)).run P w = .ok () w ∧ (binOp op t (.agg xs) (.agg ys)).run P w = .ok v w ∧ TRel w ok E z v := by
  unfold opEq at h
  split at h
  · rename_i hc
    have hg := run_eqGuard_agg (P := P) w op t x y xs ys hc.2
    have hrun : ∀ b, eqT P 8 t l m = some b → (Op.equal t (.agg xs) (.agg ys)).run P w = .ok b w := fun b hb => eqT_run 8 Op.maxDepth t l m _ _ b (by unfold Op.maxDepth; omega) (.inl ⟨hc.1, _, rfl, hl⟩) (.inl ⟨hc.1, _, rfl, hm⟩) hb
    cases op <;> simp only [Option.map_eq_some_iff, Prod.mk.injEq, reduceCtorEq] at h
    · obtain ⟨b, hb, rfl, rfl⟩ := h
      exact ⟨rfl, _, hg, by simp only [binOp, Sem.run_bind, hrun b hb, Result.andThen_ok, Sem.run_pure], Holds.s _ rfl⟩
    · obtain ⟨b, hb, rfl, rfl⟩ := h
      exact ⟨rfl, _, hg, by simp only [binOp, Sem.run_bind, hrun b hb, Result.andThen_ok, Sem.run_pure], Holds.s _ rfl⟩
  · simp at h

/-! rows laid out at once -/
theorem flat_rep {α : Type} (z : List α) : ∀ (n k : Nat), k < n * z.length → ((List.replicate n z).flatten)[k]? = z[k % z.length]?
  | 0, k, h => by omega
  | n + 1, k, h => by
    rw [List.replicate_succ, List.flatten_cons]
    by_cases hk : k < z.length
    · rw [List.getElem?_append_left hk, Nat.mod_eq_of_lt hk]
    · rw [List.getElem?_append_right (by omega), flat_rep z n (k - z.length) (by rw [Nat.add_mul, Nat.one_mul] at h; omega), ← Nat.mod_eq_sub_mod (by omega)]
theorem flat_rep_len {α : Type} (z : List α) (n : Nat) : ((List.replicate n z).flatten).length = n * z.length := by simp
theorem zeros_rel {R : T → Value → Prop} {z : List T} {zv : Array Value} (n : Nat) (h : All2 R z zv.toList) : All2 R ((List.replicate n z).flatten) ((Array.range (n * zv.size)).map (zv[· % zv.size]!)).toList := by
  have hl := h.len
  simp only [Array.length_toList] at hl
  refine All2.of_get (by rw [flat_rep_len, hl]; simp) fun k a b ha hb => ?_
  have hk : k < n * z.length := by rw [← flat_rep_len]; exact (List.getElem?_eq_some_iff.mp ha).1
  rw [flat_rep z n k hk] at ha
  obtain ⟨u, h1, h2⟩ := h.get _ _ ha
  rw [Array.toList_map, Array.toList_range, range_get, if_pos (by rw [← hl]; exact hk)] at hb
  simp only [Option.some.injEq] at hb
  rw [Array.getElem?_toList] at h1
  rw [← hl, Array.getElem!_eq_getD, Array.getD_eq_getD_getElem?, h1] at hb
  simp only [Option.getD_some] at hb
  rw [← hb]; exact h2
theorem chunk_get {α : Type} {n : Nat} : ∀ (k : Nat) (l : List α) (i j : Nat) (el : List α) (c : α), (chunk n k l)[i]? = some el → el[j]? = some c → l[i * n + j]? = some c
  | 0, _, _, _, _, _, h, _ => by simp [chunk] at h
  | k + 1, l, i, j, el, c, h, hj => by
    cases i with
    | zero =>
      simp [chunk] at h; subst h
      rw [List.getElem?_take] at hj
      split at hj <;> simp_all
    | succ i =>
      simp only [chunk, List.getElem?_cons_succ] at h
      have := chunk_get k (l.drop n) i j el c h hj
      rw [List.getElem?_drop] at this
      rw [← this]; congr 1; rw [Nat.add_mul]; omega
theorem chunk_len {α : Type} {n : Nat} : ∀ (k : Nat) (l : List α), (chunk n k l).length = k
  | 0, _ => rfl
  | k + 1, l => by simp [chunk, chunk_len k]
theorem chunk_wide {α : Type} {n : Nat} : ∀ (k : Nat) (l : List α), l.length = k * n → ∀ el ∈ chunk n k l, el.length = n
  | 0, _, _, el, h => by simp [chunk] at h
  | k + 1, l, hl, el, h => by
    rw [Nat.add_mul, Nat.one_mul] at hl
    simp only [chunk, List.mem_cons] at h
    rcases h with rfl | h
    · simp; omega
    · exact chunk_wide k (l.drop n) (by simp; omega) el h
theorem views_len : ∀ (l : List T) (cs : List C), views σ l = some cs → cs.length = l.length
  | [], cs, h => by simp [views] at h; subst h; rfl
  | x :: l, cs, h => by
    simp only [views, Option.bind_eq_some_iff, Option.map_eq_some_iff] at h
    obtain ⟨c, _, cs, hcs, rfl⟩ := h
    simp [views_len l cs hcs]
theorem ok_buildSlice (M : Mem w0 B σ E ok w) {parts : List (Nat × T)} {pv : Array (Nat × Value)} {y : T} {t : TypeId} {len : Nat} (hp : All2 (fun p q => p.1 = q.1 ∧ TRel w ok E p.2 q.2) parts pv.toList) {dp : Bool} (h : opBuildSlice P dp σ t len parts = some (y, σ')) :
    ∃ v w', (Instr.buildSlice t len pv).run P w = .ok v w' ∧ StepR w0 B w ok E σ' y v w' := by
  unfold opBuildSlice at h
  simp only [Option.bind_eq_some_iff] at h
  obtain ⟨e, he, i, hi, z, hz, zl, hzl, h⟩ := h
  split at h
  · rename_i hc
    obtain ⟨h0, hzlen, hbig, _⟩ := hc
    simp only [Option.bind_eq_some_iff, Option.map_eq_some_iff] at h
    obtain ⟨l, hl, h⟩ := h
    have hzr := (constT_rel (w := w) (ok := ok) (E := E) z).flat hzl
    have hzs : z.cells.size = i.size := by rw [← hzlen, hzr.len]; simp
    have hzero := zeros_rel len hzr
    rw [hzs] at hzero
    obtain ⟨zs', h1, h2⟩ := fill_rel parts pv.toList _ l _ hp hzero hl
    have hll : zs'.size = len * i.size := by
      have e1 := h2.len
      simp only [Array.length_toList] at e1
      have e2 : l.length = len * i.size := by
        have : ∀ (ps : List (Nat × T)) (cs l : List T), fillT (fun j => some (j * i.size, i.size)) cs ps = some l → l.length = cs.length := by
          intro ps
          induction ps with
          | nil => intro cs l h; simp [fillT] at h; rw [h]
          | cons p ps ih =>
            intro cs l h
            obtain ⟨a, x⟩ := p
            simp only [fillT, Option.bind_eq_some_iff, Option.some.injEq] at h
            obtain ⟨_, rfl, x', hx', h⟩ := h
            split at h
            · simp only [Option.bind_eq_some_iff] at h
              obtain ⟨cs', hcs', h⟩ := h
              rw [ih _ _ h]
              unfold splice at hcs'
              split at hcs'
              · simp only [Option.some.injEq] at hcs'; rw [← hcs']; simp; omega
              · simp at hcs'
            · simp at h
        rw [this _ _ _ hl, flat_rep_len, hzlen]
      omega
    have hrun : (Instr.buildSlice t len pv).run P w = .ok (.slice (some ⟨w.heap.size, 0, none⟩) len len) (w.alloc (.cells zs' e)) := by
      have hu := und_elOf he
      have hb' : ¬ (2 ^ 24 < len * i.size) := by omega
      by_cases hl0 : len * i.size = 0
      · have hlen : len = 0 := by rcases Nat.mul_eq_zero.1 hl0 with h | h <;> omega
        subst hlen
        have e1 : ∀ g : Nat → Value, (Array.range 0).map g = #[] := fun g => by simp [Array.range_zero']
        rw [Nat.zero_mul, e1] at h1
        simp [Instr.buildSlice, run_und hu, sizeOf, typeInfo, hi, Go.newRow, e1, h1]
      · simp [Instr.buildSlice, run_und hu, sizeOf, typeInfo, hi, Go.newRow, hb', hl0, zeroValue, hz, hzs, h1]
    refine ⟨_, _, hrun, ?_⟩
    cases dp with
    | true =>
      simp only [if_true] at h
      split at h
      case isFalse => simp at h
      rename_i hcq
      simp only [Option.map_eq_some_iff] at h
      obtain ⟨⟨cs, σ1⟩, hcs, h⟩ := h
      simp only at h
      obtain ⟨g, g1, g2, g3, M1, g4, g5, g6⟩ := digs_rel l M h2 hcs
      have hroom := digs_room M l h2 hcq (fun _ _ h => h) hcs
      have hcl : cs.length = len * i.size := by rw [g1, h2.len]; simpa using hll
      have hat : ∀ a b, a < len → b < i.size → a * i.size + b < cs.length := fun a b ha hb => by
        have := Nat.mul_le_mul_right i.size (show a + 1 ≤ len by omega); rw [Nat.add_mul, Nat.one_mul] at this; omega
      have hdm : ∀ a b, b < i.size → (a * i.size + b) / i.size = a ∧ (a * i.size + b) % i.size = b := fun a b hb => by
        rw [Nat.mul_comm]; exact ⟨by rw [Nat.mul_add_div h0, Nat.div_eq_of_lt hb, Nat.add_zero], by rw [Nat.mul_add_mod, Nat.mod_eq_of_lt hb]⟩
      have key := step_newRowD M1 (l := chunk i.size len cs) (cs := zs') (n := len) (cap := len) e (fun a b => (zs'[a * i.size + b]?).getD undef) (fun a b => g (a * i.size + b)) (chunk_len _ _) (Nat.le_refl _) h0 (chunk_wide _ _ hcl) (by omega) (fun a b ha hb => by
          have := hat a b ha hb
          rw [Array.getElem?_eq_getElem (by omega)]; rfl) (fun a b el c ha hb => by
          obtain ⟨v, h3, h4⟩ := g2 _ _ (chunk_get _ _ _ _ _ _ ha hb)
          have hel : b < i.size := by rw [← chunk_wide _ _ hcl el (List.mem_of_getElem? ha)]; exact (List.getElem?_eq_some_iff.1 hb).1
          refine ⟨by rw [Array.getElem?_toList] at h3; simp only [h3, Option.getD_some]; exact h4, fun e => ?_⟩
          have hcg := chunk_get _ _ _ _ _ _ ha hb
          rw [e] at hcg
          obtain ⟨v2, h5, h6⟩ := hroom _ hcg
          rw [h3] at h5; cases h5
          rw [Nat.zero_add, (hdm a b hel).2] at h6
          rw [Array.getElem?_toList] at h3; simp only [h3, Option.getD_some]; exact h6) (fun a b a' b' h3 h4 h5 h6 x hx hx' => by
          have := g3 _ _ (hat a b h3 h4) (hat a' b' h5 h6) x hx hx'
          have e1 := hdm a b h4
          have e2 := hdm a' b' h6
          rw [this] at e1
          exact ⟨e1.1.symm.trans e2.1, e1.2.symm.trans e2.2⟩) (fun a b ha hb x hx => by
          obtain ⟨⟨y, hy⟩, h3⟩ := g4 _ (hat a b ha hb) x hx
          have := M.mine y x hy
          exact ⟨this.1, this.2.1, this.2.2, fun z hz => h3 ⟨z, hz⟩⟩)
      rw [h] at key
      exact key
    | false =>
    simp only [Bool.false_eq_true, if_false, Option.map_eq_some_iff] at h
    obtain ⟨cs, hcs, h⟩ := h
    obtain ⟨ok1, M1, hup, _, hv⟩ := views_rel l _ cs M h2 hcs
    have := step_newRow M1 (l := chunk i.size len cs) (cs := zs') (n := len) (cap := len) e (chunk_len _ _) (Nat.le_refl _) h0 (chunk_wide _ _ (by rw [hv.len]; simpa using hll)) (by omega) fun a b el c ha hb => by
      obtain ⟨u, h3, h4⟩ := hv.get _ _ (chunk_get _ _ _ _ _ _ ha hb)
      exact ⟨u, by simpa using h3, h4⟩
    rw [h] at this
    exact this.from (.refl _) (fun k h _ => ⟨rfl, hup k h⟩) (Nat.le_refl _)
  · simp at h
theorem zc_digs : ∀ (zl : List T) {cs : List C}, zl.all zcell = true → views σ zl = some cs → digs σ zl = some (cs, σ) ∧ demotes σ zl = σ
  | [], cs, _, h => by simp [views] at h; subst h; exact ⟨rfl, rfl⟩
  | x :: l, cs, ha, h => by
    simp only [List.all_cons, Bool.and_eq_true] at ha
    simp only [views, Option.bind_eq_some_iff, Option.map_eq_some_iff] at h
    obtain ⟨c, hc, cs', hcs, rfl⟩ := h
    obtain ⟨h1, h2⟩ := zc_digs l ha.2 hcs
    cases x <;> try (simp [zcell] at ha; done)
    case c x =>
      cases x with
      | r _ => simp [zcell] at ha
      | s v =>
        simp [view] at hc; subst hc
        exact ⟨by simp [digs, dig, h1], h2⟩
    case nil =>
      simp [view, elems] at hc; subst hc
      exact ⟨by simp [digs, dig, h1], h2⟩
theorem zc_cols {z : Nat} : ∀ (zl : List T) (o : Nat), zl.all zcell = true → colsQ σ z o zl = true
  | [], _, _ => rfl
  | x :: l, o, ha => by
    simp only [List.all_cons, Bool.and_eq_true] at ha
    simp only [colsQ, zc_cols l (o + 1) ha.2, Bool.and_true]
    cases x <;> first | rfl | simp [zcell] at ha
theorem ok_make (M : Mem w0 B σ E ok w) {y l c : T} {lv cv : Value} {t : TypeId} (hl : TRel w ok E l lv) (hc : TRel w ok E c cv) {dp : Bool} (h : opMake P dp σ t l c = some (y, σ')) :
    ∃ v w', (Instr.makeSlice t lv cv).run P w = .ok v w' ∧ StepR w0 B w ok E σ' y v w' := by
  unfold opMake at h
  simp only [Option.bind_eq_some_iff] at h
  obtain ⟨e, he, i, hi, z, hz, zl, hzl, cs, hcs, h⟩ := h
  split at h
  · rename_i n m
    split at h
    · rename_i hcnd
      obtain ⟨hcl, h0, hb0, hn0, hnm, hbig, hzc⟩ := hcnd
      simp only [Option.some.injEq] at h
      obtain rfl := hl.sc
      obtain rfl := hc.sc
      have hzr := (constT_rel (w := w) (ok := ok) (E := E) z).flat hzl
      have hzs : z.cells.size = i.size := by rw [← hcl, views_len _ _ hcs, hzr.len]; simp
      have hm : m ≤ 2 ^ 47 := by
        have : m * 1 ≤ m * (i.bytes : Int) := Int.mul_le_mul_of_nonneg_left (by omega) (by omega)
        rw [Int.mul_comm] at hbig; omega
      have hrun : (Instr.makeSlice t (.int .i64 n) (.int .i64 m)).run P w = .ok (.slice (some ⟨w.heap.size, 0, none⟩) n.toNat m.toNat) (w.alloc (.cells ((Array.range (m.toNat * i.size)).map (z.cells[· % z.cells.size]!)) e)) :=
        run_make w t e i z (und_elOf he) hi hz .i64 .i64 n m hn0 hnm (by omega) (by omega)
      refine ⟨_, _, hrun, ?_⟩
      cases dp with
      | true =>
        simp only [Bool.not_true, Bool.false_or] at hzc
        obtain ⟨hdg, hdem⟩ := zc_digs zl hzc hcs
        rw [hdem] at h
        obtain ⟨g, g1, g2, _, _, g4, _⟩ := digs_rel zl M hzr hdg
        have hroom := digs_room M zl hzr (zc_cols (z := i.size) zl 0 hzc) (fun _ _ h => h) hdg
        have key := step_newRowD M (l := List.replicate n.toNat cs) (cs := (Array.range (m.toNat * i.size)).map (z.cells[· % z.cells.size]!)) (n := n.toNat) (cap := m.toNat) e (fun _ b => (z.cells[b]?).getD default) (fun _ _ => []) (by simp) (by omega) h0 (fun el hel => by rw [List.eq_of_mem_replicate hel]; exact hcl) (by simp) (fun a b ha hb => by
            have hlt : a * i.size + b < m.toNat * i.size := by have := Nat.mul_le_mul_right i.size (show a + 1 ≤ m.toNat by omega); rw [Nat.add_mul, Nat.one_mul] at this; omega
            have hmod : (a * i.size + b) % i.size = b := by rw [Nat.mul_comm, Nat.mul_add_mod, Nat.mod_eq_of_lt hb]
            simp [hlt, hzs, hmod]
            rw [Array.getElem!_eq_getD, Array.getD_eq_getD_getElem?]) (fun a b el c ha hb => by
            have hel : el = cs := List.eq_of_mem_replicate (List.mem_of_getElem? ha)
            subst hel
            obtain ⟨v, h3, h4⟩ := g2 _ _ hb
            rw [Array.getElem?_toList] at h3
            simp only [h3, Option.getD_some]
            have hnil : g b = [] := by
              cases hg : g b with
              | nil => rfl
              | cons x xs => have := g4 b (List.getElem?_eq_some_iff.mp hb).1 x (by rw [hg]; simp); exact absurd this.1 this.2
            rw [hnil] at h4
            refine ⟨h4, fun e => ?_⟩
            rw [e] at hb
            have hbl : b < i.size := by rw [← hcl]; exact (List.getElem?_eq_some_iff.mp hb).1
            obtain ⟨v2, h5, h6⟩ := hroom b hb
            rw [Array.getElem?_toList, h3] at h5; cases h5
            rw [Nat.zero_add, Nat.mod_eq_of_lt hbl] at h6; exact h6) (by simp) (by simp)
        rw [show Dp.of true = .d from rfl] at h
        rw [h] at key
        exact key
      | false =>
      rw [show Dp.of false = .f from rfl] at h
      obtain ⟨ok1, M1, hup, _, hv⟩ := views_rel zl _ cs M hzr hcs
      have := step_newRow M1 (l := List.replicate n.toNat cs) (cs := (Array.range (m.toNat * i.size)).map (z.cells[· % z.cells.size]!)) (n := n.toNat) (cap := m.toNat) e (by simp) (by omega) h0 (fun el hel => by rw [List.eq_of_mem_replicate hel]; exact hcl) (by simp) fun a b el c ha hb => by
        have hel : el = cs := List.eq_of_mem_replicate (List.mem_of_getElem? ha)
        subst hel
        obtain ⟨u, h3, h4⟩ := hv.get _ _ hb
        have ha' : a < n.toNat := by have := (List.getElem?_eq_some_iff.mp ha).1; simpa using this
        have hb' : b < i.size := by rw [← hcl]; exact (List.getElem?_eq_some_iff.mp hb).1
        refine ⟨u, ?_, h4⟩
        have hlt : a * i.size + b < m.toNat * i.size := by have := Nat.mul_le_mul_right i.size (show a + 1 ≤ m.toNat by omega); rw [Nat.add_mul, Nat.one_mul] at this; omega
        have hmod : (a * i.size + b) % i.size = b := by rw [Nat.mul_comm, Nat.mul_add_mod, Nat.mod_eq_of_lt hb']
        rw [Array.getElem?_toList] at h3
        simp [hlt, hzs, hmod]
        rw [Array.getElem!_eq_getD, Array.getD_eq_getD_getElem?, h3]; rfl
      rw [h] at this
      exact this.from (.refl _) (fun k h _ => ⟨rfl, hup k h⟩) (Nat.le_refl _)
    · simp at h
  · simp at h
end Go.SX

set_option linter.unusedVariables false
set_option linter.unusedSimpArgs false
set_option linter.unusedSectionVars false
namespace Go.SX
variable {P : Program} {w w' w0 : World} {ok ok' : Nat → Prop} {E E' : Env} {B : Bd} {σ σ' : St}

/-! what goes over a border -/
/-- a row that is ours; d: with all below it; its blocks -/
def OwnX (w : World) (ok : Nat → Prop) (r : RV) (d : Bool) (x : List (List C)) (b0 : List Nat) : Prop := ∃ D, b0 = r.κ.toList ++ D ∧ OwnK w ok r x D (.of d) ∧ (d = false → D = [])
theorem OwnAt.x {r : RV} {x : List (List C)} (h : OwnAt w ok r x) : OwnX w ok r false x r.κ.toList := ⟨[], by simp, h, fun _ => rfl⟩
theorem OwnX.flat {r : RV} {x : List (List C)} {b0 : List Nat} (h : OwnX w ok r false x b0) : OwnAt w ok r x ∧ b0 = r.κ.toList := by
  obtain ⟨D, h1, h2, h3⟩ := h
  rw [h3 rfl] at h1
  exact ⟨h2, by simpa using h1⟩
theorem OwnX.deep {r : RV} {x : List (List C)} {b0 : List Nat} (h : OwnX w ok r true x b0) : ∃ D, b0 = r.κ.toList ++ D ∧ DeepAt w r x D none := by
  obtain ⟨D, h1, h2, _⟩ := h
  exact ⟨D, h1, h2⟩
theorem OwnX.keep {r : RV} {d : Bool} {x : List (List C)} {b0 : List Nat} (h : OwnX w ok r d x b0) (hk : Keep w w' ok ok') (hs : ∀ k ∈ b0, w'.heap[k]? = w.heap[k]?) : OwnX w' ok' r d x b0 := by
  obtain ⟨D, rfl, h2, h3⟩ := h
  refine ⟨D, rfl, ?_, h3⟩
  cases d with
  | false => exact OwnAt.keep hk (fun k hk' => hs k (by simp [hk'])) h2
  | true => exact DeepAt.keep h2 (fun k hk' => hs k (by simp [hk'])) fun b hb => hs b (by simp [hb])
theorem OwnX.len {r : RV} {d : Bool} {x : List (List C)} {b0 : List Nat} (h : OwnX w ok r d x b0) : x.length = r.n ∧ r.n ≤ r.cap ∧ (∀ el ∈ x, el.length = r.sz) := by
  obtain ⟨D, rfl, h2, h3⟩ := h
  cases d with
  | false => exact ⟨h2.1, h2.2.1, h2.2.2.1⟩
  | true => have := deep_len h2; exact ⟨this.1, this.2.1, this.2.2.1⟩
inductive CsRel (w : World) (ok : Nat → Prop) : Cs → List Value → List Nat → Prop
  | nil : CsRel w ok [] [] []
  | sh {c v l vs bs} : Holds w ok c v → CsRel w ok l vs bs → CsRel w ok ((c, none) :: l) (v :: vs) bs
  | own {r d x b0 l vs bs} : OwnX w ok r d x b0 → CsRel w ok l vs bs → CsRel w ok ((.r x, some (r.sz, d)) :: l) (.slice r.a r.n r.cap :: vs) (b0 ++ bs)
inductive H where
  | b (k : Nat)
  | r (r : RV)
inductive BoxesRel (w : World) (ok : Nat → Prop) : List Cs → List Nat → List Nat → Prop
  | nil : BoxesRel w ok [] [] []
  | cons {l ls k ks bs bs'} (t : TypeId) (cs : Array Value) : w.heap[k]? = some (.cells cs t (0, 0)) → CsRel w ok l cs.toList bs → BoxesRel w ok ls ks bs' → BoxesRel w ok (l :: ls) (k :: ks) ((k :: bs) ++ bs')
/-- a struct's cells; its own rows come back -/
inductive CsH (w : World) (ok : Nat → Prop) : Cs → List Value → List H → List Nat → Prop
  | nil : CsH w ok [] [] [] []
  | sh {c v l vs hs bs} : Holds w ok c v → CsH w ok l vs hs bs → CsH w ok ((c, none) :: l) (v :: vs) hs bs
  | own {r d x b0 l vs hs bs} : OwnX w ok r d x b0 → CsH w ok l vs hs bs → CsH w ok ((.r x, some (r.sz, d)) :: l) (.slice r.a r.n r.cap :: vs) (.r r :: hs) (b0 ++ bs)
theorem CsRel.hs {w : World} {ok : Nat → Prop} {l : Cs} {vs : List Value} {bs : List Nat} (h : CsRel w ok l vs bs) : ∃ hs, CsH w ok l vs hs bs := by
  induction h with
  | nil => exact ⟨_, .nil⟩
  | sh h _ ih => obtain ⟨hs, ih⟩ := ih; exact ⟨_, .sh h ih⟩
  | own h _ ih => obtain ⟨hs, ih⟩ := ih; exact ⟨_, .own h ih⟩
theorem CsH.rel {w : World} {ok : Nat → Prop} {l : Cs} {vs : List Value} {hs : List H} {bs : List Nat} (h : CsH w ok l vs hs bs) : CsRel w ok l vs bs := by
  induction h with
  | nil => exact .nil
  | sh h _ ih => exact .sh h ih
  | own h _ ih => exact .own h ih
inductive ArgsRel (w : World) (ok : Nat → Prop) : List A → List Value → List H → List Nat → Prop
  | nil : ArgsRel w ok [] [] [] []
  | sh {x v l vs hs bs} : Holds w ok x v → ArgsRel w ok l vs hs bs → ArgsRel w ok (.c x none :: l) (v :: vs) hs bs
  | own {r d x b0 l vs hs bs} : OwnX w ok r d x b0 → ArgsRel w ok l vs hs bs → ArgsRel w ok (.c (.r x) (some (r.sz, d)) :: l) (.slice r.a r.n r.cap :: vs) (.r r :: hs) (b0 ++ bs)
  | ag {x us l vs hs hs' bs bs'} : CsH w ok x us hs' bs → ArgsRel w ok l vs hs bs' → ArgsRel w ok (.ag x :: l) (.agg us.toArray :: vs) (hs' ++ hs) (bs ++ bs')
  | p {x k l vs hs bs bs'} (t : TypeId) (cs : Array Value) : w.heap[k]? = some (.cells cs t (0, 0)) → CsRel w ok x cs.toList bs → ArgsRel w ok l vs hs bs' → ArgsRel w ok (.p x :: l) (ptr k :: vs) (.b k :: hs) ((k :: bs) ++ bs')
  | f {g ls ks l vs hs bs bs'} : BoxesRel w ok ls ks bs → ArgsRel w ok l vs hs bs' → ArgsRel w ok (.f g ls :: l) (.func (.func g) #[] (ks.map ptr).toArray :: vs) (ks.map .b ++ hs) (bs ++ bs')
/-- what is lent, and how it comes back -/
inductive BackRel (w : World) (ok : Nat → Prop) : List H → List (Option Cs) → List Nat → Prop
  | nil : BackRel w ok [] [] []
  | box {l k hs xs bs bs'} (t : TypeId) (cs : Array Value) : w.heap[k]? = some (.cells cs t (0, 0)) → CsRel w ok l cs.toList bs → BackRel w ok hs xs bs' → BackRel w ok (.b k :: hs) (some l :: xs) ((k :: bs) ++ bs')
  | row {r d x b0 hs xs bs} : OwnX w ok r d x b0 → BackRel w ok hs xs bs → BackRel w ok (.r r :: hs) (some [(.r x, some (r.sz, d))] :: xs) (b0 ++ bs)
  | gone {r hs xs bs} : BackRel w ok hs xs bs → BackRel w ok (.r r :: hs) (none :: xs) bs
def RRel (w : World) (ok : Nat → Prop) : A → Value → List Nat → Prop
  | .tu l, v, bs => ∃ vs hs, v = .tuple vs.toArray ∧ ArgsRel w ok l vs hs bs
  | a, v, bs => ∃ hs, ArgsRel w ok [a] [v] hs bs
def HRel (E : Env) : Lend → H → Prop
  | .b b, .b k => E.β[b]? = some k
  | .r i, .r r => E.ρ[i]? = some r
  | _, _ => False
theorem HRel.le {x : Lend} {h : H} (hE : E.Le E') (hr : HRel E x h) : HRel E' x h := by
  cases x <;> cases h <;> first | exact hE.b _ _ hr | exact hE.r _ _ hr | exact hr.elim

theorem x_sh {r : RV} {d : Bool} {x : List (List C)} {b0 : List Nat} (h : OwnX w ok r d x b0) (hk : ∀ k, ok k → ok' k) (hb : ∀ k ∈ b0, ok' k) : ShAt w ok' r x := by
  obtain ⟨D, rfl, h2, h3⟩ := h
  cases d with
  | false => exact own_sh h2 hk fun k h => hb k (by simp [h])
  | true => exact deep_sh h2 (fun k h => hb k (by simp [h])) fun k h => hb k (by simp [h])

/-! nothing is lost by looking from more places -/
theorem CsRel.up {l vs bs} (h : CsRel w ok l vs bs) (hk : Keep w w' ok ok') (hs : ∀ k ∈ bs, w'.heap[k]? = w.heap[k]?) : CsRel w' ok' l vs bs := by
  induction h with
  | nil => exact .nil
  | sh h _ ih => exact .sh (h.keep hk) (ih hs)
  | own h _ ih => exact .own (h.keep hk (fun k hk' => hs k (by simp [hk']))) (ih fun k hk' => hs k (by simp [hk']))
theorem CsH.up {l vs hs bs} (h : CsH w ok l vs hs bs) (hk : Keep w w' ok ok') (hs' : ∀ k ∈ bs, w'.heap[k]? = w.heap[k]?) : CsH w' ok' l vs hs bs := by
  induction h with
  | nil => exact .nil
  | sh h _ ih => exact .sh (h.keep hk) (ih hs')
  | own h _ ih => exact .own (h.keep hk (fun k hk' => hs' k (by simp [hk']))) (ih fun k hk' => hs' k (by simp [hk']))
theorem BackRel.up {hs xs bs} (h : BackRel w ok hs xs bs) (hk : Keep w w' ok ok') (hb : ∀ k ∈ bs, w'.heap[k]? = w.heap[k]?) : BackRel w' ok' hs xs bs := by
  induction h with
  | nil => exact .nil
  | box t cs h1 h2 _ ih => exact .box t cs ((hb _ (by simp)).trans h1) (h2.up hk fun k hk' => hb k (by simp [hk'])) (ih fun k hk' => hb k (by simp [hk']))
  | row h _ ih => exact .row (h.keep hk (fun k hk' => hb k (by simp [hk']))) (ih fun k hk' => hb k (by simp [hk']))
  | gone _ ih => exact .gone (ih hb)

/-! flat things hang on nothing -/
theorem flat_own {r : RV} {l : List (List C)} (h : OwnAt w ok r l) (hf : flatRow l = true) : OwnAt w ok' r l := by
  obtain ⟨h1, h2, h3, h4, h5⟩ := h
  refine ⟨h1, h2, h3, h4, ?_⟩
  cases hκ : r.κ with
  | none => simpa only [hκ] using h5
  | some k =>
    simp only [hκ] at h5 ⊢
    obtain ⟨off, t, cs, h5, h6, h7, h8⟩ := h5
    refine ⟨off, t, cs, h5, h6, h7, fun i j el c hi hj => ?_⟩
    obtain ⟨u, h9, h10⟩ := h8 i j el c hi hj
    refine ⟨u, h9, ?_⟩
    have := List.all_eq_true.mp (List.all_eq_true.mp hf el (List.mem_of_getElem? hi)) c (List.mem_of_getElem? hj)
    cases h10 with
    | s _ h => exact .s _ h
    | r l _ _ _ _ _ => simp [rowC] at this
theorem flat_x {r : RV} {d : Bool} {l : List (List C)} {b0 : List Nat} (h : OwnX w ok r d l b0) (hf : (d || flatRow l) = true) : OwnX w ok' r d l b0 := by
  obtain ⟨D, rfl, h2, h3⟩ := h
  refine ⟨D, rfl, ?_, h3⟩
  cases d with
  | false => exact flat_own h2 (by simpa using hf)
  | true => exact h2
theorem flat_cs {l vs bs} (h : CsRel w ok l vs bs) (hf : l.all flatC = true) : CsRel w ok' l vs bs := by
  induction h with
  | nil => exact .nil
  | sh h _ ih =>
    simp only [List.all_cons, Bool.and_eq_true] at hf
    refine .sh ?_ (ih hf.2)
    cases h with
    | s _ h => exact .s _ h
    | r l _ _ _ _ _ => simp [flatC] at hf
  | own h _ ih =>
    simp only [List.all_cons, Bool.and_eq_true, flatC] at hf
    exact .own (flat_x h hf.1) (ih hf.2)
theorem flat_csH {l vs hs bs} (h : CsH w ok l vs hs bs) (hf : l.all flatC = true) : CsH w ok' l vs hs bs := by
  induction h with
  | nil => exact .nil
  | sh h _ ih =>
    simp only [List.all_cons, Bool.and_eq_true] at hf
    refine .sh ?_ (ih hf.2)
    cases h with
    | s _ h => exact .s _ h
    | r l _ _ _ _ _ => simp [flatC] at hf
  | own h _ ih =>
    simp only [List.all_cons, Bool.and_eq_true, flatC] at hf
    exact .own (flat_x h hf.1) (ih hf.2)
theorem flat_boxes {ls ks bs} (h : BoxesRel w ok ls ks bs) (hf : (ls.all fun l => l.all flatC) = true) : BoxesRel w ok' ls ks bs := by
  induction h with
  | nil => exact .nil
  | cons t cs h1 h2 _ ih =>
    simp only [List.all_cons, Bool.and_eq_true] at hf
    exact .cons t cs h1 (flat_cs h2 hf.1) (ih hf.2)
theorem flat_args {l vs hs bs} (h : ArgsRel w ok l vs hs bs) (hf : l.all flatV = true) : ArgsRel w ok' l vs hs bs := by
  induction h with
  | nil => exact .nil
  | sh h _ ih =>
    simp only [List.all_cons, Bool.and_eq_true, flatV] at hf
    refine .sh ?_ (ih hf.2)
    cases h with
    | s _ h => exact .s _ h
    | r l _ _ _ _ _ => simp [flatC] at hf
  | own h _ ih =>
    simp only [List.all_cons, Bool.and_eq_true, flatV, flatC] at hf
    exact .own (flat_x h hf.1) (ih hf.2)
  | ag h _ ih =>
    simp only [List.all_cons, Bool.and_eq_true, flatV] at hf
    exact .ag (flat_csH h hf.1) (ih hf.2)
  | p t cs h1 h _ ih =>
    simp only [List.all_cons, Bool.and_eq_true, flatV] at hf
    exact .p t cs h1 (flat_cs h hf.1) (ih hf.2)
  | f h _ ih =>
    simp only [List.all_cons, Bool.and_eq_true, flatV] at hf
    exact .f (flat_boxes h hf.1) (ih hf.2)
theorem flat_res {r v bs} (h : RRel w ok r v bs) (hf : flatA r = true) : RRel w ok' r v bs := by
  cases r with
  | tu l => obtain ⟨vs, hs, h1, h2⟩ := h; exact ⟨vs, hs, h1, flat_args h2 hf⟩
  | _ => obtain ⟨hs, h⟩ := h; exact ⟨hs, flat_args h (by simpa [flatA] using hf)⟩
theorem flat_back {hs xs bs} (h : BackRel w ok hs xs bs) (hf : (xs.all fun c => c.all fun l => l.all flatC) = true) : BackRel w ok' hs xs bs := by
  induction h with
  | nil => exact .nil
  | box t cs h1 h2 _ ih =>
    simp only [List.all_cons, Bool.and_eq_true, Option.all_some] at hf
    exact .box t cs h1 (flat_cs h2 hf.1) (ih hf.2)
  | row h _ ih =>
    simp only [List.all_cons, Bool.and_eq_true, Option.all_some, flatC, List.all_nil, Bool.and_true] at hf
    exact .row (flat_x h hf.1) (ih hf.2)
  | gone _ ih =>
    simp only [List.all_cons, Bool.and_eq_true] at hf
    exact .gone (ih hf.2)

/-! more boxes, more rows -/
structure Ext (σ σ' : St) : Prop where
  bl : σ.bx.length ≤ σ'.bx.length
  rl : σ.rw.length ≤ σ'.rw.length
  b : ∀ b, b < σ.bx.length → boxAt σ' b = boxAt σ b
  r : ∀ i, i < σ.rw.length → rawAt σ' i = rawAt σ i
theorem Ext.row {σ σ' : St} (h : Ext σ σ') (i : Nat) (hi : i < σ.rw.length) : rowAt σ' i = rowAt σ i := by unfold rowAt; rw [h.r i hi]
theorem Ext.refl (σ : St) : Ext σ σ := ⟨Nat.le_refl _, Nat.le_refl _, fun _ _ => rfl, fun _ _ => rfl⟩
theorem Ext.trans {σ1 σ2 σ3 : St} (h : Ext σ1 σ2) (k : Ext σ2 σ3) : Ext σ1 σ3 := ⟨Nat.le_trans h.bl k.bl, Nat.le_trans h.rl k.rl, fun b hb => (k.b b (Nat.lt_of_lt_of_le hb h.bl)).trans (h.b b hb), fun b hb => (k.r b (Nat.lt_of_lt_of_le hb h.rl)).trans (h.r b hb)⟩
theorem ext_newBox (l : List T) : Ext σ (newBox σ l).2 := by
  refine ⟨by simp [newBox], Nat.le_refl _, fun b hb => ?_, fun _ _ => rfl⟩
  simp only [newBox, boxAt]
  rw [List.getElem?_append_left hb]
theorem ext_newRow (q : Row) : Ext σ (newRow σ q).2 := by
  refine ⟨Nat.le_refl _, by simp [newRow], fun _ _ => rfl, fun b hb => ?_⟩
  simp only [newRow, rawAt]
  rw [List.getElem?_append_left hb]
theorem dh_lt {c : C} {v : Value} {D : List Nat} (h : DH w c v D) : ∀ b ∈ D, b < w.heap.size := by
  induction h with
  | s v h => simp
  | r l a n cap sz κ off t cs D u f hn hc hz h0 hN hS hu hf hD hkk hd hE ih =>
    intro b hb
    rcases (hD b).1 hb with h | ⟨i, j, hi, hj, h⟩
    · exact (Array.getElem?_eq_some_iff.mp (hS b h).2.1).1
    · have hel : l[i]? = some (l[i]'(by omega)) := List.getElem?_eq_getElem _
      have hc : (l[i]'(by omega))[j]? = some ((l[i]'(by omega))[j]'(by rw [hz _ (List.mem_of_getElem? hel)]; omega)) := List.getElem?_eq_getElem _
      exact ih i j _ _ hel hc b h
theorem mut_newBox (M : Mem w0 B σ E ok w) {l : List T} {k j : Nat} (h : Muts (newBox σ l).2 ⟨E.β ++ [k], E.ρ, E.δ⟩ j) : Muts σ E j ∨ j = k := by
  obtain ⟨x, hx⟩ := h
  cases x with
  | r i => exact .inl ⟨.r i, hx⟩
  | d i m => exact .inl ⟨.d i m, hx⟩
  | b b =>
    simp only [mutAt] at hx
    cases hb : boxAt (newBox σ l).2 b with
    | none => simp [hb] at hx
    | some l' =>
      simp only [hb] at hx
      have hlt := boxAt_lt hb
      simp only [newBox, List.length_append, List.length_cons, List.length_nil] at hlt
      rcases Nat.lt_or_ge b σ.bx.length with h | h
      · refine .inl ⟨.b b, ?_⟩
        rw [(ext_newBox l).b b h] at hb
        simp only [mutAt, hb]
        rw [← hx, List.getElem?_append_left (by rw [M.lb]; exact h)]
      · have : b = E.β.length := by rw [M.lb]; omega
        subst this
        simp at hx
        exact .inr hx.symm
theorem raw_new {q q' : Row} {b : Nat} (h : rawAt (newRow σ q).2 b = some q') : (b < σ.rw.length ∧ rawAt σ b = some q') ∨ (b = σ.rw.length ∧ q' = q) := by
  have hlt := rawAt_lt h
  simp only [newRow, List.length_append, List.length_cons, List.length_nil] at hlt
  simp only [newRow, rawAt] at h
  rcases Nat.lt_or_ge b σ.rw.length with hl | hl
  · rw [List.getElem?_append_left hl] at h; exact .inl ⟨hl, h⟩
  · have : b = σ.rw.length := by omega
    subst this
    simp at h
    exact .inr ⟨rfl, h.symm⟩
theorem mut_newRow (M : Mem w0 B σ E ok w) {q : Row} {r : RV} {D : List Nat} {j : Nat} (h : Muts (newRow σ q).2 ⟨E.β, E.ρ ++ [r], upd E.δ σ.rw.length D⟩ j) : Muts σ E j ∨ r.κ = some j ∨ (q.dp ≠ .f ∧ j ∈ D) := by
  obtain ⟨x, hx⟩ := h
  cases x with
  | b i => exact .inl ⟨.b i, hx⟩
  | r b =>
    simp only [mutAt] at hx
    cases hb : rawAt (newRow σ q).2 b with
    | none => simp [hb] at hx
    | some q' =>
      simp only [hb] at hx
      rcases raw_new hb with ⟨hl, h2⟩ | ⟨rfl, rfl⟩
      · refine .inl ⟨.r b, ?_⟩
        simp only [mutAt, h2]
        rw [← hx, List.getElem?_append_left (by rw [M.lr]; exact hl)]
      · split at hx
        · rw [← M.lr] at hx; simp at hx; exact .inr (.inl hx)
        · simp at hx
  | d b m =>
    simp only [mutAt] at hx
    cases hb : rawAt (newRow σ q).2 b with
    | none => simp [hb] at hx
    | some q' =>
      simp only [hb] at hx
      rcases raw_new hb with ⟨hl, h2⟩ | ⟨rfl, rfl⟩
      · refine .inl ⟨.d b m, ?_⟩
        simp only [mutAt, h2]
        rw [← hx]; simp [upd, Nat.ne_of_lt hl]
      · split at hx
        · split at hx
          · simp at hx
          · rename_i hne
            simp only [upd, if_true] at hx
            exact .inr (.inr ⟨hne, List.mem_of_getElem? hx⟩)
        · simp at hx
/-- blocks that may become ours -/
structure Free (w0 : World) (B : Bd) (ok : Nat → Prop) (σ : St) (E : Env) (bs : List Nat) : Prop where
  nd : bs.Nodup
  ok : ∀ k ∈ bs, ¬ ok k ∧ (w0.heap.size ≤ k ∨ B.L k) ∧ ¬ Muts σ E k
theorem Free.left {bs bs' : List Nat} (h : Free w0 B ok σ E (bs ++ bs')) : Free w0 B ok σ E bs := ⟨(List.nodup_append.1 h.nd).1, fun k hk => h.ok k (by simp [hk])⟩
theorem Free.right {bs bs' : List Nat} (h : Free w0 B ok σ E (bs ++ bs')) (hm : ∀ k, Muts σ' E' k → Muts σ E k ∨ k ∈ bs) : Free w0 B ok σ' E' bs' := by
  obtain ⟨h1, h2, h3⟩ := List.nodup_append.1 h.nd
  refine ⟨h2, fun k hk => ?_⟩
  obtain ⟨h4, h5, h6⟩ := h.ok k (by simp [hk])
  exact ⟨h4, h5, fun hk' => (hm k hk').elim h6 fun h7 => h3 k h7 k hk rfl⟩
/-- what telling does -/
def Told (w0 : World) (B : Bd) (ok : Nat → Prop) (w : World) (σ : St) (E : Env) (bs : List Nat) (σ' : St) (E' : Env) : Prop :=
  Mem w0 B σ' E' ok w ∧ E.Le E' ∧ (∀ k, Muts σ' E' k → Muts σ E k ∨ k ∈ bs) ∧ Ext σ σ'
theorem Told.then {bs bs' : List Nat} {σ'' : St} {E'' : Env} (h : Told w0 B ok w σ E bs σ' E') (k : Told w0 B ok w σ' E' bs' σ'' E'') : Told w0 B ok w σ E (bs ++ bs') σ'' E'' :=
  ⟨k.1, h.2.1.trans k.2.1, fun j hj => (k.2.2.1 j hj).elim (fun hj => (h.2.2.1 j hj).imp id fun h => by simp [h]) fun hj => .inr (by simp [hj]), h.2.2.2.trans k.2.2.2⟩
theorem keep_same {ok : Nat → Prop} : Keep w w ok ok := fun _ h _ => ⟨rfl, h⟩
theorem tell_row (M : Mem w0 B σ E ok w) {r : RV} {d : Bool} {x : List (List C)} {b0 : List Nat} (hO : OwnX w ok r d x b0) (hf : Free w0 B ok σ E b0) :
    ∃ E', Told w0 B ok w σ E b0 (newRow σ ⟨r.sz, x, true, .of d⟩).2 E' ∧ XRel w ok E' (newRow σ ⟨r.sz, x, true, .of d⟩).1 (.slice r.a r.n r.cap) ∧ E'.ρ = E.ρ ++ [r] := by
  obtain ⟨D, rfl, h2, h3⟩ := hO
  have hR : RowOk w ok D r ⟨r.sz, x, true, .of d⟩ := ⟨rfl, by simpa using h2⟩
  have hlt : ∀ k ∈ D, k < w.heap.size := by
    intro k hk
    cases d with
    | false => rw [h3 rfl] at hk; simp at hk
    | true =>
      obtain ⟨off, t, cs, u, f, a1, a2, a3, a4, a5, a6, a7, a8, a9, _⟩ := h2
      obtain ⟨i, j, hi, hj, _, hb⟩ := (a9 k).1 hk
      have hel : x[i]? = some (x[i]'(by omega)) := List.getElem?_eq_getElem _
      have hc : (x[i]'(by omega))[j]? = some ((x[i]'(by omega))[j]'(by rw [a3 _ (List.mem_of_getElem? hel)]; omega)) := List.getElem?_eq_getElem _
      exact dh_lt (a8 i j _ _ hel hc (by simp)).1 k hb
  obtain ⟨h4, h5, h6⟩ := M.newRD (r := r) (q := ⟨r.sz, x, true, .of d⟩) (D := D) hR (fun k _ hk => by
      obtain ⟨h4, h5, h6⟩ := hf.ok k (by simp [hk])
      exact ⟨h4, h5, fun x hx => h6 ⟨x, hx⟩⟩) fun _ _ => ⟨(List.nodup_append.1 hf.nd).2.1, fun k hk => by
      obtain ⟨h4, h5, h6⟩ := hf.ok k (by simp [hk])
      refine ⟨fun e => ?_, h4, h5, hlt k hk, fun x hx => h6 ⟨x, hx⟩⟩
      exact (List.nodup_append.1 hf.nd).2.2 k (by simp [e]) k hk rfl⟩
  exact ⟨_, ⟨h4, h5, fun k hk => (mut_newRow M hk).imp id fun h => by
    rcases h with h | h
    · simp [h]
    · simp [h.2], ext_newRow _⟩, h6, rfl⟩
theorem tells_ok {l : Cs} {vs : List Value} {bs : List Nat} (h : CsRel w ok l vs bs) : ∀ {σ : St} {E : Env}, Mem w0 B σ E ok w → Free w0 B ok σ E bs → ∃ E', Told w0 B ok w σ E bs (tells σ l).2 E' ∧ All2 (XRel w ok E') (tells σ l).1 vs := by
  induction h with
  | nil => intro σ E M _; exact ⟨E, ⟨M, .refl _, fun _ h => .inl h, .refl _⟩, .nil⟩
  | @sh c v l vs bs h _ ih =>
    intro σ E M hf
    have e : tell σ (c, none) = (.c c, σ) := by cases c <;> rfl
    simp only [tells, e]
    obtain ⟨E', h1, h2⟩ := ih M hf
    exact ⟨E', h1, .cons (XRel.keep keep_same h1.2.1 (show XRel w ok E (.c c) v from h)) h2⟩
  | @own r d x b0 l vs bs h _ ih =>
    intro σ E M hf
    simp only [tells, tell]
    obtain ⟨E1, h1, h2, h2e⟩ := tell_row M h hf.left
    obtain ⟨E', h3, h4⟩ := ih h1.1 (hf.right h1.2.2.1)
    exact ⟨E', h1.then h3, .cons (XRel.keep keep_same h3.2.1 h2) h4⟩
theorem tellsH_ok {l : Cs} {vs : List Value} {hs : List H} {bs : List Nat} (h : CsH w ok l vs hs bs) : ∀ {σ : St} {E : Env}, Mem w0 B σ E ok w → Free w0 B ok σ E bs → ∃ E', Told w0 B ok w σ E bs (tells σ l).2 E' ∧ All2 (XRel w ok E') (tells σ l).1 vs ∧ All2 (HRel E') (agLent (tells σ l).1) hs := by
  induction h with
  | nil => intro σ E M _; exact ⟨E, ⟨M, .refl _, fun _ h => .inl h, .refl _⟩, .nil, .nil⟩
  | @sh c v l vs hs bs h _ ih =>
    intro σ E M hf
    have e : tell σ (c, none) = (.c c, σ) := by cases c <;> rfl
    simp only [tells, e]
    obtain ⟨E', h1, h2, h3⟩ := ih M hf
    exact ⟨E', h1, .cons (XRel.keep keep_same h1.2.1 (show XRel w ok E (.c c) v from h)) h2, h3⟩
  | @own r d x b0 l vs hs bs h _ ih =>
    intro σ E M hf
    simp only [tells, tell]
    obtain ⟨E1, h1, h2, h2e⟩ := tell_row M h hf.left
    obtain ⟨E', h3, h4, h5⟩ := ih h1.1 (hf.right h1.2.2.1)
    refine ⟨E', h1.then h3, .cons (XRel.keep keep_same h3.2.1 h2) h4, ?_⟩
    simp only [newRow, agLent]
    exact .cons (h3.2.1.r _ _ (by rw [h2e, ← M.lr]; simp)) h5
theorem tell_box {l : Cs} {k : Nat} {t : TypeId} {cs : Array Value} {bs : List Nat} (M : Mem w0 B σ E ok w) (hk : w.heap[k]? = some (.cells cs t (0, 0))) (h : CsRel w ok l cs.toList bs) (hf : Free w0 B ok σ E (k :: bs)) :
    ∃ E', Told w0 B ok w σ E (k :: bs) (newBox (tells σ l).2 (tells σ l).1).2 E' ∧ E'.β[(tells σ l).2.bx.length]? = some k := by
  have hf2 : Free w0 B ok σ E bs := ⟨(List.nodup_cons.1 hf.nd).2, fun j hj => hf.ok j (by simp [hj])⟩
  obtain ⟨E1, h1, h2⟩ := tells_ok h M hf2
  obtain ⟨h3, h4, h5⟩ := hf.ok k (by simp)
  have hnd : ¬ Muts (tells σ l).2 E1 k := fun hm => (h1.2.2.1 k hm).elim h5 fun hm => (List.nodup_cons.1 hf.nd).1 hm
  obtain ⟨g1, g2, g3⟩ := h1.1.newB (k := k) (l := (tells σ l).1) ⟨t, cs, hk, h2⟩ h3 h4 fun x hx => hnd ⟨x, hx⟩
  refine ⟨_, ⟨g1, h1.2.1.trans g2, fun j hj => ?_, h1.2.2.2.trans (ext_newBox _)⟩, ?_⟩
  · rcases mut_newBox h1.1 hj with hj | rfl
    · exact (h1.2.2.1 j hj).imp id fun h => by simp [h]
    · exact .inr (by simp)
  · show (E1.β ++ [k])[(tells σ l).2.bx.length]? = some k
    rw [← h1.1.lb]; simp
/-- the boxes of a function value -/
def tellBs (σ : St) (l : List Cs) (acc : List Nat) : List Nat × St := l.foldl (fun (p : List Nat × St) c => (p.1 ++ [p.2.bx.length], (newBox (tells p.2 c).2 (tells p.2 c).1).2)) (acc, σ)
theorem tells_bx : ∀ (l : Cs) (σ : St), (tells σ l).2.bx = σ.bx
  | [], _ => rfl
  | (c, o) :: l, σ => by
    simp only [tells]
    rw [tells_bx l]
    cases c <;> cases o <;> rfl
theorem tellBs_ok {ls : List Cs} {ks bs : List Nat} (h : BoxesRel w ok ls ks bs) : ∀ {σ : St} {E : Env} (acc acck : List Nat), All2 (fun b k => E.β[b]? = some k) acc acck → Mem w0 B σ E ok w → Free w0 B ok σ E bs →
    ∃ E', Told w0 B ok w σ E bs (tellBs σ ls acc).2 E' ∧ All2 (fun b k => E'.β[b]? = some k) (tellBs σ ls acc).1 (acck ++ ks) := by
  induction h with
  | nil => intro σ E acc acck ha M _; exact ⟨E, ⟨M, .refl _, fun _ h => .inl h, .refl _⟩, by simpa [tellBs] using ha⟩
  | @cons l ls k ks bs bs' t cs hk hc _ ih =>
    intro σ E acc acck ha M hf
    obtain ⟨E1, h1, h2⟩ := tell_box M hk hc hf.left
    rw [tells_bx] at h2
    obtain ⟨E2, h3, h4⟩ := ih (acc ++ [σ.bx.length]) (acck ++ [k]) ((ha.imp fun _ _ h => h1.2.1.b _ _ h).append (.cons h2 .nil)) h1.1 (hf.right h1.2.2.1)
    refine ⟨E2, h1.then h3, ?_⟩
    simpa [tellBs] using h4
theorem lent_b (md : Bool) (bs : List Nat) (l : List T) (g : FuncId) : lentOf md (.fn g bs :: l) = bs.map .b ++ lentOf md l := rfl
theorem tellVs_ok {l : List A} {vs : List Value} {hs : List H} {bs : List Nat} (h : ArgsRel w ok l vs hs bs) : ∀ {σ : St} {E : Env}, Mem w0 B σ E ok w → Free w0 B ok σ E bs →
    ∃ E', Told w0 B ok w σ E bs (tellVs σ l).2 E' ∧ All2 (VRel w ok E') (tellVs σ l).1 vs ∧ All2 (HRel E') (lentOf true (tellVs σ l).1) hs := by
  induction h with
  | nil => intro σ E M _; exact ⟨E, ⟨M, .refl _, fun _ h => .inl h, .refl _⟩, .nil, .nil⟩
  | @sh x v l vs hs bs h _ ih =>
    intro σ E M hf
    have e : tell σ (x, none) = (.c x, σ) := by cases x <;> rfl
    simp only [tellVs, tellV, e]
    obtain ⟨E', h1, h2, h3⟩ := ih M hf
    exact ⟨E', h1, .cons (VRel.keep keep_same h1.2.1 (show VRel w ok E (.c x) v from h)) h2, h3⟩
  | @own r d x b0 l vs hs bs h _ ih =>
    intro σ E M hf
    simp only [tellVs, tellV, tell]
    obtain ⟨E1, h1, h2, h2e⟩ := tell_row M h hf.left
    obtain ⟨E', h3, h4, h5⟩ := ih h1.1 (hf.right h1.2.2.1)
    refine ⟨E', h1.then h3, .cons (VRel.keep keep_same h3.2.1 (show VRel w ok _ (newRow σ _).1 _ from h2)) h4, ?_⟩
    simp only [newRow, lentOf, if_true]
    refine .cons ?_ h5
    exact h3.2.1.r _ _ (by rw [h2e, ← M.lr]; simp)
  | @ag x us l vs hs hs' bs bs' h _ ih =>
    intro σ E M hf
    simp only [tellVs, tellV]
    obtain ⟨E1, h1, h2, h2'⟩ := tellsH_ok h M hf.left
    obtain ⟨E', h3, h4, h5⟩ := ih h1.1 (hf.right h1.2.2.1)
    refine ⟨E', h1.then h3, .cons (VRel.keep keep_same h3.2.1 (show VRel w ok E1 (.ag _) _ from ⟨_, rfl, by simpa using h2⟩)) h4, ?_⟩
    simp only [lentOf, if_true]
    exact (h2'.imp fun _ _ h => h.le h3.2.1).append h5
  | @p x k l vs hs bs bs' t cs hk hc _ ih =>
    intro σ E M hf
    simp only [tellVs, tellV]
    obtain ⟨E1, h1, h2⟩ := tell_box M hk hc hf.left
    obtain ⟨E', h3, h4, h5⟩ := ih h1.1 (hf.right h1.2.2.1)
    refine ⟨E', h1.then h3, .cons (VRel.keep keep_same h3.2.1 (show VRel w ok E1 (newBox _ _).1 _ from ⟨k, h2, rfl⟩)) h4, ?_⟩
    simp only [newBox, lentOf]
    exact .cons (h3.2.1.b _ _ h2) h5
  | @f g ls ks l vs hs bs bs' h _ ih =>
    intro σ E M hf
    simp only [tellVs, tellV]
    obtain ⟨E1, h1, h2⟩ := tellBs_ok h [] [] .nil M hf.left
    simp only [List.nil_append] at h2
    obtain ⟨E', h3, h4, h5⟩ := ih h1.1 (hf.right h1.2.2.1)
    refine ⟨E', h1.then h3, .cons (VRel.keep keep_same h3.2.1 (show VRel w ok E1 (.fn _ _) _ from ⟨ks, rfl, h2⟩)) h4, ?_⟩
    rw [lent_b]
    refine All2.append ?_ h5
    have : ∀ {a b : List Nat}, All2 (fun b k => E1.β[b]? = some k) a b → All2 (HRel E') (a.map .b) (b.map .b) := by
      intro a b h
      induction h with
      | nil => exact .nil
      | cons h _ ih => exact .cons (h3.2.1.b _ _ h) ih
    exact this h2
theorem VRel.t {x : T} {v : Value} (h : VRel w ok E x v) : TRel w ok E x v := by cases x <;> first | exact h | exact (h : False).elim
theorem tellA_ok {r : A} {v : Value} {bs : List Nat} (h : RRel w ok r v bs) (M : Mem w0 B σ E ok w) (hf : Free w0 B ok σ E bs) :
    ∃ E', Told w0 B ok w σ E bs (tellA σ r).2 E' ∧ TRel w ok E' (tellA σ r).1 v := by
  cases r with
  | tu l =>
    obtain ⟨vs, hs, rfl, h⟩ := h
    obtain ⟨E', h1, h2, _⟩ := tellVs_ok h M hf
    exact ⟨E', h1, vs.toArray, rfl, by simpa using h2⟩
  | _ =>
    obtain ⟨hs, h⟩ := h
    obtain ⟨E', h1, h2, _⟩ := tellVs_ok h M hf
    simp only [tellVs] at h1 h2
    cases h2 with
    | cons h2 _ => exact ⟨E', h1, h2.t⟩
end Go.SX

set_option linter.unusedVariables false
set_option linter.unusedSimpArgs false
set_option linter.unusedSectionVars false
namespace Go.SX
variable {P : Program} {w w' w0 : World} {ok ok' : Nat → Prop} {E E' : Env} {B : Bd} {σ σ' : St}

/-! giving -/
structure Less (σ σ' : St) : Prop where
  bl : σ'.bx.length = σ.bx.length
  rl : σ'.rw.length = σ.rw.length
  b : ∀ b l, boxAt σ' b = some l → boxAt σ b = some l
  r : ∀ i q, rowAt σ' i = some q → rowAt σ i = some q
theorem Less.refl (σ : St) : Less σ σ := ⟨rfl, rfl, fun _ _ h => h, fun _ _ h => h⟩
theorem Less.trans {σ1 σ2 σ3 : St} (h : Less σ1 σ2) (k : Less σ2 σ3) : Less σ1 σ3 := ⟨k.bl.trans h.bl, k.rl.trans h.rl, fun b l hb => h.b b l (k.b b l hb), fun b l hb => h.r b l (k.r b l hb)⟩
theorem less_killB (b : Nat) : Less σ (setBox σ b none) := ⟨by simp [setBox], rfl, fun b' l h => by rw [boxAt_set] at h; split at h <;> simp_all, fun _ _ h => h⟩
theorem less_killR (i : Nat) : Less σ (setRow σ i none) := ⟨rfl, by simp [setRow], fun _ _ h => h, fun i' q h => by rw [rowAt_set here_none] at h; split at h <;> simp_all⟩
def Given (w0 : World) (B : Bd) (ok : Nat → Prop) (w : World) (E : Env) (σ : St) (bs : List Nat) (σ' : St) : Prop :=
  Mem w0 B σ' E ok w ∧ bs.Nodup ∧ (∀ k ∈ bs, Muts σ E k ∧ ¬ Muts σ' E k) ∧ (∀ k, Muts σ' E k → Muts σ E k) ∧ Less σ σ'
theorem Given.nil (M : Mem w0 B σ E ok w) : Given w0 B ok w E σ [] σ := ⟨M, List.nodup_nil, by simp, fun _ h => h, .refl _⟩
theorem Given.then {bs bs' : List Nat} {σ'' : St} (h : Given w0 B ok w E σ bs σ') (k : Given w0 B ok w E σ' bs' σ'') : Given w0 B ok w E σ (bs ++ bs') σ'' := by
  obtain ⟨h1, h2, h3, h4, h5⟩ := h
  obtain ⟨k1, k2, k3, k4, k5⟩ := k
  refine ⟨k1, List.nodup_append.2 ⟨h2, k2, fun a ha b hb e => (h3 a ha).2 (e ▸ (k3 b hb).1)⟩, fun j hj => ?_, fun j hj => h4 j (k4 j hj), h5.trans k5⟩
  rcases List.mem_append.1 hj with hj | hj
  · exact ⟨(h3 j hj).1, fun hm => (h3 j hj).2 (k4 j hm)⟩
  · exact ⟨h4 j (k3 j hj).1, (k3 j hj).2⟩
theorem given_killB (M : Mem w0 B σ E ok w) {b k : Nat} {l : List T} (hk : E.β[b]? = some k) (hb : boxAt σ b = some l) : Given w0 B ok w E σ [k] (setBox σ b none) := by
  refine ⟨M.killB b, by simp, fun j hj => ?_, fun j ⟨x, hx⟩ => ⟨x, (mut_killB hx).2⟩, less_killB b⟩
  obtain rfl : j = k := by simpa using hj
  exact ⟨⟨.b b, mut_b hk hb⟩, fun ⟨x, hx⟩ => (mut_killB hx).1 (M.dis x (.b b) j (mut_killB hx).2 (mut_b hk hb))⟩
theorem given_killR (M : Mem w0 B σ E ok w) {i : Nat} {r : RV} {q : Row} (hr : E.ρ[i]? = some r) (hq : rowAt σ i = some q) (bs : List Nat) (hn : bs.Nodup) (hbs : ∀ k ∈ bs, blks r q (E.δ i) k) : Given w0 B ok w E σ bs (setRow σ i none) := by
  refine ⟨M.killR i, hn, fun j hj => ?_, fun j ⟨x, hx⟩ => ⟨x, (mut_killR hx).2⟩, less_killR i⟩
  obtain ⟨y, hy, _⟩ := blks_mut hr (row_raw hq) (hbs j hj)
  exact ⟨⟨y, hy⟩, fun ⟨x, hx⟩ => blks_dead M hr (row_raw hq) (hbs j hj) x hx⟩
theorem deep_nodup {r : RV} {l : List (List C)} {δ : List Nat} (h : DeepAt w r l δ none) : (r.κ.toList ++ δ).Nodup := by
  obtain ⟨off, t, cs, u, f, a1, a2, a3, a4, a5, a6, a7, a8, a9, a10, a11, a12⟩ := h
  refine List.nodup_append.2 ⟨by cases r.κ <;> simp, a12, fun a ha b hb e => ?_⟩
  subst e
  obtain ⟨i, j, h1, h2, h3, h4⟩ := (a9 a).1 hb
  exact a10 i j h1 h2 h3 a h4 (by simpa using ha)
theorem Mem.ownX (M : Mem w0 B σ E ok w) {i : Nat} {r : RV} {q : Row} (hr : E.ρ[i]? = some r) (hq : rowAt σ i = some q) (ho : q.ow = true) : ∃ b0, OwnX w ok r q.dp.q q.l b0 ∧ b0.Nodup ∧ ∀ k ∈ b0, blks r q (E.δ i) k := by
  have h2 := (M.row i r q hr hq).2
  rw [ho, if_pos rfl] at h2
  rcases dp_cases hq with hp | hp
  · rw [hp] at h2 ⊢
    exact ⟨r.κ.toList, OwnAt.x h2, by cases r.κ <;> simp, fun k hk => ⟨ho, .inl (by simpa using hk)⟩⟩
  · have h2' : DeepAt w r q.l (E.δ i) none := by rw [hp] at h2; exact h2
    rw [hp]
    refine ⟨r.κ.toList ++ E.δ i, ⟨E.δ i, rfl, h2', fun h => by simp [Dp.q] at h⟩, deep_nodup h2', fun k hk => ⟨ho, ?_⟩⟩
    rcases List.mem_append.1 hk with h | h
    · exact .inl (by simpa using h)
    · exact .inr ⟨by rw [hp]; simp, h⟩
theorem own_cut {r : RV} {l : List (List C)} {lo hi : Nat} {a' : Option Addr} (h : OwnAt w ok r l) (h1 : lo ≤ hi) (h2 : hi ≤ r.n) (ha : r.cap - lo ≠ 0 → ∃ ad, r.a = some ad ∧ a' = some (ad.add (lo * r.sz))) : OwnAt w ok ⟨a', hi - lo, r.cap - lo, r.sz, if r.cap - lo = 0 then none else r.κ⟩ (cut l lo hi) := by
  obtain ⟨p1, p2, p3, p4, p5⟩ := h
  refine ⟨cut_len _ _ _ (by omega), by show hi - lo ≤ r.cap - lo; omega, fun el he => p3 el (cut_mem he), fun h => by simp only at h ⊢; split; rfl; exact p4 h, ?_⟩
  by_cases hc : r.cap - lo = 0
  · simp only [hc, if_true]
  · obtain ⟨ad, had, rfl⟩ := ha hc
    simp only [hc, if_false]
    cases hκ : r.κ with
    | none => simp only [hκ] at p5; omega
    | some k =>
      simp only [hκ] at p5 ⊢
      obtain ⟨off, t, cs, q1, q2, q3, q4⟩ := p5
      rw [had] at q1; cases q1
      refine ⟨off + lo * r.sz, t, cs, by rw [add_none], q2, ?_, fun i j el c hi hj => ?_⟩
      · have : lo * r.sz + (r.cap - lo) * r.sz = r.cap * r.sz := by rw [← Nat.add_mul]; congr 1; omega
        show off + lo * r.sz + (r.cap - lo) * r.sz ≤ cs.size
        omega
      · obtain ⟨u, h3, h4⟩ := q4 (lo + i) j el c (cut_get hi) hj
        refine ⟨u, ?_, h4⟩
        rw [← h3]; congr 1
        show off + lo * r.sz + (i * r.sz + j) = _
        rw [Nat.add_mul]; omega
theorem give_ok (M : Mem w0 B σ E ok w) {x : T} {v : Value} {c : C × Option Sz} (hx : XRel w ok E x v) (h : give σ x = some (c, σ')) :
    ∃ bs, Given w0 B ok w E σ bs σ' ∧ ∀ l vs bs', CsRel w ok l vs bs' → CsRel w ok (c :: l) (v :: vs) (bs ++ bs') := by
  cases x <;> simp only [give, Option.some.injEq, Prod.mk.injEq, Option.map_eq_some_iff, reduceCtorEq] at h
  case c x =>
    obtain ⟨rfl, rfl⟩ := h
    exact ⟨[], .nil M, fun l vs bs' h => .sh hx h⟩
  case nil =>
    obtain ⟨rfl, rfl⟩ := h
    rw [show v = _ from hx]
    exact ⟨[], .nil M, fun l vs bs' h => .own (r := ⟨none, 0, 0, 0, none⟩) (OwnAt.x ⟨rfl, Nat.le_refl _, by simp, fun _ => rfl, rfl⟩) h⟩
  case row i =>
    obtain ⟨q, hq, rfl, rfl⟩ := h
    obtain ⟨r, hr, rfl⟩ := hx
    obtain ⟨hz, hR⟩ := M.row i r q hr hq
    cases ho : q.ow with
    | true =>
      simp only [if_true]
      obtain ⟨b0, h1, h2, h3⟩ := M.ownX hr hq ho
      refine ⟨b0, given_killR M hr hq _ h2 h3, fun l vs bs' h => ?_⟩
      rw [hz]; exact .own h1 h
    | false =>
      exact ⟨[], .nil M, fun l vs bs' h => .sh (sh_holds (M.sh hr hq ho)) h⟩
  case sl i lo hi =>
    split at h
    · simp at h
    rename_i hdp
    simp only [Option.map_eq_some_iff, Prod.mk.injEq] at h
    obtain ⟨q, hq, rfl, rfl⟩ := h
    have hqf : q.dp = .f := dp_sl (lo := lo) (hi := hi) hq (by simpa using hdp)
    obtain ⟨r, a', hr, h1, h2, rfl, ha⟩ := hx
    obtain ⟨hz, hR⟩ := M.row i r q hr hq
    cases ho : q.ow with
    | true =>
      have hR := M.own hr hq ho hqf
      simp only [if_true]
      refine ⟨(if r.cap - lo = 0 then none else r.κ).toList, given_killR M hr hq _ (by split <;> cases r.κ <;> simp) (fun k hk => ?_), fun l vs bs' h => ?_⟩
      · split at hk
        · simp at hk
        · exact ⟨ho, .inl (by simpa using hk)⟩
      · rw [hz]; exact .own (OwnAt.x (own_cut hR h1 h2 ha)) h
    | false =>
      exact ⟨[], .nil M, fun l vs bs' h => .sh (sl_holds (M.sh hr hq ho) h1 h2 ha) h⟩
theorem gives_ok : ∀ (l : List T) {σ σ' : St} {vs : List Value} {cs : Cs}, Mem w0 B σ E ok w → All2 (XRel w ok E) l vs → gives σ l = some (cs, σ') → ∃ bs, Given w0 B ok w E σ bs σ' ∧ CsRel w ok cs vs bs
  | [], σ, σ', vs, cs, M, hl, h => by cases hl; simp [gives] at h; obtain ⟨rfl, rfl⟩ := h; exact ⟨[], .nil M, .nil⟩
  | x :: l, σ, σ', vs, cs, M, hl, h => by
    cases hl with
    | cons hx hl =>
      simp only [gives, Option.bind_eq_some_iff, Option.map_eq_some_iff, Prod.mk.injEq] at h
      obtain ⟨⟨c, σ1⟩, h1, ⟨cs', σ2⟩, h2, rfl, rfl⟩ := h
      obtain ⟨bs, g1, g2⟩ := give_ok M hx h1
      obtain ⟨bs', g3, g4⟩ := gives_ok l g1.1 hl h2
      exact ⟨bs ++ bs', g1.then g3, g2 _ _ _ g4⟩

/-! lending -/
def Dead (σ : St) : Lend → Prop
  | .b b => boxAt σ b = none
  | .r i => rowAt σ i = none
theorem Dead.less {x : Lend} (h : Dead σ x) (hl : Less σ σ') : Dead σ' x := by
  cases x with
  | b b =>
    simp only [Dead] at h ⊢
    cases hb : boxAt σ' b with
    | none => rfl
    | some l => rw [hl.b b l hb] at h; simp at h
  | r i =>
    simp only [Dead] at h ⊢
    cases hb : rowAt σ' i with
    | none => rfl
    | some l => rw [hl.r i l hb] at h; simp at h
theorem dead_killB (b : Nat) : Dead (setBox σ b none) (.b b) := by
  simp only [Dead, boxAt_set]
  split
  · rfl
  · rename_i h
    cases hb : boxAt σ b with
    | none => rfl
    | some l => exact absurd ⟨trivial, boxAt_lt hb⟩ h
theorem dead_killR (i : Nat) : Dead (setRow σ i none) (.r i) := by
  simp only [Dead, rowAt_set here_none]
  split
  · rfl
  · rename_i h
    cases hb : rowAt σ i with
    | none => rfl
    | some l => exact absurd ⟨trivial, rowAt_lt hb⟩ h
theorem lendAll_ok : ∀ (ls : List Lend) {σ σ' : St} {cs : List Cs}, Mem w0 B σ E ok w → lendAll σ ls = some (cs, σ') →
    ∃ hs bs, All2 (HRel E) ls hs ∧ BackRel w ok hs (cs.map some) bs ∧ Given w0 B ok w E σ bs σ' ∧ ∀ x ∈ ls, Dead σ' x
  | [], σ, σ', cs, M, h => by simp [lendAll] at h; obtain ⟨rfl, rfl⟩ := h; exact ⟨[], [], .nil, .nil, .nil M, by simp⟩
  | .b b :: ls, σ, σ', cs, M, h => by
    simp only [lendAll, Option.bind_eq_some_iff, Option.map_eq_some_iff, Prod.mk.injEq] at h
    obtain ⟨l, hb, ⟨x, σ1⟩, h1, ⟨xs, σ2⟩, h2, rfl, rfl⟩ := h
    obtain ⟨k, hk⟩ : ∃ k, E.β[b]? = some k := ⟨_, List.getElem?_eq_getElem (by rw [M.lb]; exact boxAt_lt hb)⟩
    obtain ⟨t, cs, hc, hl⟩ := M.box b k l hk hb
    have g0 := given_killB M hk hb
    obtain ⟨bs1, g1, r1⟩ := gives_ok l g0.1 hl h1
    obtain ⟨hs, bs2, r2, r3, g2, hd⟩ := lendAll_ok ls g1.1 h2
    refine ⟨.b k :: hs, (k :: bs1) ++ bs2, .cons hk r2, .box t cs hc r1 r3, (g0.then g1).then g2, fun y hy => ?_⟩
    rcases List.mem_cons.1 hy with rfl | hy
    · exact (dead_killB b).less (g1.2.2.2.2.trans g2.2.2.2.2)
    · exact hd y hy
  | .r i :: ls, σ, σ', cs, M, h => by
    simp only [lendAll, Option.bind_eq_some_iff] at h
    obtain ⟨q, hq, h⟩ := h
    split at h
    · rename_i ho
      simp only [Option.map_eq_some_iff, Prod.mk.injEq] at h
      obtain ⟨⟨xs, σ2⟩, h2, rfl, rfl⟩ := h
      obtain ⟨r, hr⟩ : ∃ r, E.ρ[i]? = some r := ⟨_, List.getElem?_eq_getElem (by rw [M.lr]; exact rowAt_lt hq)⟩
      obtain ⟨hz, hR⟩ := M.row i r q hr hq
      obtain ⟨b0, k1, k2, k3⟩ := M.ownX hr hq ho
      have g0 := given_killR M hr hq b0 k2 k3
      obtain ⟨hs, bs2, r2, r3, g2, hd⟩ := lendAll_ok ls g0.1 h2
      refine ⟨.r r :: hs, b0 ++ bs2, .cons hr r2, ?_, g0.then g2, fun y hy => ?_⟩
      · rw [hz]; exact .row k1 r3
      · rcases List.mem_cons.1 hy with rfl | hy
        · exact (dead_killR i).less g2.2.2.2.2
        · exact hd y hy
    · simp at h

/-! the arguments -/
theorem BoxesRel.up {ls ks bs} (h : BoxesRel w ok ls ks bs) (hk : Keep w w' ok ok') (hs : ∀ k ∈ bs, w'.heap[k]? = w.heap[k]?) : BoxesRel w' ok' ls ks bs := by
  induction h with
  | nil => exact .nil
  | cons t cs h1 h2 _ ih => exact .cons t cs ((hs _ (by simp)).trans h1) (h2.up hk fun k hk' => hs k (by simp [hk'])) (ih fun k hk' => hs k (by simp [hk']))
theorem boxes_split : ∀ (bs0 : List Nat) (ks : List Nat) {ls : List Lend} {hs : List H} {cs : List Cs} {bs : List Nat}, All2 (fun b k => E.β[b]? = some k) bs0 ks → All2 (HRel E) (bs0.map .b ++ ls) hs → BackRel w ok hs (cs.map some) bs →
    ∃ hs2 bs1 bs2, hs = ks.map .b ++ hs2 ∧ bs = bs1 ++ bs2 ∧ BoxesRel w ok (cs.take bs0.length) ks bs1 ∧ BackRel w ok hs2 ((cs.drop bs0.length).map some) bs2 ∧ All2 (HRel E) ls hs2
  | [], _, ls, hs, cs, bs, hk, hl, hb => by cases hk; exact ⟨hs, [], bs, rfl, rfl, by simpa using .nil, by simpa using hb, hl⟩
  | b :: bs0, _, ls, hs, cs, bs, hk, hl, hb => by
    cases hk with
    | cons hk hks =>
      simp only [List.map_cons, List.cons_append] at hl
      cases hl with
      | cons hh hl =>
        rename_i k ks h hs'
        cases h with
        | r r => exact hh.elim
        | b k' =>
          have : k' = k := by have hh' : E.β[b]? = some k' := hh; rw [hk] at hh'; cases hh'; rfl
          subst this
          cases cs with
          | nil => cases hb
          | cons c cs =>
            simp only [List.map_cons] at hb
            cases hb with
            | box t cv h1 h2 h3 =>
              obtain ⟨hs2, bs1, bs2, rfl, rfl, g1, g2, g3⟩ := boxes_split bs0 ks hks hl h3
              refine ⟨hs2, _, bs2, rfl, (List.append_assoc _ _ _).symm, ?_, by simpa using g2, g3⟩
              simp only [List.length_cons, List.take_succ_cons]
              exact .cons t cv h1 h2 g1
theorem csH_of_holds {cs : List C} {us : List Value} (h : All2 (Holds w ok) cs us) : CsH w ok (cs.map (·, none)) us [] [] := by
  induction h with
  | nil => exact .nil
  | cons h _ ih => exact .sh h ih
theorem demotes_append (l m : List T) : demotes σ (l ++ m) = demotes (demotes σ l) m := by simp [demotes]
theorem elems_demotes (y : T) : ∀ (l : List T) (σ : St), elems (demotes σ l) y = elems σ y
  | [], _ => rfl
  | x :: l, σ => by show elems (demotes (demote σ x) l) y = _; rw [elems_demotes y l, elems_demote]
theorem view_demotes (l : List T) (σ : St) (y : T) : view (demotes σ l) y = view σ y := by
  cases y <;> simp only [view, elems_demotes]
theorem views_demotes (l : List T) (σ : St) : ∀ y, views (demotes σ l) y = views σ y
  | [] => rfl
  | y :: ys => by simp only [views, view_demotes, views_demotes l σ ys]
theorem agA_demotes (m : List T) (σ : St) : ∀ (x : List T) (cs : List Cs), agA (demotes σ m) x cs = agA σ x cs := by
  intro x
  induction x with
  | nil => intro cs; rfl
  | cons y x ih => intro cs; cases y <;> simp only [agA, view_demotes, ih]
theorem argsA_demotes (md : Bool) (m : List T) (σ : St) : ∀ (l : List T) (cs : List Cs), argsA md (demotes σ m) l cs = argsA md σ l cs := by
  intro l
  induction l with
  | nil => intro cs; cases cs <;> rfl
  | cons x l ih =>
    intro cs
    cases x with
    | bp b o => cases cs <;> simp only [argsA, ih, view_demotes]
    | row i =>
      cases md with
      | false => simp only [argsA, ih, view_demotes]
      | true => cases cs with
        | nil => simp only [argsA, if_true]
        | cons c cs => cases c with
          | nil => simp only [argsA, if_true]
          | cons c c' => cases c' <;> simp only [argsA, ih, if_true]
    | ag x => simp only [argsA, ih, views_demotes, agA_demotes]
    | _ => simp only [argsA, ih, view_demotes]
theorem mut_demotes {x : Mt} {k : Nat} : ∀ (l : List T) {σ : St}, mutAt (demotes σ l) E x = some k → mutAt σ E x = some k
  | [], _, h => h
  | _ :: l, _, h => mut_demote (mut_demotes l h)
theorem agA_ok : ∀ (x : List T) {σ : St} {ok : Nat → Prop} {us : List Value} {rest : List Lend} {hs : List H} {cs cs' : List Cs} {y : Cs} {bs : List Nat}, Mem w0 B σ E ok w → All2 (XRel w ok E) x us → All2 (HRel E) (agLent x ++ rest) hs → BackRel w ok hs (cs.map some) bs → agA σ x cs = some (y, cs') →
    ∃ okc hs1 hs2 bs1 bs2, hs = hs1 ++ hs2 ∧ bs = bs1 ++ bs2 ∧ Mem w0 B (demotes σ x) E okc w ∧ (∀ k, ok k → okc k) ∧ (∀ k, okc k → ok k ∨ Muts σ E k) ∧ CsH w okc y us hs1 bs1 ∧ All2 (HRel E) rest hs2 ∧ BackRel w okc hs2 (cs'.map some) bs2 := by
  intro x
  induction x with
  | nil =>
    intro σ ok us rest hs cs cs' y bs M ha hl hb h
    cases ha
    simp only [agA, Option.some.injEq, Prod.mk.injEq] at h
    obtain ⟨rfl, rfl⟩ := h
    exact ⟨ok, [], hs, [], bs, rfl, rfl, M, fun _ h => h, fun _ h => .inl h, .nil, hl, hb⟩
  | cons z x ih =>
    intro σ ok us rest hs cs cs' y bs M ha hl hb h
    cases ha with
    | cons hx ha =>
    rename_i v vs
    have e : demotes σ (z :: x) = demotes (demote σ z) x := rfl
    have e1 : demotes σ [z] = demote σ z := rfl
    have look : ∀ c, agLent (z :: x) = agLent x → view σ z = some c → ∀ y', agA σ x cs = some (y', cs') → ∃ okc hs1 hs2 bs1 bs2, hs = hs1 ++ hs2 ∧ bs = bs1 ++ bs2 ∧ Mem w0 B (demotes σ (z :: x)) E okc w ∧ (∀ k, ok k → okc k) ∧ (∀ k, okc k → ok k ∨ Muts σ E k) ∧ CsH w okc ((c, none) :: y') (v :: vs) hs1 bs1 ∧ All2 (HRel E) rest hs2 ∧ BackRel w okc hs2 (cs'.map some) bs2 := by
      intro c hlent hv y' hy
      obtain ⟨ok1, M1, u1, u1', hc⟩ := view_rel M hx hv
      rw [hlent] at hl
      obtain ⟨okc, hs1, hs2, bs1, bs2, rfl, rfl, M2, u2, u2', h1, h2, h3⟩ := ih M1 (ha.imp fun _ _ h => XRel.keep (keep_up u1) (.refl _) h) hl (hb.up (keep_up u1) fun _ _ => rfl) (by rw [← e1, agA_demotes]; exact hy)
      exact ⟨okc, hs1, hs2, bs1, bs2, rfl, rfl, M2, fun k h => u2 k (u1 k h), fun k h => (u2' k h).elim (u1' k) (fun ⟨x, hx⟩ => .inr ⟨x, mut_demote hx⟩), .sh (hc.keep (keep_up u2)) h1, h2, h3⟩
    cases z with
    | row i =>
      simp only [agA] at h
      split at h
      · rename_i c o cs2
        simp only [Option.map_eq_some_iff, Prod.mk.injEq] at h
        obtain ⟨⟨y', cs3⟩, hy, rfl, rfl⟩ := h
        obtain ⟨r, hr, rfl⟩ := hx
        simp only [agLent, List.cons_append] at hl
        cases hl with
        | cons hh hl =>
          rename_i hh' hs'
          cases hh' with
          | b k => exact hh.elim
          | r r' =>
            have : r' = r := by have hh' : E.ρ[i]? = some r' := hh; rw [hr] at hh'; cases hh'; rfl
            subst this
            simp only [List.map_cons] at hb
            generalize hcc : some [(c, o)] = cc at hb
            cases hb with
            | gone _ => simp at hcc
            | row h1 h3 =>
              simp only [Option.some.injEq, List.cons.injEq, Prod.mk.injEq, and_true] at hcc
              obtain ⟨rfl, rfl⟩ := hcc
              obtain ⟨ok1, M1, u1, u1'⟩ := M.demote (.row i)
              obtain ⟨okc, hs1, hs2, bs1, bs2, rfl, rfl, M2, u2, u2', g1, g2, g3⟩ := ih M1 (ha.imp fun _ _ h => XRel.keep (keep_up u1) (.refl _) h) hl (h3.up (keep_up u1) fun _ _ => rfl) (by rw [← e1, agA_demotes]; exact hy)
              exact ⟨okc, .r r' :: hs1, hs2, _, bs2, rfl, (List.append_assoc _ _ _).symm, M2, fun k h => u2 k (u1 k h), fun k h => (u2' k h).elim (u1' k) (fun ⟨x, hx⟩ => .inr ⟨x, mut_demote hx⟩), .own (h1.keep (keep_up fun k h => u2 k (u1 k h)) fun _ _ => rfl) g1, g2, g3⟩
      · simp at h
    | _ =>
      simp only [agA, Option.bind_eq_some_iff, Option.map_eq_some_iff, Prod.mk.injEq] at h
      obtain ⟨c, hv, ⟨y', cs3⟩, hy, rfl, rfl⟩ := h
      exact look c rfl hv y' hy
theorem argsA_ok (md : Bool) : ∀ (args : List T) {σ : St} {ok : Nat → Prop} {vs : List Value} {hs : List H} {cs : List Cs} {xs : List A} {bs : List Nat}, Mem w0 B σ E ok w → All2 (TRel w ok E) args vs → All2 (HRel E) (lentOf md args) hs → BackRel w ok hs (cs.map some) bs → argsA md σ args cs = some xs →
    ∃ okc, Mem w0 B (demotes σ (seenRows args)) E okc w ∧ (∀ k, ok k → okc k) ∧ (∀ k, okc k → ok k ∨ Muts σ E k) ∧ ArgsRel w okc xs vs hs bs := by
  intro args
  induction args with
  | nil =>
    intro σ ok vs hs cs xs bs M ha hl hb h
    cases ha; cases hl
    cases cs with
    | cons c cs => simp [argsA] at h
    | nil =>
      cases hb
      simp [argsA] at h; subst h
      exact ⟨ok, M, fun _ h => h, fun _ h => .inl h, .nil⟩
  | cons x args ih =>
    intro σ ok vs hs cs xs bs M ha hl hb h
    cases ha with
    | cons hx ha =>
    rename_i v vs
    -- one that is looked at
    have look : ∀ c, XRel w ok E x v → lentOf md (x :: args) = lentOf md args → view σ x = some c → seenRows (x :: args) = x :: seenRows args → ∀ xs', argsA md σ args cs = some xs' → ∃ okc, Mem w0 B (demotes σ (seenRows (x :: args))) E okc w ∧ (∀ k, ok k → okc k) ∧ (∀ k, okc k → ok k ∨ Muts σ E k) ∧ ArgsRel w okc (.c c none :: xs') (v :: vs) hs bs := by
      intro c hx hlent hv hseen xs' hxs
      obtain ⟨ok1, M1, u1, u1', hc⟩ := view_rel M hx hv
      rw [hlent] at hl
      have e : demotes σ [x] = demote σ x := rfl
      obtain ⟨okc, M2, u2, u2', hA⟩ := ih M1 (ha.imp fun _ _ h => h.keep (keep_up u1) (.refl _)) hl (hb.up (keep_up u1) fun _ _ => rfl) (by rw [← e, argsA_demotes]; exact hxs)
      rw [hseen]
      exact ⟨okc, M2, fun k h => u2 k (u1 k h), fun k h => (u2' k h).elim (u1' k) (fun ⟨x, hx⟩ => .inr ⟨x, mut_demote hx⟩), .sh (hc.keep (keep_up u2)) hA⟩
    cases x with
    | bp b o =>
      cases cs with
      | nil => simp [argsA, view, elems] at h
      | cons c cs =>
        simp only [argsA] at h
        split at h
        · rename_i ho
          subst ho
          simp only [Option.map_eq_some_iff] at h
          obtain ⟨xs', hxs, rfl⟩ := h
          obtain ⟨k, hk, rfl⟩ := hx
          simp only [lentOf] at hl
          cases hl with
          | cons hh hl =>
            rename_i hh' hs'
            cases hh' with
            | r r => exact hh.elim
            | b k' =>
              have : k' = k := by have hh' : E.β[b]? = some k' := hh; rw [hk] at hh'; cases hh'; rfl
              subst this
              simp only [List.map_cons] at hb
              cases hb with
              | box t cv h1 h2 h3 =>
                obtain ⟨okc, M2, u2, u2', hA⟩ := ih M ha hl h3 hxs
                exact ⟨okc, M2, u2, u2', .p t cv h1 (h2.up (keep_up u2) fun _ _ => rfl) hA⟩
        · simp at h
    | fn g bs0 =>
      simp only [argsA] at h
      split at h
      · simp only [Option.map_eq_some_iff] at h
        obtain ⟨xs', hxs, rfl⟩ := h
        obtain ⟨ks, rfl, hks⟩ := hx
        simp only [lentOf] at hl
        obtain ⟨hs2, bs1, bs2, rfl, rfl, g1, g2, g3⟩ := boxes_split bs0 ks hks hl hb
        obtain ⟨okc, M2, u2, u2', hA⟩ := ih M ha g3 g2 hxs
        exact ⟨okc, M2, u2, u2', .f (g1.up (keep_up u2) fun _ _ => rfl) hA⟩
      · simp at h
    | ag x =>
      cases md with
      | true =>
      simp only [argsA, if_true, Option.bind_eq_some_iff, Option.map_eq_some_iff] at h
      obtain ⟨⟨y, cs2⟩, hv, xs', hxs, rfl⟩ := h
      obtain ⟨us, rfl, hus⟩ := hx
      simp only [lentOf, if_true] at hl
      obtain ⟨ok1, hs1, hs2, bs1, bs2, rfl, rfl, M1, u1, u1', g1, g2, g3⟩ := agA_ok x M hus hl hb hv
      obtain ⟨okc, M2, u2, u2', hA⟩ := ih M1 (ha.imp fun _ _ h => h.keep (keep_up u1) (.refl _)) g2 g3 (by rw [argsA_demotes]; exact hxs)
      refine ⟨okc, ?_, fun k h => u2 k (u1 k h), fun k h => (u2' k h).elim (u1' k) (fun ⟨y, hy⟩ => .inr ⟨y, mut_demotes x hy⟩), ?_⟩
      · simp only [seenRows, demotes_append]; exact M2
      · have := ArgsRel.ag (g1.up (keep_up u2) fun _ _ => rfl) hA
        simpa using this
      | false =>
      simp only [argsA, Bool.false_eq_true, if_false, Option.bind_eq_some_iff, Option.map_eq_some_iff] at h
      obtain ⟨x', hv, xs', hxs, rfl⟩ := h
      obtain ⟨us, rfl, hus⟩ := hx
      simp only [lentOf, Bool.false_eq_true, if_false] at hl
      obtain ⟨ok1, M1, u1, u1', hc⟩ := views_rel x _ _ M hus hv
      obtain ⟨okc, M2, u2, u2', hA⟩ := ih M1 (ha.imp fun _ _ h => h.keep (keep_up u1) (.refl _)) hl (hb.up (keep_up u1) fun _ _ => rfl) (by rw [argsA_demotes]; exact hxs)
      refine ⟨okc, ?_, fun k h => u2 k (u1 k h), fun k h => (u2' k h).elim (u1' k) (fun ⟨y, hy⟩ => .inr ⟨y, mut_demotes x hy⟩), ?_⟩
      · simp only [seenRows, demotes_append]; exact M2
      · have := ArgsRel.ag (csH_of_holds (hc.imp fun _ _ h => h.keep (keep_up u2))) hA
        simpa using this
    | row i =>
      cases md with
      | false =>
        simp only [argsA, Bool.false_eq_true, if_false, Option.bind_eq_some_iff, Option.map_eq_some_iff] at h
        obtain ⟨c, hv, xs', hxs, rfl⟩ := h
        exact look c hx rfl hv rfl xs' hxs
      | true =>
        simp only [argsA, if_true] at h
        split at h
        · rename_i x o cs
          simp only [Option.map_eq_some_iff] at h
          obtain ⟨xs', hxs, rfl⟩ := h
          obtain ⟨r, hr, rfl⟩ := hx
          simp only [lentOf, if_true] at hl
          cases hl with
          | cons hh hl =>
            rename_i hh' hs'
            cases hh' with
            | b k => exact hh.elim
            | r r' =>
              have : r' = r := by have hh' : E.ρ[i]? = some r' := hh; rw [hr] at hh'; cases hh'; rfl
              subst this
              simp only [List.map_cons] at hb
              generalize hcc : some [(x, o)] = cc at hb
              cases hb with
              | gone _ => simp at hcc
              | row h1 h3 =>
                simp only [Option.some.injEq, List.cons.injEq, Prod.mk.injEq, and_true] at hcc
                obtain ⟨rfl, rfl⟩ := hcc
                obtain ⟨ok1, M1, u1, u1'⟩ := M.demote (.row i)
                have e : demotes σ [.row i] = demote σ (.row i) := rfl
                obtain ⟨okc, M2, u2, u2', hA⟩ := ih M1 (ha.imp fun _ _ h => h.keep (keep_up u1) (.refl _)) hl (h3.up (keep_up u1) fun _ _ => rfl) (by rw [← e, argsA_demotes]; exact hxs)
                exact ⟨okc, M2, fun k h => u2 k (u1 k h), fun k h => (u2' k h).elim (u1' k) (fun ⟨x, hx⟩ => .inr ⟨x, mut_demote hx⟩), .own (h1.keep (keep_up fun k h => u2 k (u1 k h)) fun _ _ => rfl) hA⟩
        · simp at h
    | c x =>
      simp only [argsA, Option.bind_eq_some_iff, Option.map_eq_some_iff] at h
      obtain ⟨c, hv, xs', hxs, rfl⟩ := h
      exact look c hx rfl hv rfl xs' hxs
    | nil =>
      simp only [argsA, Option.bind_eq_some_iff, Option.map_eq_some_iff] at h
      obtain ⟨c, hv, xs', hxs, rfl⟩ := h
      exact look c hx rfl hv rfl xs' hxs
    | sl i lo hi =>
      simp only [argsA, Option.bind_eq_some_iff, Option.map_eq_some_iff] at h
      obtain ⟨c, hv, xs', hxs, rfl⟩ := h
      exact look c hx rfl hv rfl xs' hxs
    | _ => simp [argsA, view, elems] at h

/-! taking back -/
theorem mut_setB {b : Nat} {l : Option (List T)} {x : Mt} {j : Nat} (h : mutAt (setBox σ b l) E x = some j) : mutAt σ E x = some j ∨ E.β[b]? = some j := by
  cases x with
  | r i => exact .inl h
  | d i m => exact .inl h
  | b b' =>
    simp only [mutAt, boxAt_set] at h
    by_cases hbb : b = b' ∧ b < σ.bx.length
    · obtain ⟨rfl, hlt⟩ := hbb
      simp only [hlt, and_self, if_true] at h
      cases l with
      | none => simp at h
      | some l => exact .inr h
    · simp only [hbb, if_false] at h; exact .inl h
theorem mut_setR {i : Nat} {q : Row} {D : List Nat} {x : Mt} {j : Nat} (h : mutAt (setRow σ i (some q)) ⟨E.β, E.ρ, upd E.δ i D⟩ x = some j) : mutAt σ E x = some j ∨ (E.ρ[i]?).bind (·.κ) = some j ∨ (q.dp ≠ .f ∧ j ∈ D) := by
  cases x with
  | b i => exact .inl h
  | r b' =>
    simp only [mutAt, rawAt_set] at h ⊢
    by_cases hbb : i = b' ∧ i < σ.rw.length
    · obtain ⟨rfl, hlt⟩ := hbb
      simp only [hlt, and_self, if_true] at h
      split at h
      · exact .inr (.inl h)
      · simp at h
    · simp only [hbb, if_false] at h; exact .inl h
  | d b' m =>
    simp only [mutAt, rawAt_set, upd] at h ⊢
    by_cases hbb : i = b' ∧ i < σ.rw.length
    · obtain ⟨rfl, hlt⟩ := hbb
      simp only [hlt, and_self, if_true] at h
      split at h
      · split at h
        · simp at h
        · rename_i hp; exact .inr (.inr ⟨hp, List.mem_of_getElem? h⟩)
      · simp at h
    · simp only [hbb, if_false] at h
      cases hr : rawAt σ b' with
      | none => simp [hr] at h
      | some q' =>
        have hne : b' ≠ i := by rintro rfl; exact hbb ⟨rfl, rawAt_lt hr⟩
        simp only [hr, hne, if_false] at h
        exact .inl h
theorem Dead.ext {x : Lend} {h : H} (hd : Dead σ x) (hE : HRel E x h) (M : Mem w0 B σ E ok w) (he : Ext σ σ') : Dead σ' x := by
  cases x with
  | b b =>
    cases h with
    | r _ => exact hE.elim
    | b k =>
      have hlt : b < σ.bx.length := by rw [← M.lb]; exact (List.getElem?_eq_some_iff.mp (show E.β[b]? = some k from hE)).1
      exact (he.b b hlt).trans hd
  | r i =>
    cases h with
    | b _ => exact hE.elim
    | r r =>
      have hlt : i < σ.rw.length := by rw [← M.lr]; exact (List.getElem?_eq_some_iff.mp (show E.ρ[i]? = some r from hE)).1
      exact (he.row i hlt).trans hd
theorem all2_mem {α β : Type} {R : α → β → Prop} {l : List α} {m : List β} (h : All2 R l m) : ∀ x ∈ l, ∃ y ∈ m, R x y := by
  induction h with
  | nil => simp
  | cons h _ ih =>
    intro x hx
    rcases List.mem_cons.1 hx with rfl | hx
    · exact ⟨_, by simp, h⟩
    · obtain ⟨y, h1, h2⟩ := ih x hx; exact ⟨y, by simp [h1], h2⟩
theorem takeAll_ok : ∀ (ls : List Lend) {σ σ' : St} {E : Env} {hs : List H} {xs : List (Option Cs)} {bs : List Nat}, All2 (HRel E) ls hs → BackRel w ok hs xs bs → Mem w0 B σ E ok w → Free w0 B ok σ E bs → ls.Nodup → (∀ x ∈ ls, Dead σ x) → takeAll σ ls xs = some σ' →
    ∃ E', Mem w0 B σ' E' ok w ∧ E.Le E' := by
  intro ls
  induction ls with
  | nil =>
    intro σ σ' E hs xs bs hl hb M _ _ _ h
    cases hl; cases hb
    simp [takeAll] at h; subst h
    exact ⟨E, M, .refl _⟩
  | cons x ls ih =>
    intro σ σ' E hs xs bs hl hb M hf hnd hd h
    obtain ⟨hnx, hnd'⟩ := List.nodup_cons.1 hnd
    cases hl with
    | cons hh hl =>
    cases hb with
    | @box l k hs xs bs1 bs2 t cv h1 h2 h3 =>
      cases x with
      | r i => exact hh.elim
      | b b =>
        simp only [takeAll] at h
        obtain ⟨f1, f2, f3⟩ := hf.left.ok k (by simp)
        have hf1 : Free w0 B ok σ E bs1 := ⟨(List.nodup_cons.1 hf.left.nd).2, fun j hj => hf.ok j (by simp [hj])⟩
        obtain ⟨E1, ⟨g1, g2, g3, g4⟩, g5⟩ := tells_ok h2 M hf1
        have hk : E1.β[b]? = some k := g2.b _ _ hh
        have hdead : Dead (tells σ l).2 (.b b) := (hd (.b b) (by simp)).ext (h := .b k) hh M g4
        have hnm : ¬ Muts (tells σ l).2 E1 k := fun hm => (g3 k hm).elim f3 fun hm => (List.nodup_cons.1 hf.left.nd).1 hm
        have M1 := g1.setB hk hdead ⟨t, cv, h1, g5⟩ f1 f2 fun x hx => hnm ⟨x, hx⟩
        have hmuts : ∀ j, Muts (setBox (tells σ l).2 b (some (tells σ l).1)) E1 j → Muts σ E j ∨ j ∈ k :: bs1 := by
          rintro j ⟨x, hx⟩
          rcases mut_setB hx with hx | hx
          · exact (g3 j ⟨x, hx⟩).imp id fun h => by simp [h]
          · rw [hk] at hx; cases hx; exact .inr (by simp)
        have hd' : ∀ y ∈ ls, Dead (setBox (tells σ l).2 b (some (tells σ l).1)) y := by
          intro y hy
          obtain ⟨hy', _, hyr⟩ := all2_mem hl y hy
          have := (hd y (by simp [hy])).ext hyr M g4
          cases y with
          | r i => exact this
          | b b' =>
            simp only [Dead, boxAt_set] at this ⊢
            rw [if_neg (by rintro ⟨rfl, _⟩; exact hnx hy), this]
        obtain ⟨E2, M2, hle⟩ := ih (hl.imp fun _ _ h => h.le g2) h3 M1 (hf.right hmuts) hnd' hd' h
        exact ⟨E2, M2, g2.trans hle⟩
    | @row r d x' b0 hs xs bs h1 h3 =>
      cases x with
      | b i => exact hh.elim
      | r i =>
        simp only [takeAll] at h
        have hk : E.ρ[i]? = some r := hh
        obtain ⟨D, rfl, h1, h1'⟩ := h1
        have hlt : ∀ k ∈ D, k < w.heap.size := by
          intro k hkD
          cases d with
          | false => rw [h1' rfl] at hkD; simp at hkD
          | true =>
            obtain ⟨off, t, cs, u, f, a1, a2, a3, a4, a5, a6, a7, a8, a9, _⟩ := h1
            obtain ⟨i, j, hi, hj, _, hb⟩ := (a9 k).1 hkD
            have hel : x'[i]? = some (x'[i]'(by omega)) := List.getElem?_eq_getElem _
            have hc : (x'[i]'(by omega))[j]? = some ((x'[i]'(by omega))[j]'(by rw [a3 _ (List.mem_of_getElem? hel)]; omega)) := List.getElem?_eq_getElem _
            exact dh_lt (a8 i j _ _ hel hc (by simp)).1 k hb
        have hRq : RowOk w ok D r ⟨r.sz, x', true, .of d⟩ := ⟨rfl, by simpa using h1⟩
        have M1 := M.setRD (D := D) hk hRq (fun k _ hκ => by
          obtain ⟨f1, f2, f3⟩ := hf.ok k (by simp [show r.κ = some k from hκ])
          exact ⟨f1, f2, own_lt hRq rfl hκ, fun x hx => f3 ⟨x, mut_kill_le hx⟩⟩) fun _ _ => ⟨(List.nodup_append.1 (hf.left).nd).2.1, fun k hkD => by
          obtain ⟨f1, f2, f3⟩ := hf.ok k (by simp [hkD])
          exact ⟨fun e => (List.nodup_append.1 (hf.left).nd).2.2 k (by simp [show r.κ = some k from e]) k hkD rfl, f1, f2, hlt k hkD, fun x hx => f3 ⟨x, mut_kill_le hx⟩⟩⟩
        have hmuts : ∀ j, Muts (setRow σ i (some ⟨r.sz, x', true, .of d⟩)) ⟨E.β, E.ρ, upd E.δ i D⟩ j → Muts σ E j ∨ j ∈ r.κ.toList ++ D := by
          rintro j ⟨x, hx⟩
          rcases mut_setR hx with hx | hx | ⟨_, hx⟩
          · exact .inl ⟨x, hx⟩
          · rw [hk] at hx; exact .inr (by simp [show r.κ = some j from hx])
          · exact .inr (by simp [hx])
        have hd' : ∀ y ∈ ls, Dead (setRow σ i (some ⟨r.sz, x', true, .of d⟩)) y := by
          intro y hy
          have := hd y (by simp [hy])
          cases y with
          | b i => exact this
          | r b' =>
            simp only [Dead, rowAt_setH] at this ⊢
            rw [if_neg (by rintro ⟨rfl, _⟩; exact hnx hy), this]
        obtain ⟨E2, M2, hle⟩ := ih (hl.imp fun _ _ h => h.le (E' := ⟨E.β, E.ρ, upd E.δ i D⟩) ⟨fun _ _ h => h, fun _ _ h => h⟩) h3 M1 (hf.right hmuts) hnd' hd' h
        exact ⟨E2, M2, ⟨hle.b, hle.r⟩⟩
    | gone h3 =>
      cases x with
      | b i => exact hh.elim
      | r i =>
        simp only [takeAll] at h
        exact ih hl h3 M hf hnd' (fun y hy => hd y (by simp [hy])) h
/-! clear -/
theorem zeroCells_get {z0 : Array Value} {n p q : Nat} (hp : p < n) (hq : q < z0.size) : (Builtin.zeroCells z0 n).toList[p * z0.size + q]? = z0[q]? := by
  have hlt : p * z0.size + q < n * z0.size := by
    have : (p + 1) * z0.size ≤ n * z0.size := Nat.mul_le_mul_right _ hp
    rw [Nat.add_mul] at this; omega
  have e : (p * z0.size + q) % z0.size = q := by rw [Nat.mul_comm, Nat.mul_add_mod]; exact Nat.mod_eq_of_lt hq
  simp [Builtin.zeroCells, hlt, e, hq]
theorem run_clear_z {w : World} {t e : TypeId} {z : Nat} {z0 : Value} (ht : P.underlying t = some (.slice e)) (hz : ∀ w, (zeroValue e).run P w = .ok z0 w) (hc : z0.cells.size = z) (h1 : ∀ u ∈ z0.cells.toList, u.oneCell' = true) {b o n : Nat} (hn : 0 < n) {cs : Array Value} {tb : TypeId}
    (hh : w.heap[b]? = some (.cells cs tb (0, 0))) (hs : o + n * z ≤ cs.size) :
    ∃ w', (∀ ty c, (Builtin.clear_ #[t] ty #[.slice (some ⟨b, o, none⟩) n c]).run P w = .ok (.tuple #[]) w') ∧ Poked w b (over cs o (Builtin.zeroCells z0.cells n).toList) w' ∧ w'.heap[b]? = some (.cells (over cs o (Builtin.zeroCells z0.cells n).toList) tb (0, 0)) := by
  have hl : (Builtin.zeroCells z0.cells n).toList.length = n * z := by simp [Builtin.zeroCells, hc]
  obtain ⟨w', r1, r2, r3⟩ := run_storeCells (P := P) (Builtin.zeroCells z0.cells n).toList o 0 cs w hh (by rw [hl]; omega) (fun u hu => by
    simp only [Builtin.zeroCells, Array.toList_map, List.mem_map] at hu
    obtain ⟨k, hk, rfl⟩ := hu
    have hk2 : k < n * z0.cells.size := by simpa using hk
    have hpos : 0 < z0.cells.size := by
      rcases Nat.eq_zero_or_pos z0.cells.size with h | h
      · rw [h] at hk2; omega
      · exact h
    have hm := Nat.mod_lt k hpos
    rw [getElem!_pos z0.cells (k % z0.cells.size) hm]
    exact h1 _ (by simp))
  rw [Nat.add_zero] at r2 r3
  refine ⟨w', fun ty c => ?_, r2, r3⟩
  obtain ⟨m, rfl⟩ : ∃ m, n = m + 1 := ⟨n - 1, by omega⟩
  simp [Builtin.clear_, run_und ht, hz, r1]
theorem ok_clear (M : Mem w0 B σ E ok w) {x y : T} {xv : Value} {t ty : TypeId} (hx : TRel w ok E x xv) (h : opClear P σ t x = some (y, σ')) :
    ∃ w', (Builtin.clear_ #[t] ty #[xv]).run P w = .ok (.tuple #[]) w' ∧ StepR w0 B w ok E σ' y (.tuple #[]) w' := by
  unfold opClear at h
  simp only [Option.bind_eq_some_iff] at h
  obtain ⟨e, he, i, hi, z, hz, zl, hzl, cs, hcs, h⟩ := h
  split at h
  case isFalse => simp at h
  rename_i hc
  obtain ⟨c1, c2, c3⟩ := hc
  cases x <;> try (simp at h; done)
  case sl j lo hi' =>
    simp only [Option.bind_eq_some_iff] at h
    obtain ⟨q, hq, h⟩ := h
    split at h
    case isFalse => simp at h
    rename_i hd
    obtain ⟨how, hqf, hsz, hlo, hhi⟩ := hd
    simp only [Option.some.injEq, Prod.mk.injEq] at h
    obtain ⟨rfl, rfl⟩ := h
    have hzr : All2 (XRel w ok E) zl z.cells.toList := (constT_rel (w := w) (ok := ok) (E := E) z).flat hzl
    obtain ⟨ok1, M1, hup, _, hv1⟩ := views_rel zl _ cs M hzr hcs
    obtain ⟨r, a', hr, h1, h2, rfl, h4⟩ := hx
    have hR := M1.row j r q hr hq
    have hO : OwnAt w ok1 r q.l := M1.own hr hq how hqf
    obtain ⟨o1, o2, o3, o4, o5⟩ := hO
    have hlen : (q.l.take lo ++ List.replicate (hi' - lo) cs ++ q.l.drop hi').length = r.n := by simp; omega
    have hsr : r.sz = i.size := by rw [← hR.1, hsz]
    have hwid : ∀ el ∈ q.l.take lo ++ List.replicate (hi' - lo) cs ++ q.l.drop hi', el.length = r.sz := by
      intro el hel
      rcases List.mem_append.1 hel with h | h
      · rcases List.mem_append.1 h with h | h
        · exact o3 _ (List.mem_of_mem_take h)
        · rw [(List.mem_replicate.1 h).2, c1, hsr]
      · exact o3 _ (List.mem_of_mem_drop h)
    by_cases hne : hi' - lo = 0
    · have e : q.l.take lo ++ List.replicate (hi' - lo) cs ++ q.l.drop hi' = q.l := by
        rw [hne, show hi' = lo by omega]; simp
      rw [e]
      have M2 := (M1.killR j).setR hr hqf (show RowOk w ok1 [] r q from ⟨hR.1, by have := hR.2; rw [hqf] at this ⊢; exact this⟩) fun k h1 h2 => by
        have hm := M1.mine (.r j) k (mut_r hr hq h1 h2)
        exact ⟨hm.1, hm.2.1, fun x hx => (mut_killR hx).1 (M1.dis x (.r j) k (mut_killR hx).2 (mut_r hr hq h1 h2))⟩
      rw [setRow_none_some] at M2
      refine ⟨w, ?_, E, ok1, M2, .refl _, fun k hk _ => ⟨rfl, hup k hk⟩, ⟨#[], rfl, .nil⟩⟩
      rw [hne]
      cases a' <;> simp [Builtin.clear_, run_und (und_elOf he)]
    · cases hκ : r.κ with
      | none => rw [hκ] at o5; simp only at o5; omega
      | some k =>
        rw [hκ] at o5
        simp only at o5
        obtain ⟨off, t0, c0, g1, g2, g3, g4⟩ := o5
        obtain ⟨ad, ha1, ha2⟩ := h4 (by omega)
        rw [g1] at ha1; cases ha1
        subst ha2
        rw [add_none]
        have hmul1 : lo * r.sz + (hi' - lo) * r.sz = hi' * r.sz := by rw [← Nat.add_mul]; congr 1; omega
        have hmul2 : hi' * r.sz ≤ r.cap * r.sz := Nat.mul_le_mul_right _ (by omega)
        have hone : ∀ u ∈ z.cells.toList, u.oneCell' = true := fun u hu => by
          obtain ⟨p, hp⟩ := List.getElem?_of_mem hu
          have hlt : p < cs.length := by rw [hv1.len]; exact (List.getElem?_eq_some_iff.mp hp).1
          obtain ⟨u', q1, q2⟩ := hv1.get p _ (List.getElem?_eq_getElem hlt)
          rw [hp] at q1; cases q1; exact q2.one
        obtain ⟨w', f1, f2, f3⟩ := run_clear_z (P := P) (w := w) (z := r.sz) (und_elOf he) (fun w => run_zero hi hz) (by rw [c2, hsr]) hone (b := k) (o := off + lo * r.sz) (n := hi' - lo) (by omega) g2 (by omega)
        have hZ : (Builtin.zeroCells z.cells (hi' - lo)).toList.length = (hi' - lo) * r.sz := by simp [Builtin.zeroCells, c2, hsr]
        have hm := M1.mine (.r j) k (mut_r hr hq how hκ)
        have hdd : ∀ x, mutAt (setRow (demotes σ zl) j none) E x ≠ some k := fun x hx => (mut_killR hx).1 (M1.dis x (.r j) k (mut_killR hx).2 (mut_r hr hq how hκ))
        obtain ⟨M2, kp⟩ := (M1.killR j).poke f2 hdd hm.1 hm.2.1
        have lt_of : ∀ a b c : Nat, a < b → c < r.sz → a * r.sz + c < b * r.sz := fun a b c h hz => by
          have : (a + 1) * r.sz ≤ b * r.sz := Nat.mul_le_mul_right _ h
          rw [Nat.add_mul] at this; omega
        have hrow : RowOk w' ok1 [] r { q with l := q.l.take lo ++ List.replicate (hi' - lo) cs ++ q.l.drop hi' } := by
          refine ⟨hR.1, ?_⟩
          simp only [how, if_true, hqf]
          refine ⟨hlen, o2, hwid, o4, ?_⟩
          simp only [hκ]
          refine ⟨off, t0, _, g1, f3, by rw [over_size (by omega)]; exact g3, fun p b el c hp hb => ?_⟩
          have hbl : b < r.sz := by rw [← hwid el (List.mem_of_getElem? hp)]; exact (List.getElem?_eq_some_iff.mp hb).1
          rw [over_get (by omega)]
          have htl : (q.l.take lo).length = lo := by simp; omega
          by_cases p1 : p < lo
          · rw [List.append_assoc, List.getElem?_append_left (by omega), List.getElem?_take, if_pos p1] at hp
            have := lt_of p lo b p1 hbl
            rw [if_neg (by omega)]
            obtain ⟨u, u1, u2⟩ := g4 p b el c hp hb
            exact ⟨u, u1, u2.keep kp⟩
          · by_cases p2 : p < hi'
            · rw [List.getElem?_append_left (by simp; omega), List.getElem?_append_right (by omega), htl] at hp
              have he2 := (List.mem_replicate.1 (List.mem_of_getElem? hp)).2
              subst he2
              have e3 : p * r.sz = lo * r.sz + (p - lo) * r.sz := by rw [← Nat.add_mul]; congr 1; omega
              have := lt_of (p - lo) (hi' - lo) b (by omega) hbl
              rw [if_pos (by omega)]
              obtain ⟨u, u1, u2⟩ := hv1.get b c hb
              refine ⟨u, ?_, u2.keep kp⟩
              rw [show off + (p * r.sz + b) - (off + lo * r.sz) = (p - lo) * z.cells.size + b by rw [c2, ← hsr]; omega, zeroCells_get (by omega) (by rw [c2, ← hsr]; exact hbl)]
              simpa using u1
            · rw [List.getElem?_append_right (by simp; omega), List.getElem?_drop] at hp
              rw [show hi' + (p - (q.l.take lo ++ List.replicate (hi' - lo) cs).length) = p by simp; omega] at hp
              have e3 : hi' * r.sz ≤ p * r.sz := Nat.mul_le_mul_right _ (by omega)
              rw [if_neg (by omega)]
              obtain ⟨u, u1, u2⟩ := g4 p b el c hp hb
              exact ⟨u, u1, u2.keep kp⟩
        have M3 := M2.setR (q := { q with l := q.l.take lo ++ List.replicate (hi' - lo) cs ++ q.l.drop hi' }) hr hqf hrow fun k' _ hk' => by
          rw [hκ] at hk'; cases hk'; exact ⟨hm.1, hm.2.1, hdd⟩
        rw [setRow_none_some] at M3
        exact ⟨w', f1 _ _, E, ok1, M3, .refl _, fun p hp hl => ⟨(kp p (hup p hp) hl).1, hup p hp⟩, ⟨#[], rfl, .nil⟩⟩
/-! where a function begins -/
def E00 : Env := ⟨[], [], fun _ => []⟩
theorem mut00 (x : Mt) (k : Nat) : mutAt st0 E00 x ≠ some k := by cases x <;> simp [mutAt, boxAt, rawAt, st0]
theorem mem00 {bs : List Nat} {okc : Nat → Prop} : Mem w ⟨(· ∈ bs), okc⟩ st0 E00 okc w :=
  ⟨⟨rfl, rfl, rfl, Nat.le_refl _, fun _ _ _ => rfl⟩, fun _ h => .inl h, rfl, rfl, by simp [E00], by simp [E00], fun x k h => absurd h (mut00 x k), fun x y k h => absurd h (mut00 x k)⟩
theorem free00 {bs : List Nat} {okc : Nat → Prop} (hnd : bs.Nodup) (hno : ∀ k ∈ bs, ¬ okc k) : Free w ⟨(· ∈ bs), okc⟩ okc st0 E00 bs := ⟨hnd, fun k hk => ⟨hno k hk, .inr hk, fun ⟨x, hx⟩ => mut00 x k hx⟩⟩
end Go.SX

set_option linter.unusedVariables false
set_option linter.unusedSimpArgs false
set_option linter.unusedSectionVars false
namespace Go.SX
variable {P : Program} {w w' w0 : World} {ok ok' : Nat → Prop} {E E' : Env} {B : Bd} {σ σ' : St}

/-- what a function does of arguments -/
def Does (P : Program) (g : FuncId) (args : Array Value) (w : World) (R : Value → World → Prop) : Prop :=
  (∃ fn, P.funcs[g]? = some fn ∧ (fn.name == "runtime.NumGoroutine") = false ∧ fn.body.isNone = false ∧ Calls P g args w fun | .returned v, w' => R v w' | _, _ => False) ∨
  (∃ v w', (callFunc g args).run P w = .ok (.value v) w' ∧ R v w')
theorem Does.mono {g : FuncId} {args : Array Value} {R R' : Value → World → Prop} (h : Does P g args w R) (hr : ∀ v w', R v w' → R' v w') : Does P g args w R' := by
  rcases h with ⟨fn, h1, h2, h3, h4⟩ | ⟨v, w', h1, h2⟩
  · refine .inl ⟨fn, h1, h2, h3, h4.mono fun e w' he => ?_⟩
    cases e with
    | returned v => exact hr _ _ he
    | panicked _ => exact he
    | outgrown => exact he
  · exact .inr ⟨v, w', h1, hr _ _ h2⟩
/-- how a call ends -/
def Ends (w : World) (hs : List H) (bs : List Nat) (okc : Nat → Prop) (r : A) (back : List (Option Cs)) (v : Value) (w' : World) : Prop :=
  ∃ ok' bs0 bs1, Fr w (· ∈ bs) w' ∧ Keep w w' okc ok' ∧ (∀ k, ok' k → okc k ∨ k ∈ bs ∨ w.heap.size ≤ k) ∧ RRel w' ok' r v bs0 ∧ BackRel w' ok' hs back bs1 ∧ (bs0 ++ bs1).Nodup ∧ ∀ k ∈ bs0 ++ bs1, ¬ ok' k ∧ (k ∈ bs ∨ w.heap.size ≤ k)
/-- a function's answers are true -/
def FOk (P : Program) (g : FuncId) (f : List A → Option (A × List (Option Cs))) : Prop :=
  ∀ xs r back, f xs = some (r, back) → ∀ w vs hs bs okc, ArgsRel w okc xs vs hs bs → bs.Nodup → (∀ k ∈ bs, ¬ okc k) → Does P g vs.toArray w (Ends w hs bs okc r back)

theorem dead_demotes {x : Lend} (l : List T) (h : Dead σ x) : Dead (demotes σ l) x := by
  have key : ∀ (y : T) {σ : St}, Dead σ x → Dead (demote σ y) x := by
    intro y σ h
    have k2 : ∀ {i q}, rowAt σ i = some q → Dead (setRow σ i (some { q with ow := false, dp := .f })) x := by
      intro i q hq
      cases x with
      | b b => exact h
      | r j =>
        simp only [Dead, rowAt_setH] at h ⊢
        rw [if_neg (by rintro ⟨rfl, _⟩; rw [hq] at h; simp at h)]
        exact h
    unfold demote
    split
    · split
      · rename_i hq; exact k2 hq
      · exact h
    · split
      · rename_i hq; exact k2 hq
      · exact h
    · exact h
  induction l generalizing σ with
  | nil => exact h
  | cons y l ih => exact ih (key y h)
theorem seenC_rel (M : Mem w0 B σ E ok w) {x : T} {v : Value} (h : XRel w ok E x v) : XRel w ok E (seenC σ x) v := by
  cases x <;> try exact h
  rename_i i
  simp only [seenC]
  split
  · rename_i q hq
    split
    · exact h
    · rename_i hc
      obtain ⟨r, hr, rfl⟩ := h
      exact sh_holds (M.sh hr hq (by simpa using hc))
  · exact h
theorem seen1_row (M : Mem w0 B σ E ok w) {md : Bool} {i : Nat} {v : Value} (h : TRel w ok E (.row i) v) : TRel w ok E (seen1 md σ (.row i)) v := by
  simp only [seen1]
  split
  · rename_i q hq
    split
    · rename_i hc
      simp only [Bool.and_eq_true, Bool.not_eq_true'] at hc
      obtain ⟨r, hr, rfl⟩ := h
      exact sh_holds (M.sh hr hq hc.2)
    · exact h
  · exact h
theorem seen1_rel (M : Mem w0 B σ E ok w) {md : Bool} {x : T} {v : Value} (h : TRel w ok E x v) : TRel w ok E (seen1 md σ x) v := by
  cases x
  case ag l =>
    cases md with
    | false => exact h
    | true =>
      obtain ⟨vs, rfl, hv⟩ := h
      refine ⟨vs, rfl, ?_⟩
      have key : ∀ {l : List T} {us : List Value}, All2 (XRel w ok E) l us → All2 (XRel w ok E) (l.map (seenC σ)) us := by
        intro l us h
        induction h with
        | nil => exact .nil
        | cons h _ ih => exact .cons (seenC_rel M h) ih
      exact key hv
  case row i =>
    exact seen1_row M h
  all_goals exact h
theorem all2_seen (M : Mem w0 B σ E ok w) (md : Bool) {l : List T} {vs : List Value} (h : All2 (TRel w ok E) l vs) : All2 (TRel w ok E) (l.map (seen1 md σ)) vs := by
  induction h with
  | nil => exact .nil
  | cons h _ ih => exact .cons (seen1_rel M h) ih
theorem cs_fgt {l : Cs} {us : List Value} {hs : List H} {bs : List Nat} (h : CsH w ok l us hs bs) (hk : ∀ k, ok k → ok' k) (hb : ∀ k ∈ bs, ok' k) : CsH w ok' (l.map fun c => (c.1, none)) us [] [] := by
  induction h with
  | nil => exact .nil
  | sh h _ ih => exact .sh (h.keep fun k h _ => ⟨rfl, hk k h⟩) (ih hb)
  | own h _ ih => exact .sh (sh_holds (x_sh h hk fun k hk' => hb k (by simp [hk']))) (ih fun k h => hb k (by simp [h]))
theorem args_fgt {l : List A} {vs : List Value} {hs : List H} {bs : List Nat} (h : ArgsRel w ok l vs hs bs) (hq : l.all fgtQ = true) (hk : ∀ k, ok k → ok' k) (hb : ∀ k ∈ bs, ok' k) : ArgsRel w ok' (l.map fgt1) vs [] [] := by
  induction h with
  | nil => exact .nil
  | sh h _ ih => exact .sh (h.keep fun k h _ => ⟨rfl, hk k h⟩) (ih (by simpa [fgtQ] using hq) hb)
  | own h _ ih => exact .sh (sh_holds (x_sh h hk fun k hk' => hb k (by simp [hk']))) (ih (by simpa [fgtQ] using hq) fun k h => hb k (by simp [h]))
  | ag h _ ih => exact .ag (hs' := []) (bs := []) (cs_fgt h hk fun k h => hb k (by simp [h])) (ih (by simpa [fgtQ] using hq) fun k h => hb k (by simp [h]))
  | p => simp [fgtQ] at hq
  | f => simp [fgtQ] at hq
theorem rrel_fgt {r : A} {v : Value} {bs : List Nat} (h : RRel w ok r v bs) (hk : ∀ k, ok k → ok' k) (hb : ∀ k ∈ bs, ok' k) : fgtA r = r ∨ RRel w ok' (fgtA r) v [] := by
  cases r with
  | tu l =>
    simp only [fgtA]
    by_cases hq : l.all fgtQ = true
    · rw [if_pos hq]
      obtain ⟨vs, hs, h1, h2⟩ := h
      exact .inr ⟨vs, [], h1, args_fgt h2 hq hk hb⟩
    · rw [if_neg hq]; exact .inl rfl
  | c x o => obtain ⟨hs, h⟩ := h; exact .inr ⟨[], args_fgt h rfl hk hb⟩
  | ag l => obtain ⟨hs, h⟩ := h; exact .inr ⟨[], args_fgt h rfl hk hb⟩
  | p l => exact .inl rfl
  | f g l => exact .inl rfl
theorem ends_fgt {hs : List H} {bs : List Nat} {okc : Nat → Prop} {r : A} {back : List (Option Cs)} {v : Value} {w' : World} (h : Ends w hs bs okc r back v w') : Ends w hs bs okc (fgtA r) back v w' := by
  have h0 := h
  obtain ⟨ok', bs0, bs1, h1, h2, h3, h4, h5, h6, h7⟩ := h
  rcases rrel_fgt (ok' := fun k => ok' k ∨ k ∈ bs0) h4 (fun k h => .inl h) (fun k h => .inr h) with e | h8
  · rw [e]; exact h0
  · refine ⟨_, [], bs1, h1, fun k a b => ⟨(h2 k a b).1, .inl (h2 k a b).2⟩, fun k h => ?_, h8, h5.up (fun k h _ => ⟨rfl, .inl h⟩) (fun _ _ => rfl), (List.nodup_append.1 h6).2.1, fun k h => ?_⟩
    · rcases h with h | h
      · exact h3 k h
      · exact .inr (h7 k (List.mem_append_left _ h)).2
    · have h := List.mem_append_right bs0 (by simpa using h)
      refine ⟨fun h' => ?_, (h7 k h).2⟩
      rcases h' with h' | h'
      · exact (h7 k h).1 h'
      · rename_i hm
        exact (List.nodup_append.1 h6).2.2 k h' k (by simpa using hm) rfl
theorem fr_then {w1 : World} {bs : List Nat} (h : Fr w0 B.L w) (k : Fr w (· ∈ bs) w1) (hb : ∀ k ∈ bs, w0.heap.size ≤ k ∨ B.L k) : Fr w0 B.L w1 :=
  ⟨k.os.trans h.os, k.tape.trans h.tape, k.output.trans h.output, Nat.le_trans h.size k.size, fun j hj hl => (k.old j (Nat.lt_of_lt_of_le hj h.size) fun hm => (hb j hm).elim (fun h => by omega) hl).trans (h.old j hj hl)⟩
theorem apply_ok {K : Cfg} {F : Fun} (hF : ∀ g, FOk P g (F g)) (M : Mem w0 B σ E ok w) {x y : T} {args : List T} {fv : Value} {vs : List Value} (hx : TRel w ok E x fv) (ha : All2 (TRel w ok E) args vs) (h : apply K F σ x args = some (y, σ')) :
    ∃ g cap, fv = .func (.func g) #[] cap ∧ Does P g (vs.toArray ++ cap) w fun v w' => StepR w0 B w ok E σ' y v w' := by
  cases x <;> simp only [apply, reduceCtorEq] at h
  rename_i g bs0
  obtain ⟨ks, rfl, hks⟩ := hx
  refine ⟨g, _, rfl, ?_⟩
  split at h
  · rename_i hnd
    simp only [Option.bind_eq_some_iff] at h
    obtain ⟨⟨cs, σ1⟩, hlend, xs, hargs, ⟨r, back⟩, hcall, h⟩ := h
    obtain ⟨⟨r0, back0⟩, hcall, hfg⟩ := Option.map_eq_some_iff.1 hcall
    split at h
    · rename_i hflat
      simp only [Option.map_eq_some_iff, Prod.mk.injEq] at h
      obtain ⟨σ3, htake, rfl, rfl⟩ := h
      have hall : All2 (TRel w ok E) (args.map (seen1 (K.md g) σ) ++ bs0.map (.bp · 0)) (vs ++ ks.map ptr) := by
        refine (all2_seen M _ ha).append ?_
        have : ∀ {a b : List Nat}, All2 (fun b k => E.β[b]? = some k) a b → All2 (TRel w ok E) (a.map (.bp · 0)) (b.map ptr) := by
          intro a b h
          induction h with
          | nil => exact .nil
          | cons h _ ih => exact .cons ⟨_, h, rfl⟩ ih
        exact this hks
      generalize hargsdef : args.map (seen1 (K.md g) σ) ++ bs0.map (.bp · 0) = args' at *
      obtain ⟨hs, bs, hls, hback, ⟨M1, g2, g3, g4, g5⟩, hdead⟩ := lendAll_ok _ M hlend
      obtain ⟨okc, M2, u2, u2', hA⟩ := argsA_ok (K.md g) args' M1 hall hls hback hargs
      have hbs : ∀ k ∈ bs, ¬ ok k ∧ (w0.heap.size ≤ k ∨ B.L k) ∧ k < w.heap.size := by
        intro k hk
        obtain ⟨x, hx⟩ := (g3 k hk).1
        exact M.mine x k hx
      have hokc : ∀ k ∈ bs, ¬ okc k := fun k hk hc => (u2' k hc).elim (hbs k hk).1 (g3 k hk).2
      have hd := (hF g xs r0 back0 hcall w _ hs bs okc hA g2 hokc).mono fun v w' he => (show Ends w hs bs okc r back v w' by
        unfold fgt at hfg
        split at hfg
        · simp only [Prod.mk.injEq] at hfg; obtain ⟨rfl, rfl⟩ := hfg; exact ends_fgt he
        · simp only [Prod.mk.injEq] at hfg; obtain ⟨rfl, rfl⟩ := hfg; exact he)
      have e : (vs ++ ks.map ptr).toArray = vs.toArray ++ (ks.map ptr).toArray := by simp
      rw [← e]
      refine hd.mono fun v w' hend => ?_
      obtain ⟨ok', c0, c1, e1, e2, e3, e4, e5, e6, e7⟩ := hend
      have hfr : Fr w0 B.L w' := fr_then M.fr e1 fun k hk => (hbs k hk).2.1
      have hnew : ∀ k ∈ c0 ++ c1, (w0.heap.size ≤ k ∨ B.L k) := fun k hk => (e7 k hk).2.elim (fun h => (hbs k h).2.1) fun h => .inl (Nat.le_trans M.fr.size h)
      -- the rest, whichever way it is seen
      have rest : ∀ (σ2 : St) (okf : Nat → Prop), Mem w0 B σ2 E okf w' → RRel w' okf r v c0 → BackRel w' okf hs back c1 → (∀ k ∈ c0 ++ c1, ¬ okf k) → (∀ k, Muts σ2 E k → Muts σ1 E k) → (∀ x ∈ lentOf (K.md g) args', Dead σ2 x) → takeAll (tellA σ2 r).2 (lentOf (K.md g) args') back = some σ3 → Keep w w' ok okf → StepR w0 B w ok E σ3 (tellA σ2 r).1 v w' := by
        intro σ2 okf M3 hr hb hno hmu hde htk hkeep
        have hfree : Free w0 B okf σ2 E (c0 ++ c1) := ⟨e6, fun k hk => ⟨hno k hk, hnew k hk, fun hm => by
          have hm1 := hmu k hm
          rcases (e7 k hk).2 with h | h
          · exact (g3 k h).2 hm1
          · obtain ⟨x, hx⟩ := hm1
            have := (M1.mine x k hx).2.2
            omega⟩⟩
        obtain ⟨E1, t1, t2⟩ := tellA_ok hr M3 hfree.left
        obtain ⟨E2, M4, hle⟩ := takeAll_ok _ (hls.imp fun _ _ h => h.le t1.2.1) hb t1.1 (hfree.right t1.2.2.1) hnd (fun x hx => by
          obtain ⟨hh, _, hr⟩ := all2_mem hls x hx
          exact (hde x hx).ext hr M3 t1.2.2.2) htk
        exact ⟨E2, okf, M4, t1.2.1.trans hle, hkeep, t2.keep keep_same hle⟩
      cases hn : K.nest g with
      | true =>
        rw [hn] at htake
        simp only [if_true] at htake ⊢
        have hmut2 : ∀ x k, mutAt (demotes σ1 (seenRows args')) E x = some k → mutAt σ1 E x = some k := fun x k hx => mut_demotes _ hx
        have M3 : Mem w0 B (demotes σ1 (seenRows args')) E ok' w' := by
          refine M2.go e2 (fun k hk => ?_) hfr e1.size fun x k hx => ?_
          · rcases e3 k hk with h | h | h
            · exact M2.okin k h
            · exact .inr (hbs k h).2.1
            · exact .inr (.inl (Nat.le_trans M.fr.size h))
          · have hm := M2.mine x k hx
            have hnb : k ∉ bs := fun hb => (g3 k hb).2 ⟨x, hmut2 x k hx⟩
            refine ⟨e1.old k hm.2.2 hnb, fun hk => ?_⟩
            rcases e3 k hk with h | h | h
            · exact hm.1 h
            · exact hnb h
            · have := hm.2.2; omega
        exact rest _ ok' M3 e4 e5 (fun k hk => (e7 k hk).1) (fun k ⟨x, hx⟩ => ⟨x, hmut2 x k hx⟩) (fun x hx => dead_demotes _ (hdead x hx)) htake fun k hk hl => e2 k (u2 k hk) hl
      | false =>
        rw [hn] at htake hflat
        simp only [Bool.false_eq_true, if_false, Bool.false_or, Bool.and_eq_true] at htake hflat ⊢
        have hk2 : Keep w w' ok (lt w ok) := fun k hk hl => ⟨(e2 k (u2 k hk) hl).1, hk, hl⟩
        have M3 : Mem w0 B σ1 E (lt w ok) w' := by
          refine M1.go hk2 (fun k hk => M1.okin k hk.1) hfr e1.size fun x k hx => ?_
          have hm := M1.mine x k hx
          have hnb : k ∉ bs := fun hb => (g3 k hb).2 ⟨x, hx⟩
          exact ⟨e1.old k hm.2.2 hnb, fun hk => hm.1 hk.1⟩
        refine rest _ (lt w ok) M3 (flat_res e4 hflat.1) (flat_back e5 hflat.2) (fun k hk h => ?_) (fun k h => h) hdead htake hk2
        rcases (e7 k hk).2 with hh | hh
        · exact (hbs k hh).1 h.1
        · have := h.2; omega
    · simp at h
  · simp at h

/-! one operation -/
/-- what an operation does, whatever comes next -/
def OpDo (P : Program) (o : Oper) (a : Act) (w : World) (R : Value → World → Prop) : Prop :=
  ∀ (next : Act → World → Prop) (Q : Exit → Act → World → Prop), (∀ v w', R v w' → next (a.put o.dst v) w') → o.wp P a w next Q
theorem opDo_value {o : Oper} {a : Act} {R : Value → World → Prop} {v : Value} (h : (execOp a.eval o).run P w = .ok (.value v) w') (hR : R v w') : OpDo P o a w R :=
  fun next Q hn => by unfold Oper.wp; rw [h]; exact hn v w' hR
theorem opDo_skip {o : Oper} {a : Act} {R : Value → World → Prop} (h : (execOp a.eval o).run P w = .ok .skip w') (hR : R undef w') : OpDo P o a w R :=
  fun next Q hn => by unfold Oper.wp; rw [h]; exact hn undef w' hR
theorem opDo_does {o : Oper} {a : Act} {R : Value → World → Prop} {g : FuncId} {args : Array Value} (h : (execOp a.eval o).run P w = (callFunc g args).run P w) (hD : Does P g args w R) : OpDo P o a w R := by
  rcases hD with ⟨fn, h1, h2, h3, h4⟩ | ⟨v, w', h1, h2⟩
  · intro next Q hn
    unfold Oper.wp
    rw [h]
    have h2' : ¬ (fn.name = "runtime.NumGoroutine") := by simpa using h2
    have h3' : fn.body ≠ none := by intro hn; rw [hn] at h3; simp at h3
    have : (callFunc g args).run P w = .ok (.enter g args) w := by simp [callFunc, Sem.run_bind, run_program, h1, h2', h3']
    rw [this]
    refine h4.mono fun e w' he => ?_
    cases e with
    | returned v => exact hn v w' he
    | panicked _ => exact he.elim
    | outgrown => exact he.elim
  · exact opDo_value (h.trans h1) h2
variable {ρ : Operand → T}
theorem all2_ev {a : Act} (hT : Rho w ok E ρ a) : ∀ (l : List Operand), All2 (TRel w ok E) (l.map ρ) (l.map a.eval)
  | [] => .nil
  | x :: l => .cons (hT x) (all2_ev hT l)
theorem scals_rel {a : Act} (hT : Rho w ok E ρ a) : ∀ (l : List Operand) (vs : List Value), scals ρ l = some vs → vs = l.map a.eval
  | [], vs, h => by simp [scals] at h; exact h
  | x :: l, vs, h => by
    simp only [scals] at h
    split at h
    · rename_i v hv
      simp only [Option.map_eq_some_iff] at h
      obtain ⟨vs', h1, rfl⟩ := h
      have := hT x
      rw [hv] at this
      rw [List.map_cons, scals_rel hT l vs' h1, this.sc]
    · simp at h
theorem all2_parts {a : Act} (hT : Rho w ok E ρ a) : ∀ (l : List (Nat × Operand)), All2 (fun p q => p.1 = q.1 ∧ TRel w ok E p.2 q.2) (l.map fun (i, x) => (i, ρ x)) (l.map fun (i, x) => (i, a.eval x))
  | [] => .nil
  | (i, x) :: l => .cons ⟨rfl, hT x⟩ (all2_parts hT l)
theorem ofV_stepR (M : Mem w0 B σ E ok w) (v : Value) : StepR w0 B w ok E σ (ofV v) v w := .still M (ofV_t v)
theorem asBool_run (b : Bool) : (asBool (.bool b)).run P w = .ok b w := by simp [asBool]
theorem evOp_ok {K : Cfg} {F : Fun} (hF : ∀ g, FOk P g (F g)) (M : Mem w0 B σ E ok w) {a : Act} (hT : Rho w ok E ρ a) {o : Oper} {y : T} (h : evOp P K F ρ σ o = some (y, σ')) :
    OpDo P o a w fun v w' => StepR w0 B w ok E σ' y v w' := by
  unfold evOp at h
  split at h
  case h_1 x ho =>
    simp only [Option.some.injEq, Prod.mk.injEq] at h
    obtain ⟨rfl, rfl⟩ := h
    exact opDo_value (by simp [execOp, ho]) (.still M (hT x))
  case h_2 x ho =>
    simp only [Option.some.injEq, Prod.mk.injEq] at h
    obtain ⟨rfl, rfl⟩ := h
    exact opDo_value (by simp [execOp, ho]) (.still M (hT x))
  case h_3 c x z ho =>
    split at h
    · rename_i t ht
      simp only [Option.some.injEq, Prod.mk.injEq] at h
      obtain ⟨rfl, rfl⟩ := h
      have hc := hT c
      rw [ht] at hc
      refine opDo_value (v := if t then a.eval x else a.eval z) (by simp [execOp, ho, hc.sc, asBool_run]) (.still M ?_)
      cases t
      · exact hT z
      · exact hT x
    · simp at h
  case h_4 t ho =>
    obtain ⟨v, w', h1, h2⟩ := ok_alloc (P := P) (u := .tuple #[]) M h
    exact opDo_value (by simp [execOp, ho, h1]) h2
  case h_5 t x ho =>
    obtain ⟨v, w', h1, h2⟩ := ok_box (P := P) M (hT x) h
    exact opDo_value (by simp [execOp, ho, h1]) h2
  case h_6 t parts ho =>
    obtain ⟨rfl, v, h1, h2⟩ := ok_build (P := P) (w := w) (pv := parts.map fun (i, x) => (i, a.eval x)) (by simpa using all2_parts hT parts.toList) h
    exact opDo_value (by simp [execOp, ho, h1]) (.still M h2)
  case h_7 t len parts ho =>
    obtain ⟨v, w', h1, h2⟩ := ok_buildSlice (P := P) (pv := parts.map fun (i, x) => (i, a.eval x)) M (by simpa using all2_parts hT parts.toList) h
    exact opDo_value (by simp [execOp, ho, h1]) h2
  case h_8 t l c ho =>
    obtain ⟨v, w', h1, h2⟩ := ok_make (P := P) M (hT l) (hT c) h
    exact opDo_value (by simp [execOp, ho, h1]) h2
  case h_9 t x ho =>
    obtain ⟨rfl, v, h1, h2⟩ := ok_load (P := P) M (hT x) h
    exact opDo_value (by simp [execOp, ho, h1]) (.still M h2)
  case h_10 t x z ho =>
    obtain ⟨w', h1, h2⟩ := ok_store (P := P) M (hT x) (hT z) h
    exact opDo_skip (by simp [execOp, ho, h1]) h2
  case h_11 x ho =>
    have hx := hT x
    split at h <;> simp only [Option.some.injEq, Prod.mk.injEq, reduceCtorEq] at h
    · rename_i b o' he
      obtain ⟨rfl, rfl⟩ := h
      rw [he] at hx
      obtain ⟨k, hk, e⟩ := hx
      refine opDo_value (v := a.eval x) (by simp [execOp, ho, e]) (.still M ?_)
      exact ⟨k, hk, e⟩
    · rename_i i n o' he
      obtain ⟨rfl, rfl⟩ := h
      rw [he] at hx
      have hx' := hx
      obtain ⟨r, ad, h1, h2, h3, e⟩ := hx
      exact opDo_value (v := a.eval x) (by simp [execOp, ho, e]) (.still M hx')
    · rename_i l o' he
      obtain ⟨rfl, rfl⟩ := h
      rw [he] at hx
      have hx' := hx
      obtain ⟨ad, f, e, _⟩ := hx
      exact opDo_value (v := a.eval x) (by simp [execOp, ho, e]) (.still M hx')
    · rename_i g bs he
      obtain ⟨rfl, rfl⟩ := h
      rw [he] at hx
      have hx' := hx
      obtain ⟨ks, e, _⟩ := hx
      exact opDo_value (v := a.eval x) (by simp [execOp, ho, e]) (.still M hx')
  case h_12 op t x z pos ho =>
    have hx := hT x
    have hz := hT z
    split at h
    · rename_i l m h1 h2
      rw [h1] at hx; rw [h2] at hz
      obtain ⟨xs, e1, hxs⟩ := hx
      obtain ⟨ys, e2, hys⟩ := hz
      obtain ⟨rfl, v, g1, g2, g3⟩ := ok_eq (P := P) (w := w) (x := x) (y := z) hxs hys h
      exact opDo_value (v := v) (by simp [execOp, ho, e1, e2, g1, g2]) (.still M g3)
    · rename_i u v h1 h2
      rw [h1] at hx; rw [h2] at hz
      simp only [Option.map_eq_some_iff, Prod.mk.injEq] at h
      obtain ⟨r, hr, rfl, rfl⟩ := h
      have := run_pureRun (w := w) _ _ hr
      refine opDo_value (v := r) ?_ (ofV_stepR M r)
      simp only [execOp, ho, hx.sc, hz.sc]
      rw [Sem.run_bind, this]; rfl
    · simp at h
  case h_13 op t x ho =>
    have hx := hT x
    split at h
    · rename_i u h1
      rw [h1] at hx
      simp only [Option.map_eq_some_iff, Prod.mk.injEq] at h
      obtain ⟨r, hr, rfl, rfl⟩ := h
      exact opDo_value (v := r) (by simp [execOp, ho, hx.sc, run_pureRun (w := w) _ _ hr]) (ofV_stepR M r)
    · simp at h
  case h_14 src dst x ho =>
    obtain ⟨rfl, v, h1, h2⟩ := ok_conv (P := P) M (hT x) h
    exact opDo_value (by simp [execOp, ho, h1]) (.still M h2)
  case h_15 t x lo hi mx ho =>
    split at h
    · rename_i hm
      have : mx = none := by simpa using hm
      subst this
      obtain ⟨rfl, v, h1, h2⟩ := ok_slice (P := P) M hT (hT x) h
      exact opDo_value (by simp [execOp, ho, h1]) (.still M h2)
    · simp at h
  case h_16 s x f ho =>
    obtain ⟨rfl, v, h1, h2⟩ := ok_fieldAddr (P := P) (w := w) (hT x) h
    exact opDo_value (by simp [execOp, ho, h1]) (.still M h2)
  case h_17 s x f ho =>
    obtain ⟨rfl, v, h1, h2⟩ := ok_field (P := P) (w := w) (hT x) h
    exact opDo_value (by simp [execOp, ho, h1]) (.still M h2)
  case h_18 t x ix ho =>
    obtain ⟨rfl, v, h1, h2⟩ := ok_indexAddr (P := P) M (hT x) (hT ix) h
    exact opDo_value (by simp [execOp, ho, h1]) (.still M h2)
  case h_19 t x ix ho =>
    have hx := hT x
    have hz := hT ix
    split at h
    · rename_i u v h1 h2
      rw [h1] at hx; rw [h2] at hz
      simp only [Option.map_eq_some_iff, Prod.mk.injEq] at h
      obtain ⟨r, hr, rfl, rfl⟩ := h
      exact opDo_value (v := r) (by simp [execOp, ho, hx.sc, hz.sc, run_pureRun (w := w) _ _ hr]) (ofV_stepR M r)
    · simp at h
  case h_20 x i ho =>
    have hx := hT x
    split at h
    · rename_i l h1
      rw [h1] at hx
      simp only [Option.map_eq_some_iff, Prod.mk.injEq] at h
      obtain ⟨y', hy, rfl, rfl⟩ := h
      obtain ⟨vs, e, hl⟩ := hx
      obtain ⟨v, h2, h3⟩ := hl.get _ _ hy
      rw [Array.getElem?_toList] at h2
      exact opDo_value (v := v) (by simp [execOp, ho, e, Instr.extract, h2]) (.still M h3.t)
    · simp at h
  case h_21 f first cap ho =>
    split at h
    · rename_i hfe
      simp only [Option.map_eq_some_iff, Prod.mk.injEq] at h
      obtain ⟨bs, hbs, rfl, rfl⟩ := h
      have hfirst : first = #[] := by simpa using hfe
      subst hfirst
      have key : ∀ (l : List Operand) (bs : List Nat), (l.mapM fun x => bp0 (ρ x)) = some bs → ∃ ks, l.map a.eval = ks.map ptr ∧ All2 (fun b k => E.β[b]? = some k) bs ks := by
        intro l
        induction l with
        | nil => intro bs h; simp at h; subst h; exact ⟨[], rfl, .nil⟩
        | cons x l ih =>
          intro bs h
          simp only [List.mapM_cons, bind, Option.bind_eq_some_iff, pure, Option.some.injEq] at h
          obtain ⟨b, h1, bs', h2, rfl⟩ := h
          obtain ⟨ks, h3, h4⟩ := ih bs' h2
          have hx := hT x
          unfold bp0 at h1
          split at h1
          · rename_i b' he
            simp only [Option.some.injEq] at h1
            subst h1
            rw [he] at hx
            obtain ⟨k, hk, e⟩ := hx
            exact ⟨k :: ks, by simp [h3, e, ptr], .cons hk h4⟩
          · simp at h1
      obtain ⟨ks, e, hk⟩ := key _ _ hbs
      have e2 : cap.map a.eval = (ks.map ptr).toArray := by
        apply Array.ext'
        simpa using e
      refine opDo_value (v := .func (.func f) #[] (ks.map ptr).toArray) (by simp [execOp, ho, Instr.makeFunc, e2]) (.still M ⟨ks, rfl, hk⟩)
    · simp at h
  case h_22 c ho =>
    split at h
    · rename_i f hc
      obtain ⟨g, cap, e, hD⟩ := apply_ok hF M (hT f) (all2_ev hT c.args.toList) h
      refine opDo_does (g := g) (args := c.args.map a.eval ++ cap) ?_ (by have e2 : c.args.map a.eval = (c.args.toList.map a.eval).toArray := by apply Array.ext'; simp
                                                                          rw [e2]; exact hD)
      simp [execOp, ho, resolve, hc, e, Deferred.ofValue, invoke]
    · rename_i hc
      split at h
      · rename_i s x t u h1 h2
        split at h
        · rename_i hu
          have hu' : ∃ e', P.underlying u = some (.slice e') := by
            have : elOf P u ≠ none := by
              rcases hu with hu | hu
              · intro hn
                rw [hn] at hu
                unfold opAppend at h
                split at h
                · simp [opAppendP, ← hu] at h
                · split at h
                  · simp [opAppendD, ← hu] at h
                  · simp [opAppend0, ← hu] at h
              · exact hu
            cases he : elOf P u with
            | none => exact absurd he this
            | some e' => exact ⟨e', und_elOf he⟩
          obtain ⟨e', hu'⟩ := hu'
          obtain ⟨v, w', h3, h4⟩ := ok_append (P := P) (ty := o.type) M hu' (hT s) (hT x) h
          have e1 : c.args = #[s, x] := by apply Array.ext'; simpa using h1
          have e2 : c.argTypes = #[t, u] := by apply Array.ext'; simpa using h2
          exact opDo_value (v := v) (w' := w') (by simp [execOp, ho, resolve, hc, invoke, builtin, e1, e2, h3]) h4
        · simp at h
      · simp at h
    · rename_i hc
      split at h
      · rename_i x t h1 h2
        have e1 : c.args = #[x] := by apply Array.ext'; simpa using h1
        have e2 : c.argTypes = #[t] := by apply Array.ext'; simpa using h2
        have hx := hT x
        split at h
        · rename_i s hs
          rw [hs] at hx
          split at h
          · rename_i hst
            simp only [Option.some.injEq, Prod.mk.injEq] at h
            obtain ⟨rfl, rfl⟩ := h
            have hst' : P.underlying t = some .string := by simpa using hst
            refine opDo_value (v := .int .i64 s.size) ?_ (.still M (Holds.s _ rfl))
            simp [execOp, ho, resolve, hc, invoke, builtin, e1, e2, hx.sc, Builtin.len_, run_und hst', goInt]
          · simp at h
        · rename_i v _ hs
          rw [hs] at hx
          simp only [Option.bind_eq_some_iff, Option.map_eq_some_iff, Prod.mk.injEq] at h
          obtain ⟨e, he, z, hz, rfl, rfl⟩ := h
          unfold rawLen at hz
          split at hz
          · simp only [Option.some.injEq] at hz
            subst hz
            refine opDo_value (v := .int .i64 _) ?_ (.still M (Holds.s _ rfl))
            simp [execOp, ho, resolve, hc, invoke, builtin, e1, e2, hx.sc, Builtin.len_, run_und (und_elOf he), goInt]
          · simp at hz
        · simp only [Option.bind_eq_some_iff, Option.map_eq_some_iff, Prod.mk.injEq] at h
          obtain ⟨e, he, l, hl, rfl, rfl⟩ := h
          have := ok_len (P := P) (ty := o.type) M hx he hl
          refine opDo_value (v := .int .i64 l.length) ?_ (.still M (Holds.s _ rfl))
          simp [execOp, ho, resolve, hc, invoke, builtin, e1, e2, this]
      · simp at h
    · rename_i hc
      split at h
      · rename_i x t h1 h2
        have e1 : c.args = #[x] := by apply Array.ext'; simpa using h1
        have e2 : c.argTypes = #[t] := by apply Array.ext'; simpa using h2
        obtain ⟨w', h3, h4⟩ := ok_clear (P := P) (ty := o.type) M (hT x) h
        exact opDo_value (v := .tuple #[]) (w' := w') (by simp [execOp, ho, resolve, hc, invoke, builtin, e1, e2, h3]) h4
      · simp at h
    · rename_i b _ _ _ hc
      split at h
      · rename_i hb
        simp only [Option.bind_eq_some_iff, Option.map_eq_some_iff, Prod.mk.injEq] at h
        obtain ⟨vs, hvs, r, hr, rfl, rfl⟩ := h
        have hvs' := scals_rel hT _ _ hvs
        have e1 : c.args.map a.eval = vs.toArray := by rw [hvs']; apply Array.ext'; simp
        have := run_pureRun (w := w) _ _ hr
        refine opDo_value (v := r) ?_ (ofV_stepR M r)
        cases b <;> simp only [isBuiltin2, Bool.false_eq_true] at hb
        · simp only at this
          simp [execOp, ho, resolve, hc, invoke, builtin, e1, this]
        · simp only at this
          simp [execOp, ho, resolve, hc, invoke, builtin, e1, this]
      · simp at h
    · simp at h
  case h_23 => simp at h
end Go.SX

set_option linter.unusedVariables false
set_option linter.unusedSimpArgs false
set_option linter.unusedSectionVars false
namespace Go.SX
variable {P : Program} {w w' w0 : World} {ok ok' : Nat → Prop} {E E' : Env} {B : Bd} {σ σ' : St}

theorem gt_st_ne : ∀ (l : List T) (d t : Nat) (x : T), d ≠ t → gt (st l d x) t = gt l t
  | [], 0, t, x, h => by cases t with | zero => exact absurd rfl h | succ t => rfl
  | [], d + 1, t, x, h => by
    cases t with
    | zero => rfl
    | succ t => simp only [st, gt]; rw [gt_st_ne [] d t x (by omega)]; cases t <;> rfl
  | y :: l, 0, t, x, h => by cases t with | zero => exact absurd rfl h | succ t => rfl
  | y :: l, d + 1, t, x, h => by
    cases t with
    | zero => rfl
    | succ t => simp only [st, gt]; exact gt_st_ne l d t x (by omega)
theorem gt_st_eq : ∀ (l : List T) (d : Nat) (x : T), gt (st l d x) d = x
  | [], 0, x => rfl
  | [], d + 1, x => by simp only [st, gt]; exact gt_st_eq [] d x
  | y :: l, 0, x => rfl
  | y :: l, d + 1, x => by simp only [st, gt]; exact gt_st_eq l d x
theorem Tmps.put {a : Act} (h : Tmps w ok E σ a) {d : Option Tmp} {x : T} {v : Value} (hd : dstQ a.tmps.size d = true) (hx : TRel w ok E x v) : Tmps w ok E (putT σ.ts σ' d x) (a.put d v) := by
  cases d with
  | none => exact h
  | some d =>
    have hlt : d < a.tmps.size := by simpa [dstQ] using hd
    intro t
    by_cases hdt : d = t
    · subst hdt
      simp only [putT, Act.put, gt_st_eq]
      simpa [hlt] using hx
    · simp only [putT, Act.put, gt_st_ne _ _ _ _ hdt]
      have := h t
      simpa [Array.getD_eq_getD_getElem?, Array.getElem?_setIfInBounds_ne hdt] using this
theorem put_size {a : Act} {d : Option Tmp} {v : Value} : (a.put d v).tmps.size = a.tmps.size := by cases d <;> simp [Act.put]
theorem put_defers' {a : Act} {d : Option Tmp} {v : Value} : (a.put d v).defers = a.defers := by cases d <;> rfl
theorem noneT_rel : TRel w ok E noneT undef := ⟨#[], rfl, .nil⟩

/-- how it stands within a call that began at w0 -/
structure Inv (w0 : World) (B : Bd) (E0 : Env) (n : Nat) (σ : St) (a : Act) (w : World) : Prop where
  run : ∃ E ok, Mem w0 B σ E ok w ∧ Tmps w ok E σ a ∧ E0.Le E ∧ Keep w0 w B.okA ok
  size : a.tmps.size = n
  defers : a.defers = []
theorem wanted_ok {a : Act} (hT : Tmps w ok E σ a) {ops : Array Oper} {o : Oper} {b : Bool} (h : wantedT ops σ o = some b) : Region.wanted o (yielded ops a.tmps) = b := by
  unfold wantedT at h
  unfold Region.wanted
  cases hg : o.guard with
  | none => simp only [hg, Option.some.injEq] at h; exact h
  | some g =>
    obtain ⟨j, want⟩ := g
    simp only [hg] at h ⊢
    cases hd : (ops[j]?).bind (·.dst) with
    | none => simp [hd] at h
    | some d =>
      simp only [hd] at h
      have ht := hT d
      unfold yielded
      simp only [hd, Option.bind_some]
      rw [Array.getD_eq_getD_getElem?] at ht
      split at h
      · rename_i v hv
        rw [hv] at ht
        have := ht.sc
        cases hx : a.tmps[d]? with
        | none => rw [hx] at this; simp [undef] at this
        | some u =>
          rw [hx] at this
          simp only [Option.getD_some] at this
          subst this
          simp only [Option.some.injEq] at h
          rw [← h]
          cases v <;> cases want <;> rfl
      · rename_i hv
        rw [hv] at ht
        obtain ⟨vs, e, _⟩ := ht
        simp only [Option.some.injEq] at h
        subst h
        cases hx : a.tmps[d]? with
        | none => rfl
        | some u =>
          rw [hx] at e
          simp only [Option.getD_some] at e
          subst e
          rfl
      · simp at h
theorem Mem.put (M : Mem w0 B σ' E ok w) (ts : List T) (d : Option Tmp) (x : T) : Mem w0 B (putT ts σ' d x) E ok w := M.ts _
theorem Inv.step {E0 : Env} {n : Nat} {a : Act} {ok : Nat → Prop} (hT : Tmps w ok E σ a) (hE : E0.Le E) (hk : Keep w0 w B.okA ok) (hsz : w0.heap.size ≤ w.heap.size) (hn : a.tmps.size = n) (hd : a.defers = []) {d : Option Tmp} {x : T} {v : Value} (hdq : dstQ n d = true) (h : StepR w0 B w ok E σ' x v w') :
    Inv w0 B E0 n (putT σ.ts σ' d x) (a.put d v) w' := by
  obtain ⟨E', ok', h1, h2, h3, h4⟩ := h
  refine ⟨⟨E', ok', h1.put _ _ _, ?_, hE.trans h2, fun k hk1 hk2 => ?_⟩, put_size.trans hn, put_defers'.trans hd⟩
  · exact Tmps.put (fun t => (hT t).keep h3 h2) (by rw [hn]; exact hdq) h4
  · obtain ⟨h5, h6⟩ := hk k hk1 hk2
    obtain ⟨h7, h8⟩ := h3 k h6 (by omega)
    exact ⟨h7.trans h5, h8⟩
/-- one operation of a region, wanted or not -/
def evStep (P : Program) (K : Cfg) (F : Fun) (n : Nat) (ops : Array Oper) (o : Oper) (σ : St) : Option St :=
  if dstQ n o.dst then (wantedT ops σ o).bind fun
    | true => (evOp P K F (ev σ) (hp σ) o).map fun (x, τ) => putT σ.ts τ o.dst x
    | false => some (putT σ.ts σ o.dst noneT)
  else none
theorem evOps_cons (K : Cfg) (F : Fun) (n : Nat) (ops : Array Oper) (o : Oper) (l : List Oper) (σ : St) : evOps P K F n ops (o :: l) σ = (evStep P K F n ops o σ).bind (evOps P K F n ops l) := by
  unfold evStep
  simp only [evOps]
  split
  · cases wantedT ops σ o with
    | none => rfl
    | some b => cases b with
      | true => simp only [Option.bind_some]; cases evOp P K F (ev σ) (hp σ) o <;> rfl
      | false => rfl
  · rfl
theorem evStep_ok {K : Cfg} {F : Fun} (hF : ∀ g, FOk P g (F g)) {E0 : Env} {n : Nat} {ops : Array Oper} {o : Oper} {a : Act} (I : Inv w0 B E0 n σ a w) (h : evStep P K F n ops o σ = some σ') :
    ∀ (next : Act → World → Prop) (Q : Exit → Act → World → Prop), (∀ a' w', Inv w0 B E0 n σ' a' w' → next a' w') → if Region.wanted o (yielded ops a.tmps) then o.wp P a w next Q ∨ (o.asks P a w ∧ LetsOut Q) else next (a.put o.dst undef) w := by
  intro next Q hn
  obtain ⟨⟨E, ok, M, hT, hE, hk⟩, hs, hd⟩ := I
  unfold evStep at h
  split at h
  · rename_i hq
    simp only [Option.bind_eq_some_iff] at h
    obtain ⟨b, hw, h⟩ := h
    rw [wanted_ok hT hw]
    cases b with
    | true =>
      simp only [Option.map_eq_some_iff] at h
      obtain ⟨⟨x, τ⟩, h1, rfl⟩ := h
      exact .inl (evOp_ok hF (M.ts []) (fun x => ev_rel hT x) h1 next Q fun v w' hr => hn _ _ (Inv.step hT hE hk M.fr.size hs hd hq hr))
    | false =>
      simp only [Option.some.injEq] at h
      subst h
      simp only [Bool.false_eq_true, if_false]
      exact hn _ _ (Inv.step hT hE hk M.fr.size hs hd hq (.still M noneT_rel))
  · simp at h
theorem evOps_ok {K : Cfg} {F : Fun} (hF : ∀ g, FOk P g (F g)) {E0 : Env} {n : Nat} {ops : Array Oper} {Q : Exit → Act → World → Prop} : ∀ (l : List Oper) {σ : St} {a : Act} {w : World}, Inv w0 B E0 n σ a w → evOps P K F n ops l σ = some σ' → (∀ a' w', Inv w0 B E0 n σ' a' w' → Q .normal a' w') → wpList P ops Q l a w
  | [], σ, a, w, I, h, hQ => by simp [evOps] at h; subst h; exact hQ _ _ I
  | o :: l, σ, a, w, I, h, hQ => by
    rw [evOps_cons] at h
    obtain ⟨σ1, h1, h2⟩ := Option.bind_eq_some_iff.1 h
    exact evStep_ok hF I h1 (wpList P ops Q l) Q fun a' w' I' => evOps_ok hF l I' h2 hQ

/-! a row lent out of one all below which is ours -/
theorem deep_lend {r : RV} {l : List (List C)} {δ : List Nat} {i c : Nat} {el : List C} {x : List (List C)} (h : DeepAt w r l δ none) (hel : l[i]? = some el) (hc : el[c]? = some (.r x)) :
    ∃ k off t cs v D, r.κ = some k ∧ r.a = some ⟨k, off, none⟩ ∧ w.heap[k]? = some (.cells cs t (0, 0)) ∧ cs[off + (i * r.sz + c)]? = some v ∧ DH w (.r x) v D ∧ (∀ b ∈ D, b ∈ δ) ∧ i < r.n ∧ k ∉ δ ∧
      ∀ (w' : World) (x' : List (List C)) (D' : List Nat), w'.heap[k]? = w.heap[k]? → (∀ b ∈ δ, b ∉ D → w'.heap[b]? = w.heap[b]?) → DHc w' (colZ r.sz c) (.r x') v D' → (∀ b ∈ D', b ≠ k ∧ (b ∈ δ → b ∈ D)) →
        ∃ δ', DeepAt w' r (l.set i (el.set c (.r x'))) δ' none ∧ ∀ b, b ∈ δ' → b ∈ D' ∨ (b ∈ δ ∧ b ∉ D) := by
  obtain ⟨off, t, cs, u, f, a1, a2, a3, a4, a5, a6, a7, a8, a9, a10, a11, a12⟩ := h
  obtain ⟨hi, hcs⟩ := cell_in a1 a3 hel hc
  have hellen : el.length = r.sz := a3 el (List.mem_of_getElem? hel)
  cases hκ : r.κ with
  | none => have := a5 hκ; omega
  | some k =>
    obtain ⟨b1, b2, b3⟩ := a6 k hκ
    refine ⟨k, off, t, cs, u i c, f i c, rfl, b1, b2, a7 i c hi hcs, (a8 i c el _ hel hc (by simp)).1, fun b hb => (a9 b).2 ⟨i, c, hi, hcs, by simp, hb⟩, hi, fun hk => ?_, fun w' x' D' hw1 hw2 hD' hdj => ?_⟩
    · obtain ⟨i', j', h1, h2, h3, h4⟩ := (a9 k).1 hk
      exact a10 i' j' h1 h2 h3 k h4 hκ
    · let f' : Nat → Nat → List Nat := fun a b => if a = i ∧ b = c then D' else f a b
      obtain ⟨δ', d1, d2⟩ := gather r.n r.sz (fun _ _ => True) f'
      have hother : ∀ a b, a < r.n → b < r.sz → ¬ (a = i ∧ b = c) → ∀ y ∈ f a b, y ∈ δ ∧ y ∉ f i c := fun a b h1 h2 hne y hy =>
        ⟨(a9 y).2 ⟨a, b, h1, h2, by simp, hy⟩, fun h => hne (a11 a b i c h1 h2 hi hcs (by simp) (by simp) y hy h)⟩
      refine ⟨δ', ⟨off, t, cs, u, f', by simpa using a1, a2, fun e he => ?_, a4, a5, fun k' hk' => ?_, a7, fun a b e c' hA hB _ => ?_, fun b => by rw [d2]; simp, fun a b hA hB _ y hy => ?_, fun a b a' b' h1 h2 h3 h4 _ _ y hy hy' => ?_, d1⟩, fun y hy => ?_⟩
      · rcases List.mem_or_eq_of_mem_set he with h | h
        · exact a3 e h
        · rw [h]; simpa using hellen
      · rw [hκ] at hk'; cases hk'
        exact ⟨b1, hw1.trans b2, b3⟩
      · have hnl : i < l.length := (List.getElem?_eq_some_iff.mp hel).1
        rw [List.getElem?_set] at hA
        simp only [f']
        by_cases hia : i = a
        · subst hia
          simp only [if_true, hnl, Option.some.injEq] at hA
          subst hA
          rw [List.getElem?_set] at hB
          have hcl : c < el.length := (List.getElem?_eq_some_iff.mp hc).1
          by_cases hcb : c = b
          · subst hcb
            simp only [if_true, hcl, Option.some.injEq] at hB
            subst hB
            rw [if_pos ⟨rfl, rfl⟩]; exact hD'
          · rw [if_neg hcb] at hB
            have hne : ¬ (i = i ∧ b = c) := fun h => hcb h.2.symm
            rw [if_neg hne]
            have hin := cell_in a1 a3 hel hB
            exact (a8 i b el c' hel hB (by simp)).keep fun y hy => hw2 y (hother i b hin.1 hin.2 hne y hy).1 (hother i b hin.1 hin.2 hne y hy).2
        · rw [if_neg hia] at hA
          have hne : ¬ (a = i ∧ b = c) := fun h => hia h.1.symm
          rw [if_neg hne]
          have hin := cell_in a1 a3 hA hB
          exact (a8 a b e c' hA hB (by simp)).keep fun y hy => hw2 y (hother a b hin.1 hin.2 hne y hy).1 (hother a b hin.1 hin.2 hne y hy).2
      · simp only [f'] at hy
        rw [hκ]
        split at hy
        · intro e; cases e; exact (hdj _ hy).1 rfl
        · rw [← hκ]; exact a10 a b hA hB (by simp) y hy
      · simp only [f'] at hy hy'
        split at hy <;> split at hy'
        · rename_i c1 c2; exact ⟨c1.1.trans c2.1.symm, c1.2.trans c2.2.symm⟩
        · rename_i c1 c2
          obtain ⟨g1, g2⟩ := hother a' b' h3 h4 c2 y hy'
          exact absurd ((hdj y hy).2 g1) g2
        · rename_i c1 c2
          obtain ⟨g1, g2⟩ := hother a b h1 h2 c1 y hy
          exact absurd ((hdj y hy').2 g1) g2
        · exact a11 a b a' b' h1 h2 h3 h4 (by simp) (by simp) y hy hy'
      · obtain ⟨a, b, h1, h2, _, h3⟩ := (d2 y).1 hy
        simp only [f'] at h3
        split at h3
        · exact .inl h3
        · rename_i hne; exact .inr (hother a b h1 h2 hne y h3)
theorem flat_nil {r : RV} {l : List (List C)} {δ : List Nat} (h : DeepAt w r l δ none) (hf : flatRow l = true) : δ = [] := by
  obtain ⟨off, t, cs, u, f, a1, a2, a3, a4, a5, a6, a7, a8, a9, a10, a11, a12⟩ := h
  cases hδ : δ with
  | nil => rfl
  | cons b δ' =>
    obtain ⟨i, j, h1, h2, _, h4⟩ := (a9 b).1 (by rw [hδ]; simp)
    have hel : l[i]? = some (l[i]'(by omega)) := List.getElem?_eq_getElem _
    have hc : (l[i]'(by omega))[j]? = some ((l[i]'(by omega))[j]'(by rw [a3 _ (List.mem_of_getElem? hel)]; exact h2)) := List.getElem?_eq_getElem _
    have h5 := (a8 i j _ _ hel hc (by simp)).1
    simp only [flatRow, List.all_eq_true] at hf
    have h6 := hf _ (List.mem_of_getElem? hel) _ (List.mem_of_getElem? hc)
    generalize (l[i]'(by omega))[j]'(by rw [a3 _ (List.mem_of_getElem? hel)]; exact h2) = c at h5 h6
    generalize f i j = D at h4 h5
    generalize u i j = vv at h5
    cases h5 with
    | s _ _ => simp at h4
    | r => simp [rowC] at h6
theorem evOps_to {K : Cfg} {F : Fun} (hF : ∀ g, FOk P g (F g)) {E0 : Env} {n : Nat} {ops : Array Oper} {Q : Exit → Act → World → Prop} (m : List Oper) : ∀ (l : List Oper) {σ : St} {a : Act} {w : World}, Inv w0 B E0 n σ a w → evOps P K F n ops l σ = some σ' → (∀ a' w', Inv w0 B E0 n σ' a' w' → wpList P ops Q m a' w') → wpList P ops Q (l ++ m) a w
  | [], σ, a, w, I, h, hQ => by simp [evOps] at h; subst h; exact hQ _ _ I
  | o :: l, σ, a, w, I, h, hQ => by
    rw [evOps_cons] at h
    obtain ⟨σ1, h1, h2⟩ := Option.bind_eq_some_iff.1 h
    exact evStep_ok hF I h1 (wpList P ops Q (l ++ m)) Q fun a' w' I' => evOps_to hF m l I' h2 hQ
theorem Tmps.no {a : Act} (h : Tmps w ok E σ a) (d : Nat) {bx : List (Option (List T))} {rw : List (Option Row)} : Tmps w ok E ⟨st σ.ts d .no, bx, rw⟩ a := by
  intro t
  by_cases hdt : d = t
  · subst hdt; simp only [gt_st_eq]; trivial
  · simp only [gt_st_ne _ _ _ _ hdt]; exact h t
theorem evNest_ok {K : Cfg} {F : Fun} (hF : ∀ g, FOk P g (F g)) {E0 : Env} {n : Nat} {ops : Array Oper} {Q : Exit → Act → World → Prop} {o : Oper} {m l : List Oper} {a : Act} (I : Inv w0 B E0 n σ a w) (h : evNest P K F n ops o m σ = some σ') (hQ : ∀ a' w', Inv w0 B E0 n σ' a' w' → wpList P ops Q l a' w') : wpList P ops Q (o :: (m ++ l)) a w := by
  unfold evNest at h
  split at h
  case h_2 => simp at h
  rename_i t ad d ho hg hd
  simp only [Option.bind_eq_some_iff] at h
  obtain ⟨⟨j, i, c, q, el, x⟩, h1, s, ⟨e, he, hs⟩, h⟩ := h
  simp only at h
  split at h
  case isFalse => simp at h
  rename_i hc
  obtain ⟨hdn, hwd, hag, hsz, hcz⟩ := hc
  obtain ⟨sz, hsz⟩ := Option.isSome_iff_exists.1 hsz
  obtain ⟨⟨E, ok, M, hT, hE, hk⟩, hs2, hd2⟩ := I
  have hwant : Region.wanted o (yielded ops a.tmps) = true := by unfold Region.wanted; rw [hg]
  show if Region.wanted o (yielded ops a.tmps) then o.wp P a w (wpList P ops Q (m ++ l)) Q ∨ (o.asks P a w ∧ LetsOut Q) else wpList P ops Q (m ++ l) (a.put o.dst undef) w
  rw [if_pos hwant]
  have hx := ev_rel hT ad
  unfold cellAt at h1
  split at h1
  case h_2 => simp at h1
  rename_i j0 i0 c0 hev
  simp only [Option.bind_eq_some_iff] at h1
  obtain ⟨q0, hq, h1⟩ := h1
  split at h1
  case isFalse => simp at h1
  rename_i hqq
  obtain ⟨how, hdp⟩ := hqq
  simp only [Option.bind_eq_some_iff] at h1
  obtain ⟨el0, hel, h1⟩ := h1
  split at h1
  case h_2 => simp at h1
  rename_i x0 hcx
  simp only [Option.some.injEq, Prod.mk.injEq] at h1
  obtain ⟨rfl, rfl, rfl, rfl, rfl, rfl⟩ := h1
  rw [hev] at hx
  obtain ⟨r, aa, hr, haa, hin, hav⟩ := hx
  have hR := M.row j0 r q0 hr hq
  have hO : DeepAt w r q0.l (E.δ j0) none := by have := hR.2; rw [how, if_pos rfl, hdp] at this; exact this
  obtain ⟨k0, off, t0, cs, v, D, hκ, hka, hkh, hv, hDH, hDs, _, hk0, hback⟩ := deep_lend hO hel hcx
  rw [hka] at haa; cases haa
  -- it is loaded
  have hrun : (execOp a.eval o).run P w = .ok (.value v) w := by
    have hl : (Instr.loadAt t (a.eval ad)).run P w = .ok v w := by
      rw [hav]
      have : (Instr.loadAt t (.pointer (some ((⟨k0, off, none⟩ : Addr).add (i0 * r.sz + c0))))).run P w = (loadVar t ((⟨k0, off, none⟩ : Addr).add (i0 * r.sz + c0))).run P w := by
        simp [Instr.loadAt, Instr.sureAddr]
      rw [this, run_loadVar _ [v] hag hsz (fun jj u hj => ?_) (by simp) (by simp)]
      · rfl
      · cases jj with
        | zero => simp only [List.getElem?_cons_zero, Option.some.injEq] at hj; subst hj; rw [add_none, add_none, cell_block hkh]; exact hv
        | succ jj => simp at hj
    simp [execOp, ho, hl]
  have hwp : ∀ (next : Act → World → Prop), next (a.put o.dst v) w → o.wp P a w next Q := fun next hn => by unfold Oper.wp; rw [hrun]; exact hn
  refine .inl (hwp _ ?_)
  rw [hd]
  have hdq : dstQ n (some d) = true := by simpa [dstQ] using hdn
  split at h
  · -- nothing lies there
    obtain ⟨τ, h2, rfl⟩ := Option.map_eq_some_iff.1 h
    obtain ⟨Mr, hle⟩ := M.roomR ⟨none, 0, 0, 0, none⟩
    have hH : Holds w ok (.r []) v := by
      cases hDH with
      | r _ a' n' cap sz' κ off' t' cs' _ u f hn hc hz h0 hN hS hu hf hD hkk hd hE => exact .r [] a' n' cap sz' (fun _ _ => undef) hn hc hz (fun i j hi => by simp at hn; omega) (by simp)
    have I1 : Inv w0 B E0 n ⟨st σ.ts d (.c (.r [])), σ.bx, σ.rw ++ [none]⟩ (a.put (some d) v) w :=
      Inv.step (σ' := { σ with rw := σ.rw ++ [none] }) (d := some d) (x := .c (.r [])) hT hE hk M.fr.size hs2 hd2 hdq ⟨_, ok, Mr, hle, keep_refl, hH⟩
    refine evOps_to hF l m I1 h2 fun a' w' I' => hQ _ _ ?_
    obtain ⟨⟨E', ok', M', T', hE', hk'⟩, g1, g2⟩ := I'
    exact ⟨⟨E', ok', M'.ts _, T'.no d, hE', hk'⟩, g1, g2⟩
  · rename_i e0 x1
    generalize hx1 : e0 :: x1 = x at *
    split at h
    case isFalse => simp at h
    rename_i hfl
    obtain ⟨σ2, h2, h3⟩ := Option.bind_eq_some_iff.1 h
    obtain ⟨rv, δv, rfl, hdv, hDv⟩ := dh_deep hDH
    have hrs : rv.sz = s := by
      have h4 := (deep_len hdv).2.2.1 e0 (by rw [← hx1]; simp)
      have h5 : e0.length = s := by
        have := List.all_eq_true.1 (show (x.all (·.length == s)) = true from hwd) e0 (by rw [← hx1]; simp)
        simpa using this
      rw [← h4, h5]
    have hnd := deep_nodup hdv
    have hblk : ∀ b, b ∈ D → blks r q0 (E.δ j0) b := fun b hb => ⟨how, .inr ⟨by rw [hdp]; simp, hDs b hb⟩⟩
    have hmine : ∀ b, blks r q0 (E.δ j0) b → ¬ ok b ∧ (w0.heap.size ≤ b ∨ B.L b) ∧ b < w.heap.size := fun b hb => by
      obtain ⟨y, h4, _⟩ := blks_mut hr (row_raw hq) hb
      exact M.mine y b h4
    have hdead : ∀ b, blks r q0 (E.δ j0) b → ∀ y, mutAt (setRow σ j0 none) E y ≠ some b := fun b hb => blks_dead M hr (row_raw hq) hb
    have hRv : RowOk w ok δv rv ⟨s, x, true, .of (K.dp t)⟩ := by
      refine ⟨hrs.symm, ?_⟩
      simp only [if_true]
      cases hb : K.dp t with
      | true => exact hdv
      | false =>
        rw [hb] at hfl
        have hfl : flatRow x = true := by simpa using hfl
        have hnil := flat_nil hdv hfl
        subst hnil
        exact deep_own hdv (by simp)
    obtain ⟨M1, hle1, hT1⟩ := (M.killR j0).newRD (r := rv) (q := ⟨s, x, true, .of (K.dp t)⟩) (D := δv) hRv
      (fun k _ hk' => have hb := hblk k ((hDv k).2 (.inl hk')); ⟨(hmine k hb).1, (hmine k hb).2.1, hdead k hb⟩)
      (fun _ _ => ⟨(List.nodup_append.1 hnd).2.1, fun k hk' => have hb := hblk k ((hDv k).2 (.inr hk')); ⟨fun e => (List.nodup_append.1 hnd).2.2 k (by simp [e]) k hk' rfl, (hmine k hb).1, (hmine k hb).2.1, (hmine k hb).2.2, hdead k hb⟩⟩)
    have hlen : (setRow σ j0 none).rw.length = σ.rw.length := by simp [setRow]
    rw [hlen] at M1 hle1 hT1
    simp only [newRow, hlen] at M1 hT1
    generalize hE1 : (⟨E.β, E.ρ ++ [rv], upd E.δ σ.rw.length δv⟩ : Env) = E1 at M1 hle1 hT1
    -- within it
    let L1 : Nat → Prop := Muts { setRow σ j0 none with rw := (setRow σ j0 none).rw ++ [some ⟨s, x, true, .of (K.dp t)⟩] } E1
    have hL1 : ∀ b, L1 b → ¬ ok b ∧ (w0.heap.size ≤ b ∨ B.L b) ∧ b < w.heap.size := fun b ⟨y, hy⟩ => M1.mine y b hy
    have M1' : Mem w ⟨L1, ok⟩ { setRow σ j0 none with rw := (setRow σ j0 none).rw ++ [some ⟨s, x, true, .of (K.dp t)⟩] } E1 ok w :=
      ⟨⟨rfl, rfl, rfl, Nat.le_refl _, fun _ _ _ => rfl⟩, fun k h => .inl h, M1.lb, M1.lr, M1.box, M1.raw, fun y k hy => ⟨(M1.mine y k hy).1, .inr ⟨y, hy⟩, (M1.mine y k hy).2.2⟩, M1.dis⟩
    have I1 : Inv w ⟨L1, ok⟩ E1 n ⟨st σ.ts d (.row σ.rw.length), σ.bx, (setRow σ j0 none).rw ++ [some ⟨s, x, true, .of (K.dp t)⟩]⟩ (a.put (some d) (.slice rv.a rv.n rv.cap)) w := by
      refine ⟨⟨E1, ok, M1'.ts _, Tmps.put (d := some d) (σ' := { setRow σ j0 none with rw := (setRow σ j0 none).rw ++ [some ⟨s, x, true, .of (K.dp t)⟩] }) (fun y => (hT y).keep keep_refl hle1) (by rw [hs2]; exact hdq) hT1, .refl _, fun k h _ => ⟨rfl, h⟩⟩, put_size.trans hs2, put_defers'.trans hd2⟩
    refine evOps_to hF l m I1 h2 fun a' w' I' => hQ _ _ ?_
    obtain ⟨⟨E2, ok2, M2, T2, hE2, hk2⟩, g1, g2⟩ := I'
    unfold joinS at h3
    obtain ⟨qk, hqk, h3⟩ := Option.bind_eq_some_iff.1 h3
    split at h3
    case isFalse => simp at h3
    rename_i hqo
    simp only [Bool.and_eq_true, Bool.or_eq_true] at hqo
    obtain ⟨hko, hkf⟩ := hqo
    simp only [Option.some.injEq] at h3
    -- what is not lent is as it was
    have hold : ∀ b, blks r q0 (E.δ j0) b → b ∉ D → ¬ L1 b := by
      intro b hb hnb ⟨y, hy⟩
      have e1 : { setRow σ j0 none with rw := (setRow σ j0 none).rw ++ [some ⟨s, x, true, .of (K.dp t)⟩] } = (newRow (setRow σ j0 none) ⟨s, x, true, .of (K.dp t)⟩).2 := rfl
      have hrk : E1.ρ[σ.rw.length]? = some rv := by rw [← hE1, ← M.lr]; simp
      have hqk1 : rawAt { setRow σ j0 none with rw := (setRow σ j0 none).rw ++ [some ⟨s, x, true, .of (K.dp t)⟩] } σ.rw.length = some ⟨s, x, true, .of (K.dp t)⟩ := by
        simp [rawAt, setRow]
      cases y with
      | b bb =>
        refine hdead b hb (.b bb) ?_
        rw [← hE1] at hy; exact hy
      | r jj =>
        by_cases hjj : jj = σ.rw.length
        · subst hjj
          simp only [mutAt, hqk1, hrk, if_true, Option.bind_some] at hy
          exact hnb ((hDv b).2 (.inl hy))
        · refine hdead b hb (.r jj) ?_
          have hraw : rawAt { setRow σ j0 none with rw := (setRow σ j0 none).rw ++ [some ⟨s, x, true, .of (K.dp t)⟩] } jj = rawAt (setRow σ j0 none) jj := by
            simp only [rawAt]
            by_cases hlt : jj < (setRow σ j0 none).rw.length
            · rw [List.getElem?_append_left hlt]
            · rw [List.getElem?_eq_none (by simp; simp [setRow] at hlt; omega), List.getElem?_eq_none (by omega)]
          have hrho : jj < σ.rw.length → E1.ρ[jj]? = E.ρ[jj]? := fun hlt => by rw [← hE1]; exact List.getElem?_append_left (by rw [M.lr]; exact hlt)
          simp only [mutAt, hraw] at hy ⊢
          split at hy
          · rename_i qq hqq
            have hlt := rawAt_lt hqq
            rw [hlen] at hlt
            rw [hrho hlt] at hy; exact hy
          · simp at hy
      | d jj mm =>
        by_cases hjj : jj = σ.rw.length
        · subst hjj
          simp only [mutAt, hqk1, if_true] at hy
          split at hy
          · simp at hy
          · rw [← hE1] at hy
            simp only [upd, if_true] at hy
            exact hnb ((hDv b).2 (.inr (List.mem_of_getElem? hy)))
        · refine hdead b hb (.d jj mm) ?_
          have hraw : rawAt { setRow σ j0 none with rw := (setRow σ j0 none).rw ++ [some ⟨s, x, true, .of (K.dp t)⟩] } jj = rawAt (setRow σ j0 none) jj := by
            simp only [rawAt]
            by_cases hlt : jj < (setRow σ j0 none).rw.length
            · rw [List.getElem?_append_left hlt]
            · rw [List.getElem?_eq_none (by simp; simp [setRow] at hlt; omega), List.getElem?_eq_none (by omega)]
          have hδ : E1.δ jj = E.δ jj := by rw [← hE1]; simp [upd, hjj]
          simp only [mutAt, hraw, hδ] at hy ⊢
          exact hy
    have hsame : ∀ b, blks r q0 (E.δ j0) b → b ∉ D → w'.heap[b]? = w.heap[b]? ∧ ¬ ok2 b ∧ ¬ Muts σ2 E2 b := by
      intro b hb hnb
      have hm := hmine b hb
      refine ⟨M2.fr.old b hm.2.2 (hold b hb hnb), fun h => ?_, fun ⟨y, hy⟩ => ?_⟩
      · rcases M2.okin b h with h | h | h
        · exact hm.1 h
        · have := hm.2.2; omega
        · exact hold b hb hnb h
      · rcases (M2.mine y b hy).2.1 with h | h
        · have := hm.2.2; omega
        · exact hold b hb hnb h
    -- seen from outside again
    have hup : ∀ b, (w.heap.size ≤ b ∨ L1 b) → w0.heap.size ≤ b ∨ B.L b := fun b h => h.elim (fun h => .inl (Nat.le_trans M.fr.size h)) fun h => (hL1 b h).2.1
    have M3 : Mem w0 B σ2 E2 ok2 w' :=
      ⟨⟨M2.fr.os.trans M.fr.os, M2.fr.tape.trans M.fr.tape, M2.fr.output.trans M.fr.output, Nat.le_trans M.fr.size M2.fr.size, fun b hb hnb => (M2.fr.old b (Nat.lt_of_lt_of_le hb M.fr.size) fun hl => ((hL1 b hl).2.1).elim (fun h => by omega) hnb).trans (M.fr.old b hb hnb)⟩,
        fun b h => (M2.okin b h).elim (fun h => M.okin b h) fun h => .inr (hup b h), M2.lb, M2.lr, M2.box, M2.raw, fun y b hy => ⟨(M2.mine y b hy).1, hup b (M2.mine y b hy).2.1, (M2.mine y b hy).2.2⟩, M2.dis⟩
    have hrk : E2.ρ[σ.rw.length]? = some rv := hE2.r _ _ (by rw [← hE1, ← M.lr]; simp)
    have hRk := M3.row _ rv qk hrk hqk
    have hdk : ∃ Dk, DH w' (.r qk.l) (.slice rv.a rv.n rv.cap) Dk ∧ ∀ b ∈ Dk, blks rv qk (E2.δ σ.rw.length) b := by
      have h4 := hRk.2
      rw [hko, if_pos rfl] at h4
      rcases dp_cases hqk with hp | hp
      · have hf : flatRow qk.l = true := by
          rcases hkf with h | h
          · rw [hp] at h; simp [Dp.q] at h
          · exact h
        rw [hp] at h4
        exact ⟨_, deep_dh (flat_deep h4 hf), fun b hb => ⟨hko, .inl (by simpa using hb)⟩⟩
      · rw [hp] at h4
        refine ⟨_, deep_dh h4, fun b hb => ⟨hko, ?_⟩⟩
        rcases List.mem_append.1 hb with h | h
        · exact .inl (by simpa using h)
        · exact .inr ⟨by rw [hp]; simp, h⟩
    obtain ⟨Dk, hDk, hDb⟩ := hdk
    have hroom : Room w' (colZ r.sz c0) (.slice rv.a rv.n rv.cap) := by
      rw [← hR.1]
      have hS : (rv.κ = none → rv.cap = 0) ∧ ∀ k, rv.κ = some k → ∃ off t cs, rv.a = some ⟨k, off, none⟩ ∧ w'.heap[k]? = some (.cells cs t (0, 0)) ∧ off + rv.cap * rv.sz ≤ cs.size := by
        have h4 := hRk.2
        rw [hko, if_pos rfl] at h4
        rcases dp_cases hqk with hp | hp
        · rw [hp] at h4
          obtain ⟨_, _, _, _, g2⟩ := h4
          refine ⟨fun h => by rw [h] at g2; exact g2, fun k hk => ?_⟩
          rw [hk] at g2
          obtain ⟨off, t, cs, g3, g4, g5, _⟩ := g2
          exact ⟨off, t, cs, g3, g4, g5⟩
        · rw [hp] at h4
          obtain ⟨off, t, cs, _, _, _, _, _, _, g2, g3, _⟩ := h4
          exact ⟨g2, fun k hk => ⟨off, t, cs, g3 k hk⟩⟩
      simp only [Bool.or_eq_true] at hcz
      rcases hcz with h | h
      · exact .inl (Nat.eq_of_beq_eq_true h)
      · cases hκ : rv.κ with
        | none => exact .inr (.inl (hS.1 hκ))
        | some k =>
          obtain ⟨off, t, cs, g1, g2, g3⟩ := hS.2 k hκ
          rw [hrs, ← Nat.eq_of_beq_eq_true h] at g3
          exact .inr (.inr ⟨k, off, t, cs, g1, g2, g3⟩)
    have hDm : ∀ b ∈ Dk, Muts σ2 E2 b := fun b hb => by
      obtain ⟨y, h4, _⟩ := blks_mut hrk (row_raw hqk) (hDb b hb)
      exact ⟨y, h4⟩
    have bk : blks r q0 (E.δ j0) k0 := ⟨how, .inl hκ⟩
    have hkD : k0 ∉ D := fun h => hk0 (hDs k0 h)
    obtain ⟨δ', hδ1, hδ2⟩ := hback w' qk.l Dk (hsame k0 bk hkD).1 (fun b hb hnb => (hsame b ⟨how, .inr ⟨by rw [hdp]; simp, hb⟩⟩ hnb).1) ⟨hDk, fun _ => hroom⟩ fun b hb =>
      ⟨fun e => (hsame k0 bk hkD).2.2 (e ▸ hDm b hb), fun hb2 => Classical.byContradiction fun hnb => (hsame b ⟨how, .inr ⟨by rw [hdp]; simp, hb2⟩⟩ hnb).2.2 (hDm b hb)⟩
    have hrj : E2.ρ[j0]? = some r := hE2.r _ _ (hle1.r _ _ hr)
    have hlt' : k0 < w'.heap.size := Nat.lt_of_lt_of_le (hmine k0 bk).2.2 M2.fr.size
    have M4 := (M3.killR σ.rw.length).setRD (i := j0) (q := { q0 with l := q0.l.set i0 (el0.set c0 (.r qk.l)) }) (D := δ') hrj ⟨hR.1, by simp only [how, if_true, hdp]; exact hδ1⟩
      (fun k _ hk' => by
        rw [hκ] at hk'; cases hk'
        exact ⟨(hsame _ bk hkD).2.1, (hmine _ bk).2.1, hlt', fun y hy => (hsame _ bk hkD).2.2 ⟨y, mut_kill_le (mut_kill_le hy)⟩⟩)
      (fun _ _ => ⟨by obtain ⟨_, _, _, _, _, _, _, _, _, _, _, _, _, _, _, _, h⟩ := hδ1; exact h, fun b hb => by
        rcases hδ2 b hb with h | ⟨h, hnb⟩
        · obtain ⟨y, hy⟩ := hDm b h
          have hm := M3.mine y b hy
          refine ⟨fun e => ?_, hm.1, hm.2.1, hm.2.2, fun z hz => blks_dead M3 hrk (row_raw hqk) (hDb b h) z (mut_kill_le hz)⟩
          rw [hκ] at e; cases e
          exact (hsame _ bk hkD).2.2 ⟨y, hy⟩
        · have bb : blks r q0 (E.δ j0) b := ⟨how, .inr ⟨by rw [hdp]; simp, h⟩⟩
          have hs := hsame b bb hnb
          refine ⟨fun e => ?_, hs.2.1, (hmine b bb).2.1, Nat.lt_of_lt_of_le (hmine b bb).2.2 M2.fr.size, fun y hy => hs.2.2 ⟨y, mut_kill_le (mut_kill_le hy)⟩⟩
          rw [hκ] at e; cases e
          exact hk0 h⟩)
    subst h3
    refine ⟨⟨⟨E2.β, E2.ρ, upd E2.δ j0 δ'⟩, ok2, M4.ts _, ?_, ?_, fun k h5 h6 => ?_⟩, g1, g2⟩
    · exact (show Tmps w' ok2 ⟨E2.β, E2.ρ, upd E2.δ j0 δ'⟩ σ2 a' from fun y => (T2 y).keep keep_refl ⟨fun _ _ h => h, fun _ _ h => h⟩).no d
    · exact hE.trans (hle1.trans (hE2.trans ⟨fun _ _ h => h, fun _ _ h => h⟩))
    · obtain ⟨h7, h8⟩ := hk k h5 h6
      obtain ⟨h9, h10⟩ := hk2 k h8 (Nat.lt_of_lt_of_le h6 M.fr.size)
      exact ⟨h9.trans h7, h10⟩
theorem evSeq_ok {K : Cfg} {F : Fun} (hF : ∀ g, FOk P g (F g)) {E0 : Env} {n : Nat} {ops : Array Oper} {Q : Exit → Act → World → Prop} : ∀ (l : List Oper) {σ : St} {a : Act} {w : World}, Inv w0 B E0 n σ a w → evSeq P K F n ops l σ = some σ' → (∀ a' w', Inv w0 B E0 n σ' a' w' → Q .normal a' w') → wpList P ops Q l a w
  | [], σ, a, w, I, h, hQ => by simp [evSeq] at h; subst h; exact hQ _ _ I
  | o :: l, σ, a, w, I, h, hQ => by
    rw [evSeq] at h
    split at h
    · rename_i τ h1
      exact evOps_to hF l [o] I h1 fun a' w' I' => evSeq_ok hF l I' h hQ
    · obtain ⟨σ1, h1, h2⟩ := Option.bind_eq_some_iff.1 h
      have := evNest_ok (Q := Q) (l := l.drop (lendN l)) hF I h1 fun a' w' I' => evOps_ok hF _ I' h2 hQ
      rwa [List.take_append_drop] at this
/-- where nothing is lent -/
theorem evSeq_of {K : Cfg} {F : Fun} {n : Nat} {ops : Array Oper} : ∀ (l : List Oper) {σ : St}, evOps P K F n ops l σ = some σ' → evSeq P K F n ops l σ = some σ'
  | [], σ, h => h
  | o :: l, σ, h => by
    rw [evOps_cons] at h
    obtain ⟨σ1, h1, h2⟩ := Option.bind_eq_some_iff.1 h
    rw [evSeq, evOps_cons, h1]
    exact evSeq_of l h2

/-! code -/
def LoopIn (P : Program) (c : Code) (Q : Exit → Act → World → Prop) (a : Act) (w : World) : Prop :=
  ∀ (b : Frame) (k : List Item) (cs : List Frame), ∃ e a' w', Q e a' w' ∧ Arrives P (lone (b.at a (.code c :: .inLoop c :: k)) cs w) b k cs e a' w'
theorem wp_of_loopIn {c : Code} {Q : Exit → Act → World → Prop} {a : Act} (h : LoopIn P c Q a w) : (Code.loop c).wp P Q a w :=
  fun b k cs => let ⟨e, a', w', q, r⟩ := h b k cs; ⟨e, a', w', q, .of_steps (.one step_loop) r⟩
theorem loopIn_step {c : Code} {Q : Exit → Act → World → Prop} {a : Act} (h : c.wp P (Exit.then (LoopIn P c Q) Q) a w) : LoopIn P c Q a w := by
  intro b k cs
  obtain ⟨e, a₁, w₁, hq, harr⟩ := h b (.inLoop c :: k) cs
  cases e with
  | normal =>
    obtain ⟨e₂, a₂, w₂, hq₂, harr₂⟩ := hq b k cs
    exact ⟨e₂, a₂, w₂, hq₂, .of_steps (Steps.trans harr (.one step_inLoop)) harr₂⟩
  | exit id => exact ⟨_, a₁, w₁, hq, .pass (x := .inLoop c) rfl (fun _ _ => .inl (by simp)) harr⟩
  | goto l => exact ⟨_, a₁, w₁, hq, .pass (x := .inLoop c) rfl (fun _ _ => .inl (by simp)) harr⟩
  | ret => exact ⟨_, a₁, w₁, hq, .pass (x := .inLoop c) rfl (fun _ _ => .inl (by simp)) harr⟩
  | panic ch => exact ⟨_, a₁, w₁, hq, .pass (x := .inLoop c) rfl (fun _ _ => .inl (by simp)) harr⟩
  | outgrown => exact ⟨_, a₁, w₁, hq, .pass (x := .inLoop c) rfl (fun _ _ => .inl (by simp)) harr⟩
def Ex.out : Ex → Go.Exit
  | .normal => .normal
  | .exit i => .exit i
  | .ret => .ret
/-- regions that draw their order -/
def DrawOk (P : Program) (K : Cfg) (F : Fun) : Prop :=
  ∀ (w0 : World) (B : Bd) (E0 : Env) (n : Nat) (ops : Array Oper) (id : Nat) (Q : Go.Exit → Act → World → Prop) (σ σ' : St) (a : Act) (w : World), Inv w0 B E0 n σ a w → evDraw P K F n ops σ = some σ' → (∀ a' w', Inv w0 B E0 n σ' a' w' → Q .normal a' w') → (Code.region id ops true).wp P Q a w
theorem evC_ok {K : Cfg} {F : Fun} (hF : ∀ g, FOk P g (F g)) (hdr : DrawOk P K F) {E0 : Env} {n : Nat} : ∀ (k : Nat) (c : Code) {σ σ' : St} {ex : Ex} {a : Act} {w : World} {Q : Go.Exit → Act → World → Prop}, Inv w0 B E0 n σ a w → evC P K F n k c σ = some (ex, σ') → (∀ a' w', Inv w0 B E0 n σ' a' w' → Q ex.out a' w') → c.wp P Q a w ∧ ∀ b, c = .loop b → LoopIn P b Q a w
  | 0, _, _, _, _, _, _, _, _, h, _ => by simp [evC] at h
  | k + 1, c, σ, σ', ex, a, w, Q, I, h, hQ => by
    have thenQ : ∀ (f : St → Option (Ex × St)) (r : Ex × St) (next : Act → World → Prop), thenC f r = some (ex, σ') → (∀ σ1 a1 w1, r = (.normal, σ1) → f σ1 = some (ex, σ') → Inv w0 B E0 n σ1 a1 w1 → next a1 w1) → ∀ a' w', Inv w0 B E0 n r.2 a' w' → Exit.then next Q r.1.out a' w' := by
      intro f r next hr hn a' w' I'
      obtain ⟨e, σ1⟩ := r
      cases e with
      | normal => exact hn σ1 a' w' rfl hr I'
      | exit i => simp only [thenC, Option.some.injEq, Prod.mk.injEq] at hr; obtain ⟨rfl, rfl⟩ := hr; exact hQ a' w' I'
      | ret => simp only [thenC, Option.some.injEq, Prod.mk.injEq] at hr; obtain ⟨rfl, rfl⟩ := hr; exact hQ a' w' I'
    cases c <;> simp only [evC, reduceCtorEq] at h
    case skip =>
      simp only [Option.some.injEq, Prod.mk.injEq] at h
      obtain ⟨rfl, rfl⟩ := h
      exact ⟨wp_skip (hQ _ _ I), by simp⟩
    case region id ops d =>
      simp only [Option.map_eq_some_iff, Prod.mk.injEq] at h
      obtain ⟨σ1, h, rfl, rfl⟩ := h
      refine ⟨?_, by simp⟩
      cases d with
      | true => exact hdr w0 B E0 n ops id Q σ σ1 a w I h hQ
      | false => exact wp_region_list (evSeq_ok hF _ I h hQ)
    case seq x y =>
      obtain ⟨r, h1, h2⟩ := Option.bind_eq_some_iff.1 h
      refine ⟨wp_seq ?_, by simp⟩
      exact (evC_ok hF hdr k x I h1 (thenQ _ r _ h2 fun σ1 a1 w1 _ h3 I1 => (evC_ok hF hdr k y I1 h3 hQ).1)).1
    case cond x y z =>
      obtain ⟨E, ok, M, hT, _, _⟩ := I.run
      have hx := ev_rel hT x
      split at h
      · rename_i t ht
        rw [ht] at hx
        refine ⟨wp_cond hx.sc ?_, by simp⟩
        cases t with
        | true => exact (evC_ok hF hdr k y I h hQ).1
        | false => exact (evC_ok hF hdr k z I h hQ).1
      · simp at h
    case block id b =>
      simp only [Option.map_eq_some_iff] at h
      obtain ⟨⟨e, σ1⟩, h1, h2⟩ := h
      refine ⟨wp_block ?_, by simp⟩
      refine (evC_ok hF hdr k b I h1 fun a' w' I' => ?_).1
      cases e with
      | normal => simp only [outOf, Prod.mk.injEq] at h2; obtain ⟨rfl, rfl⟩ := h2; exact hQ a' w' I'
      | ret => simp only [outOf, Prod.mk.injEq] at h2; obtain ⟨rfl, rfl⟩ := h2; exact hQ a' w' I'
      | exit i =>
        simp only [outOf] at h2
        simp only [Ex.out, Exit.inBlock]
        split
        · rename_i hi; rw [if_pos hi] at h2; simp only [Prod.mk.injEq] at h2; obtain ⟨rfl, rfl⟩ := h2; exact hQ a' w' I'
        · rename_i hi; rw [if_neg hi] at h2; simp only [Prod.mk.injEq] at h2; obtain ⟨rfl, rfl⟩ := h2; exact hQ a' w' I'
    case loop b =>
      obtain ⟨r, h1, h2⟩ := Option.bind_eq_some_iff.1 h
      have hl : LoopIn P b Q a w := loopIn_step (evC_ok hF hdr k b I h1 (thenQ _ r _ h2 fun σ1 a1 w1 _ h3 I1 => (evC_ok hF hdr k (.loop b) I1 h3 hQ).2 b rfl)).1
      exact ⟨wp_of_loopIn hl, fun b' e => by cases e; exact hl⟩
    case exit i =>
      simp only [Option.some.injEq, Prod.mk.injEq] at h
      obtain ⟨rfl, rfl⟩ := h
      exact ⟨wp_exit (hQ _ _ I), by simp⟩
    case ret =>
      simp only [Option.some.injEq, Prod.mk.injEq] at h
      obtain ⟨rfl, rfl⟩ := h
      exact ⟨wp_ret (hQ _ _ I), by simp⟩
end Go.SX

set_option linter.unusedVariables false
set_option linter.unusedSimpArgs false
set_option linter.unusedSectionVars false
namespace Go.SX
variable {P : Program} {K : Cfg} {w w' w0 : World} {ok ok' : Nat → Prop} {E E' : Env} {B : Bd} {σ σ' : St}

def resSem (tmps : Array Value) : ResultVar → Sem Value
  | .tmp t => pure (tmps.getD t undef)
  | .cell c t => do loadVar t (← asAddr (tmps.getD c undef))
def outV : List Value → Value
  | [u] => u
  | vs => .tuple vs.toArray
theorem resVar_ok (M : Mem w0 B σ E ok w) {a : Act} (hT : Tmps w ok E σ a) {r : ResultVar} {x : T} (h : resVar P σ r = some x) :
    ∃ v, (resSem a.tmps r).run P w = .ok v w ∧ TRel w ok E x v := by
  cases r with
  | tmp t =>
    simp only [resVar, Option.some.injEq] at h
    subst h
    exact ⟨_, rfl, hT t⟩
  | cell c t =>
    simp only [resVar, Option.bind_eq_some_iff] at h
    obtain ⟨cs, hcs, n, hn, b, hb, h⟩ := h
    obtain ⟨ad, vs, e, h1, h2⟩ := cells_rel M (hT c) hcs
    have hrun : (resSem a.tmps (.cell c t)).run P w = (loadVar t ad).run P w := by simp only [resSem, e]; simp [asAddr]
    cases b with
    | true =>
      simp only [if_true] at h
      split at h
      · rename_i hle
        simp only [Option.some.injEq] at h
        subst h
        refine ⟨_, hrun.trans (run_loadVar ad vs hb hn h2 (fun _ => by rw [← h1.len]; exact hle) (by simp)), ?_⟩
        exact ⟨_, rfl, by simpa using h1.take n⟩
      · simp at h
    | false =>
      simp only [Bool.false_eq_true, if_false] at h
      cases h1 with
      | nil => simp at h
      | cons hh ht =>
        simp at h; subst h
        exact ⟨_, hrun.trans (run_loadVar ad _ hb hn h2 (by simp) (by simp)), hh.t⟩
theorem resVars_ok (M : Mem w0 B σ E ok w) {a : Act} (hT : Tmps w ok E σ a) : ∀ (rs : List ResultVar) (xs : List T), resVars P σ rs = some xs →
    ∃ vs, (rs.mapM (resSem a.tmps)).run P w = .ok vs w ∧ All2 (TRel w ok E) xs vs
  | [], xs, h => by simp [resVars] at h; subst h; exact ⟨[], rfl, .nil⟩
  | r :: rs, xs, h => by
    simp only [resVars, Option.bind_eq_some_iff, Option.map_eq_some_iff] at h
    obtain ⟨x, hx, xs', hxs, rfl⟩ := h
    obtain ⟨v, h1, h2⟩ := resVar_ok M hT hx
    obtain ⟨vs, h3, h4⟩ := resVars_ok M hT rs xs' hxs
    refine ⟨v :: vs, ?_, .cons h2 h4⟩
    rw [List.mapM_cons]
    simp only [Sem.run_bind, h1, Result.andThen_ok, h3]
    rfl
theorem results_ok (M : Mem w0 B σ E ok w) {a : Act} (hT : Tmps w ok E σ a) {fn : Func} {xs : List T} (h : resVars P σ fn.results.toList = some xs) :
    ∃ v vs, (results fn a.tmps).run P w = .ok v w ∧ All2 (TRel w ok E) xs vs ∧ v = outV vs := by
  obtain ⟨vs, h1, h2⟩ := resVars_ok M hT _ _ h
  refine ⟨_, vs, ?_, h2, rfl⟩
  have e : results fn a.tmps = (do let vs ← fn.results.mapM (resSem a.tmps); pure (if h : vs.size = 1 then vs[0] else .tuple vs)) := by
    unfold results
    congr 1
  rw [e, Array.mapM_eq_mapM_toList]
  simp only [Sem.run_bind, map_eq_pure_bind, h1, Result.andThen_ok, Sem.run_pure]
  rcases vs with _ | ⟨u, _ | ⟨u', vs⟩⟩ <;> simp [outV]

/-! what goes back -/
theorem backs_ok : ∀ (ls : List Lend) {σ σ' : St} {hs : List H} {xs : List (Option Cs)}, All2 (HRel E) ls hs → Mem w0 B σ E ok w → backs σ ls = some (xs, σ') →
    ∃ bs, BackRel w ok hs xs bs ∧ Given w0 B ok w E σ bs σ'
  | [], σ, σ', hs, xs, hl, M, h => by cases hl; simp [backs] at h; obtain ⟨rfl, rfl⟩ := h; exact ⟨[], .nil, .nil M⟩
  | .b b :: ls, σ, σ', hs, xs, hl, M, h => by
    cases hl with
    | cons hh hl =>
    rename_i h0 hs'
    cases h0 with
    | r r => exact hh.elim
    | b k =>
      simp only [backs, Option.bind_eq_some_iff, Option.map_eq_some_iff, Prod.mk.injEq] at h
      obtain ⟨l, hb, ⟨x, σ1⟩, h1, ⟨xs', σ2⟩, h2, rfl, rfl⟩ := h
      obtain ⟨t, cs, hc, hcl⟩ := M.box b k l hh hb
      have g0 := given_killB M hh hb
      obtain ⟨bs1, g1, r1⟩ := gives_ok l g0.1 hcl h1
      obtain ⟨bs2, r3, g2⟩ := backs_ok ls hl g1.1 h2
      exact ⟨_, .box t cs hc r1 r3, (g0.then g1).then g2⟩
  | .r i :: ls, σ, σ', hs, xs, hl, M, h => by
    cases hl with
    | cons hh hl =>
    rename_i h0 hs'
    cases h0 with
    | b k => exact hh.elim
    | r r =>
      simp only [backs] at h
      split at h
      · rename_i q hq
        split at h
        · rename_i ho
          simp only [Option.map_eq_some_iff, Prod.mk.injEq] at h
          obtain ⟨⟨xs', σ2⟩, h2, rfl, rfl⟩ := h
          obtain ⟨hz, hR⟩ := M.row i r q hh hq
          obtain ⟨b0, k1, k2, k3⟩ := M.ownX hh hq ho
          have g0 := given_killR M hh hq b0 k2 k3
          obtain ⟨bs2, r3, g2⟩ := backs_ok ls hl g0.1 h2
          refine ⟨_, ?_, g0.then g2⟩
          rw [hz]; exact .row k1 r3
        · simp at h
      · simp only [Option.map_eq_some_iff, Prod.mk.injEq] at h
        obtain ⟨⟨xs', σ2⟩, h2, rfl, rfl⟩ := h
        obtain ⟨bs2, r3, g2⟩ := backs_ok ls hl M h2
        exact ⟨_, .gone r3, g2⟩
theorem arg_of_cs {c : C × Option Sz} {v : Value} {bs : List Nat} (h : CsRel w ok [c] [v] bs) : ∃ hs, ∀ l vs hs' bs', ArgsRel w ok l vs hs' bs' → ArgsRel w ok (.c c.1 c.2 :: l) (v :: vs) (hs ++ hs') (bs ++ bs') := by
  cases h with
  | sh h h' => cases h'; exact ⟨[], fun l vs hs' bs' h2 => .sh h h2⟩
  | @own r d x b0 _ _ bs0 h h' => cases h'; exact ⟨[.r r], fun l vs hs' bs' h2 => by simpa using ArgsRel.own h h2⟩
theorem resV_ok (M : Mem w0 B σ E ok w) {x : T} {v : Value} {a : A} (hx : TRel w ok E x v) (h : resV σ x = some (a, σ')) :
    ∃ bs hs, Given w0 B ok w E σ bs σ' ∧ ∀ l vs hs' bs', ArgsRel w ok l vs hs' bs' → ArgsRel w ok (a :: l) (v :: vs) (hs ++ hs') (bs ++ bs') := by
  have one : ∀ c σ1, XRel w ok E x v → give σ x = some (c, σ1) → ∃ bs hs, Given w0 B ok w E σ bs σ1 ∧ ∀ l vs hs' bs', ArgsRel w ok l vs hs' bs' → ArgsRel w ok (.c c.1 c.2 :: l) (v :: vs) (hs ++ hs') (bs ++ bs') := by
    intro c σ1 hx hg
    obtain ⟨bs, g1, g2⟩ := give_ok M hx hg
    obtain ⟨hs, h3⟩ := arg_of_cs (by simpa using g2 [] [] [] .nil)
    exact ⟨bs, hs, g1, h3⟩
  cases x <;> simp only [resV, Option.map_eq_some_iff, Prod.mk.injEq, reduceCtorEq] at h
  case ag l =>
    obtain ⟨⟨cs, σ1⟩, h1, rfl, rfl⟩ := h
    obtain ⟨us, rfl, hus⟩ := hx
    obtain ⟨bs, g1, g2⟩ := gives_ok l M hus h1
    obtain ⟨hs2, g3⟩ := g2.hs
    exact ⟨bs, hs2, g1, fun l vs hs' bs' h2 => by simpa using ArgsRel.ag g3 h2⟩
  case bp b o =>
    split at h
    · rename_i ho
      subst ho
      simp only [Option.bind_eq_some_iff, Option.map_eq_some_iff, Prod.mk.injEq] at h
      obtain ⟨l, hb, ⟨x, σ1⟩, h1, rfl, rfl⟩ := h
      obtain ⟨k, hk, rfl⟩ := hx
      obtain ⟨t, cs, hc, hcl⟩ := M.box b k l hk hb
      have g0 := given_killB M hk hb
      obtain ⟨bs1, g1, r1⟩ := gives_ok l g0.1 hcl h1
      exact ⟨k :: bs1, [.b k], g0.then g1, fun l vs hs' bs' h2 => .p t cs hc r1 h2⟩
    · simp at h
  case c x => obtain ⟨⟨c, σ1⟩, h1, rfl, rfl⟩ := h; exact one c σ1 hx h1
  case nil => obtain ⟨⟨c, σ1⟩, h1, rfl, rfl⟩ := h; exact one c σ1 hx h1
  case row i => obtain ⟨⟨c, σ1⟩, h1, rfl, rfl⟩ := h; exact one c σ1 hx h1
  case sl i lo hi => obtain ⟨⟨c, σ1⟩, h1, rfl, rfl⟩ := h; exact one c σ1 hx h1
theorem resVs_ok : ∀ (xs : List T) {σ σ' : St} {vs : List Value} {l : List A}, Mem w0 B σ E ok w → All2 (TRel w ok E) xs vs → resVs σ xs = some (l, σ') →
    ∃ bs hs, Given w0 B ok w E σ bs σ' ∧ ArgsRel w ok l vs hs bs
  | [], σ, σ', vs, l, M, hx, h => by cases hx; simp [resVs] at h; obtain ⟨rfl, rfl⟩ := h; exact ⟨[], [], .nil M, .nil⟩
  | x :: xs, σ, σ', vs, l, M, hx, h => by
    cases hx with
    | cons hx hxs =>
      simp only [resVs, Option.bind_eq_some_iff, Option.map_eq_some_iff, Prod.mk.injEq] at h
      obtain ⟨⟨a, σ1⟩, h1, ⟨l', σ2⟩, h2, rfl, rfl⟩ := h
      obtain ⟨bs, hs, g1, g2⟩ := resV_ok M hx h1
      obtain ⟨bs', hs', g3, g4⟩ := resVs_ok xs g1.1 hxs h2
      exact ⟨_, _, g1.then g3, g2 _ _ _ _ g4⟩

/-! an empty row fits any size -/
theorem own_fit {r : RV} {s : Sz} (h : OwnAt w ok r []) (h0 : r.sz = 0) : OwnX w ok ⟨r.a, r.n, r.cap, s.1, none⟩ s.2 [] [] ∧ r.κ = none := by
  obtain ⟨h1, h2, h3, h4, h5⟩ := h
  have hκ := h4 h0
  simp only [hκ] at h5
  refine ⟨?_, hκ⟩
  obtain ⟨k, d⟩ := s
  cases d with
  | false => exact OwnAt.x (r := ⟨r.a, r.n, r.cap, k, none⟩) ⟨h1, h2, by simp, fun _ => rfl, h5⟩
  | true =>
    have hn : r.n = 0 := by simpa using h1.symm
    refine ⟨[], rfl, ?_, fun h => by simp at h⟩
    refine ⟨0, 0, #[], fun _ _ => default, fun _ _ => [], h1, h2, by simp, fun _ => rfl, fun _ => h5, fun k h => by simp at h, fun i j hi => ?_, fun i j el c h => by simp at h, fun b => ?_, fun i j hi => ?_, fun i j i' j' hi => ?_, List.nodup_nil⟩
    · exact absurd hi (by simp [hn])
    · simp
    · exact absurd hi (by simp [hn])
    · exact absurd hi (by simp [hn])
theorem fit_nil : ∀ l : Cs, fit l [] = l := by intro l; unfold fit; split <;> simp_all
theorem fit_ok {l : Cs} {vs : List Value} {bs : List Nat} (h : CsRel w ok l vs bs) : ∀ ss, CsRel w ok (fit l ss) vs bs := by
  induction h with
  | nil => intro ss; cases ss <;> exact .nil
  | @sh c v l vs bs h _ ih =>
    intro ss
    cases ss with
    | nil => rw [fit_nil]; exact .sh h (by assumption)
    | cons s ss =>
      have e : fit ((c, none) :: l) (s :: ss) = (c, none) :: fit l ss := by cases c with
        | s _ => rfl
        | r x => cases x <;> rfl
      rw [e]; exact .sh h (ih ss)
  | @own r d x b0 l vs bs h _ ih =>
    intro ss
    cases ss with
    | nil => rw [fit_nil]; exact .own h (by assumption)
    | cons s ss =>
      by_cases hc : x = [] ∧ r.sz = 0 ∧ d = false
      · obtain ⟨rfl, h0, rfl⟩ := hc
        obtain ⟨h1, rfl⟩ := h.flat
        obtain ⟨g1, g2⟩ := own_fit (s := s) h1 h0
        rw [h0, g2]
        exact .own (r := ⟨r.a, r.n, r.cap, s.1, none⟩) (d := s.2) g1 (ih ss)
      · have e : fit ((.r x, some (r.sz, d)) :: l) (s :: ss) = (.r x, some (r.sz, d)) :: fit l ss := by
          cases x with
          | cons _ _ => rfl
          | nil =>
            generalize hz : r.sz = z at hc ⊢
            cases z with
            | zero => cases d with
              | false => exact absurd ⟨rfl, rfl, rfl⟩ hc
              | true => rfl
            | succ z => rfl
        rw [e]; exact .own h (ih ss)
theorem fitAs_ok {l : List A} {vs : List Value} {hs : List H} {bs : List Nat} (h : ArgsRel w ok l vs hs bs) : ∀ ts, ∃ hs', ArgsRel w ok (fitAs P K l ts) vs hs' bs := by
  induction h with
  | nil => intro ts; cases ts <;> exact ⟨[], .nil⟩
  | @sh x v l vs hs bs h h' ih =>
    intro ts
    cases ts with
    | nil => exact ⟨_, .sh h h'⟩
    | cons t ts =>
      obtain ⟨hs', ih⟩ := ih ts
      simp only [fitAs, fitA]
      have := fit_ok (CsRel.sh h .nil : CsRel w ok [(x, none)] [v] []) (sizes P K 8 t)
      split
      · rename_i y o he
        rw [he] at this
        obtain ⟨hs2, h3⟩ := arg_of_cs this
        exact ⟨_, h3 _ _ _ _ ih⟩
      · exact ⟨_, .sh h ih⟩
  | @own r d x b0 l vs hs bs h h' ih =>
    intro ts
    cases ts with
    | nil => exact ⟨_, .own h h'⟩
    | cons t ts =>
      obtain ⟨hs', ih⟩ := ih ts
      simp only [fitAs, fitA]
      have := fit_ok (CsRel.own h .nil : CsRel w ok [(.r x, some (r.sz, d))] [.slice r.a r.n r.cap] (b0 ++ [])) (sizes P K 8 t)
      simp only [List.append_nil] at this
      split
      · rename_i y o he
        rw [he] at this
        obtain ⟨hs2, h3⟩ := arg_of_cs this
        exact ⟨_, h3 _ _ _ _ ih⟩
      · exact ⟨_, .own h ih⟩
  | @ag x us l vs hs hs' bs bs' h h' ih =>
    intro ts
    cases ts with
    | nil => exact ⟨_, .ag h h'⟩
    | cons t ts => obtain ⟨hs2, ih⟩ := ih ts; obtain ⟨hs3, h3⟩ := (fit_ok h.rel _).hs; exact ⟨_, .ag h3 ih⟩
  | p t cs h1 h2 h' ih =>
    intro ts
    cases ts with
    | nil => exact ⟨_, .p t cs h1 h2 h'⟩
    | cons t' ts => obtain ⟨hs', ih⟩ := ih ts; exact ⟨_, .p t cs h1 h2 ih⟩
  | f h h' ih =>
    intro ts
    cases ts with
    | nil => exact ⟨_, .f h h'⟩
    | cons t ts => obtain ⟨hs', ih⟩ := ih ts; exact ⟨_, .f h ih⟩
theorem rrel_out {l : List A} {vs : List Value} {hs : List H} {bs : List Nat} (h : ArgsRel w ok l vs hs bs) : RRel w ok (outA l) (outV vs) bs := by
  have len : l.length = vs.length := by
    induction h with
    | nil => rfl
    | _ => simp [*]
  rcases l with _ | ⟨a, _ | ⟨a', l⟩⟩
  · cases h; exact ⟨[], [], rfl, .nil⟩
  · rcases vs with _ | ⟨v, _ | ⟨v', vs⟩⟩
    · simp at len
    · cases a with
      | tu l => cases h
      | _ => exact ⟨hs, h⟩
    · simp at len
  · rcases vs with _ | ⟨v, _ | ⟨v', vs⟩⟩
    · simp at len
    · simp at len
    · exact ⟨_, hs, rfl, h⟩
theorem finish_ok (M : Mem w0 B σ E ok w) {a : Act} (hT : Tmps w ok E σ a) {fn : Func} {ls : List Lend} {hs : List H} (hl : All2 (HRel E) ls hs) {r : A} {back : List (Option Cs)} (h : finish P K fn ls σ = some (r, back)) :
    ∃ v bs0 bs1, (results fn a.tmps).run P w = .ok v w ∧ RRel w ok r v bs0 ∧ BackRel w ok hs back bs1 ∧ (bs0 ++ bs1).Nodup ∧ ∀ k ∈ bs0 ++ bs1, ¬ ok k ∧ (w0.heap.size ≤ k ∨ B.L k) := by
  simp only [finish, Option.bind_eq_some_iff, Option.map_eq_some_iff, Prod.mk.injEq] at h
  obtain ⟨xs, h1, ⟨rs, σ1⟩, h3, ⟨bk, σ2⟩, h2, rfl, rfl⟩ := h
  obtain ⟨v, vs, g1, g2, rfl⟩ := results_ok M hT h1
  obtain ⟨bs0, hs0, g5, g6⟩ := resVs_ok xs M g2 h3
  obtain ⟨bs1, g3, g4⟩ := backs_ok ls hl g5.1 h2
  obtain ⟨hs', g7⟩ := fitAs_ok (P := P) (K := K) g6 fn.resultTypes.toList
  have g8 := g5.then g4
  refine ⟨_, bs0, bs1, g1, rrel_out g7, g3, g8.2.1, fun k hk => ?_⟩
  obtain ⟨⟨x, hx⟩, _⟩ := g8.2.2.1 k hk
  have := M.mine x k hx
  exact ⟨this.1, this.2.1⟩

/-! a function -/
theorem gt_pad (n : Nat) (l : List T) (t : Nat) (h : l.length ≤ t) : gt (padT n l) t = .no := by
  have key : ∀ (m t : Nat), gt (List.replicate m .no) t = .no := by
    intro m
    induction m with
    | zero => intro t; rfl
    | succ m ih => intro t; cases t with
      | zero => rfl
      | succ t => exact ih t
  have app : ∀ (l r : List T) (t : Nat), l.length ≤ t → gt (l ++ r) t = gt r (t - l.length) := by
    intro l r
    induction l with
    | nil => intro t _; rfl
    | cons y l ih => intro t ht; cases t with
      | zero => simp at ht
      | succ t => simp only [List.cons_append, gt]; rw [ih t (by simpa using ht)]; simp
  unfold padT
  rw [app l _ t h, key]
theorem gt_some : ∀ (l : List T) (t : Nat) (x : T), l[t]? = some x → gt l t = x
  | y :: l, 0, x, h => by simpa [gt] using h
  | _ :: l, t + 1, x, h => gt_some l t x (by simpa using h)
theorem body_ok {K : Cfg} {F : Fun} {f : FuncId} {fn : Func} {body : Code} (ih : ∀ g, FOk P g (F g)) (hdr : DrawOk P K F) (hfn : P.funcs[f]? = some fn) (hbody : fn.body = some body) {xs : List A} (hc : (fn.name == "runtime.NumGoroutine") = false ∧ xs.length ≤ fn.ntmps) {k : Nat} {wk : Bool} {r : A} {back : List (Option Cs)} (h : ((evC P K F fn.ntmps k body { (tellVs st0 xs).2 with ts := padT fn.ntmps (tellVs st0 xs).1 }).bind (endC (finish P K fn (lentOf true (tellVs st0 xs).1)))).map (fgt wk) = some (r, back)) : ∀ w vs hs bs okc, ArgsRel w okc xs vs hs bs → bs.Nodup → (∀ k ∈ bs, ¬ okc k) → Does P f vs.toArray w (Ends w hs bs okc r back) := by
  obtain ⟨r0, h, hr0⟩ := Option.map_eq_some_iff.1 h
  simp only [Option.bind_eq_some_iff] at h
  obtain ⟨⟨ex, σ⟩, hev, h⟩ := h
  obtain ⟨r1, back1⟩ := r0
  intro w vs hs bs okc hA hnd hno
  refine .inl ⟨fn, hfn, hc.1, by rw [hbody]; rfl, calls_of_wp hfn hbody ?_⟩
  -- as it begins
  have M0 : Mem w ⟨(· ∈ bs), okc⟩ st0 E00 okc w := mem00
  have hfree : Free w ⟨(· ∈ bs), okc⟩ okc st0 E00 bs := free00 hnd hno
  obtain ⟨E1, ⟨M1, _, _, _⟩, h2, h3⟩ := tellVs_ok hA M0 hfree
  have hlen : (tellVs st0 xs).1.length = vs.length := h2.len
  have hxl : xs.length = vs.length := by
    have : ∀ (l : List A) (σ : St), (tellVs σ l).1.length = l.length := by
      intro l
      induction l with
      | nil => intro σ; rfl
      | cons a l ih => intro σ; simp [tellVs, ih]
    rw [← hlen, this]
  have hT0 : Tmps w okc E1 { (tellVs st0 xs).2 with ts := padT fn.ntmps (tellVs st0 xs).1 } { tmps := vs.toArray ++ Array.replicate (fn.ntmps - vs.toArray.size) undef, defers := [] } := by
    intro t
    by_cases ht : t < vs.length
    · have hx : (tellVs st0 xs).1[t]? = some ((tellVs st0 xs).1[t]'(by omega)) := List.getElem?_eq_getElem _
      obtain ⟨v, hv, hr⟩ := h2.get t _ hx
      have e1 : (vs.toArray ++ Array.replicate (fn.ntmps - vs.toArray.size) undef).getD t undef = v := by
        rw [Array.getD_eq_getD_getElem?, Array.getElem?_append_left (by simpa using ht)]
        simp [hv]
      show TRel w okc E1 (gt (padT fn.ntmps (tellVs st0 xs).1) t) _
      rw [gt_some (padT fn.ntmps (tellVs st0 xs).1) t _ (by unfold padT; rw [List.getElem?_append_left (by omega)]; exact hx)]
      show TRel w okc E1 _ ((vs.toArray ++ Array.replicate (fn.ntmps - vs.toArray.size) undef).getD t undef)
      rw [e1]; exact hr.t
    · show TRel w okc E1 (gt (padT fn.ntmps (tellVs st0 xs).1) t) _
      rw [gt_pad _ _ _ (by omega)]; trivial
  have I0 : Inv w ⟨(· ∈ bs), okc⟩ E1 fn.ntmps { (tellVs st0 xs).2 with ts := padT fn.ntmps (tellVs st0 xs).1 } { tmps := vs.toArray ++ Array.replicate (fn.ntmps - vs.toArray.size) undef, defers := [] } w :=
    ⟨⟨E1, okc, M1.ts _, hT0, .refl _, fun _ h _ => ⟨rfl, h⟩⟩, by simp; omega, rfl⟩
  refine (evC_ok ih hdr k body I0 hev fun a' w' I' => ?_).1
  obtain ⟨⟨E', ok', M', hT', hE', hk'⟩, _, hd'⟩ := I'
  have hfin : ex ≠ .exit 0 ∨ True → finish P K fn (lentOf true (tellVs st0 xs).1) σ = some (r1, back1) := fun _ => by cases ex <;> simp [endC] at h <;> exact h
  obtain ⟨v, bs0, bs1, g1, g2, g3, g4, g5⟩ := finish_ok M' hT' (h3.imp fun _ _ h => h.le hE') (hfin (.inr trivial))
  have hend0 : Ends w hs bs okc r1 back1 v w' := ⟨ok', bs0, bs1, M'.fr, hk', fun k hk => (M'.okin k hk).elim .inl fun h => h.elim (fun h => .inr (.inr h)) fun h => .inr (.inl h), g2, g3, g4, fun k hk => ⟨(g5 k hk).1, (g5 k hk).2.symm⟩⟩
  have hend : Ends w hs bs okc r back v w' := by
    unfold fgt at hr0
    split at hr0
    · obtain ⟨rfl, rfl⟩ := Prod.mk.inj hr0; exact ends_fgt hend0
    · obtain ⟨rfl, rfl⟩ := Prod.mk.inj hr0; exact hend0
  cases ex with
  | exit i => simp [endC] at h
  | normal => exact ⟨hd', v, g1, hend⟩
  | ret => exact ⟨hd', v, g1, hend⟩
theorem evF_ok (P : Program) (K : FuncId → Cfg) (okf : FuncId → Bool) (pr : FuncId → Option (Fun → List A → Option (A × List (Option Cs)))) (hpr : ∀ f g, pr f = some g → ∀ F, (∀ h, FOk P h (F h)) → FOk P f (g F)) (hdr : ∀ F f, (∀ g, FOk P g (F g)) → DrawOk P (K f) F) : ∀ (k : Nat) (f : FuncId), FOk P f (evF P K okf pr k f)
  | 0, f => fun xs r back h => by simp [evF] at h
  | k + 1, f => fun xs r back h => by
    have ih := evF_ok P K okf pr hpr hdr k
    simp only [evF] at h
    split at h
    · rename_i g hg; exact hpr f g hg _ ih xs r back h
    · split at h
      · simp only [Option.bind_eq_some_iff] at h
        obtain ⟨fn, hfn, body, hbody, h⟩ := h
        split at h
        · rename_i hc
          exact body_ok ih (hdr _ f ih) hfn hbody hc h
        · simp at h
      · simp at h
end Go.SX

set_option linter.unusedVariables false
set_option linter.unusedSimpArgs false
set_option linter.unusedSectionVars false
namespace Go.SX
variable {P : Program} {K : Cfg} {σ : St}

/-- a function's answers, later ones the better -/
structure Rise (F : Nat → Fun) (G : Fun) : Prop where
  up : ∀ f xs r, G f xs = some r → ∃ j, ∀ j', j ≤ j' → F j' f xs = some r
theorem apply_rise {F : Nat → Fun} {G : Fun} (hR : Rise F G) {x : T} {args : List T} {r : T × St} (h : apply K G σ x args = some r) : ∃ j, ∀ j', j ≤ j' → apply K (F j') σ x args = some r := by
  cases x <;> simp only [apply, reduceCtorEq] at h
  rename_i g bs
  simp only [apply]
  split at h
  · rename_i hnd
    simp only [Option.bind_eq_some_iff] at h
    obtain ⟨p, h1, xs, h2, q, h3, h4⟩ := h
    obtain ⟨q0, h3, h5⟩ := Option.map_eq_some_iff.1 h3
    obtain ⟨j, hj⟩ := hR.up _ _ _ h3
    refine ⟨j, fun j' hj' => ?_⟩
    rw [if_pos hnd]
    simp only [Option.bind_eq_some_iff]
    exact ⟨p, h1, xs, h2, q, Option.map_eq_some_iff.2 ⟨q0, hj j' hj', h5⟩, h4⟩
  · simp at h
theorem evOp_rise {F : Nat → Fun} {G : Fun} (hR : Rise F G) {ρ : Operand → T} {o : Oper} {r : T × St} (h : evOp P K G ρ σ o = some r) : ∃ j, ∀ j', j ≤ j' → evOp P K (F j') ρ σ o = some r := by
  obtain ⟨dst, op, type, pos, after, guard⟩ := o
  cases op
  case call c =>
    obtain ⟨callee, args, ats⟩ := c
    cases callee
    case value f => exact apply_rise hR h
    case builtin b => cases b <;> exact ⟨0, fun _ _ => h⟩
    case invoke => exact ⟨0, fun _ _ => h⟩
  case makeFunc fn first cap => cases fn <;> exact ⟨0, fun _ _ => h⟩
  all_goals exact ⟨0, fun _ _ => h⟩
theorem evStep_rise {F : Nat → Fun} {G : Fun} (hR : Rise F G) {n : Nat} {ops : Array Oper} {o : Oper} {r : St} (h : evStep P K G n ops o σ = some r) : ∃ j, ∀ j', j ≤ j' → evStep P K (F j') n ops o σ = some r := by
  unfold evStep at h ⊢
  split at h
  · rename_i hq
    simp only [Option.bind_eq_some_iff] at h
    obtain ⟨b, hb, h⟩ := h
    cases b with
    | true =>
      simp only [Option.map_eq_some_iff] at h
      obtain ⟨p, h1, h2⟩ := h
      obtain ⟨j, hj⟩ := evOp_rise hR h1
      exact ⟨j, fun j' hj' => by rw [if_pos hq, hb]; simp only [Option.bind_some, hj j' hj', Option.map_some, h2]⟩
    | false => exact ⟨0, fun _ _ => by rw [if_pos hq, hb]; exact h⟩
  · simp at h
theorem evOps_rise {F : Nat → Fun} {G : Fun} (hR : Rise F G) {n : Nat} {ops : Array Oper} : ∀ (l : List Oper) {σ r : St}, evOps P K G n ops l σ = some r → ∃ j, ∀ j', j ≤ j' → evOps P K (F j') n ops l σ = some r
  | [], σ, r, h => ⟨0, fun _ _ => h⟩
  | o :: l, σ, r, h => by
    rw [evOps_cons] at h
    obtain ⟨σ1, h1, h2⟩ := Option.bind_eq_some_iff.1 h
    obtain ⟨j1, h3⟩ := evStep_rise hR h1
    obtain ⟨j2, h4⟩ := evOps_rise hR l h2
    exact ⟨max j1 j2, fun j' hj' => by rw [evOps_cons, h3 j' (by omega)]; exact h4 j' (by omega)⟩
theorem evNest_load {F : Fun} {n : Nat} {ops : Array Oper} {o : Oper} {m : List Oper} {σ : St} {r} (h : evNest P K F n ops o m σ = some r) : ∃ t x d, o.op = .load t x ∧ o.guard = none ∧ o.dst = some d ∧ ∃ p, cellAt σ (ev σ x) = some p := by
  unfold evNest at h
  split at h
  · rename_i t x d h1 h2 h3
    obtain ⟨p, hp, _⟩ := Option.bind_eq_some_iff.1 h
    exact ⟨t, x, d, h1, h2, h3, p, hp⟩
  · simp at h
theorem nest_stuck {F : Fun} {n : Nat} {ops : Array Oper} {o : Oper} {t : TypeId} {x : Operand} {σ : St} {p} (ho : o.op = .load t x) (hg : o.guard = none) (h : cellAt σ (ev σ x) = some p) : evOps P K F n ops [o] σ = none := by
  have h1 : cells (hp σ) (ev σ x) = none := by
    unfold cellAt at h
    split at h
    · rename_i j i c he
      obtain ⟨q, hq, h⟩ := Option.bind_eq_some_iff.1 h
      split at h
      · rename_i hc
        have : rowAt (hp σ) j = some q := hq
        simp only [he, cells, this, Option.bind_some, hc.2, Dp.q, if_true]
      · simp at h
    · simp at h
  simp only [evOps, evOp, ho, opLoad, h1, wantedT, hg, Option.bind_some, Option.bind_none]
  split <;> rfl
theorem evNest_rise {F : Nat → Fun} {G : Fun} (hR : Rise F G) {n : Nat} {ops : Array Oper} {o : Oper} {m : List Oper} {σ r : St} (h : evNest P K G n ops o m σ = some r) : ∃ j, ∀ j', j ≤ j' → evNest P K (F j') n ops o m σ = some r := by
  unfold evNest at h ⊢
  split at h
  · simp only [Option.bind_eq_some_iff] at h
    obtain ⟨⟨j, i, c, q, el, x⟩, h1, s, h2, h⟩ := h
    simp only at h
    split at h
    · rename_i hc
      cases x with
      | nil =>
        simp only at h
        obtain ⟨τ, h3, h4⟩ := Option.map_eq_some_iff.1 h
        obtain ⟨j1, hj⟩ := evOps_rise hR _ h3
        refine ⟨j1, fun j' hj' => ?_⟩
        simp only [h1, Option.bind_eq_some_iff.2 h2, Option.bind_some, if_pos hc, hj j' hj', Option.map_some, h4]
      | cons e0 x1 =>
        simp only at h
        split at h
        · rename_i hf
          obtain ⟨τ, h3, h4⟩ := Option.bind_eq_some_iff.1 h
          obtain ⟨j1, hj⟩ := evOps_rise hR _ h3
          refine ⟨j1, fun j' hj' => ?_⟩
          simp only [h1, Option.bind_eq_some_iff.2 h2, Option.bind_some, if_pos hc, if_pos hf, hj j' hj', h4]
        · simp at h
    · simp at h
  · simp at h
theorem evSeq_rise {F : Nat → Fun} {G : Fun} (hR : Rise F G) {n : Nat} {ops : Array Oper} : ∀ (l : List Oper) {σ r : St}, evSeq P K G n ops l σ = some r → ∃ j, ∀ j', j ≤ j' → evSeq P K (F j') n ops l σ = some r
  | [], σ, r, h => ⟨0, fun _ _ => h⟩
  | o :: l, σ, r, h => by
    rw [evSeq] at h
    split at h
    · rename_i τ h1
      obtain ⟨j1, h3⟩ := evOps_rise hR _ h1
      obtain ⟨j2, h4⟩ := evSeq_rise hR l h
      exact ⟨max j1 j2, fun j' hj' => by rw [evSeq, h3 j' (by omega)]; exact h4 j' (by omega)⟩
    · rename_i hn
      obtain ⟨σ1, h1, h2⟩ := Option.bind_eq_some_iff.1 h
      obtain ⟨t, x, d, ho, hg, hd, p, hp⟩ := evNest_load h1
      obtain ⟨j1, h3⟩ := evNest_rise hR h1
      obtain ⟨j2, h4⟩ := evOps_rise hR _ h2
      exact ⟨max j1 j2, fun j' hj' => by rw [evSeq, nest_stuck ho hg hp]; simp only [h3 j' (by omega), Option.bind_some]; exact h4 j' (by omega)⟩
theorem evLog_cons (F : Fun) (n : Nat) (ops : Array Oper) (o : Oper) (l : List Oper) (σ : St) (g) : evLog P K F n ops (o :: l) σ g = (wantedT ops σ o).bind fun b => (evStep P K F n ops o σ).bind fun τ => evLog P K F n ops l τ (g ++ [if b then entry σ o else none]) := by
  unfold evStep
  simp only [evLog]
  split
  · cases wantedT ops σ o with
    | none => rfl
    | some b => cases b with
      | true => simp only [Option.bind_some]; cases evOp P K F (ev σ) (hp σ) o <;> rfl
      | false => rfl
  · cases wantedT ops σ o <;> rfl
theorem evLog_rise {F : Nat → Fun} {G : Fun} (hR : Rise F G) {n : Nat} {ops : Array Oper} : ∀ (l : List Oper) {σ : St} {g} {r}, evLog P K G n ops l σ g = some r → ∃ j, ∀ j', j ≤ j' → evLog P K (F j') n ops l σ g = some r
  | [], σ, g, r, h => ⟨0, fun _ _ => h⟩
  | o :: l, σ, g, r, h => by
    rw [evLog_cons] at h
    obtain ⟨b, hb, h⟩ := Option.bind_eq_some_iff.1 h
    obtain ⟨σ1, h1, h2⟩ := Option.bind_eq_some_iff.1 h
    obtain ⟨j1, h3⟩ := evStep_rise hR h1
    obtain ⟨j2, h4⟩ := evLog_rise hR l h2
    exact ⟨max j1 j2, fun j' hj' => by rw [evLog_cons, hb]; simp only [Option.bind_some, h3 j' (by omega)]; exact h4 j' (by omega)⟩
theorem evDraw0_rise {F : Nat → Fun} {G : Fun} (hR : Rise F G) {n : Nat} {ops : Array Oper} {σ r : St} (h : evDraw0 P K G n ops σ = some r) : ∃ j, ∀ j', j ≤ j' → evDraw0 P K (F j') n ops σ = some r := by
  unfold evDraw0 at h ⊢
  split at h
  · rename_i hd
    split at h
    · rename_i hu
      obtain ⟨j, hj⟩ := evOps_rise hR _ h
      exact ⟨j, fun j' hj' => by rw [if_pos hd, if_pos hu]; exact hj j' hj'⟩
    · rename_i hu
      obtain ⟨p, h1, h2⟩ := Option.bind_eq_some_iff.1 h
      obtain ⟨j, hj⟩ := evLog_rise hR _ h1
      exact ⟨j, fun j' hj' => by rw [if_pos hd, if_neg hu, hj j' hj']; exact h2⟩
  · simp at h
theorem evDraw_rise {F : Nat → Fun} {G : Fun} (hR : Rise F G) {n : Nat} {ops : Array Oper} {σ r : St} (h : evDraw P K G n ops σ = some r) : ∃ j, ∀ j', j ≤ j' → evDraw P K (F j') n ops σ = some r := by
  unfold evDraw at h ⊢
  split at h
  · rename_i hl
    obtain ⟨j, hj⟩ := evDraw0_rise hR h
    exact ⟨j, fun j' hj' => by rw [if_pos hl]; exact hj j' hj'⟩
  · rename_i hl
    split at h
    · rename_i hl2
      obtain ⟨j, hj⟩ := evDraw0_rise hR h
      exact ⟨j, fun j' hj' => by rw [if_neg hl, if_pos hl2]; exact hj j' hj'⟩
    · rename_i hl2
      obtain ⟨j, hj⟩ := evDraw0_rise hR h
      exact ⟨j, fun j' hj' => by rw [if_neg hl, if_neg hl2]; exact hj j' hj'⟩
theorem evC_rise {F : Nat → Fun} {G : Fun} (hR : Rise F G) {n : Nat} : ∀ (k : Nat) (c : Code) {σ : St} {r}, evC P K G n k c σ = some r → ∃ j, ∀ j', j ≤ j' → evC P K (F j') n k c σ = some r
  | 0, _, _, _, h => by simp [evC] at h
  | k + 1, c, σ, r, h => by
    cases c <;> simp only [evC, reduceCtorEq] at h ⊢
    case skip => exact ⟨0, fun _ _ => h⟩
    case exit => exact ⟨0, fun _ _ => h⟩
    case ret => exact ⟨0, fun _ _ => h⟩
    case region id ops d =>
      simp only [Option.map_eq_some_iff] at h
      obtain ⟨σ1, h, rfl⟩ := h
      cases d with
      | true => obtain ⟨j, hj⟩ := evDraw_rise hR h; exact ⟨j, fun j' hj' => by simp only [if_true, hj j' hj']; rfl⟩
      | false => obtain ⟨j, hj⟩ := evSeq_rise hR _ h; exact ⟨j, fun j' hj' => by simp only [Bool.false_eq_true, if_false, hj j' hj']; rfl⟩
    case seq x y =>
      obtain ⟨q, h1, h2⟩ := Option.bind_eq_some_iff.1 h
      obtain ⟨j1, h3⟩ := evC_rise hR k x h1
      obtain ⟨e, σ1⟩ := q
      cases e with
      | normal =>
        obtain ⟨j2, h4⟩ := evC_rise hR k y h2
        exact ⟨max j1 j2, fun j' hj' => by rw [h3 j' (by omega)]; exact h4 j' (by omega)⟩
      | exit i => exact ⟨j1, fun j' hj' => by rw [h3 j' hj']; exact h2⟩
      | ret => exact ⟨j1, fun j' hj' => by rw [h3 j' hj']; exact h2⟩
    case cond x y z =>
      split at h
      · cases ‹Bool› with
        | true => exact evC_rise hR k y h
        | false => exact evC_rise hR k z h
      · simp at h
    case block id b =>
      simp only [Option.map_eq_some_iff] at h
      obtain ⟨q, h1, h2⟩ := h
      obtain ⟨j1, h3⟩ := evC_rise hR k b h1
      exact ⟨j1, fun j' hj' => by rw [h3 j' hj']; exact congrArg some h2⟩
    case loop b =>
      obtain ⟨q, h1, h2⟩ := Option.bind_eq_some_iff.1 h
      obtain ⟨j1, h3⟩ := evC_rise hR k b h1
      obtain ⟨e, σ1⟩ := q
      cases e with
      | normal =>
        obtain ⟨j2, h4⟩ := evC_rise hR k (.loop b) h2
        exact ⟨max j1 j2, fun j' hj' => by rw [h3 j' (by omega)]; exact h4 j' (by omega)⟩
      | exit i => exact ⟨j1, fun j' hj' => by rw [h3 j' hj']; exact h2⟩
      | ret => exact ⟨j1, fun j' hj' => by rw [h3 j' hj']; exact h2⟩

/-! more fuel -/
theorem evC_mono {F : Fun} {n : Nat} : ∀ k c σ r, evC P K F n k c σ = some r → evC P K F n (k + 1) c σ = some r := by
  intro k
  induction k with
  | zero => intro c σ r h; simp [evC] at h
  | succ k ih =>
    intro c σ r h
    cases c with
    | seq a b =>
      rw [evC] at h ⊢
      obtain ⟨⟨e, s⟩, ha, h⟩ := Option.bind_eq_some_iff.1 h
      rw [ih _ _ _ ha]
      cases e with
      | normal => exact ih _ _ _ h
      | exit i => exact h
      | ret => exact h
    | cond x a b =>
      rw [evC] at h ⊢
      split at h
      · split at h
        · rename_i h1; rw [if_pos h1]; exact ih _ _ _ h
        · rename_i h1; rw [if_neg h1]; exact ih _ _ _ h
      · simp at h
    | block id b =>
      rw [evC] at h ⊢
      obtain ⟨q, ha, h⟩ := Option.map_eq_some_iff.1 h
      rw [ih _ _ _ ha]; exact congrArg some h
    | loop b =>
      rw [evC] at h ⊢
      obtain ⟨⟨e, s⟩, ha, h⟩ := Option.bind_eq_some_iff.1 h
      rw [ih _ _ _ ha]
      cases e with
      | normal => exact ih _ _ _ h
      | exit i => exact h
      | ret => exact h
    | _ => exact h
theorem evC_le {F : Fun} {n k k' : Nat} (hk : k ≤ k') {c σ r} (h : evC P K F n k c σ = some r) : evC P K F n k' c σ = some r := by
  induction hk with
  | refl => exact h
  | step _ ih => exact evC_mono _ _ _ _ ih
/-- what a function answers by others' answers hangs on finitely many of these -/
def RiseP (g : Fun → List A → Option (A × List (Option Cs))) : Prop := ∀ (F : Nat → Fun) (G : Fun), Rise F G → ∀ xs r, g G xs = some r → ∃ j, ∀ j', j ≤ j' → g (F j') xs = some r
theorem rise_const (g : List A → Option (A × List (Option Cs))) : RiseP fun _ => g := fun _ _ _ _ _ h => ⟨0, fun _ _ => h⟩
section
variable (P) (K : FuncId → Cfg) (okf : FuncId → Bool) (pr : FuncId → Option (Fun → List A → Option (A × List (Option Cs))))
theorem evF_succ (hrs : ∀ f g, pr f = some g → RiseP g) (k : Nat) (f : FuncId) (xs : List A) (r) (h : evF P K okf pr k f xs = some r) : evF P K okf pr (k + 1) f xs = some r := by
  induction k generalizing f xs r with
  | zero => simp [evF] at h
  | succ k ih =>
    rw [evF] at h ⊢
    cases hp : pr f with
    | some g =>
      simp only [hp] at h ⊢
      obtain ⟨j, hj⟩ := hrs f g hp (fun _ => evF P K okf pr (k + 1)) (evF P K okf pr k) ⟨fun f xs r h => ⟨0, fun _ _ => ih f xs r h⟩⟩ xs r h
      exact hj j (Nat.le_refl _)
    | none =>
      simp only [hp] at h ⊢
      split at h
      · rename_i hof
        rw [if_pos hof]
        obtain ⟨fn, hfn, h⟩ := Option.bind_eq_some_iff.1 h
        obtain ⟨body, hb, h⟩ := Option.bind_eq_some_iff.1 h
        split at h
        · rename_i hc
          obtain ⟨r0, h, h3⟩ := Option.map_eq_some_iff.1 h
          obtain ⟨q, h1, h2⟩ := Option.bind_eq_some_iff.1 h
          have hR : Rise (fun _ => evF P K okf pr (k + 1)) (evF P K okf pr k) := ⟨fun f xs r h => ⟨0, fun _ _ => ih f xs r h⟩⟩
          obtain ⟨j, hj⟩ := evC_rise hR k body h1
          simp only [hfn, Option.bind_some, hb]
          rw [if_pos hc, evC_mono _ _ _ _ (hj j (Nat.le_refl _)), Option.bind_some, h2, Option.map_some, h3]
        · simp at h
      · simp at h
theorem evF_le (hrs : ∀ f g, pr f = some g → RiseP g) {k k' : Nat} (hk : k ≤ k') {f : FuncId} {xs : List A} {r} (h : evF P K okf pr k f xs = some r) : evF P K okf pr k' f xs = some r := by
  induction hk with
  | refl => exact h
  | step _ ih => exact evF_succ P K okf pr hrs _ _ _ _ ih
open Classical in
/-- what a function answers -/
noncomputable def Fz : Fun := fun f xs => if h : ∃ r k, evF P K okf pr k f xs = some r then some h.choose else none
theorem Fz_of (hrs : ∀ f g, pr f = some g → RiseP g) {k : Nat} {f : FuncId} {xs : List A} {r} (h : evF P K okf pr k f xs = some r) : Fz P K okf pr f xs = some r := by
  have he : ∃ r k, evF P K okf pr k f xs = some r := ⟨r, k, h⟩
  unfold Fz
  rw [dif_pos he]
  obtain ⟨k', h'⟩ := he.choose_spec
  have h1 := evF_le P K okf pr hrs (Nat.le_max_left k k') h
  have h2 := evF_le P K okf pr hrs (Nat.le_max_right k k') h'
  rw [h1] at h2
  exact h2.symm
theorem Fz_ex {f : FuncId} {xs : List A} {r} (h : Fz P K okf pr f xs = some r) : ∃ k, evF P K okf pr k f xs = some r := by
  unfold Fz at h
  split at h
  · rename_i he
    obtain ⟨k, hk⟩ := he.choose_spec
    simp only [Option.some.injEq] at h
    exact ⟨k, h ▸ hk⟩
  · simp at h
theorem Fz_rise (hrs : ∀ f g, pr f = some g → RiseP g) : Rise (evF P K okf pr) (Fz P K okf pr) := ⟨fun f xs r h => by
  obtain ⟨k, hk⟩ := Fz_ex P K okf pr h
  exact ⟨k, fun j' hj' => evF_le P K okf pr hrs hj' hk⟩⟩
theorem Fz_ok (hpr : ∀ f g, pr f = some g → ∀ F, (∀ h, FOk P h (F h)) → FOk P f (g F)) (hdr : ∀ F f, (∀ g, FOk P g (F g)) → DrawOk P (K f) F) (f : FuncId) : FOk P f (Fz P K okf pr f) := fun xs r back h => by
  obtain ⟨k, hk⟩ := Fz_ex P K okf pr h
  exact evF_ok P K okf pr hpr hdr k f xs r back hk
end

/-! how code goes, whatever the fuel -/
def W (P : Program) (K : Cfg) (F : Fun) (n : Nat) (c : Code) (σ : St) (Q : Ex → St → Prop) : Prop := ∃ k e σ', evC P K F n k c σ = some (e, σ') ∧ Q e σ'
def WO (P : Program) (K : Cfg) (F : Fun) (n : Nat) (ops : Array Oper) (l : List Oper) (σ : St) (Q : St → Prop) : Prop := ∃ σ', evOps P K F n ops l σ = some σ' ∧ Q σ'
def WL (P : Program) (K : Cfg) (F : Fun) (n : Nat) (ops : Array Oper) (l : List Oper) (σ : St) (g : List Entry) (Q : St → Prop) : Prop := ∃ g' σ', evLog P K F n ops l σ g = some (g', σ') ∧ (unord ops).all (apartQ ops g') = true ∧ Q σ'
variable {F : Fun} {n : Nat}
def Seq (P : Program) (K : Cfg) (F : Fun) (n : Nat) (b : Code) (Q : Ex → St → Prop) : Ex → St → Prop
  | .normal, σ => W P K F n b σ Q
  | e, σ => Q e σ
def Blk (id : Nat) (Q : Ex → St → Prop) : Ex → St → Prop
  | .exit i, σ => if i = id then Q .normal σ else Q (.exit i) σ
  | e, σ => Q e σ
theorem W_seq {a b σ Q} (h : W P K F n a σ (Seq P K F n b Q)) : W P K F n (.seq a b) σ Q := by
  obtain ⟨k, e, σ', h, q⟩ := h
  cases e with
  | normal =>
    obtain ⟨k2, e2, σ2, h2, q2⟩ := q
    refine ⟨max k k2 + 1, e2, σ2, ?_, q2⟩
    rw [evC, evC_le (Nat.le_max_left _ _) h]
    exact evC_le (Nat.le_max_right _ _) h2
  | exit i => exact ⟨k + 1, _, _, by rw [evC, h]; rfl, q⟩
  | ret => exact ⟨k + 1, _, _, by rw [evC, h]; rfl, q⟩
theorem W_skip {σ Q} (h : Q .normal σ) : W P K F n .skip σ Q := ⟨1, _, _, rfl, h⟩
theorem W_ret {σ Q} (h : Q .ret σ) : W P K F n .ret σ Q := ⟨1, _, _, rfl, h⟩
theorem W_exit {i σ Q} (h : Q (.exit i) σ) : W P K F n (.exit i) σ Q := ⟨1, _, _, rfl, h⟩
theorem W_region {i ops σ Q} (h : WO P K F n ops ops.toList σ (Q .normal)) : W P K F n (.region i ops false) σ Q := by
  obtain ⟨s, h, q⟩ := h
  exact ⟨1, _, _, by rw [evC]; simp only [Bool.false_eq_true, if_false, evSeq_of _ h]; rfl, q⟩
theorem evSeq_app {ops : Array Oper} : ∀ (l m : List Oper) {σ τ : St}, evOps P K F n ops l σ = some τ → evSeq P K F n ops (l ++ m) σ = evSeq P K F n ops m τ
  | [], m, σ, τ, h => by simp only [evOps, Option.some.injEq] at h; subst h; rfl
  | o :: l, m, σ, τ, h => by
    rw [evOps_cons] at h
    obtain ⟨σ1, h1, h2⟩ := Option.bind_eq_some_iff.1 h
    show evSeq P K F n ops (o :: (l ++ m)) σ = _
    rw [evSeq, evOps_cons, h1]
    exact evSeq_app l m h2
theorem W_lend {i ops σ Q} (k : Nat) {o : Oper} {l : List Oper} (hl : ops.toList.drop k = o :: l) (h : WO P K F n ops (ops.toList.take k) σ fun τ => ∃ τ', evNest P K F n ops o (l.take (lendN l)) τ = some τ' ∧ WO P K F n ops (l.drop (lendN l)) τ' (Q .normal)) : W P K F n (.region i ops false) σ Q := by
  obtain ⟨τ, h1, τ', h2, s, h3, q⟩ := h
  obtain ⟨t, x, d, ho, hg, hd, p, hp⟩ := evNest_load h2
  refine ⟨1, _, _, ?_, q⟩
  rw [evC]
  have h4 : evSeq P K F n ops ops.toList σ = some s := by
    rw [← List.take_append_drop k ops.toList, evSeq_app _ _ h1, hl, evSeq, nest_stuck ho hg hp]
    simp only [h2, Option.bind_some, h3]
  simp only [Bool.false_eq_true, if_false, h4]; rfl
theorem notLate {P : Program} {K : Cfg} {n : Nat} {ops : Array Oper} (hd : drawQ ops = true) : ¬ lateOk P K n ops = true := by simp [lateOk, hd]
theorem notHoist {P : Program} {K : Cfg} {n : Nat} {ops : Array Oper} (hd : drawQ ops = true) : ¬ hoistOk P K n ops = true := by simp [hoistOk, hd]
theorem W_draw {i ops σ Q} (hd : drawQ ops = true) (hu : unord ops = []) (h : WO P K F n ops ops.toList σ (Q .normal)) : W P K F n (.region i ops true) σ Q := by
  obtain ⟨s, h, q⟩ := h
  exact ⟨1, _, _, by rw [evC]; simp only [if_true, evDraw, if_neg (notLate hd), if_neg (notHoist hd), evDraw0, hd, hu, h]; rfl, q⟩
theorem W_drawL {i ops σ Q} (hd : drawQ ops = true) (hu : unord ops ≠ []) (h : WL P K F n ops ops.toList σ [] (Q .normal)) : W P K F n (.region i ops true) σ Q := by
  obtain ⟨g, s, h, ha, q⟩ := h
  exact ⟨1, _, _, by rw [evC]; simp only [if_true, evDraw, if_neg (notLate hd), if_neg (notHoist hd), evDraw0, hd, if_neg hu, h, Option.bind_some, ha]; rfl, q⟩
theorem late_get (ops : Array Oper) (j : Nat) : (late ops)[j]? = (ops[j]?).map (lateOp ops j) := by simp [late]
theorem lateOp_eq (ops : Array Oper) (j : Nat) (o : Oper) : (lateOp ops j o).op = o.op ∧ (lateOp ops j o).dst = o.dst ∧ (lateOp ops j o).guard = o.guard ∧ (lateOp ops j o).type = o.type := by unfold lateOp; split <;> exact ⟨rfl, rfl, rfl, rfl⟩
theorem wanted_late (ops : Array Oper) (j : Nat) (o : Oper) (σ : St) : wantedT (late ops) σ (lateOp ops j o) = wantedT ops σ o := by
  unfold wantedT
  rw [(lateOp_eq ops j o).2.2.1]
  split
  · rfl
  · have : ∀ i, ((late ops)[i]?).bind (fun o : Oper => o.dst) = (ops[i]?).bind (fun o : Oper => o.dst) := fun i => by
      rw [late_get]; cases ops[i]? with
      | none => rfl
      | some o => exact (lateOp_eq ops i o).2.1
    simp only [this]
theorem evOp_late (ops : Array Oper) (j : Nat) (o : Oper) (ρ : Operand → T) (σ : St) : evOp P K F ρ σ (lateOp ops j o) = evOp P K F ρ σ o := by unfold lateOp; split <;> rfl
theorem entry_late (ops : Array Oper) (j : Nat) (o : Oper) (σ : St) : entry σ (lateOp ops j o) = entry σ o := by unfold lateOp; split <;> rfl
theorem evLog_late {ops : Array Oper} : ∀ (l l' : List Oper) (k : Nat) (σ : St) (g : List Entry), (∀ i, l'[i]? = (l[i]?).map (lateOp ops (k + i))) → evLog P K F n (late ops) l' σ g = evLog P K F n ops l σ g
  | [], [], _, _, _, _ => rfl
  | [], o :: l', _, _, _, h => by have := h 0; simp at this
  | o :: l, [], _, _, _, h => by have := h 0; simp at this
  | o :: l, o' :: l', k, σ, g, h => by
    have h0 : o' = lateOp ops k o := by have := h 0; simpa using this
    have ht : ∀ i, l'[i]? = (l[i]?).map (lateOp ops (k + 1 + i)) := fun i => by have := h (i + 1); simpa [Nat.add_assoc, Nat.add_comm 1 i] using this
    subst h0
    simp only [evLog, wanted_late, evOp_late, entry_late, (lateOp_eq ops k o).2.1, fun σ g => evLog_late l l' (k + 1) σ g ht]
theorem late_list (ops : Array Oper) (i : Nat) : (late ops).toList[i]? = (ops.toList[i]?).map (lateOp ops (0 + i)) := by simp [late]
theorem wanted_late2 (ops : Array Oper) (o : Oper) (σ : St) : wantedT (late ops) σ o = wantedT ops σ o := by
  unfold wantedT
  have : ∀ i, ((late ops)[i]?).bind (fun o : Oper => o.dst) = (ops[i]?).bind (fun o : Oper => o.dst) := fun i => by
    rw [late_get]; cases ops[i]? with
    | none => rfl
    | some o => exact (lateOp_eq ops i o).2.1
  simp only [this]
theorem evLog_late2 {ops : Array Oper} : ∀ (l : List Oper) (σ : St) (g : List Entry), evLog P K F n (late ops) l σ g = evLog P K F n ops l σ g
  | [], _, _ => rfl
  | o :: l, σ, g => by
    have ih : evLog P K F n (late ops) l = evLog P K F n ops l := funext fun σ => funext fun g => evLog_late2 l σ g
    simp only [evLog, wanted_late2, ih]
theorem W_lateL {i ops σ Q} (ds : List Tmp) (hl : lateOk P K n ops = true) (hu : unord (late ops) ≠ []) (hd : roomDs ops = ds) (h : WL P K F n (late ops) ops.toList (clr ds σ) [] (Q .normal)) : W P K F n (.region i ops true) σ Q := by
  obtain ⟨g, s, h, ha, q⟩ := h
  subst hd
  have hd2 : drawQ (late ops) = true := by simp only [lateOk, Bool.and_eq_true] at hl; exact hl.2
  rw [evLog_late2] at h
  exact ⟨1, _, _, by rw [evC]; simp only [if_true, evDraw, if_pos hl, evDraw0, hd2, if_neg hu, evLog_late ops.toList _ 0 _ _ (late_list ops), h, Option.bind_some, ha]; rfl, q⟩
theorem W_cond {x a b σ Q} {t : Bool} (hx : ev σ x = .c (.s (.bool t))) (h1 : t = true → W P K F n a σ Q) (h2 : t = false → W P K F n b σ Q) : W P K F n (.cond x a b) σ Q := by
  cases t with
  | true => obtain ⟨k, e, s, h, q⟩ := h1 rfl; exact ⟨k + 1, e, s, by rw [evC, hx]; exact h, q⟩
  | false => obtain ⟨k, e, s, h, q⟩ := h2 rfl; exact ⟨k + 1, e, s, by rw [evC, hx]; exact h, q⟩
theorem W_block {id b σ Q} (h : W P K F n b σ (Blk id Q)) : W P K F n (.block id b) σ Q := by
  obtain ⟨k, e, s, h, q⟩ := h
  cases e with
  | exit i =>
    by_cases hi : i = id
    · exact ⟨k + 1, .normal, s, by rw [evC, h]; simp [outOf, hi], by simpa only [Blk, hi, if_true] using q⟩
    · exact ⟨k + 1, .exit i, s, by rw [evC, h]; simp [outOf, hi], by simpa only [Blk, hi, if_false] using q⟩
  | normal => exact ⟨k + 1, _, s, by rw [evC, h]; rfl, q⟩
  | ret => exact ⟨k + 1, _, s, by rw [evC, h]; rfl, q⟩
theorem WO_nil {ops σ} {Q : St → Prop} (h : Q σ) : WO P K F n ops [] σ Q := ⟨σ, rfl, h⟩
theorem WO_op {ops o l σ Q x σ'} (hd : dstQ n o.dst = true) (hg : o.guard = none) (h1 : evOp P K F (ev σ) (hp σ) o = some (x, σ')) (h : WO P K F n ops l (putT σ.ts σ' o.dst x) Q) : WO P K F n ops (o :: l) σ Q := by
  obtain ⟨s, h, q⟩ := h
  exact ⟨s, by simp only [evOps, hd, if_true, wantedT, hg]; rw [Option.bind_some]; simp only [h1, Option.bind_some]; exact h, q⟩
theorem WO_skip {ops o l σ Q} (hd : dstQ n o.dst = true) (hw : wantedT ops σ o = some false) (h : WO P K F n ops l (putT σ.ts σ o.dst noneT) Q) : WO P K F n ops (o :: l) σ Q := by
  obtain ⟨s, h, q⟩ := h
  exact ⟨s, by simp only [evOps, hd, if_true, hw]; exact h, q⟩
theorem WL_nil {ops σ g} {Q : St → Prop} (ha : (unord ops).all (apartQ ops g) = true) (h : Q σ) : WL P K F n ops [] σ g Q := ⟨g, σ, rfl, ha, h⟩
theorem WL_op {ops o l σ Q x σ' g en} (hd : dstQ n o.dst = true) (hg : o.guard = none) (he : entry σ o = en) (h1 : evOp P K F (ev σ) (hp σ) o = some (x, σ')) (h : WL P K F n ops l (putT σ.ts σ' o.dst x) (g ++ [en]) Q) : WL P K F n ops (o :: l) σ g Q := by
  subst he
  obtain ⟨g', s, h, q⟩ := h
  exact ⟨g', s, by simp only [evLog, hd, if_true, wantedT, hg]; rw [Option.bind_some]; simp only [h1, Option.bind_some]; exact h, q⟩
theorem WL_skip {ops o l σ Q g} (hd : dstQ n o.dst = true) (hw : wantedT ops σ o = some false) (h : WL P K F n ops l (putT σ.ts σ o.dst noneT) (g ++ [none]) Q) : WL P K F n ops (o :: l) σ g Q := by
  obtain ⟨g', s, h, q⟩ := h
  exact ⟨g', s, by simp only [evLog, hd, if_true, hw]; exact h, q⟩
/-- how a body ends -/
def Told2 (P : Program) (K : Cfg) (fn : Func) (ls : List Lend) (w : Bool) (r : A × List (Option Cs)) : Ex → St → Prop := fun e σ => ∃ r', endC (finish P K fn ls) (e, σ) = some r' ∧ fgt w r' = r
section
variable {K : FuncId → Cfg} {okf : FuncId → Bool} {pr : FuncId → Option (Fun → List A → Option (A × List (Option Cs)))}
theorem Fz_intro (hrs : ∀ f g, pr f = some g → RiseP g) {f : FuncId} {fn : Func} {body : Code} {xs : List A} {ts : List T} {σ : St} {r : A × List (Option Cs)} (hp : pr f = none) (ho : okf f = true) (hf : P.funcs[f]? = some fn) (hb : fn.body = some body) (hnm : (fn.name == "runtime.NumGoroutine") = false) (hl : xs.length ≤ fn.ntmps) (ht : tellVs st0 xs = (ts, σ))
    (h : W P (K f) (Fz P K okf pr) fn.ntmps body { σ with ts := padT fn.ntmps ts } (Told2 P (K f) fn (lentOf true ts) ((K f).wk f) r)) : Fz P K okf pr f xs = some r := by
  obtain ⟨k, e, σ', h, r', h1, h2⟩ := h
  obtain ⟨j, hj⟩ := evC_rise (Fz_rise P K okf pr hrs) k body h
  refine Fz_of P K okf pr hrs (k := max j k + 1) ?_
  rw [evF, hp]
  simp only [ho, if_true, hf, Option.bind_some, hb]
  rw [if_pos ⟨hnm, hl⟩, ht, evC_le (Nat.le_max_right j k) (hj _ (Nat.le_max_left j k)), Option.bind_some, h1, Option.map_some, h2]
theorem Fz_walk (hrs : ∀ f g, pr f = some g → RiseP g) {f : FuncId} {fn : Func} {body : Code} {xs : List A} (w : Bool) (n : Nat) {ts ts' : List T} {σ : St} {r : A × List (Option Cs)} (hk : (K f).wk f = w) (hp : pr f = none) (ho : okf f = true) (hf : P.funcs[f]? = some fn) (hb : fn.body = some body) (hnm : (fn.name == "runtime.NumGoroutine") = false) (hn : fn.ntmps = n) (hl : Nat.ble xs.length n = true) (ht : tellVs st0 xs = (ts, σ)) (hts : padT n ts = ts')
    (h : W P (K f) (Fz P K okf pr) n body ⟨ts', σ.bx, σ.rw⟩ (Told2 P (K f) fn (lentOf true ts) w r)) : Fz P K okf pr f xs = some r := by
  subst hn hts hk
  exact Fz_intro hrs hp ho hf hb hnm (Nat.le_of_ble_eq_true hl) ht h
theorem Fz_pr (hrs : ∀ f g, pr f = some g → RiseP g) {f : FuncId} {g} {xs : List A} (hp : pr f = some g) {r} (h : g (Fz P K okf pr) xs = some r) : Fz P K okf pr f xs = some r := by
  obtain ⟨j, hj⟩ := hrs f g hp _ _ (Fz_rise P K okf pr hrs) xs r h
  exact Fz_of P K okf pr hrs (k := j + 1) (by rw [evF, hp]; exact hj j (Nat.le_refl _))
theorem Fz_prC (hrs : ∀ f g, pr f = some g → RiseP g) {f : FuncId} {g : List A → Option (A × List (Option Cs))} {xs : List A} (hp : pr f = some fun _ => g) {r} (h : g xs = some r) : Fz P K okf pr f xs = some r := Fz_pr hrs hp h
end
end Go.SX

set_option linter.unusedVariables false
set_option linter.unusedSimpArgs false
set_option linter.unusedSectionVars false
namespace Go.SX
variable {P : Program} {K : Cfg} {F : Fun} {ρ ρ' : Operand → T} {σ σ' τ τ' τ2 : St}

/-! an operation looks at its operands alone -/
theorem scals_congr : ∀ (l : List Operand), (∀ x ∈ l, ρ x = ρ' x) → scals ρ l = scals ρ' l
  | [], _ => rfl
  | x :: l, h => by simp only [scals, h x (by simp), scals_congr l fun y hy => h y (by simp [hy])]
theorem evOp_congr (o : Oper) (h : ∀ x ∈ o.op.operands, ρ x = ρ' x) : evOp P K F ρ σ o = evOp P K F ρ' σ o := by
  obtain ⟨dst, op, type, pos, after, guard⟩ := o
  have pairs : ∀ ps : List (Nat × Operand), (∀ x ∈ ps.map (·.2), ρ x = ρ' x) → (ps.map fun (i, x) => (i, ρ x)) = (ps.map fun (i, x) => (i, ρ' x)) := fun ps hp =>
    List.map_congr_left fun p hm => by obtain ⟨i, x⟩ := p; simp only [hp x (List.mem_map.2 ⟨(i, x), hm, rfl⟩)]
  cases op <;> simp only [Op.operands] at h <;> simp only [evOp]
  case build t ps => rw [pairs ps.toList fun x hx => h x (by simpa using hx)]
  case buildSlice t n ps => rw [pairs ps.toList fun x hx => h x (by simpa using hx)]
  case makeFunc fn first captured =>
    cases fn <;> try rfl
    have key : ∀ (l : List Operand), (∀ x ∈ l, ρ x = ρ' x) → (l.mapM fun x => bp0 (ρ x)) = (l.mapM fun x => bp0 (ρ' x)) := by
      intro l
      induction l with
      | nil => intro _; rfl
      | cons y l ih => intro hl; simp only [List.mapM_cons, hl y (by simp), ih fun z hz => hl z (by simp [hz])]
    simp only [key captured.toList fun x hx => h x (by simp at hx ⊢; exact .inr hx)]
  case call c =>
    obtain ⟨callee, args, ats⟩ := c
    simp only [Call.operands] at h
    have ha : args.toList.map ρ = args.toList.map ρ' := List.map_congr_left fun x hx => h x (by simp at hx ⊢; exact .inr hx)
    have hm : ∀ x ∈ args.toList, ρ x = ρ' x := fun x hx => h x (by simp at hx ⊢; exact .inr hx)
    cases callee with
    | value f => simp only [ha, h f (by simp)]
    | invoke r m => rfl
    | builtin b =>
      cases b <;> try rfl
      case append =>
        simp only
        split
        · rename_i s x t u h1 h2
          rw [hm s (by rw [h1]; simp), hm x (by rw [h1]; simp)]
        · rfl
      case len =>
        simp only
        split
        · rename_i x t h1 h2
          rw [hm x (by rw [h1]; simp)]
        · rfl
      case clear =>
        simp only
        split
        · rename_i x t h1 h2
          rw [hm x (by rw [h1]; simp)]
        · rfl
      all_goals simp only [scals_congr _ hm]
  case slice t x lo hi mx =>
    have h1 : ρ x = ρ' x := h x (by simp)
    have h2 : ∀ y, lo = some y → ρ y = ρ' y := fun y e => h y (by simp [e])
    have h3 : ∀ y, hi = some y → ρ y = ρ' y := fun y e => h y (by simp [e])
    simp only [opSlice, h1]
    cases lo <;> cases hi <;> simp_all [bound]
  all_goals (first | rfl | (simp_all; done))

/-! what leaves the world as it is -/
theorem evOp_still {o : Oper} {y : T} (hs : still o.op = true) (h : evOp P K F ρ σ o = some (y, σ')) : σ' = σ := by
  obtain ⟨dst, op, type, pos, after, guard⟩ := o
  cases op <;> simp only [still, Bool.false_eq_true] at hs <;> simp only [evOp] at h
  case move => simp_all
  case assign => simp_all
  case pick => split at h <;> simp_all
  case build =>
    simp only [opBuild, Option.bind_eq_some_iff] at h
    obtain ⟨_, _, _, _, h⟩ := h
    split at h
    · simp only [Option.bind_eq_some_iff, Option.map_eq_some_iff, Prod.mk.injEq] at h
      obtain ⟨_, _, _, _, _, h⟩ := h; exact h.symm
    · simp at h
  case load =>
    simp only [opLoad, Option.bind_eq_some_iff] at h
    obtain ⟨_, _, _, _, _, _, h⟩ := h
    split at h
    · split at h <;> simp at h; exact h.2.symm
    · simp only [Option.map_eq_some_iff, Prod.mk.injEq] at h; obtain ⟨_, _, _, h⟩ := h; exact h.symm
  case nilCheck => split at h <;> simp at h <;> exact h.2.symm
  case binOp =>
    split at h
    · simp only [opEq] at h
      split at h
      · split at h
        · simp only [Option.map_eq_some_iff, Prod.mk.injEq] at h; obtain ⟨_, _, _, h⟩ := h; exact h.symm
        · simp only [Option.map_eq_some_iff, Prod.mk.injEq] at h; obtain ⟨_, _, _, h⟩ := h; exact h.symm
        · simp at h
      · simp at h
    · simp at h; obtain ⟨_, _, _, h⟩ := h; exact h.symm
    · simp at h
  case unOp => split at h <;> simp at h; obtain ⟨_, _, _, h⟩ := h; exact h.symm
  case convert =>
    simp only [opConv] at h
    split at h
    · simp at h; obtain ⟨_, _, _, h⟩ := h; exact h.symm
    · split at h
      · simp at h
      · split at h
        · simp only [Option.bind_eq_some_iff, Option.map_eq_some_iff, Prod.mk.injEq] at h; obtain ⟨_, _, _, _, _, h⟩ := h; exact h.symm
        · simp at h
  case slice =>
    split at h
    · simp only [opSlice] at h
      split at h
      · simp only [Option.bind_eq_some_iff, Option.map_eq_some_iff, Prod.mk.injEq] at h; obtain ⟨_, _, _, _, _, _, _, h⟩ := h; exact h.symm
      · simp only [Option.bind_eq_some_iff] at h
        obtain ⟨_, _, _, _, _, _, _, _, _, _, h⟩ := h
        split at h
        · split at h
          · split at h <;> simp at h; exact h.2.symm
          · simp at h; exact h.2.symm
          · simp only [Option.bind_eq_some_iff] at h; obtain ⟨_, _, h⟩ := h; split at h <;> simp at h; exact h.2.symm
          · simp only [Option.bind_eq_some_iff] at h; obtain ⟨_, _, h⟩ := h; split at h <;> simp at h; exact h.2.symm
          · simp at h
        · simp at h
    · simp at h
  case fieldAddr =>
    simp only [opFieldAddr, Option.bind_eq_some_iff] at h
    obtain ⟨_, _, _, _, h⟩ := h
    split at h
    · simp at h
    · split at h <;> simp at h <;> exact h.2.symm
  case field =>
    simp only [opField, Option.bind_eq_some_iff] at h
    obtain ⟨_, _, _, _, _, _, h⟩ := h
    split at h
    · split at h
      · split at h
        · simp at h; exact h.2.symm
        · simp only [Option.map_eq_some_iff, Prod.mk.injEq] at h; obtain ⟨_, _, _, h⟩ := h; exact h.symm
      · simp at h
    · simp at h
  case indexAddr =>
    simp only [opIndexAddr, Option.bind_eq_some_iff] at h
    obtain ⟨_, _, _, _, h⟩ := h
    split at h
    · simp at h
    · split at h
      · split at h
        · simp only [Option.bind_eq_some_iff] at h; obtain ⟨_, _, h⟩ := h; split at h <;> simp at h; exact h.2.symm
        · simp at h
      · simp only [Option.map_eq_some_iff, Prod.mk.injEq] at h; obtain ⟨_, _, _, h⟩ := h; exact h.symm
      · simp only [Option.bind_eq_some_iff] at h; obtain ⟨_, _, h⟩ := h; split at h <;> simp at h; exact h.2.symm
      · simp only [Option.bind_eq_some_iff] at h; obtain ⟨_, _, h⟩ := h; split at h <;> simp at h; exact h.2.symm
      · simp at h
  case index => split at h <;> simp at h; obtain ⟨_, _, _, h⟩ := h; exact h.symm
  case extract => split at h <;> simp at h; obtain ⟨_, _, _, h⟩ := h; exact h.symm
  case makeFunc fn first cap =>
    cases fn <;> simp at h
    obtain ⟨_, _, _, _, h⟩ := h; exact h.symm
  case call c =>
    obtain ⟨callee, args, ats⟩ := c
    cases callee with
    | value f => simp at hs
    | invoke r m => simp at hs
    | builtin b =>
      cases b <;> simp at hs <;> simp only at h
      case len =>
        split at h
        · split at h
          · split at h <;> simp at h <;> exact h.2.symm
          · simp only [Option.bind_eq_some_iff, Option.map_eq_some_iff, Prod.mk.injEq] at h; obtain ⟨_, _, _, _, _, h⟩ := h; exact h.symm
          · simp only [Option.bind_eq_some_iff, Option.map_eq_some_iff, Prod.mk.injEq] at h; obtain ⟨_, _, _, _, _, h⟩ := h; exact h.symm
        · simp at h
      all_goals
        split at h
        · simp only [Option.bind_eq_some_iff, Option.map_eq_some_iff, Prod.mk.injEq] at h; obtain ⟨_, _, _, _, _, h⟩ := h; exact h.symm
        · simp at h

/-! what reads, reads what it refers to -/
/-- what a row holds -/
def Dp.k : Dp → Nat
  | .f => 0
  | .d => 1
  | .p _ => 2
def rc (τ : St) (i : Nat) : Option (Nat × List (List C) × Nat) := (rawAt τ i).map fun q => (q.sz, q.l, q.dp.k)
def rv (τ : St) (i : Nat) : Option (Nat × List (List C) × Bool) := (rowAt τ i).map fun q => (q.sz, q.l, q.dp.q)
theorem rv_rc (τ : St) (i : Nat) : rv τ i = (rc τ i).bind fun p => if p.2.2 = 2 then none else some (p.1, p.2.1, p.2.2 == 1) := by
  unfold rv rc rowAt
  cases rawAt τ i with
  | none => rfl
  | some q => cases hq : q.dp <;> simp [here, hq, Dp.q, Dp.k]
def Agree (τ τ2 : St) : Lend → Prop
  | .b b => boxAt τ2 b = boxAt τ b
  | .r i => rc τ2 i = rc τ i
theorem rc_bind {α : Type} {i : Nat} (h : rc τ2 i = rc τ i) (f : Nat → List (List C) → Bool → Option α) : ((rowAt τ2 i).bind fun q => f q.sz q.l q.dp.q) = (rowAt τ i).bind fun q => f q.sz q.l q.dp.q := by
  have := congrArg (Option.bind · fun p => f p.1 p.2.1 p.2.2) (show rv τ2 i = rv τ i by rw [rv_rc, rv_rc, h])
  simp only [rv, Option.bind_map] at this
  exact this
theorem rc_map {α : Type} {i : Nat} (h : rc τ2 i = rc τ i) (f : Nat → List (List C) → Bool → α) : ((rowAt τ2 i).map fun q => f q.sz q.l q.dp.q) = (rowAt τ i).map fun q => f q.sz q.l q.dp.q := by
  have := congrArg (Option.map fun p => f p.1 p.2.1 p.2.2) (show rv τ2 i = rv τ i by rw [rv_rc, rv_rc, h])
  simp only [rv, Option.map_map] at this
  exact this
theorem cells_agree {a : T} (h : ∀ r ∈ refs a, Agree τ τ2 r) : cells τ2 a = cells τ a := by
  cases a <;> try rfl
  case bp b o => simp only [cells]; rw [show boxAt τ2 b = boxAt τ b from h (.b b) (by simp [refs])]
  case rp i n o => exact rc_bind (show rc τ2 i = rc τ i from h (.r i) (by simp [refs])) fun _ l b => if b then none else (l[n]?).map fun l => (l.drop o).map T.c
theorem elems_agree {a : T} (h : ∀ r ∈ refs a, Agree τ τ2 r) : elems τ2 a = elems τ a := by
  cases a
  case c x => cases x <;> rfl
  case row i => exact rc_map (show rc τ2 i = rc τ i from h (.r i) (by simp [refs])) fun _ l _ => l
  case sl i lo hi => exact rc_map (show rc τ2 i = rc τ i from h (.r i) (by simp [refs])) fun _ l _ => cut l lo hi
  all_goals rfl
theorem deep_agree {a : T} (h : ∀ r ∈ refs a, Agree τ τ2 r) : deepT τ2 a = deepT τ a := by
  have key : ∀ i, rc τ2 i = rc τ i → (match rowAt τ2 i with | some r => r.dp.q | none => false) = (match rowAt τ i with | some r => r.dp.q | none => false) := by
    intro i hi
    have := congrArg (fun p : Option (Nat × List (List C) × Bool) => match p with | some p => p.2.2 | none => false) (show rv τ2 i = rv τ i by rw [rv_rc, rv_rc, hi])
    simp only [rv] at this
    cases h1 : rowAt τ2 i <;> cases h2 : rowAt τ i <;> simp_all
  cases a <;> first | rfl | exact key _ (h (.r _) (by simp [refs]))
/-- the same answer, elsewhere -/
def there (τ2 : St) (p : T × St) : T × St := (p.1, τ2)
theorem opBuild_h (t : TypeId) (ps : List (Nat × T)) : opBuild P τ2 t ps = (opBuild P τ t ps).map (there τ2) := by
  unfold opBuild
  cases P.info? t with
  | none => rfl
  | some i =>
    simp only [Option.bind_some]
    cases i.zero with
    | none => rfl
    | some z =>
      simp only [Option.bind_some]
      split
      · cases placesOf P t with
        | none => rfl
        | some q => simp only [Option.bind_some, Option.map_map]; rfl
      · rfl
theorem opLoad_h {a : T} (t : TypeId) (h : cells τ2 a = cells τ a) : opLoad P τ2 t a = (opLoad P τ t a).map (there τ2) := by
  unfold opLoad
  rw [h]
  cases cells τ a with
  | none => rfl
  | some cs =>
    simp only [Option.bind_some]
    cases szOf P t with
    | none => rfl
    | some n =>
      simp only [Option.bind_some]
      cases aggQ P t with
      | none => rfl
      | some g =>
        simp only [Option.bind_some]
        cases g with
        | true => simp only [if_true]; split <;> rfl
        | false => simp only [Bool.false_eq_true, if_false]; cases cs.head? <;> rfl
theorem opEq_h (op : BinOp) (t : TypeId) (l m : List T) : opEq P τ2 op t l m = (opEq P τ op t l m).map (there τ2) := by
  unfold opEq
  split
  · cases op <;> first | rfl | (simp only; cases eqT P 8 t l m <;> rfl)
  · rfl
theorem opConv_h {x : T} (s d : TypeId) (h : elems τ2 x = elems τ x) (hd : deepT τ2 x = deepT τ x) : opConv P τ2 s d x = (opConv P τ s d x).map (there τ2) := by
  unfold opConv
  split
  · cases pureRun P _ <;> rfl
  · rw [hd]
    split
    · rfl
    split
    · rw [h]
      cases elems τ x with
      | none => rfl
      | some l => simp only [Option.bind_some]; cases bytesOf l <;> rfl
    · rfl
theorem raw_bind {α : Type} {i : Nat} (h : rc τ2 i = rc τ i) (f : Nat → List (List C) → Option α) : ((rawAt τ2 i).bind fun q => f q.sz q.l) = (rawAt τ i).bind fun q => f q.sz q.l := by
  have := congrArg (Option.bind · fun p => f p.1 p.2.1) h
  simp only [rc, Option.bind_map] at this
  exact this
theorem span_agree {a : T} (h : ∀ r ∈ refs a, Agree τ τ2 r) : spanT τ2 a = spanT τ a := by
  have he := elems_agree h
  cases a
  case row i =>
    have := raw_bind (show rc τ2 i = rc τ i from h (.r i) (by simp [refs])) fun _ l => some l.length
    simp only [spanT]
    rw [Option.map_eq_bind, Option.map_eq_bind]; exact this
  case sl i lo hi =>
    have := raw_bind (show rc τ2 i = rc τ i from h (.r i) (by simp [refs])) fun _ l => some (cut l lo hi).length
    simp only [spanT]
    rw [Option.map_eq_bind, Option.map_eq_bind]; exact this
  all_goals simp only [spanT, he]
theorem raw_h {i : Nat} (h : rc τ2 i = rc τ i) (p : Nat → List (List C) → Bool) (f : T) : ((rawAt τ2 i).bind fun r => if p r.sz r.l = true then some (f, τ2) else none) = ((rawAt τ i).bind fun r => if p r.sz r.l = true then some (f, τ) else none).map (there τ2) := by
  rw [raw_bind h fun a b => if p a b = true then some (f, τ2) else none]
  cases rawAt τ i with
  | none => rfl
  | some r => simp only [Option.bind_some]; split <;> rfl
theorem row_h {i : Nat} (h : rc τ2 i = rc τ i) (p : Nat → List (List C) → Bool) (f : T) : ((rowAt τ2 i).bind fun r => if p r.sz r.l = true then some (f, τ2) else none) = ((rowAt τ i).bind fun r => if p r.sz r.l = true then some (f, τ) else none).map (there τ2) := by
  rw [rc_bind h fun a b _ => if p a b = true then some (f, τ2) else none]
  cases rowAt τ i with
  | none => rfl
  | some r => simp only [Option.bind_some]; split <;> rfl
theorem opSlice_h {x : T} (t : TypeId) (lo hi : Option Operand) (h : ∀ r ∈ refs x, Agree τ τ2 r) : opSlice P ρ τ2 t x lo hi = (opSlice P ρ τ t x lo hi).map (there τ2) := by
  have he := span_agree h
  unfold opSlice
  split
  · rename_i v
    have key : ∀ (a b : Option (Option Value)), (a.bind fun lo => b.bind fun hi => (pureRun P (Instr.slice t v lo hi none)).map fun v => (ofV v, τ2)) = (a.bind fun lo => b.bind fun hi => (pureRun P (Instr.slice t v lo hi none)).map fun v => (ofV v, τ)).map (there τ2) := by
      intro a b
      cases a with
      | none => rfl
      | some a =>
        cases b with
        | none => rfl
        | some b => simp only [Option.bind_some, Option.map_map]; rfl
    exact key _ _
  · rw [he]
    cases elOf P t with
    | none => rfl
    | some e =>
    simp only [Option.bind_some]
    cases szOf P e with
    | none => rfl
    | some n =>
    simp only [Option.bind_some]
    cases spanT τ x with
    | none => rfl
    | some l =>
    simp only [Option.bind_some]
    cases bound ρ hi l with
    | none => rfl
    | some hh =>
    simp only [Option.bind_some]
    cases bound ρ lo 0 with
    | none => rfl
    | some ll =>
    simp only [Option.bind_some]
    split
    · cases x with
      | c x => cases x with
        | s v => rfl
        | r xs => simp only; split <;> rfl
      | nil => rfl
      | row i =>
        have := raw_h (h (.r i) (by simp [refs])) (fun a _ => a == n) (.sl i ll hh)
        simpa using this
      | sl i a b =>
        have := raw_h (h (.r i) (by simp [refs])) (fun a _ => a == n) (.sl i (a + ll) (a + hh))
        simpa using this
      | _ => rfl
    · rfl
theorem opIndexAddr_h {x ix : T} (t : TypeId) (h : ∀ r ∈ refs x, Agree τ τ2 r) : opIndexAddr P τ2 t x ix = (opIndexAddr P τ t x ix).map (there τ2) := by
  unfold opIndexAddr
  cases elOf P t with
  | none => rfl
  | some e =>
  simp only [Option.bind_some]
  cases szOf P e with
  | none => rfl
  | some n =>
  simp only [Option.bind_some]
  split
  · rfl
  · split
    · split
      · rename_i l _
        rename_i i _
        cases l[i.toNat]? with
        | none => rfl
        | some el => simp only [Option.bind_some]; split <;> rfl
      · rfl
    · simp only [Option.map_map]; rfl
    · rename_i k i j
      have := row_h (h (.r j) (by simp [refs])) (fun a l => decide (0 ≤ i ∧ i.toNat < l.length ∧ a = n)) (.rp j i.toNat 0)
      simpa only [decide_eq_true_eq] using this
    · rename_i k i j lo hi
      have := row_h (h (.r j) (by simp [refs])) (fun a _ => decide (0 ≤ i ∧ lo + i.toNat < hi ∧ a = n)) (.rp j (lo + i.toNat) 0)
      simpa only [decide_eq_true_eq] using this
    · rfl
theorem opFieldAddr_h {x : T} (s : TypeId) (f : Nat) : opFieldAddr P τ2 s x f = (opFieldAddr P τ s x f).map (there τ2) := by
  unfold opFieldAddr
  cases fldOf P s f with
  | none => rfl
  | some fd =>
  simp only [Option.bind_some]
  cases szOf P fd.type with
  | none => rfl
  | some n => simp only [Option.bind_some]; split; rfl; cases x <;> rfl
theorem opField_h {x : T} (s : TypeId) (f : Nat) : opField P τ2 s x f = (opField P τ s x f).map (there τ2) := by
  unfold opField
  cases fldOf P s f with
  | none => rfl
  | some fd =>
  simp only [Option.bind_some]
  cases szOf P fd.type with
  | none => rfl
  | some n =>
  simp only [Option.bind_some]
  cases aggQ P fd.type with
  | none => rfl
  | some g =>
  simp only [Option.bind_some]
  cases x <;> try rfl
  simp only
  split
  · split
    · rfl
    · simp only [Option.map_map]; rfl
  · rfl
theorem evOp_h {o : Oper} (hs : still o.op = true) (hh : hangs o.op = true → ∀ r ∈ rdOf ρ o, Agree τ τ2 r) : evOp P K F ρ τ2 o = (evOp P K F ρ τ o).map (there τ2) := by
  obtain ⟨dst, op, type, pos, after, guard⟩ := o
  have rd : ∀ x ∈ op.operands, ∀ r ∈ refs (ρ x), hangs op = true → Agree τ τ2 r := fun x hx r hr hg => hh hg r (List.mem_flatMap.2 ⟨x, by simpa using hx, hr⟩)
  cases op <;> simp only [still, Bool.false_eq_true] at hs <;> simp only [evOp]
  case move => rfl
  case assign => rfl
  case pick => split <;> rfl
  case build => exact opBuild_h _ _
  case load t a => exact opLoad_h t (cells_agree fun r hr => rd a (by simp [Op.operands]) r hr rfl)
  case nilCheck => split <;> rfl
  case binOp =>
    split
    · exact opEq_h _ _ _ _
    · simp only [Option.map_map]; rfl
    · rfl
  case unOp => split; simp only [Option.map_map]; rfl; rfl
  case convert s d x => exact opConv_h s d (elems_agree fun r hr => rd x (by simp [Op.operands]) r hr rfl) (deep_agree fun r hr => rd x (by simp [Op.operands]) r hr rfl)
  case slice t x lo hi mx => split; exact opSlice_h t lo hi fun r hr => rd x (by simp [Op.operands]) r hr rfl; rfl
  case fieldAddr => exact opFieldAddr_h _ _
  case field => exact opField_h _ _
  case indexAddr t x ix => exact opIndexAddr_h t fun r hr => rd x (by simp [Op.operands]) r hr rfl
  case index => split; simp only [Option.map_map]; rfl; rfl
  case extract => split; simp only [Option.map_map]; rfl; rfl
  case makeFunc fn first cap =>
    cases fn <;> try rfl
    simp only
    split
    · simp only [Option.map_map]; rfl
    · rfl
  case call c =>
    obtain ⟨callee, args, ats⟩ := c
    cases callee with
    | value f => simp at hs
    | invoke r m => simp at hs
    | builtin b =>
      cases b <;> simp at hs <;> simp only
      case len =>
        split
        · rename_i x t h1 h2
          have he := elems_agree fun r hr => rd x (by simp only [Op.operands, Call.operands]; simp at h1 ⊢; rw [← Array.mem_toList_iff, h1]; simp) r hr rfl
          split
          · split <;> rfl
          · cases elOf P t with
            | none => rfl
            | some e => simp only [Option.bind_some, Option.map_map]; rfl
          · rw [he]
            cases elOf P t with
            | none => rfl
            | some e => simp only [Option.bind_some, Option.map_map]; rfl
        · rfl
      all_goals
        split
        · cases scals ρ args.toList with
          | none => rfl
          | some vs => simp only [Option.bind_some, Option.map_map]; rfl
        · rfl
theorem evOp_agree {o : Oper} {y : T} (hs : still o.op = true) (hh : hangs o.op = true → ∀ r ∈ rdOf ρ o, Agree τ τ2 r) (h : evOp P K F ρ τ o = some (y, τ')) : evOp P K F ρ τ2 o = some (y, τ2) := by
  rw [evOp_h (τ := τ) hs hh, h]; rfl
end Go.SX

set_option linter.unusedVariables false
set_option linter.unusedSimpArgs false
set_option linter.unusedSectionVars false
namespace Go.SX
variable {P : Program} {K : Cfg} {F : Fun} {ρ ρ' : Operand → T} {σ σ' τ τ' τ2 : St} {V : List Lend}

/-! what acts, turns what it refers to -/
structure Same (V : List Lend) (σ σ' : St) : Prop where
  bl : σ.bx.length ≤ σ'.bx.length
  rl : σ.rw.length ≤ σ'.rw.length
  b : ∀ b, b < σ.bx.length → .b b ∉ V → boxAt σ' b = boxAt σ b
  r : ∀ i, i < σ.rw.length → .r i ∉ V → rc σ' i = rc σ i
theorem Same.refl (σ : St) : Same V σ σ := ⟨Nat.le_refl _, Nat.le_refl _, fun _ _ _ => rfl, fun _ _ _ => rfl⟩
theorem Same.trans (h : Same V σ σ') (k : Same V σ' τ) : Same V σ τ :=
  ⟨Nat.le_trans h.bl k.bl, Nat.le_trans h.rl k.rl, fun b hb hv => (k.b b (Nat.lt_of_lt_of_le hb h.bl) hv).trans (h.b b hb hv), fun b hb hv => (k.r b (Nat.lt_of_lt_of_le hb h.rl) hv).trans (h.r b hb hv)⟩
theorem Ext.same (h : Ext σ σ') : Same V σ σ' := ⟨h.bl, h.rl, fun b hb _ => h.b b hb, fun i hi _ => by simp only [rc, h.r i hi]⟩
theorem same_setBox {b : Nat} {l : Option (List T)} (h : .b b ∈ V) : Same V σ (setBox σ b l) := by
  refine ⟨by simp [setBox], Nat.le_refl _, fun b' _ hv => ?_, fun _ _ _ => rfl⟩
  rw [boxAt_set, if_neg]
  rintro ⟨rfl, _⟩; exact hv h
theorem same_setRow {i : Nat} {q : Option Row} (h : .r i ∈ V) : Same V σ (setRow σ i q) := by
  refine ⟨Nat.le_refl _, by simp [setRow], fun _ _ _ => rfl, fun i' _ hv => ?_⟩
  simp only [rc]
  rw [rawAt_set, if_neg]
  rintro ⟨rfl, _⟩; exact hv h
theorem same_demote (x : T) (hv : ∀ r ∈ rowRefs x, r ∈ V) : Same V σ (demote σ x) := by
  unfold demote
  split
  · split
    · exact same_setRow (hv _ (by simp [rowRefs]))
    · exact .refl _
  · split
    · exact same_setRow (hv _ (by simp [rowRefs]))
    · exact .refl _
  · exact .refl _
theorem same_demotes (l : List T) : ∀ {σ : St}, (∀ r ∈ agR l, r ∈ V) → Same V σ (demotes σ l) := by
  induction l with
  | nil => intro σ _; exact .refl _
  | cons x l ih => intro σ h; exact (same_demote x fun r hr => h r (by simp only [agR, List.flatMap_cons, List.mem_append]; exact .inl hr)).trans (ih fun r hr => h r (by simp only [agR, List.flatMap_cons, List.mem_append]; exact .inr hr))
theorem same_thaw (x : T) (hv : ∀ r ∈ rowRefs x, r ∈ V) : Same V σ (thaw σ x) := by
  unfold thaw
  split
  · split
    · exact same_setRow (hv _ (by simp [rowRefs]))
    · exact .refl _
  · split
    · exact same_setRow (hv _ (by simp [rowRefs]))
    · exact .refl _
  · exact .refl _
theorem same_dig {x : T} {p} (h : dig σ x = some p) (hv : ∀ r ∈ rowRefs x, r ∈ V) : Same V σ p.2 := by
  unfold dig at h
  split at h
  · simp only [Option.some.injEq] at h; rw [← h]; exact .refl _
  · simp only [Option.some.injEq] at h; rw [← h]; exact .refl _
  · simp only [Option.bind_eq_some_iff] at h
    obtain ⟨q, hq, h⟩ := h
    split at h
    · simp only [Option.some.injEq] at h; rw [← h]; exact same_setRow (hv _ (by simp [rowRefs]))
    · simp at h
  · simp at h
theorem same_digs (l : List T) : ∀ {σ : St} {p}, digs σ l = some p → (∀ r ∈ agR l, r ∈ V) → Same V σ p.2 := by
  induction l with
  | nil => intro σ p h _; simp only [digs, Option.some.injEq] at h; rw [← h]; exact .refl _
  | cons x l ih =>
    intro σ p h hv
    simp only [digs, Option.bind_eq_some_iff, Option.map_eq_some_iff] at h
    obtain ⟨p1, h1, p2, h2, rfl⟩ := h
    exact (same_dig h1 fun r hr => hv r (by simp only [agR, List.flatMap_cons, List.mem_append]; exact .inl hr)).trans (ih (p := p2) h2 fun r hr => hv r (by simp only [agR, List.flatMap_cons, List.mem_append]; exact .inr hr))
theorem const_rows {z : Value} {l : List T} (h : flat (constT z) = some l) : agR l = [] := by
  have key : ∀ v, rowRefs (ofV v) = [] := by intro v; unfold ofV; split <;> rfl
  have one : ∀ v l, flat (ofV v) = some l → agR l = [] := by
    intro v l h
    unfold ofV at h
    split at h <;> simp [flat] at h <;> subst h <;> rfl
  unfold constT at h
  split at h
  · split at h
    · simp only [flat, Option.some.injEq] at h
      subst h
      simp only [agR, List.flatMap_eq_nil_iff, List.mem_map]
      rintro x ⟨v, _, rfl⟩; exact key v
    · simp [flat] at h
  · exact one _ _ h
theorem flat_rows {x : T} {l : List T} (h : flat x = some l) : ∀ r ∈ agR l, r ∈ refsW x := by
  cases x <;> simp [flat] at h <;> subst h <;> simp [agR, refsW, rowRefs, refs]
theorem splice_rows {cs n l : List T} {o : Nat} (h : splice cs o n = some l) : ∀ r ∈ agR l, r ∈ agR cs ∨ r ∈ agR n := by
  unfold splice at h
  split at h
  · simp only [Option.some.injEq] at h
    subst h
    intro r hr
    simp only [agR, List.flatMap_append, List.mem_append, List.mem_flatMap] at hr ⊢
    rcases hr with (⟨x, h1, h2⟩ | ⟨x, h1, h2⟩) | ⟨x, h1, h2⟩
    · exact .inl ⟨x, List.mem_of_mem_take h1, h2⟩
    · exact .inr ⟨x, h1, h2⟩
    · exact .inl ⟨x, List.mem_of_mem_drop h1, h2⟩
  · simp at h
theorem fill_rows {place : Nat → Option (Nat × Nat)} : ∀ (ps : List (Nat × T)) {cs l : List T}, fillT place cs ps = some l → ∀ r ∈ agR l, r ∈ agR cs ∨ ∃ p ∈ ps, r ∈ refsW p.2
  | [], cs, l, h => by simp only [fillT, Option.some.injEq] at h; subst h; exact fun r hr => .inl hr
  | (i, x) :: ps, cs, l, h => by
    simp only [fillT, Option.bind_eq_some_iff] at h
    obtain ⟨⟨off, size⟩, hpl, xs, hxs, h⟩ := h
    split at h
    · simp only [Option.bind_eq_some_iff] at h
      obtain ⟨cs', hcs, h⟩ := h
      intro r hr
      rcases fill_rows ps h r hr with h1 | ⟨p, h1, h2⟩
      · rcases splice_rows hcs r h1 with h3 | h3
        · exact .inl h3
        · exact .inr ⟨(i, x), by simp, flat_rows hxs r h3⟩
      · exact .inr ⟨p, by simp [h1], h2⟩
    · simp at h
theorem same_give {x : T} {c} (h : give σ x = some (c, σ')) (hv : ∀ r ∈ refs x, r ∈ V) : Same V σ σ' ∧ σ'.bx = σ.bx := by
  cases x <;> simp only [give, Option.some.injEq, Prod.mk.injEq, Option.map_eq_some_iff, reduceCtorEq] at h
  case c => obtain ⟨_, rfl⟩ := h; exact ⟨.refl _, rfl⟩
  case nil => obtain ⟨_, rfl⟩ := h; exact ⟨.refl _, rfl⟩
  case row i =>
    obtain ⟨q, _, _, rfl⟩ := h
    split
    · exact ⟨same_setRow (hv _ (by simp [refs])), rfl⟩
    · exact ⟨.refl _, rfl⟩
  case sl i lo hi =>
    split at h
    · simp at h
    simp only [Option.map_eq_some_iff, Prod.mk.injEq] at h
    obtain ⟨q, _, _, rfl⟩ := h
    split
    · exact ⟨same_setRow (hv _ (by simp [refs])), rfl⟩
    · exact ⟨.refl _, rfl⟩
theorem same_gives : ∀ (l : List T) {σ σ' : St} {cs}, gives σ l = some (cs, σ') → (∀ r ∈ l.flatMap refs, r ∈ V) → Same V σ σ' ∧ σ'.bx = σ.bx
  | [], σ, σ', cs, h, _ => by simp [gives] at h; rw [h.2]; exact ⟨.refl _, rfl⟩
  | x :: l, σ, σ', cs, h, hv => by
    simp only [gives, Option.bind_eq_some_iff, Option.map_eq_some_iff, Prod.mk.injEq] at h
    obtain ⟨⟨c, σ1⟩, h1, ⟨cs', σ2⟩, h2, _, rfl⟩ := h
    obtain ⟨g1, g2⟩ := same_give h1 fun r hr => hv r (by simp [hr])
    obtain ⟨g3, g4⟩ := same_gives l h2 fun r hr => hv r (List.mem_flatMap.2 (by obtain ⟨a, b, c⟩ := List.mem_flatMap.1 hr; exact ⟨a, by simp [b], c⟩))
    exact ⟨g1.trans g3, g4.trans g2⟩
theorem same_lendAll : ∀ (ls : List Lend) {σ σ' : St} {cs}, lendAll σ ls = some (cs, σ') → (∀ b l, boxAt σ b = some l → boxAt τ b = some l) → (∀ x ∈ ls, ∀ r ∈ inBox τ x, r ∈ V) → Same V σ σ'
  | [], σ, σ', cs, h, _, _ => by simp [lendAll] at h; rw [h.2]; exact .refl _
  | .b b :: ls, σ, σ', cs, h, hb, hv => by
    simp only [lendAll, Option.bind_eq_some_iff, Option.map_eq_some_iff, Prod.mk.injEq] at h
    obtain ⟨l, hl, ⟨x, σ1⟩, h1, ⟨xs, σ2⟩, h2, _, rfl⟩ := h
    have hbv : .b b ∈ V := hv (.b b) (by simp) _ (by simp [inBox])
    obtain ⟨g1, g2⟩ := same_gives l h1 fun r hr => hv (.b b) (by simp) r (by simp only [inBox, hb b l hl, Option.getD_some]; exact List.mem_cons_of_mem _ hr)
    refine ((same_setBox hbv).trans g1).trans (same_lendAll ls h2 (fun b' l' hb' => ?_) fun y hy => hv y (by simp [hy]))
    have : boxAt (setBox σ b none) b' = some l' := by simp only [boxAt, ← g2]; exact hb'
    rw [boxAt_set] at this
    split at this
    · simp at this
    · exact hb b' l' this
  | .r i :: ls, σ, σ', cs, h, hb, hv => by
    simp only [lendAll, Option.bind_eq_some_iff] at h
    obtain ⟨q, hq, h⟩ := h
    split at h
    · simp only [Option.map_eq_some_iff, Prod.mk.injEq] at h
      obtain ⟨⟨xs, σ2⟩, h2, _, rfl⟩ := h
      exact (same_setRow (hv (.r i) (by simp) _ (by simp [inBox]))).trans (same_lendAll ls h2 hb fun y hy => hv y (by simp [hy]))
    · simp at h
theorem ext_tell (c : C × Option Sz) : Ext σ (tell σ c).2 := by
  obtain ⟨c, o⟩ := c
  cases o with
  | none => exact .refl _
  | some s => cases c with
    | s v => exact .refl _
    | r x => exact ext_newRow _
theorem ext_tells : ∀ (l : Cs) {σ : St}, Ext σ (tells σ l).2
  | [], _ => .refl _
  | c :: l, _ => (ext_tell c).trans (ext_tells l)
theorem ext_tellBs : ∀ (l : List Cs) {σ : St} {acc : List Nat}, Ext σ (tellBs σ l acc).2
  | [], _, _ => .refl _
  | c :: l, σ, acc => ((ext_tells c).trans (ext_newBox _)).trans (ext_tellBs l (acc := acc ++ [σ.bx.length]))
theorem ext_tellV (a : A) : Ext σ (tellV σ a).2 := by
  cases a with
  | c x o => exact ext_tell _
  | ag l => exact ext_tells l
  | p l => exact (ext_tells l).trans (ext_newBox _)
  | f g l => exact ext_tellBs l (acc := [])
  | tu l => exact .refl _
theorem ext_tellVs : ∀ (l : List A) {σ : St}, Ext σ (tellVs σ l).2
  | [], _ => .refl _
  | a :: l, _ => (ext_tellV a).trans (ext_tellVs l)
theorem ext_tellA (a : A) : Ext σ (tellA σ a).2 := by
  cases a with
  | tu l => exact ext_tellVs l
  | _ => exact ext_tellV _
theorem same_takeAll : ∀ (ls : List Lend) {σ σ' : St} {xs}, takeAll σ ls xs = some σ' → (∀ x ∈ ls, x ∈ V) → Same V σ σ' := by
  intro ls
  induction ls with
  | nil =>
    intro σ σ' xs h hv
    cases xs with
    | nil => simp [takeAll] at h; rw [h]; exact .refl _
    | cons x xs => simp [takeAll] at h
  | cons x ls ih =>
    intro σ σ' xs h hv
    cases xs with
    | nil => cases x <;> simp [takeAll] at h
    | cons c xs =>
      cases x with
      | b b =>
        cases c with
        | none => simp [takeAll] at h
        | some c =>
          simp only [takeAll] at h
          exact ((ext_tells c).same.trans (same_setBox (hv _ (by simp)))).trans (ih h fun y hy => hv y (by simp [hy]))
      | r i =>
        unfold takeAll at h
        split at h
        · simp_all
        · simp_all
        · rename_i h1 h2
          simp only [List.cons.injEq, Lend.r.injEq] at h1 h2
          obtain ⟨rfl, rfl⟩ := h1
          obtain ⟨_, rfl⟩ := h2
          exact (same_setRow (hv _ (by simp))).trans (ih h fun y hy => hv y (by simp [hy]))
        · rename_i h1 h2
          simp only [List.cons.injEq, Lend.r.injEq] at h1 h2
          obtain ⟨rfl, rfl⟩ := h1
          obtain ⟨_, rfl⟩ := h2
          exact ih h fun y hy => hv y (by simp [hy])
        · simp at h
theorem agLent_R : ∀ (l : List T) (x : Lend), x ∈ agLent l → x ∈ agR l
  | [], _, h => by simp [agLent] at h
  | y :: l, x, h => by
    simp only [agR, List.flatMap_cons, List.mem_append]
    cases y with
    | row i =>
      simp only [agLent, List.mem_cons] at h
      rcases h with rfl | h
      · exact .inl (by simp [rowRefs])
      · exact .inr (agLent_R l x h)
    | _ => exact .inr (agLent_R l x h)
theorem agR_seenC : ∀ (l : List T) (x : Lend), x ∈ agR (l.map (seenC σ)) → x ∈ agR l
  | [], _, h => by simp [agR] at h
  | y :: l, x, h => by
    simp only [agR, List.map_cons, List.flatMap_cons, List.mem_append] at h ⊢
    rcases h with h | h
    · refine .inl ?_
      cases y <;> try exact h
      simp only [seenC] at h
      split at h
      · split at h
        · exact h
        · simp [rowRefs] at h
      · exact h
    · exact .inr (agR_seenC l x h)
theorem lent_refs (md : Bool) : ∀ (l : List T) (x : Lend), x ∈ lentOf md l → ∃ y ∈ l, x ∈ argRefs y
  | [], x, h => by simp [lentOf] at h
  | y :: l, x, h => by
    have rest : x ∈ lentOf md l → ∃ z ∈ y :: l, x ∈ argRefs z := fun h => let ⟨z, h1, h2⟩ := lent_refs md l x h; ⟨z, by simp [h1], h2⟩
    cases y with
    | bp b o =>
      simp only [lentOf, List.mem_cons] at h
      rcases h with rfl | h
      · exact ⟨.bp b o, by simp, by simp [argRefs, refs]⟩
      · exact rest h
    | fn g bs =>
      simp only [lentOf, List.mem_append] at h
      rcases h with h | h
      · exact ⟨.fn g bs, by simp, by simpa [argRefs] using h⟩
      · exact rest h
    | row i =>
      simp only [lentOf] at h
      split at h
      · simp only [List.mem_cons] at h
        rcases h with rfl | h
        · exact ⟨.row i, by simp, by simp [argRefs, refs]⟩
        · exact rest h
      · exact rest h
    | ag z =>
      simp only [lentOf] at h
      split at h
      · rcases List.mem_append.1 h with h | h
        · exact ⟨.ag z, by simp, agLent_R z x h⟩
        · exact rest h
      · exact rest h
    | _ => exact rest h
theorem argRefs_seen1 {md : Bool} {y : T} {x : Lend} (h : x ∈ argRefs (seen1 md σ y)) : x ∈ argRefs y := by
  cases y <;> try exact h
  case ag l =>
    cases md with
    | false => exact h
    | true =>
      simp only [seen1, if_true, argRefs] at h ⊢
      exact agR_seenC l x h
  simp only [seen1] at h
  split at h
  · split at h
    · simp [argRefs, refs] at h
    · exact h
  · exact h
theorem same_apply {x : T} {args : List T} {y : T} (h : apply K F σ x args = some (y, σ')) (hv : ∀ r, r ∈ (((x :: args).flatMap argRefs).flatMap (inBox σ)) → r ∈ V) : Same V σ σ' := by
  cases x <;> simp only [apply, reduceCtorEq] at h
  rename_i g bs0
  split at h
  · simp only [Option.bind_eq_some_iff] at h
    obtain ⟨⟨cs, σ1⟩, hlend, xs, hargs, ⟨r, back⟩, hcall, h⟩ := h
    split at h
    · simp only [Option.map_eq_some_iff, Prod.mk.injEq] at h
      obtain ⟨σ3, htake, _, rfl⟩ := h
      have hin : ∀ z ∈ lentOf (K.md g) (args.map (seen1 (K.md g) σ) ++ bs0.map (.bp · 0)), ∀ r ∈ inBox σ z, r ∈ V := by
        intro z hz r hr
        obtain ⟨y, hy, hzy⟩ := lent_refs _ _ _ hz
        refine hv r (List.mem_flatMap.2 ⟨z, ?_, hr⟩)
        rcases List.mem_append.1 hy with hy | hy
        · obtain ⟨y0, hy0, rfl⟩ := List.mem_map.1 hy
          exact List.mem_flatMap.2 ⟨y0, by simp [hy0], argRefs_seen1 hzy⟩
        · obtain ⟨b, hb, rfl⟩ := List.mem_map.1 hy
          refine List.mem_flatMap.2 ⟨.fn g bs0, by simp, ?_⟩
          have : z = .b b := by simpa [argRefs, refs] using hzy
          subst this
          simpa [argRefs] using hb
      have h1 := same_lendAll (V := V) _ hlend (fun _ _ h => h) hin
      have h2 : Same V σ1 (if K.nest g then demotes σ1 (seenRows (args.map (seen1 (K.md g) σ) ++ bs0.map (.bp · 0))) else σ1) := by
        split
        · refine same_demotes _ fun r hr => ?_
          have hmem : ∃ y ∈ args.map (seen1 (K.md g) σ) ++ bs0.map (.bp · 0), r ∈ argRefs y ∧ ∃ i, r = .r i := by
            generalize args.map (seen1 (K.md g) σ) ++ bs0.map (.bp · 0) = as at hr
            have rr : ∀ {y : T}, r ∈ rowRefs y → ∃ i, r = .r i := by
              intro y h; cases y <;> simp [rowRefs] at h <;> exact ⟨_, h⟩
            have rr2 : ∀ {y : T}, r ∈ rowRefs y → r ∈ refs y := by
              intro y h; cases y <;> simp [rowRefs] at h <;> simp [refs, h]
            induction as with
            | nil => simp [seenRows, agR] at hr
            | cons y as ih =>
              cases y with
              | ag z =>
                simp only [seenRows, agR, List.flatMap_append, List.mem_append] at hr
                rcases hr with hr | hr
                · obtain ⟨y, h3, h4⟩ := List.mem_flatMap.1 hr
                  exact ⟨.ag z, by simp, hr, rr h4⟩
                · obtain ⟨y, h3, h4⟩ := ih hr; exact ⟨y, by simp [h3], h4⟩
              | _ =>
                simp only [seenRows, agR, List.flatMap_cons, List.mem_append] at hr
                rcases hr with hr | hr
                · exact ⟨_, List.mem_cons_self, (by first | exact rr2 hr | (simp [rowRefs] at hr)), rr hr⟩
                · obtain ⟨y, h3, h4⟩ := ih hr; exact ⟨y, by simp [h3], h4⟩
          obtain ⟨y, hy, hzy, i, rfl⟩ := hmem
          refine hv _ (List.mem_flatMap.2 ⟨.r i, ?_, by simp [inBox]⟩)
          rcases List.mem_append.1 hy with hy | hy
          · obtain ⟨y0, hy0, rfl⟩ := List.mem_map.1 hy
            exact List.mem_flatMap.2 ⟨y0, by simp [hy0], argRefs_seen1 hzy⟩
          · obtain ⟨b, hb, rfl⟩ := List.mem_map.1 hy
            simp [argRefs, refs] at hzy
        · exact .refl _
      refine ((h1.trans h2).trans (ext_tellA r).same).trans (same_takeAll _ htake fun z hz => hin z hz z ?_)
      cases z <;> simp [inBox]
    · simp at h
  · simp at h
theorem same_append0 {t : TypeId} {s x : T} {p : T × St} (h : opAppend0 P σ t s x = some p) (hs : ∀ r ∈ rowRefs s, r ∈ V) : Same V σ p.2 := by
  simp only [opAppend0, Option.bind_eq_some_iff] at h
  obtain ⟨_, _, _, _, _, _, _, _, _, _, h⟩ := h
  split at h
  · split at h
    · simp only [Option.some.injEq] at h
      rw [← h]
      exact (ext_newRow _).same
    · simp only [Option.bind_eq_some_iff] at h
      obtain ⟨_, _, h⟩ := h
      split at h
      · simp only [Option.some.injEq] at h
        rw [← h]
        exact (same_setRow (hs _ (by simp [rowRefs]))).trans (ext_newRow _).same
      · simp at h
    · simp only [Option.bind_eq_some_iff] at h
      obtain ⟨_, _, h⟩ := h
      split at h
      · simp only [Option.some.injEq] at h
        rw [← h]
        exact (same_setRow (hs _ (by simp [rowRefs]))).trans (ext_newRow _).same
      · simp at h
    · simp at h
  · simp at h
theorem deep_meltS {s x : T} (h : deepT (meltS σ s) x = true) : deepT σ x = true := by
  have key : ∀ {i : Nat} {r : Row}, rowAt σ i = some r → deepT (setRow σ i (some { r with dp := .f })) x = true → deepT σ x = true := by
    intro i r hr h
    cases x <;> simp only [deepT, Bool.false_eq_true] at h ⊢
    all_goals
      rw [rowAt_set rfl] at h
      split at h
      · rename_i r' heq
        split at heq
        · simp only [Option.some.injEq] at heq; subst heq; simp [Dp.q] at h
        · rw [heq]; exact h
      · simp at h
  unfold meltS at h
  split at h
  · cases s <;> simp only [thaw] at h <;> try exact h
    all_goals
      split at h
      · rename_i r hr; exact key hr h
      · exact h
  · exact h
theorem same_appTo {i : TypeInfo} {s : T} {lx : List (List C)} {p : T × St} (h : appTo σ i s lx = some p) (hs : ∀ r ∈ rowRefs s, r ∈ V) : Same V σ p.2 := by
  unfold appTo at h
  split at h
  · split at h
    · simp only [Option.some.injEq] at h
      rw [← h]
      exact (ext_newRow _).same
    · simp at h
  · simp only [Option.bind_eq_some_iff] at h
    obtain ⟨_, _, h⟩ := h
    split at h
    · simp only [Option.some.injEq] at h
      rw [← h]
      exact (same_setRow (hs _ (by simp [rowRefs]))).trans (ext_newRow _).same
    · simp at h
  · simp at h
theorem mov_part {x : T} (h : movQ σ x = true) : partQ σ x = true := by
  cases x <;> simp only [movQ, partQ, Bool.false_eq_true] at h ⊢
  split at h
  · rename_i r hr
    try rw [hr]
    cases hd : r.dp <;> simp [hd, Dp.from] at h ⊢
  · simp at h
theorem same_append {t : TypeId} {s x : T} {p : T × St} (h : opAppend P σ t s x = some p) (hs : ∀ r ∈ rowRefs s, r ∈ V) (hx : (deepT σ x || partQ σ x) = true → ∀ r ∈ rowRefs x, r ∈ V) : Same V σ p.2 := by
  unfold opAppend at h
  split at h
  · rename_i j hj
    have hw : isPart x = some j ∧ movQ σ x = true := by
      cases hm : movQ σ x with
      | false => rw [hm] at hj; simp at hj
      | true =>
        rw [hm] at hj
        generalize (true && (deepT σ s || isNil s)) = b at hj
        cases b <;> simp_all
    obtain ⟨hw, hm⟩ := hw
    cases x <;> simp [isPart] at hw
    subst hw
    simp only [opAppendP, Option.bind_eq_some_iff] at h
    obtain ⟨_, _, _, _, _, _, _, _, h⟩ := h
    split at h
    · obtain ⟨p', h1, rfl⟩ := Option.map_eq_some_iff.1 h
      have hr := hx (by rw [mov_part hm]; simp)
      exact ((same_setRow (hr _ (by simp [rowRefs]))).trans (same_appTo h1 hs)).trans (same_setRow (hr _ (by simp [rowRefs])))
    · simp at h
  split at h
  · rename_i jx hj
    have hw : isWhole x = some jx := by
      generalize (deepT σ x && (deepT σ s || isNil s)) = b at hj
      cases b <;> simp_all
    have hd : deepT σ x = true := by
      cases hdx : deepT σ x with
      | true => rfl
      | false => rw [hdx] at hj; simp at hj
    cases x <;> simp [isWhole] at hw
    subst hw
    simp only [opAppendD, Option.bind_eq_some_iff] at h
    obtain ⟨_, _, _, _, _, _, _, _, h⟩ := h
    split at h
    · exact (same_setRow (hx (by rw [hd]; rfl) _ (by simp [rowRefs]))).trans (same_appTo h hs)
    · simp at h
  · refine Same.trans ?_ (same_append0 h hs)
    refine Same.trans (σ' := meltS σ s) ?_ ?_
    · unfold meltS; split
      · exact same_thaw s hs
      · exact .refl _
    · unfold meltX; split
      · rename_i hd; exact same_demote x (hx (by rw [deep_meltS hd]; rfl))
      · exact .refl _
theorem evOp_frame {o : Oper} {y : T} (hs : still o.op = false) (h : evOp P K F ρ σ o = some (y, σ')) : Same (wrOf ρ σ o) σ σ' := by
  obtain ⟨dst, op, type, pos, after, guard⟩ := o
  cases op <;> simp only [still, reduceCtorEq] at hs <;> simp only [evOp, reduceCtorEq] at h
  case alloc t =>
    simp only [opAlloc, Option.bind_eq_some_iff, Option.map_eq_some_iff] at h
    obtain ⟨_, _, _, _, l, _, h⟩ := h
    rw [show σ' = (newBox σ l).2 by rw [h]]
    exact (ext_newBox l).same
  case box t x =>
    simp only [opBox, Option.bind_eq_some_iff] at h
    obtain ⟨l, _, h⟩ := h
    split at h
    · simp only [Option.some.injEq] at h
      rw [show σ' = (newBox σ l).2 by rw [h]]
      exact (ext_newBox l).same
    · simp at h
  case buildSlice t n ps =>
    simp only [opBuildSlice, Option.bind_eq_some_iff] at h
    obtain ⟨_, _, _, _, z, _, zl, hzl, h⟩ := h
    split at h
    · simp only [Option.bind_eq_some_iff] at h
      obtain ⟨l, hl, h⟩ := h
      have hrows : ∀ r ∈ agR l, r ∈ wrOf ρ σ ⟨dst, .buildSlice t n ps, type, pos, after, guard⟩ := by
        intro r hr
        rcases fill_rows _ hl r hr with h1 | ⟨p, h1, h2⟩
        · simp only [agR, List.mem_flatMap] at h1
          obtain ⟨y, h3, h4⟩ := h1
          have h5 := const_rows hzl
          simp only [agR, List.flatMap_eq_nil_iff] at h5
          have : y ∈ zl := by
            obtain ⟨l', h6, h7⟩ := List.mem_flatten.1 h3
            rw [List.eq_of_mem_replicate h6] at h7; exact h7
          rw [h5 y this] at h4; simp at h4
        · obtain ⟨q, h3, rfl⟩ := List.mem_map.1 h1
          simp only [wrOf]
          exact List.mem_flatMap.2 ⟨q.2, by simp only [Op.operands]; exact List.mem_map.2 ⟨q, h3, rfl⟩, h2⟩
      split at h
      · split at h
        case isFalse => simp at h
        simp only [Option.map_eq_some_iff] at h
        obtain ⟨q, hq, h⟩ := h
        have e := congrArg Prod.snd h
        simp only at e
        rw [← e]
        exact (same_digs l hq hrows).trans (ext_newRow _).same
      · simp only [Option.map_eq_some_iff] at h
        obtain ⟨cs, _, h⟩ := h
        have e := congrArg Prod.snd h
        simp only at e
        rw [← e]
        exact (same_demotes l hrows).trans (ext_newRow _).same
    · simp at h
  case makeSlice t l c =>
    simp only [opMake, Option.bind_eq_some_iff] at h
    obtain ⟨_, _, _, _, _, _, z, hzl, cs, _, h⟩ := h
    split at h
    · split at h
      · simp only [Option.some.injEq] at h
        have e := congrArg Prod.snd h
        simp only at e
        rw [← e]
        exact (same_demotes z (by rw [const_rows hzl]; simp)).trans (ext_newRow _).same
      · simp at h
    · simp at h
  case store t a x =>
    simp only [opStore, Option.bind_eq_some_iff] at h
    obtain ⟨l, hl, h⟩ := h
    have hrows : ∀ {i n off}, ρ a = .rp i n off → ∀ r ∈ agR l, r ∈ wrOf ρ σ ⟨dst, .store t a x, type, pos, after, guard⟩ := fun {i n off} ha r hr => by
      simp only [wrOf, ha]; exact List.mem_append.2 (.inr (flat_rows hl r hr))
    split at h
    · split at h
      · rename_i b off ha
        simp only [Option.bind_eq_some_iff, Option.map_eq_some_iff, Prod.mk.injEq] at h
        obtain ⟨_, _, _, _, _, rfl⟩ := h
        exact same_setBox (by simp [wrOf, ha, refs])
      · rename_i i n off ha
        split at h
        · simp only [Option.bind_eq_some_iff] at h
          obtain ⟨p, hp, _, _, h⟩ := h
          split at h
          · simp only [Option.bind_eq_some_iff, Option.map_eq_some_iff, Prod.mk.injEq] at h
            obtain ⟨_, _, _, _, _, rfl⟩ := h
            exact (same_digs l hp (hrows ha)).trans (same_setRow (by simp [wrOf, ha, refs]))
          · simp at h
        simp only [Option.bind_eq_some_iff] at h
        obtain ⟨_, _, _, _, h⟩ := h
        split at h
        · simp only [Option.bind_eq_some_iff, Option.map_eq_some_iff, Prod.mk.injEq] at h
          obtain ⟨_, _, _, _, _, rfl⟩ := h
          exact (same_demotes l (hrows ha)).trans (same_setRow (by simp [wrOf, ha, refs]))
        · simp at h
      · simp at h
    · simp at h
  case call c =>
    obtain ⟨callee, args, ats⟩ := c
    cases callee with
    | value f =>
      refine same_apply h fun r hr => ?_
      simp only [wrOf, turns, Op.operands, Call.operands]
      obtain ⟨z, hz, hr⟩ := List.mem_flatMap.1 hr
      refine List.mem_flatMap.2 ⟨z, ?_, hr⟩
      obtain ⟨y0, hy0, hz⟩ := List.mem_flatMap.1 hz
      simp only [List.mem_cons, List.mem_map] at hy0
      rcases hy0 with rfl | ⟨x, hx, rfl⟩
      · exact List.mem_flatMap.2 ⟨f, by simp, hz⟩
      · exact List.mem_flatMap.2 ⟨x, by simp at hx ⊢; exact .inr hx, hz⟩
    | invoke r m => simp at h
    | builtin b =>
      have key : ∀ x ∈ turns ρ σ ⟨.builtin b, args, ats⟩, ∀ r ∈ rowRefs (ρ x), r ∈ wrOf ρ σ ⟨dst, .call ⟨.builtin b, args, ats⟩, type, pos, after, guard⟩ := by
        intro x hx r hr
        simp only [wrOf]
        have : ∃ i, r = .r i ∧ r ∈ argRefs (ρ x) := by
          generalize ρ x = y at hr
          cases y <;> simp_all [argRefs, refs, rowRefs]
        obtain ⟨i, rfl, h1⟩ := this
        exact List.mem_flatMap.2 ⟨.r i, List.mem_flatMap.2 ⟨x, hx, h1⟩, by simp [inBox]⟩
      cases b <;> simp only [Bool.true_eq_false, reduceCtorEq] at hs <;> simp only [isBuiltin2, Bool.false_eq_true, if_false, reduceCtorEq] at h
      case append =>
        split at h
        · rename_i s x t u h1 h2
          have hsm : s ∈ turns ρ σ ⟨.builtin .append, args, ats⟩ := by simp only [turns, h1]; split <;> simp
          have hxm : (deepT σ (ρ x) || partQ σ (ρ x)) = true → x ∈ turns ρ σ ⟨.builtin .append, args, ats⟩ := fun hd => by simp only [turns, h1, hd, if_true]; simp
          split at h
          · exact same_append h (key s hsm) (fun hd => key x (hxm hd))
          · simp at h
        · simp at h
      case clear =>
        split at h
        · rename_i x t h1 h2
          have hxm : x ∈ turns ρ σ ⟨.builtin .clear, args, ats⟩ := by
            have hm : x ∈ args.toList := by rw [h1]; simp
            simp only [turns, Op.operands, Call.operands]; simpa using hm
          simp only [opClear, Option.bind_eq_some_iff] at h
          obtain ⟨_, _, _, _, z, _, zl, hzl, _, _, h⟩ := h
          split at h
          · split at h
            · rename_i j lo hi hj
              simp only [Option.bind_eq_some_iff] at h
              obtain ⟨_, _, h⟩ := h
              split at h
              · simp only [Option.some.injEq, Prod.mk.injEq] at h
                rw [← h.2]
                exact (same_demotes zl (by rw [const_rows hzl]; simp)).trans (same_setRow (key x hxm _ (by rw [hj]; simp [rowRefs])))
              · simp at h
            · simp at h
          · simp at h
        · simp at h
end Go.SX
