import Derived.Test.YtligkplajabcfaaSx5
set_option linter.unusedVariables false
set_option linter.unusedSimpArgs false
set_option linter.unusedSectionVars false
namespace Go.SX
variable {P : Program} {w w' w0 : World} {ok ok' : Nat → Prop} {E E' : Env} {B : Bd} {σ σ' : St}

theorem elems_vals' (M : Mem w0 B σ E ok w) {x : T} {a : Option Addr} {n cap : Nat} {l : List (List C)} (hx : TRel w ok E x (.slice a n cap)) (h : elems σ x = some l) (hdp : deepT σ x = false) (sz : Nat) (hz : wide sz l = true) :
    l.length = n ∧ ∃ f : Nat → Nat → Value, (∀ i j, i < n → j < sz → ∃ ad, a = some ad ∧ w.cell? (ad.add (i * sz + j)) = some (f i j)) ∧ ∀ i j el c, l[i]? = some el → el[j]? = some c → Holds w ok c (f i j) := by
  refine elems_vals M hx h hdp sz hz fun i lo hi q hxi hq => ?_
  have key : ∀ el, el ∈ l → el ∈ q.l → q.sz = sz := by
    intro el h1 h2
    have hr : ∃ r, E.ρ[i]? = some r := by
      rcases hxi with rfl | rfl
      · obtain ⟨r, hr, _⟩ := hx; exact ⟨r, hr⟩
      · obtain ⟨r, _, hr, _⟩ := hx; exact ⟨r, hr⟩
    obtain ⟨r, hr⟩ := hr
    obtain ⟨_, _, h3, h4⟩ := (M.row i r q hr hq).len
    rw [h4, ← h3 el h2, wide_iff.mp hz el h1]
  cases l with
  | nil => exact .inr rfl
  | cons el l' =>
    refine .inl (key el (by simp) ?_)
    rcases hxi with rfl | rfl
    · simp only [elems, hq, Option.map_some, Option.some.injEq] at h; rw [h]; simp
    · simp only [elems, hq, Option.map_some, Option.some.injEq] at h; exact cut_mem (lo := lo) (hi := hi) (by rw [h]; simp)

theorem bytes_wide : ∀ (l : List (List C)) (b : List UInt8), bytesOf l = some b → wide 1 l = true
  | [], _, _ => rfl
  | el :: l, b, h => by
    cases el with
    | nil => simp [bytesOf] at h
    | cons c cs =>
      cases cs with
      | cons _ _ => cases c with
        | s v => cases v <;> simp [bytesOf] at h
        | r _ => simp [bytesOf] at h
      | nil =>
        cases c with
        | r _ => simp [bytesOf] at h
        | s v =>
          cases v <;> try (simp [bytesOf] at h; done)
          rename_i k n
          cases k <;> try (simp [bytesOf] at h; done)
          simp only [bytesOf, Option.map_eq_some_iff] at h
          obtain ⟨b', hb, rfl⟩ := h
          have := wide_iff.mp (bytes_wide l b' hb)
          exact wide_iff.mpr (by intro e he; simp at he; rcases he with rfl | he; rfl; exact this e he)
theorem ok_conv (M : Mem w0 B σ E ok w) {x y : T} {av : Value} {src dst : TypeId} (hx : TRel w ok E x av) (h : opConv P σ src dst x = some (y, σ')) :
    σ' = σ ∧ ∃ v, (convert src dst av).run P w = .ok v w ∧ TRel w ok E y v := by
  unfold opConv at h
  split at h
  · rename_i v
    obtain rfl := hx.sc
    simp only [Option.map_eq_some_iff, Prod.mk.injEq] at h
    obtain ⟨u, hu, rfl, rfl⟩ := h
    exact ⟨rfl, u, run_pureRun _ _ hu, ofV_t u⟩
  · rename_i y0 hns
    split at h
    · simp at h
    rename_i hdp
    split at h
    · rename_i hd he
      simp only [Option.bind_eq_some_iff, Option.map_eq_some_iff, Prod.mk.injEq] at h he
      obtain ⟨l, hl, b, hb, rfl, rfl⟩ := h
      obtain ⟨e, he, hu8⟩ := he
      have hs := und_elOf he
      obtain ⟨a, cap, rfl, hcap⟩ := elems_len M hx hl
      obtain ⟨_, f, hf1, hf2⟩ := elems_vals' M hx hl (by simpa using hdp) 1 (bytes_wide l b hb)
      refine ⟨rfl, .string ⟨b.toArray⟩, ?_, Holds.s _ rfl⟩
      cases a with
      | none =>
        have hn : l = [] := by
          cases l with
          | nil => rfl
          | cons el l' => obtain ⟨ad, h1, _⟩ := hf1 0 0 (by simp) (by omega); simp at h1
        subst hn
        rw [run_convert_bytes_nil w src e hs hu8 _ _ dst hd]
        simp [bytesOf] at hb; subst hb; rfl
      | some ad =>
        obtain ⟨ns, hlen, rfl, hns⟩ := bytes_rel (w := w) (ok := ok) (ad := ad) l b 0 (fun i => f i 0) hb (fun j el c h1 h2 => by rw [Nat.zero_add]; exact hf2 j 0 el c h1 h2)
        have hload : (loadCells ad l.length).run P w = .ok (ns.map (Value.int .u8)).toArray w := by
          have := run_loadCells (P := P) (w := w) ad (ns.map (Value.int .u8)) (fun j u hj => by
            rw [List.getElem?_map] at hj
            cases hn : ns[j]? with
            | none => rw [hn] at hj; simp at hj
            | some n =>
              rw [hn] at hj; simp at hj; subst hj
              have hlt : j < l.length := by rw [← hlen]; exact (List.getElem?_eq_some_iff.mp hn).1
              obtain ⟨ad', h1, h2⟩ := hf1 j 0 hlt (by omega)
              cases h1
              have h3 := hns j n hn
              simp only [Nat.zero_add] at h3
              rw [← h3]; simpa using h2)
          rw [show (ns.map (Value.int .u8)).length = l.length by simp [hlen]] at this
          exact this
        rw [run_convert_bytes_string w src dst e _ _ cap hs hu8 hd, run_bytesToString w _ _ cap ns hload, foldl_push]
        simp [ByteArray.empty, ByteArray.emptyWithCapacity]; rfl
    · simp at h

/-! build -/
theorem fold_over (off : Nat) : ∀ (vs : List Value) (i : Nat) (cs : Array Value), off + i + vs.length ≤ cs.size → (vs.zipIdx i).foldl (fun cs (c, j) => cs.setIfInBounds (off + j) c) cs = over cs (off + i) vs
  | [], i, cs, _ => by simp [over]
  | v :: vs, i, cs, h => by
    simp only [List.length_cons] at h
    rw [List.zipIdx_cons, List.foldl_cons, fold_over off vs (i + 1) _ (by simp; omega)]
    unfold over
    congr 1
    have e1 : (cs.setIfInBounds (off + i) v).toList = cs.toList.set (off + i) v := by simp
    rw [e1]
    have hl : off + i < cs.toList.length := by simp; omega
    have e2 : (cs.toList.set (off + i) v).take (off + (i + 1)) = cs.toList.take (off + i) ++ [v] := by
      rw [show off + (i + 1) = (off + i) + 1 by omega, List.take_add_one, List.take_set_of_le (by omega), List.getElem?_set_self (by omega)]; simp
    have e3 : (cs.toList.set (off + i) v).drop (off + (i + 1) + vs.length) = cs.toList.drop (off + i + (v :: vs).length) := by
      rw [List.drop_set_of_lt (by omega), show off + (i + 1) + vs.length = off + i + (v :: vs).length by simp; omega]
    rw [e2, e3]; simp
theorem splice_rel {R : T → Value → Prop} {cs l n : List T} {vs : Array Value} {ns : List Value} {o : Nat} (h : splice cs o n = some l) (h1 : All2 R cs vs.toList) (h2 : All2 R n ns) : o + ns.length ≤ vs.size ∧ All2 R l (over vs o ns).toList := by
  unfold splice at h
  split at h
  · rename_i hle
    simp at h; subst h
    have e1 := h1.len; have e2 := h2.len
    simp only [Array.length_toList] at e1
    refine ⟨by omega, ?_⟩
    unfold over
    rw [← e2]
    have := ((h1.take o).append h2).append (h1.drop (o + n.length))
    simpa using this
  · simp at h
theorem fill_rel {place : Nat → Option (Nat × Nat)} : ∀ (ps : List (Nat × T)) (vs : List (Nat × Value)) (cs l : List T) (zs : Array Value), All2 (fun p q => p.1 = q.1 ∧ TRel w ok E p.2 q.2) ps vs → All2 (XRel w ok E) cs zs.toList → fillT place cs ps = some l → ∃ zs', Instr.fill place zs vs = some zs' ∧ All2 (XRel w ok E) l zs'.toList
  | [], _, cs, l, zs, hp, hc, h => by cases hp; simp [fillT] at h; subst h; exact ⟨zs, rfl, hc⟩
  | (i, x) :: ps, _, cs, l, zs, hp, hc, h => by
    cases hp with
    | @cons _ q _ vs hq hps =>
      obtain ⟨j, v⟩ := q
      obtain ⟨rfl, hv⟩ := hq
      simp only [fillT, Option.bind_eq_some_iff] at h
      obtain ⟨⟨off, size⟩, hpl, xs, hxs, h⟩ := h
      split at h
      · rename_i hsz
        simp only [Option.bind_eq_some_iff] at h
        obtain ⟨cs', hcs, h⟩ := h
        have hfl := hv.flat hxs
        have hlen := hfl.len
        obtain ⟨hle, hc'⟩ := splice_rel hcs hc hfl
        obtain ⟨zs', h1, h2⟩ := fill_rel ps vs cs' l _ hps hc' h
        refine ⟨zs', ?_, h2⟩
        simp only [Instr.fill, hpl]
        have e0 : v.cells.size = size := by simpa [hsz] using hlen.symm
        have e1 : ¬ (v.cells.size ≠ size || decide (off + v.cells.size > zs.size)) = true := by
          simp only [ne_eq, Bool.or_eq_true, decide_eq_true_eq, not_or, Decidable.not_not]
          exact ⟨e0, by simp at hle; omega⟩
        rw [if_neg e1, ← h1]
        congr 1
        have := fold_over off v.cells.toList 0 zs (by simp at hle ⊢; omega)
        rw [← Array.foldl_toList]
        simpa [Array.toList_zipIdx] using this
      · simp at h
theorem ok_build {parts : List (Nat × T)} {pv : Array (Nat × Value)} {y : T} {t : TypeId} (hp : All2 (fun p q => p.1 = q.1 ∧ TRel w ok E p.2 q.2) parts pv.toList) (h : opBuild P σ t parts = some (y, σ')) :
    σ' = σ ∧ ∃ v, (Instr.build t pv).run P w = .ok v w ∧ TRel w ok E y v := by
  unfold opBuild at h
  simp only [Option.bind_eq_some_iff] at h
  obtain ⟨it, hit, z, hz, h⟩ := h
  split at h
  · rename_i cs hc
    simp only [Option.bind_eq_some_iff, Option.map_eq_some_iff, Prod.mk.injEq] at h
    obtain ⟨ps, hps, l, hl, rfl, rfl⟩ := h
    have hzr := constT_rel (w := w) (ok := ok) (E := E) z
    rw [hc] at hzr
    obtain ⟨zs, rfl, hzs⟩ := hzr
    obtain ⟨zs', h1, h2⟩ := fill_rel parts pv.toList cs l zs hp hzs hl
    refine ⟨rfl, .agg zs', run_build w t pv zs' ?_, zs', rfl, h2⟩
    unfold Program.built
    unfold placesOf at hps
    cases hd : P.underlying t with
    | none => simp [hd] at hps
    | some d =>
      simp only [hd, Option.bind_some] at hps
      cases d <;> simp only [reduceCtorEq] at hps
      simp only [hit, hz, hps]
      exact h1
  · simp at h
theorem ok_len (M : Mem w0 B σ E ok w) {x : T} {av : Value} {t : TypeId} {l : List (List C)} {e ty : TypeId} (hx : TRel w ok E x av) (he : elOf P t = some e) (h : elems σ x = some l) : (Builtin.len_ #[t] ty #[av]).run P w = .ok (.int .i64 l.length) w := by
  obtain ⟨a, cap, rfl, hcap⟩ := elems_len M hx h
  simp [Builtin.len_, run_und (und_elOf he), goInt]
end Go.SX
