import Derived.Test.YtligkplajabcfaaLn
import Derived.WalkSpells
import Derived.Lib.Bytealg
set_option linter.unusedVariables false
set_option linter.unusedSimpArgs false
set_option linter.unusedSectionVars false
set_option linter.unusedVariables false
set_option linter.unusedSimpArgs false
namespace Go.SX
open Go.Nt
variable {P : Program} {K : Cfg}

/-- a function's answer, out of its body's walk -/
theorem fok_wp {f : FuncId} {fn : Func} {body : Code} (hfn : P.funcs[f]? = some fn) (hnm : (fn.name == "runtime.NumGoroutine") = false) (hbody : fn.body = some body) {xs : List A} {r : A} {back : List (Option Cs)} (hle : xs.length ≤ fn.ntmps)
    (hw : ∀ (w0 : World) (B : Bd) (E0 : Env) (a : Act) (w : World) (Q : Go.Exit → Act → World → Prop), Inv w0 B E0 fn.ntmps { (tellVs st0 xs).2 with ts := padT fn.ntmps (tellVs st0 xs).1 } a w → (∀ ex σ a' w', Inv w0 B E0 fn.ntmps σ a' w' → endC (finish P K fn (lentOf true (tellVs st0 xs).1)) (ex, σ) = some (r, back) → Q ex.out a' w') → body.wp P Q a w) :
    ∀ w vs hs bs okc, ArgsRel w okc xs vs hs bs → bs.Nodup → (∀ k ∈ bs, ¬ okc k) → Does P f vs.toArray w (Ends w hs bs okc r back) := by
  intro w vs hs bs okc hA hnd hno
  refine .inl ⟨fn, hfn, hnm, by rw [hbody]; rfl, calls_of_wp hfn hbody ?_⟩
  -- as it begins
  have M0 : Mem w ⟨(· ∈ bs), okc⟩ st0 E00 okc w := mem00
  have hfree : Free w ⟨(· ∈ bs), okc⟩ okc st0 E00 bs := free00 hnd hno
  obtain ⟨E1, ⟨M1, _, _, _⟩, h2, h3⟩ := tellVs_ok hA M0 hfree
  have hlen : (tellVs st0 xs).1.length = vs.length := h2.len
  have hxl : xs.length = vs.length := by
    have : ∀ (l : List A) (σ : St), (tellVs σ l).1.length = l.length := by
      intro l
      induction l with
      | nil => intro σ; rfl
      | cons a l ih => intro σ; simp [tellVs, ih]
    rw [← hlen, this]
  have hT0 : Tmps w okc E1 { (tellVs st0 xs).2 with ts := padT fn.ntmps (tellVs st0 xs).1 } { tmps := vs.toArray ++ Array.replicate (fn.ntmps - vs.toArray.size) undef, defers := [] } := by
    intro t
    by_cases ht : t < vs.length
    · have hx : (tellVs st0 xs).1[t]? = some ((tellVs st0 xs).1[t]'(by omega)) := List.getElem?_eq_getElem _
      obtain ⟨v, hv, hr⟩ := h2.get t _ hx
      have e1 : (vs.toArray ++ Array.replicate (fn.ntmps - vs.toArray.size) undef).getD t undef = v := by
        rw [Array.getD_eq_getD_getElem?, Array.getElem?_append_left (by simpa using ht)]
        simp [hv]
      show TRel w okc E1 (gt (padT fn.ntmps (tellVs st0 xs).1) t) _
      rw [gt_some (padT fn.ntmps (tellVs st0 xs).1) t _ (by unfold padT; rw [List.getElem?_append_left (by omega)]; exact hx)]
      show TRel w okc E1 _ ((vs.toArray ++ Array.replicate (fn.ntmps - vs.toArray.size) undef).getD t undef)
      rw [e1]; exact hr.t
    · show TRel w okc E1 (gt (padT fn.ntmps (tellVs st0 xs).1) t) _
      rw [gt_pad _ _ _ (by omega)]; trivial
  have I0 : Inv w ⟨(· ∈ bs), okc⟩ E1 fn.ntmps { (tellVs st0 xs).2 with ts := padT fn.ntmps (tellVs st0 xs).1 } { tmps := vs.toArray ++ Array.replicate (fn.ntmps - vs.toArray.size) undef, defers := [] } w :=
    ⟨⟨E1, okc, M1.ts _, hT0, .refl _, fun _ h _ => ⟨rfl, h⟩⟩, by simp; omega, rfl⟩
  refine hw _ _ _ _ _ _ I0 fun ex σ a' w' I' h => ?_
  obtain ⟨⟨E', ok', M', hT', hE', hk'⟩, _, hd'⟩ := I'
  have hfin : ex ≠ .exit 0 ∨ True → finish P K fn (lentOf true (tellVs st0 xs).1) σ = some (r, back) := fun _ => by cases ex <;> simp [endC] at h <;> exact h
  obtain ⟨v, bs0, bs1, g1, g2, g3, g4, g5⟩ := finish_ok M' hT' (h3.imp fun _ _ h => h.le hE') (hfin (.inr trivial))
  have hend : Ends w hs bs okc r back v w' := ⟨ok', bs0, bs1, M'.fr, hk', fun k hk => (M'.okin k hk).elim .inl fun h => h.elim (fun h => .inr (.inr h)) fun h => .inr (.inl h), g2, g3, g4, fun k hk => ⟨(g5 k hk).1, (g5 k hk).2.symm⟩⟩
  cases ex with
  | exit i => simp [endC] at h
  | normal => exact ⟨hd', v, g1, hend⟩
  | ret => exact ⟨hd', v, g1, hend⟩
theorem run_nil (w : World) (t e : TypeId) (a : Option Addr) (n c : Nat) (h : P.underlying t = some (.slice e)) (x y : Operand) :
    (do eqGuard .eql t x y (.slice a n c) (.slice none 0 0); binOp .eql t (.slice a n c) (.slice none 0 0)).run P w = .ok (.bool a.isNone) w := by
  have e1 : eqGuard .eql t x y (.slice a n c) (.slice none 0 0) = Sem.pure () := rfl
  rw [e1]
  exact Lib.run_eql_slice_nil w t e a n c 0 0 h
/-- all of them of so many cells, and room for them -/
def cloneF (z b : Nat) : List A → Option (A × List (Option Cs))
  | [.c (.r l) none] => if wide z l = true ∧ l.length * b ≤ 2 ^ 46 then some (.c (.r l) (some z), []) else none
  | _ => none
theorem opAppend_raw {σ : St} {t e : TypeId} {i : TypeInfo} {zv : Value} {j : Nat} {q : Row} {x : T} {l : List (List C)} (he : elOf P t = some e) (hi : P.info? e = some i) (hz : i.zero = some zv) (hzc : zv.cells.size = i.size) (h0 : 0 < i.size) (hb : 0 < i.bytes) (hq : rowAt σ j = some q) (hql : q.l = []) (how : q.ow = true) (hqf : q.dp = .f) (hxd : deepT σ x = false) (hsz : q.sz = 0 ∨ q.sz = i.size) (hx : elems σ x = some l) (hw : wide i.size l = true) (hl : l.length * i.bytes ≤ 2 ^ 46) : opAppend P σ t (.row j) x = some (newRow (setRow σ j none) ⟨i.size, l, true, .f⟩) := by
  have hel : elems σ (.row j) = some [] := by simp [elems, hq, hql]
  have hd : deepT σ (.row j) = false := by simp [deepT, hq, hqf, Dp.q]
  have hm : meltX (meltS σ (.row j)) x = σ := by simp [meltX, meltS, hd, hxd]
  have hnl : isNil (.row j) = false := rfl
  simp only [opAppend, hxd, hd, hnl, Bool.or_self, Bool.and_false, Bool.false_and, Bool.false_eq_true, if_false, hm, opAppend0, he, hi, hz, Option.bind_some, hx, hel]
  rw [if_pos ⟨hzc, hw, rfl, h0, hb, by simpa using hl⟩, hq]
  simp only [Option.bind_some]
  rw [if_pos ⟨how, hsz⟩]
  simp
/-- nothing calls -/
def noF : Fun := fun _ _ => none
theorem noF_ok : ∀ g, FOk P g (noF g) := fun _ _ _ _ h => by simp [noF] at h
/-- slices.Clone, as the kit has its body -/
theorem clone_ok {f : FuncId} {fn : Func} (hfn : P.funcs[f]? = some fn) (hm : P.follows .mixedOrders = true) {i0 i1 i2 i3 : Nat} {o0 o1 o2 o3 o4 o5 o6 o7 : Oper} {t e z b : Nat} {i : TypeInfo} {zv : Value}
    (hbody : fn.body = some (.seq (.region i0 #[o0] false) (.seq (.seq (.region i1 #[o1, o2] false) (.cond (.tmp 4) (.seq (.region i2 #[o3] false) .ret) .skip)) (.seq (.region i3 #[o4, o5, o6, o7] false) .ret))))
    (hnm : (fn.name == "runtime.NumGoroutine") = false) (hn : fn.ntmps = 8) (hres : fn.results.toList = [.tmp 2]) (hrt : fn.resultTypes.toList = [t])
    (ht : P.underlying t = some (.slice e)) (hi : P.info? e = some i) (hiz : i.size = z) (hib : i.bytes = b) (hz : i.zero = some zv) (hzc : zv.cells.size = i.size) (h0 : Nat.ble 1 i.size = true) (hb : Nat.ble 1 i.bytes = true)
    (e0 : ∀ ρ σ, evOp P ⟨fun _ => false, fun _ => false, fun _ => false, fun _ => false, fun _ => false⟩ noF ρ σ o0 = some (ρ (.const (.slice none 0 0)), σ)) (d0 : o0.dst = some 2) (g0 : o0.guard = none)
    (e1 : ∀ ρ σ, evOp P ⟨fun _ => false, fun _ => false, fun _ => false, fun _ => false, fun _ => false⟩ noF ρ σ o1 = some (ρ (.tmp 0), σ)) (d1 : o1.dst = some 3) (g1 : o1.guard = none)
    (e2 : o2.op = .binOp .eql t (.tmp 3) (.const (.slice none 0 0)) t) (d2 : o2.dst = some 4) (g2 : o2.guard = none)
    (e3 : ∀ ρ σ, evOp P ⟨fun _ => false, fun _ => false, fun _ => false, fun _ => false, fun _ => false⟩ noF ρ σ o3 = some (ρ (.const (.slice none 0 0)), σ)) (d3 : o3.dst = some 2) (g3 : o3.guard = none)
    (e4 : ∀ ρ σ, evOp P ⟨fun _ => false, fun _ => false, fun _ => false, fun _ => false, fun _ => false⟩ noF ρ σ o4 = some (newRow σ ⟨z, [], true, .f⟩)) (d4 : o4.dst = some 5) (g4 : o4.guard = none)
    (e5 : ∀ ρ σ, evOp P ⟨fun _ => false, fun _ => false, fun _ => false, fun _ => false, fun _ => false⟩ noF ρ σ o5 = some (ρ (.tmp 0), σ)) (d5 : o5.dst = some 6) (g5 : o5.guard = none)
    (e6 : ∀ ρ σ, evOp P ⟨fun _ => false, fun _ => false, fun _ => false, fun _ => false, fun _ => false⟩ noF ρ σ o6 = opAppend P σ t (ρ (.tmp 5)) (ρ (.tmp 6))) (d6 : o6.dst = some 7) (g6 : o6.guard = none)
    (e7 : ∀ ρ σ, evOp P ⟨fun _ => false, fun _ => false, fun _ => false, fun _ => false, fun _ => false⟩ noF ρ σ o7 = some (ρ (.tmp 7), σ)) (d7 : o7.dst = some 2) (g7 : o7.guard = none) : FOk P f (cloneF z b) := by
  intro xs r back h
  unfold cloneF at h
  split at h
  · rename_i l
    split at h
    · rename_i hc
      simp only [Option.some.injEq, Prod.mk.injEq] at h
      obtain ⟨rfl, rfl⟩ := h
      replace h0 := Nat.le_of_ble_eq_true h0
      replace hb := Nat.le_of_ble_eq_true hb
      have hel : elOf P t = some e := by simp [elOf, ht]
      have hsz : sizes P (⟨fun _ => false, fun _ => false, fun _ => false, fun _ => false, fun _ => false⟩ : Cfg) 8 t = [(z, false)] := by simp [sizes, ht, szOf, hi, hiz]
      refine fok_wp (K := (⟨fun _ => false, fun _ => false, fun _ => false, fun _ => false, fun _ => false⟩ : Cfg)) hfn hnm hbody (by rw [hn]; exact Nat.le_of_ble_eq_true rfl) ?_
      intro w0 B E0 a w Q I hQ
      rw [hn] at I hQ
      have hts : ({ (tellVs st0 [A.c (.r l) none]).2 with ts := padT 8 (tellVs st0 [A.c (.r l) none]).1 } : St) = ⟨[.c (.r l), .no, .no, .no, .no, .no, .no, .no], [], []⟩ := rfl
      rw [hn, hts] at *
      have hls : lentOf true (tellVs st0 [A.c (.r l) none]).1 = [] := rfl
      rw [hls] at hQ
      -- the first region
      refine wp_seq ?_
      have ev0 : evC P ⟨fun _ => false, fun _ => false, fun _ => false, fun _ => false, fun _ => false⟩ noF 8 1 (.region i0 #[o0] false) ⟨[.c (.r l), .no, .no, .no, .no, .no, .no, .no], [], []⟩ = some (.normal, ⟨[.c (.r l), .no, .nil, .no, .no, .no, .no, .no], [], []⟩) := by
        simp [evC, evSeq, evOps, dstQ, d0, wantedT, g0, e0, putT, st, hp, ev, constT, ofV]
      refine (evC_ok noF_ok (draw_ok hm noF_ok) 1 _ I ev0 fun a1 w1 I1 => ?_).1
      simp only [Ex.out, Exit.then]
      refine wp_seq (wp_seq ?_)
      refine wp_region_list ?_
      have ev1 : evStep P ⟨fun _ => false, fun _ => false, fun _ => false, fun _ => false, fun _ => false⟩ noF 8 #[o1, o2] o1 ⟨[.c (.r l), .no, .nil, .no, .no, .no, .no, .no], [], []⟩ = some ⟨[.c (.r l), .no, .nil, .c (.r l), .no, .no, .no, .no], [], []⟩ := by
        simp [evStep, dstQ, d1, wantedT, g1, e1, putT, st, hp, ev, gt]
      refine evStep_ok noF_ok I1 ev1 (wpList P #[o1, o2] _ [o2]) _ fun a2 w2 I2 => ?_
      have I2' := I2
      obtain ⟨⟨E, ok, M, hT, hE, hk⟩, hs2, hd2⟩ := I2
      have h3 := ev_rel hT (.tmp 3)
      simp only [ev, gt] at h3
      cases hval : a2.eval (.tmp 3) with
      | slice ad k cap =>
        rw [hval] at h3
        have hH : Holds w2 ok (.r l) (.slice ad k cap) := h3
        have hwanted : Region.wanted o2 (yielded #[o1, o2] a2.tmps) = true := wanted_ok hT (by simp [wantedT, g2])
        simp only [wpList, hwanted, if_true]
        left
        have hdo : OpDo P o2 a2 w2 fun v w' => StepR w0 B w2 ok E (⟨[.c (.r l), .no, .nil, .c (.r l), .no, .no, .no, .no], [], []⟩ : St) (ofV (.bool ad.isNone)) v w' :=
          opDo_value (v := .bool ad.isNone) (by
            simp only [execOp, e2]
            have hc : a2.eval (.const (.slice none 0 0)) = .slice none 0 0 := rfl
            rw [hval, hc]
            have := run_nil w2 t e ad k cap ht (.tmp 3) (.const (.slice none 0 0))
            simp only [Sem.run_bind, this, Result.andThen_ok]; rfl) (ofV_stepR M _)
        refine hdo _ _ fun v w3 hv => ?_
        have hsd : o2.dst = some 4 := d2
        have I3 := Inv.step hT hE hk M.fr.size hs2 hd2 (d := o2.dst) (by rw [hsd]; rfl) hv
        rw [hsd] at I3 ⊢
        have hst : putT (⟨[.c (.r l), .no, .nil, .c (.r l), .no, .no, .no, .no], [], []⟩ : St).ts (⟨[.c (.r l), .no, .nil, .c (.r l), .no, .no, .no, .no], [], []⟩ : St) (some 4) (ofV (.bool ad.isNone)) = ⟨[.c (.r l), .no, .nil, .c (.r l), .c (.s (.bool ad.isNone)), .no, .no, .no], [], []⟩ := rfl
        have I4 : Inv w0 B E0 8 ⟨[.c (.r l), .no, .nil, .c (.r l), .c (.s (.bool ad.isNone)), .no, .no, .no], [], []⟩ (a2.put (some 4) v) w3 := by rw [← hst]; exact I3
        clear I3 hst
        cases ad with
        | none =>
          have hl0 : l = [] := by
            cases hH with
            | r _ _ _ _ sz f hn hc' hz hm hf =>
              cases l with
              | nil => rfl
              | cons el l =>
                have hz1 := hz el (by simp)
                have hw : wide z (el :: l) = true := hc.1
                simp only [wide, List.all_cons, Bool.and_eq_true, beq_iff_eq] at hw
                have hlt : 0 < k := by rw [← hn]; simp
                obtain ⟨x, hx, _⟩ := hm 0 0 hlt (by rw [← hz1, hw.1, ← hiz]; exact h0)
                cases hx
          subst hl0
          have ev2 : evC P ⟨fun _ => false, fun _ => false, fun _ => false, fun _ => false, fun _ => false⟩ noF 8 3 (.cond (.tmp 4) (.seq (.region i2 #[o3] false) .ret) .skip) ⟨[.c (.r []), .no, .nil, .c (.r []), .c (.s (.bool true)), .no, .no, .no], [], []⟩ = some (.ret, ⟨[.c (.r []), .no, .nil, .c (.r []), .c (.s (.bool true)), .no, .no, .no], [], []⟩) := by
            simp [evC, evSeq, evOps, dstQ, d3, wantedT, g3, e3, putT, st, hp, ev, gt, thenC, constT, ofV]
          refine (evC_ok noF_ok (draw_ok hm noF_ok) 3 _ I4 ev2 fun a5 w5 I5 => ?_).1
          refine hQ .ret _ _ _ I5 ?_
          simp [endC, finish, hres, resVars, resVar, gt, backs, resVs, resV, give, hrt, fitAs, fitA, fit, hsz, outA]
        | some ad =>
          have ev2 : evC P ⟨fun _ => false, fun _ => false, fun _ => false, fun _ => false, fun _ => false⟩ noF 8 3 (.cond (.tmp 4) (.seq (.region i2 #[o3] false) .ret) .skip) ⟨[.c (.r l), .no, .nil, .c (.r l), .c (.s (.bool false)), .no, .no, .no], [], []⟩ = some (.normal, ⟨[.c (.r l), .no, .nil, .c (.r l), .c (.s (.bool false)), .no, .no, .no], [], []⟩) := by
            simp [evC, ev, gt]
          refine (evC_ok noF_ok (draw_ok hm noF_ok) 3 _ I4 ev2 fun a5 w5 I5 => ?_).1
          simp only [Ex.out, Exit.then]
          have ha : opAppend P (⟨[], [], [some ⟨z, [], true, .f⟩]⟩ : St) t (.row 0) (.c (.r l)) = some (.row 1, ⟨[], [], [none, some ⟨z, l, true, .f⟩]⟩) := by
            rw [opAppend_raw (l := l) hel hi hz hzc h0 hb rfl rfl rfl rfl rfl (.inr hiz.symm) rfl (by rw [hiz]; exact hc.1) (by rw [hib]; exact hc.2), hiz]; rfl
          have ev3 : evC P ⟨fun _ => false, fun _ => false, fun _ => false, fun _ => false, fun _ => false⟩ noF 8 3 (.seq (.region i3 #[o4, o5, o6, o7] false) .ret) ⟨[.c (.r l), .no, .nil, .c (.r l), .c (.s (.bool false)), .no, .no, .no], [], []⟩ = some (.ret, ⟨[.c (.r l), .no, .row 1, .c (.r l), .c (.s (.bool false)), .row 0, .c (.r l), .row 1], [], [none, some ⟨z, l, true, .f⟩]⟩) := by
            simp [evC, evSeq, evOps, dstQ, d4, d5, d6, d7, wantedT, g4, g5, g6, g7, e4, e5, e6, e7, putT, st, hp, ev, gt, thenC, SX.newRow, ha]
          refine (evC_ok noF_ok (draw_ok hm noF_ok) 3 _ I5 ev3 fun a6 w6 I6 => ?_).1
          refine hQ .ret _ _ _ I6 ?_
          have hz0 : ∃ m, z = m + 1 := ⟨z - 1, by omega⟩
          obtain ⟨m, rfl⟩ := hz0
          simp [endC, finish, hres, resVars, resVar, gt, backs, resVs, resV, give, rowAt, rawAt, here, Dp.q, hrt, fitAs, fitA, hsz, fit_o, fit_e, outA]
      | _ => rw [hval] at h3; exact absurd h3 (by intro hh; cases hh)
    · simp at h
  · simp at h
/-- internal/bytealg.IndexByteString -/
def indexByteF : List A → Option (A × List (Option Cs))
  | [.c (.s (.string s)) none, .c (.s (.int .u8 c)) none] => some (.c (.s (.int .i64 (Lib.indexByte s.data.toList c.toNat.toUInt8))) none, [])
  | _ => none
theorem indexByte_lib (c : UInt8) : ∀ l : Str, Lib.indexByte l c = Nt.indexByte l c
  | [] => rfl
  | b :: l => by simp only [Lib.indexByte, Nt.indexByte, indexByte_lib c l]
theorem ends_scalar {w : World} {okc : Nat → Prop} {v : Value} (hv : v.oneCell' = true) : Ends w [] [] okc (.c (.s v) none) [] v w :=
  ⟨okc, [], [], ⟨rfl, rfl, rfl, Nat.le_refl _, fun _ _ _ => rfl⟩, fun k h _ => ⟨rfl, h⟩, fun k h => .inl h, ⟨[], .sh (.s v hv) .nil⟩, .nil, by simp, by simp⟩
theorem indexByte_ok {f : FuncId} {fn : Func} (hfn : P.funcs[f]? = some fn) (hb : fn.body = none) (hnm : (fn.name == "runtime.NumGoroutine") = false) (h1 : (Extern.findNext fn).isNone = true) (h2 : Extern.find fn = some Extern.BytealgIndexByte.indexByte) : FOk P f indexByteF := by
  intro xs r back h
  unfold indexByteF at h
  split at h
  · rename_i s c
    simp only [Option.some.injEq, Prod.mk.injEq] at h
    obtain ⟨rfl, rfl⟩ := h
    intro w vs hs bs okc hA hnd hno
    cases hA with
    | sh ha hA =>
      cases hA with
      | sh hb' hA =>
        cases hA
        cases ha
        cases hb'
        refine .inr ⟨.int .i64 (Lib.indexByte s.data.toList c.toNat.toUInt8), w, ?_, ends_scalar rfl⟩
        have hnm' : ¬ (fn.name = "runtime.NumGoroutine") := by simpa using hnm
        have h1' : Extern.findNext fn = none := by simpa using h1
        simp only [callFunc, Sem.run_bind, run_program, Result.andThen_ok, hfn, hnm, Bool.false_eq_true, if_false, hb, Option.isNone_none, if_true, run_mark, h1', h2, Lib.run_indexByteString, Sem.run_pure]
  · simp at h
end Go.SX
