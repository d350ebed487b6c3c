import Derived.Test.YtligkplajabcfaaPutEn
set_option linter.unusedVariables false
set_option linter.unusedSimpArgs false
namespace Go.PuO
open Go.Nt
theorem wrp (k : Nat) (h : k ≤ 70368744177664) : IntKind.i64.wrap ((k : Int) + 1) = ((k + 1 : Nat) : Int) := by
  simp only [IntKind.wrap, IntKind.bits, IntKind.signed, Bool.true_and]
  split
  · rename_i h; simp at h; omega
  · rename_i h; simp at h; omega
theorem ix_nat {α : Type} {l : List α} {k : Nat} (h : k < l.length) : ix l (k : Int) = some l[k] := by
  unfold ix
  rw [if_pos (by omega), Int.toNat_natCast, List.getElem?_eq_getElem h]
theorem i1_go (a : List Item) (x : Item) (hn : a.length ≤ 70368744177664) : ∀ (f k : Nat), a.length - k = f → k ≤ a.length →
    slices_IndexFunc_Simpl_Item_impl_Item_impl_put_1.l0 a (k : Int) x.Order.Name x.Order.Target x.Order.Low x.Order.High x.Order.Metrics x.Order.Pace.Up x.Order.Pace.Down x.Order.Pace.UpSpan x.Order.Pace.DownSpan x.Order.Notes x.Ver =
    match (a.drop k).findIdx? (fun y => y.Order.Name == x.Order.Name) with
    | some i => some (.inl (((k + i : Nat) : Int), a, x))
    | none => some (.inr (x.Order.Name, x.Order.Target, x.Order.Low, x.Order.High, x.Order.Metrics, x.Order.Pace.Up, x.Order.Pace.Down, x.Order.Pace.UpSpan, x.Order.Pace.DownSpan, x.Order.Notes, x.Ver)) := by
  intro f
  induction f with
  | zero =>
    intro k h1 h2
    have hk : k = a.length := by omega
    subst hk
    rw [slices_IndexFunc_Simpl_Item_impl_Item_impl_put_1.l0]
    simp
  | succ f ih =>
    intro k h1 h2
    have hk : k < a.length := by omega
    rw [slices_IndexFunc_Simpl_Item_impl_Item_impl_put_1.l0, ix_nat hk, List.drop_eq_getElem_cons hk, List.findIdx?_cons]
    simp only [impl_put_1, Option.bind_eq_bind, Option.bind_some]
    rw [if_pos (by simpa using hk)]
    by_cases hc : (a[k].Order.Name == x.Order.Name) = true
    · rw [if_pos hc, if_pos hc]; rfl
    · rw [if_neg hc, if_neg hc, wrp k (by omega), ih (k + 1) (by omega) hk]
      cases (a.drop (k + 1)).findIdx? (fun y => y.Order.Name == x.Order.Name) with
      | none => rfl
      | some i => simp only [Option.map_some]; rw [show k + 1 + i = k + (i + 1) by omega]
theorem i1_eq (a : List Item) (x : Item) (hn : a.length ≤ 70368744177664) : slices_IndexFunc_Simpl_Item_impl_Item_impl_put_1 a x = some (firstT (a.map fun y => y.Order.Name == x.Order.Name), a, x) := by
  unfold slices_IndexFunc_Simpl_Item_impl_Item_impl_put_1 firstT
  have := i1_go a x hn _ 0 rfl (by omega)
  rw [show ((0 : Nat) : Int) = 0 from rfl] at this
  rw [this, List.findIdx?_map]
  simp only [List.drop_zero, Function.comp_def, id]
  cases a.findIdx? (fun y => y.Order.Name == x.Order.Name) with
  | none => rfl
  | some i => simp
theorem i2_go (a : List Item) (x : Item) (hn : a.length ≤ 70368744177664) : ∀ (f k : Nat), a.length - k = f → k ≤ a.length →
    slices_IndexFunc_Simpl_Item_impl_Item_impl_put_2.l0 a (k : Int) x.Order.Name x.Order.Target x.Order.Low x.Order.High x.Order.Metrics x.Order.Pace.Up x.Order.Pace.Down x.Order.Pace.UpSpan x.Order.Pace.DownSpan x.Order.Notes x.Ver =
    match (a.drop k).findIdx? (fun y => !(slt y.Order.Name x.Order.Name || y.Order.Name == x.Order.Name)) with
    | some i => some (.inl (((k + i : Nat) : Int), a, x))
    | none => some (.inr (x.Order.Name, x.Order.Target, x.Order.Low, x.Order.High, x.Order.Metrics, x.Order.Pace.Up, x.Order.Pace.Down, x.Order.Pace.UpSpan, x.Order.Pace.DownSpan, x.Order.Notes, x.Ver)) := by
  intro f
  induction f with
  | zero =>
    intro k h1 h2
    have hk : k = a.length := by omega
    subst hk
    rw [slices_IndexFunc_Simpl_Item_impl_Item_impl_put_2.l0]
    simp
  | succ f ih =>
    intro k h1 h2
    have hk : k < a.length := by omega
    rw [slices_IndexFunc_Simpl_Item_impl_Item_impl_put_2.l0, ix_nat hk, List.drop_eq_getElem_cons hk, List.findIdx?_cons]
    simp only [impl_put_2, Option.bind_eq_bind, Option.bind_some]
    rw [if_pos (by simpa using hk)]
    by_cases hc : (!(slt a[k].Order.Name x.Order.Name || a[k].Order.Name == x.Order.Name)) = true
    · rw [if_pos hc, if_pos hc]; rfl
    · rw [if_neg hc, if_neg hc, wrp k (by omega), ih (k + 1) (by omega) hk]
      cases (a.drop (k + 1)).findIdx? (fun y => !(slt y.Order.Name x.Order.Name || y.Order.Name == x.Order.Name)) with
      | none => rfl
      | some i => simp only [Option.map_some]; rw [show k + 1 + i = k + (i + 1) by omega]
theorem i2_eq (a : List Item) (x : Item) (hn : a.length ≤ 70368744177664) : slices_IndexFunc_Simpl_Item_impl_Item_impl_put_2 a x = some (firstT (a.map fun y => !(slt y.Order.Name x.Order.Name || y.Order.Name == x.Order.Name)), a, x) := by
  unfold slices_IndexFunc_Simpl_Item_impl_Item_impl_put_2 firstT
  have := i2_go a x hn _ 0 rfl (by omega)
  rw [show ((0 : Nat) : Int) = 0 from rfl] at this
  rw [this, List.findIdx?_map]
  simp only [List.drop_zero, Function.comp_def, id]
  cases a.findIdx? (fun y => !(slt y.Order.Name x.Order.Name || y.Order.Name == x.Order.Name)) with
  | none => rfl
  | some i => simp
theorem df_go (x : Item) : ∀ (f i j : Nat) (m : List Item), m.length - j = f → m.length ≤ 70368744177664 → i < j → j ≤ m.length → ∃ (i' : Nat) (m' : List Item),
    slices_DeleteFunc_Simpl_Item_impl_Item_impl_put_1.l0 (i : Int) (j : Int) x.Order.Name x.Order.Target x.Order.Low x.Order.High x.Order.Metrics x.Order.Pace.Up x.Order.Pace.Down x.Order.Pace.UpSpan x.Order.Pace.DownSpan x.Order.Notes x.Ver m =
    some ((i' : Int), x.Order.Name, x.Order.Target, x.Order.Low, x.Order.High, x.Order.Metrics, x.Order.Pace.Up, x.Order.Pace.Down, x.Order.Pace.UpSpan, x.Order.Pace.DownSpan, x.Order.Notes, x.Ver, m') ∧ i' ≤ m'.length ∧ m'.length = m.length ∧ m'.take i' = m.take i ++ (m.drop j).filter fun y => !(y.Order.Name == x.Order.Name) := by
  intro f
  induction f with
  | zero =>
    intro i j m h1 h2 h3 h4
    have hj : j = m.length := by omega
    subst hj
    refine ⟨i, m, ?_, by omega, rfl, by simp⟩
    rw [slices_DeleteFunc_Simpl_Item_impl_Item_impl_put_1.l0]
    simp
  | succ f ih =>
    intro i j m h1 h2 h3 h4
    have hj : j < m.length := by omega
    rw [slices_DeleteFunc_Simpl_Item_impl_Item_impl_put_1.l0, ix_nat hj, List.drop_eq_getElem_cons hj, List.filter_cons]
    simp only [impl_put_1, Option.bind_eq_bind, Option.bind_some]
    rw [if_pos (by simpa using hj)]
    by_cases hc : (!(m[j].Order.Name == x.Order.Name)) = true
    · rw [if_pos hc, if_pos hc, ix_nat (l := m) (k := i) (by omega)]
      have hput : Nt.put m (i : Int) m[j] = some (m.set i m[j]) := by
        unfold Nt.put
        rw [if_pos ⟨by omega, by simpa using (by omega : i < m.length)⟩, Int.toNat_natCast]
      rw [hput]
      simp only [Option.bind_some]
      rw [wrp i (by omega), wrp j (by omega)]
      obtain ⟨i', m', e1, e2, e3, e4⟩ := ih (i + 1) (j + 1) (m.set i m[j]) (by simp; omega) (by simpa using h2) (by omega) (by simp; omega)
      refine ⟨i', m', e1, e2, by simpa using e3, ?_⟩
      rw [e4, List.drop_set_of_lt (by omega)]
      have : (m.set i m[j]).take (i + 1) = m.take i ++ [m[j]] := by
        rw [List.take_add_one, List.take_set_of_le (Nat.le_refl _), List.getElem?_set_self (by omega)]; rfl
      rw [this]; simp
    · rw [if_neg hc, if_neg hc, wrp j (by omega)]
      exact ih i (j + 1) m (by omega) h2 (by omega) hj
theorem slc_nat {α : Type} {l : List α} {i j : Nat} (h1 : i ≤ j) (h2 : j ≤ l.length) : slc l (i : Int) (j : Int) = some (cut l i j) := by
  unfold slc; rw [if_pos ⟨by omega, by omega, by omega⟩]; rfl
theorem df_eq (a : List Item) (x : Item) (hn : a.length ≤ 70368744177664) : slices_DeleteFunc_Simpl_Item_impl_Item_impl_put_1 a x = some (a.filter (fun y => !(y.Order.Name == x.Order.Name)), x) := by
  unfold slices_DeleteFunc_Simpl_Item_impl_Item_impl_put_1
  rw [i1_eq a x hn]
  simp only [Option.bind_eq_bind, Option.bind_some, firstT, List.findIdx?_map, Function.comp_def, id]
  cases hf : a.findIdx? (fun y => y.Order.Name == x.Order.Name) with
  | none =>
    rw [if_pos (by rfl)]
    rw [List.findIdx?_eq_none_iff] at hf
    rw [List.filter_eq_self.2 fun y hy => by simp [hf y hy]]
  | some i =>
    obtain ⟨hi, h1, h2⟩ := List.findIdx?_eq_some_iff_getElem.1 hf
    rw [if_neg (by simp only [beq_iff_eq]; omega)]
    rw [wrp i (by omega)]
    obtain ⟨i', m', e1, e2, e3, e4⟩ := df_go x _ i (i + 1) a rfl hn (by omega) (by omega)
    rw [e1]
    simp only [Option.bind_some]
    rw [slc_nat e2 (Nat.le_refl _)]
    simp only [Option.bind_some, Nt.clr, Int.toNat_natCast]
    have e0 : ((0 : Int)) = ((0 : Nat) : Int) := rfl
    rw [e0, slc_nat (Nat.zero_le _) (by simp; omega)]
    simp only [Option.bind_some, Nt.cut, List.drop_zero, Option.some.injEq, Prod.mk.injEq]
    refine ⟨?_, trivial⟩
    rw [List.append_assoc, List.take_append_of_le_length (by simp; omega), List.take_take, Nat.min_self, e4]
    conv => rhs; rw [← List.take_append_drop i a, List.filter_append, List.drop_eq_getElem_cons hi, List.filter_cons, if_neg (by simpa using h1)]
    congr 1
    rw [List.filter_eq_self.2]
    intro y hy
    obtain ⟨j, hj, rfl⟩ := List.mem_iff_getElem.1 hy
    simp only [List.length_take] at hj
    have := h2 j (by omega)
    simpa using this
end Go.PuO
namespace Go.Pu
open Go Go.SX Go.Nt
/-- what of an item can be looked into, and its rows as they are -/
def toO (u : Nat → Value) (x : Item) : Go.PuO.Item := ⟨⟨x.Order.Name, x.Order.Target, x.Order.Low, x.Order.High, .s (u 4), ⟨x.Order.Pace.Up, x.Order.Pace.Down, x.Order.Pace.UpSpan, x.Order.Pace.DownSpan⟩, .s (u 9)⟩, x.Ver⟩
def itO (x : Item) : Go.PuO.Item := ⟨⟨x.Order.Name, x.Order.Target, x.Order.Low, x.Order.High, cL enc_Metric x.Order.Metrics, ⟨x.Order.Pace.Up, x.Order.Pace.Down, x.Order.Pace.UpSpan, x.Order.Pace.DownSpan⟩, cL enc_Note x.Order.Notes⟩, x.Ver⟩
theorem delfD_put (l : List Item) (x : Item) (hn : l.length ≤ 70368744177664) : deepen (Go.PuO.R 73) [.c (cL enc_Item l) (some (11, true)), .f 74 [(enc_Item x).map fun c => (c, none)]] = some (.c (cL enc_Item (l.filter fun y => !(y.Order.Name == x.Order.Name))) (some (11, true)), [none, some ((enc_Item x).map fun c => (c, none))]) :=
  deepen_flt (G := Go.PuO.R 73) (z := 11) (en := enc_Item) (enO := Go.PuO.enc_Item) (to := toO) (keep := fun y => !(y.Order.Name == x.Order.Name)) (kO := fun y => !(y.Order.Name == x.Order.Name)) (ys := [.f 74 [(enc_Item x).map fun c => (c, none)]]) (back := [none, some ((enc_Item x).map fun c => (c, none))]) (fun _ _ => rfl) (fun _ _ => rfl) (fun a ha => by simp only [List.mem_singleton] at ha; subst ha; exact ⟨rfl, fun _ => rfl⟩) l
  (fun L hL => Go.PuO.slices_DeleteFunc_Simpl_Item_impl_Item_impl_put_1_ok.ok (Go.PuO.df_eq L (itO x) (hL ▸ hn)))
theorem indfD_put (l : List Item) (x : Item) (hn : l.length ≤ 70368744177664) : deepenB (Go.PuO.R 56) [.c (cL enc_Item l) (some (11, true)), .f 75 [(enc_Item x).map fun c => (c, none)]] = some (.c (cI .i64 (firstT (l.map fun y => !(slt y.Order.Name x.Order.Name || y.Order.Name == x.Order.Name)))) none, [some [(cL enc_Item l, some (11, true))], some ((enc_Item x).map fun c => (c, none))]) :=
  deepenB_id (G := Go.PuO.R 56) (z := 11) (en := enc_Item) (enO := Go.PuO.enc_Item) (to := toO) (keep := fun y => !(slt y.Order.Name x.Order.Name || y.Order.Name == x.Order.Name)) (kO := fun y => !(slt y.Order.Name x.Order.Name || y.Order.Name == x.Order.Name)) (ys := [.f 75 [(enc_Item x).map fun c => (c, none)]]) (r := fun m => .c (cI .i64 (firstT m)) none) (back := [some ((enc_Item x).map fun c => (c, none))]) (fun _ _ => rfl) (fun _ _ => rfl) (fun a ha => by simp only [List.mem_singleton] at ha; subst ha; exact ⟨rfl, fun _ => rfl⟩) l
  (fun L hL => Go.PuO.slices_IndexFunc_Simpl_Item_impl_Item_impl_put_2_ok.ok (Go.PuO.i2_eq L (itO x) (hL ▸ hn)))
end Go.Pu
