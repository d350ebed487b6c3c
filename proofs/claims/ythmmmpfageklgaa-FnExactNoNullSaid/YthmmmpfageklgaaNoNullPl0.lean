import Derived.Test.YthmmmpfageklgaaNoNullPu
set_option linter.unusedVariables false
set_option linter.unusedSimpArgs false
set_option synthInstance.maxSize 1000000000
namespace Go.Pu
open Go.Nt
theorem w64_id {n : Int} (h0 : -9223372036854775808 ≤ n) (h1 : n ≤ 9223372036854775807) : IntKind.i64.wrap n = n := by
  simp only [IntKind.wrap, IntKind.bits, IntKind.signed, Bool.true_and]
  split
  · rename_i h; simp at h; omega
  · rename_i h; simp at h; omega
theorem w64_succ {i : Nat} (h : i < 9223372036854775807) : IntKind.i64.wrap ((i : Int) + 1) = ((i + 1 : Nat) : Int) := by
  rw [w64_id (by omega) (by omega)]; omega
theorem ix_nat {α : Type} (l : List α) (i : Nat) : ix l (i : Int) = l[i]? := by simp [ix]
theorem put_nat {α : Type} {l : List α} {i : Nat} {x : α} (h : i < l.length) : Nt.put l (i : Int) x = some (l.set i x) := by simp [Nt.put, h]
theorem mk_ok {α : Type} {b n : Nat} {x : α} (h : b * n ≤ 140737488355328) : Nt.mk b (n : Int) x = some (List.replicate n x) := by
  simp only [Nt.mk]; rw [if_pos ⟨by omega, by exact_mod_cast h⟩]; simp
/-- down from the end -/
theorem down {P : Nat → Prop} (n : Nat) (h : ∀ i, i ≤ n → (i < n → P (i + 1)) → P i) : ∀ i, i ≤ n → P i := by
  intro i hi
  obtain ⟨k, hk⟩ : ∃ k, k = n - i := ⟨_, rfl⟩
  induction k generalizing i with
  | zero => exact h i hi fun hlt => by omega
  | succ k ih => exact h i hi fun hlt => ih (i + 1) hlt (by omega)
theorem bind_some' {α β : Type} (x : α) (f : α → Option β) : (some x >>= f) = f x := rfl
theorem set_step {α : Type} {a v : List α} {i : Nat} (h : i < a.length) (hv : i < v.length) : some ((v.set i a[i]).take (i + 1) ++ a.drop (i + 1)) = some (v.take i ++ a.drop i) := by
  rw [List.take_set, List.take_add_one, List.getElem?_eq_getElem hv, List.set_append_right _ _ (by simp; omega), List.drop_eq_getElem_cons h]
  have : i - min i v.length = 0 := by omega
  simp [this]
def smL {α : Type} (p : α → Prop) (l : List α) : Prop := l.length ≤ 1048576 ∧ ∀ x ∈ l, p x
def smS (s : Str) : Prop := s.length ≤ 1048576
theorem in_some (a b c : Int) : spec_l1In a b c = some (decide (a ≥ b) && decide (a ≤ c)) := by
  simp only [spec_l1In]; by_cases h : a ≥ b <;> simp [h]
theorem from_some (a b c : Int) : impl_from a b c = some (decide (a ≥ b) && decide (a ≤ c)) := by
  simp only [impl_from]; by_cases h : a ≥ b <;> simp [h]
theorem byte_range (c : UInt8) : 0 ≤ byte c ∧ byte c ≤ 255 := by
  unfold byte; have := c.toNat_lt; omega
theorem textOk_same (a : Str) (h : smS a) : ∃ b, spec_TextOk a = some b ∧ impl_TextOk a = some b := by
  unfold smS at h
  have key : ∀ i, i ≤ a.length → ∃ b, spec_TextOk.l0 a i = some b ∧ impl_TextOk.l0 a i = some b := by
    refine down _ fun i hi ih => ?_
    rw [spec_TextOk.l0, impl_TextOk.l0]
    by_cases hlt : i < a.length
    · have c : decide ((i : Int) < (a.length : Int)) = true := by simpa using hlt
      obtain ⟨b, e1, e2⟩ := ih hlt
      have hb := byte_range a[i]
      simp only [c, if_true, ix_nat, List.getElem?_eq_getElem hlt, bind_some', from_some, w64_succ (show i < 9223372036854775807 by omega), e1, e2]
      rw [w64_id (by omega) (by omega)]
      generalize byte a[i] = x at hb
      by_cases h4 : x < 32 <;> by_cases h5 : x > 126 <;> first
        | omega
        | (have g4 : ¬ (32 ≤ x) ∨ 32 ≤ x := by omega
           rcases g4 with g4 | g4 <;> first
             | omega
             | (have g5 : ¬ (x ≤ 126) ∨ x ≤ 126 := by omega
                rcases g5 with g5 | g5 <;> first
                  | omega
                  | simp [h4, h5, g4, g5]))
    · rw [if_neg (by simpa using hlt), if_neg (by simpa using hlt)]
      exact ⟨_, rfl, rfl⟩
  obtain ⟨b, e1, e2⟩ := key 0 (by omega)
  simp only [Int.natCast_zero] at e1 e2
  simp only [spec_TextOk, impl_TextOk, e1, e2, bind_some']
  cases b with
  | inl r => exact ⟨_, rfl, rfl⟩
  | inr u => exact ⟨_, rfl, rfl⟩
inductive Tr where
  | mk (k n : Int) (s : Str) (ks : List Str) (kids : List Tr)
theorem Tr.ind {P : Tr → Prop} (h : ∀ k n s ks kids, (∀ t ∈ kids, P t) → P (.mk k n s ks kids)) : ∀ t, P t
  | .mk k n s ks kids => h k n s ks kids fun t ht => Tr.ind h t
  termination_by t => SizeOf.sizeOf t
  decreasing_by have := List.sizeOf_lt_of_mem ht; simp only [Tr.mk.sizeOf_spec]; omega
mutual
def Tr.no : Tr → Node
  | .mk k n s ks kids => Node.mk k n s ks (Tr.nos kids)
def Tr.nos : List Tr → List RNode
  | [] => []
  | t :: l => rN_Node (Tr.no t) :: Tr.nos l
end
mutual
def Tr.deep : Tr → Nat
  | .mk _ _ _ _ kids => Tr.deeps kids + 1
def Tr.deeps : List Tr → Nat
  | [] => 0
  | t :: l => max (Tr.deep t) (Tr.deeps l)
end
mutual
def Tr.size : Tr → Nat
  | .mk _ _ _ _ kids => Tr.sizes kids + 1
def Tr.sizes : List Tr → Nat
  | [] => 0
  | t :: l => Tr.size t + Tr.sizes l
end
theorem Tr.nos_map : ∀ l : List Tr, Tr.nos l = l.map fun t => rN_Node (Tr.no t)
  | [] => rfl
  | t :: l => by rw [Tr.nos, Tr.nos_map l]; rfl
theorem Tr.nos_len (l : List Tr) : (Tr.nos l).length = l.length := by rw [Tr.nos_map]; simp
theorem Tr.nos_get (l : List Tr) (i : Nat) (h : i < l.length) : (Tr.nos l)[i]? = some (rN_Node (Tr.no l[i])) := by rw [Tr.nos_map]; simp [h]
theorem Tr.deeps_le : ∀ (l : List Tr) (t : Tr), t ∈ l → Tr.deep t ≤ Tr.deeps l
  | a :: l, t, h => by
    rw [Tr.deeps]
    rcases List.mem_cons.1 h with rfl | h
    · omega
    · have := Tr.deeps_le l t h; omega
theorem Tr.deep_pos : ∀ t : Tr, 1 ≤ Tr.deep t
  | .mk _ _ _ _ _ => by rw [Tr.deep]; omega
theorem Tr.deep_size : ∀ t : Tr, Tr.deep t ≤ Tr.size t := Tr.ind fun k n s ks kids ih => by
  rw [Tr.deep, Tr.size]
  have : ∀ l : List Tr, (∀ t ∈ l, Tr.deep t ≤ Tr.size t) → Tr.deeps l ≤ Tr.sizes l := by
    intro l
    induction l with
    | nil => intro _; rw [Tr.deeps]; omega
    | cons a l ih =>
      intro h
      have h1 := h a (by simp)
      have h2 := ih fun t ht => h t (by simp [ht])
      rw [Tr.deeps, Tr.sizes]; omega
  have := this kids ih
  omega
/-- a kid, read -/
theorem kid {β : Type} (l : List Tr) (i : Nat) (h : i < l.length) (f : Node → Option β) : (ix (Tr.nos l) (i : Int) >>= fun x => dN_Node x >>= f) = f (Tr.no l[i]) := by
  rw [ix_nat, Tr.nos_get l i h]
  show (dN_Node (rN_Node (Tr.no l[i])) >>= f) = _
  rw [dN_Node_rN]; rfl
/-- right as to what Go's types hold -/
theorem tr_of : ∀ (d : Nat) (a : Node), Node.okd d a → ∃ t, a = Tr.no t
  | 0, _, h => h.elim
  | d + 1, a, ⟨_, _, _, _, _, h⟩ => by
    have key : ∀ l : List RNode, (∀ r ∈ l, ∃ y, r = rN_Node y ∧ Node.okd d y) → ∃ ts, l = Tr.nos ts := by
      intro l
      induction l with
      | nil => intro _; exact ⟨[], rfl⟩
      | cons r l ih =>
        intro h
        obtain ⟨ts, e⟩ := ih fun r hr => h r (by simp [hr])
        obtain ⟨y, e1, hy⟩ := h r (by simp)
        obtain ⟨t, e2⟩ := tr_of d y hy
        exact ⟨t :: ts, by rw [Tr.nos, ← e, ← e2, e1]⟩
    obtain ⟨ts, e⟩ := key a.Kids h
    exact ⟨.mk a.Kind a.N a.S a.Keys ts, by rw [Tr.no, ← e]⟩
inductive Tr.Ok : Tr → Prop
  | mk {k n s ks kids} : okI k → okI n → okS s → okL okS ks → kids.length ≤ 9223372036854775807 → (∀ t ∈ kids, Tr.Ok t) → Tr.Ok (.mk k n s ks kids)
theorem tr_ok : ∀ t : Tr, ∀ d, Node.okd d (Tr.no t) → Tr.Ok t := Tr.ind fun k n s ks kids ih d h => by
  cases d with
  | zero => exact h.elim
  | succ d =>
    rw [Tr.no] at h
    obtain ⟨h1, h2, h3, h4, h5, h6⟩ := h
    refine .mk h1 h2 h3 h4 (by simpa [Tr.nos_len] using h5) fun t ht => ?_
    obtain ⟨y, e, hy⟩ := h6 (rN_Node (Tr.no t)) (by show _ ∈ Tr.nos kids; rw [Tr.nos_map]; exact List.mem_map.2 ⟨t, ht, rfl⟩)
    exact ih t ht d (rN_Node_inj e ▸ hy)
/-- small -/
inductive Tr.Sm : Tr → Prop
  | mk {k n s ks kids} : smS s → smL smS ks → kids.length ≤ 1048576 → (∀ t ∈ kids, Tr.Sm t) → Tr.Sm (.mk k n s ks kids)
theorem szStringS_sp (a : List Str) (left : Int) (ha : okL okS a) (h0 : 0 ≤ left) (h1 : left ≤ 1048576) : ∃ r, laws_szStringS a left = some r ∧ r ≤ left ∧ (r < 0 ∨ smL smS a) := by
  have hl := ha.1
  simp only [laws_szStringS]
  rw [w64_id (n := left - _) (by omega) (by omega)]
  by_cases c : decide (left - (a.length : Int) < 0) = true
  · rw [if_pos c]; exact ⟨_, rfl, by omega, .inl (by omega)⟩
  · rw [if_neg c]; simp at c
    have key : ∀ i, i ≤ a.length → ∀ v : Int, 0 ≤ v → v ≤ left - (a.length : Int) → ∃ r, laws_szStringS.l0 a v i = some r ∧ (match r with | .inl r => r = -1 | .inr r => 0 ≤ r ∧ r ≤ v ∧ ∀ x ∈ a.drop i, smS x) := by
      refine down _ fun i hi ih v hv0 hv1 => ?_
      rw [laws_szStringS.l0]
      by_cases hlt : i < a.length
      · have c1 : decide ((i : Int) < (a.length : Int)) = true := by simpa using hlt
        have hx : okS a[i] := ha.2 _ (List.getElem_mem hlt)
        unfold okS at hx
        simp only [c1, if_true, ix_nat, List.getElem?_eq_getElem hlt, bind_some', w64_succ (show i < 9223372036854775807 by omega)]
        rw [w64_id (n := v - _) (by omega) (by omega)]
        by_cases c2 : decide (v - (a[i].length : Int) < 0) = true
        · rw [if_pos c2]; exact ⟨_, rfl, rfl⟩
        · rw [if_neg c2]; simp at c2
          obtain ⟨r, e, hr⟩ := ih hlt (v - (a[i].length : Int)) (by omega) (by omega)
          refine ⟨r, e, ?_⟩
          cases r with
          | inl r => exact hr
          | inr r =>
            refine ⟨hr.1, by have := hr.2.1; omega, fun x hx => ?_⟩
            rw [List.drop_eq_getElem_cons hlt] at hx
            rcases List.mem_cons.1 hx with rfl | hx
            · unfold smS; omega
            · exact hr.2.2 x hx
      · rw [if_neg (by simpa using hlt)]
        obtain rfl : i = a.length := by omega
        exact ⟨_, rfl, hv0, by omega, by simp⟩
    obtain ⟨r, e, hr⟩ := key 0 (by omega) _ (by omega) (Int.le_refl _)
    simp only [Int.natCast_zero] at e
    simp only [e, bind_some']
    cases r with
    | inl r => exact ⟨_, rfl, by have : r = -1 := hr; omega, .inl (by have : r = -1 := hr; omega)⟩
    | inr r => exact ⟨_, rfl, by have := hr.2.1; omega, .inr ⟨by omega, by simpa using hr.2.2⟩⟩
theorem szNode_sp : ∀ t : Tr, Tr.Ok t → ∀ left : Int, 0 ≤ left → left ≤ 1048576 → ∃ r, (∀ k, Tr.deep t ≤ k → laws_szNode_n k (Tr.no t) left = some r) ∧ r ≤ left ∧ (r < 0 ∨ (Tr.Sm t ∧ (Tr.size t : Int) ≤ left - r + 1)) := by
  refine Tr.ind fun kd n s ks kids ih hok left h0 h1 => ?_
  cases hok with
  | mk o1 o2 o3 o4 o5 o6 =>
  unfold okS at o3
  -- all but the fuel
  have main : ∃ r, (∀ k, Tr.deeps kids ≤ k → laws_szNode_F (laws_szNode_n k) (Tr.no (.mk kd n s ks kids)) left = some r) ∧ r ≤ left ∧ (r < 0 ∨ (Tr.Sm (.mk kd n s ks kids) ∧ (Tr.size (.mk kd n s ks kids) : Int) ≤ left - r + 1)) := by
    have e0 : IntKind.i64.wrap (left - (s.length : Int)) = left - (s.length : Int) := w64_id (by omega) (by omega)
    simp only [laws_szNode_F, Tr.no, e0]
    by_cases c : decide (left - (s.length : Int) < 0) = true
    · simp only [c, if_true]; exact ⟨_, fun _ _ => rfl, by omega, .inl (by omega)⟩
    · simp only [c]; simp at c
      obtain ⟨r1, e1, l1, s1⟩ := szStringS_sp ks (left - (s.length : Int)) o4 (by omega) (by omega)
      simp only [e1, bind_some', if_false, Bool.false_eq_true]
      by_cases c1 : decide (r1 < 0) = true
      · simp only [c1, if_true]; exact ⟨_, fun _ _ => rfl, by omega, .inl (by omega)⟩
      · simp only [c1]; simp at c1
        have s1 := s1.resolve_left (by omega)
        have e2 : IntKind.i64.wrap (r1 - (kids.length : Int)) = r1 - (kids.length : Int) := w64_id (by omega) (by omega)
        simp only [laws_szNodeS, Tr.nos_len, if_false, Bool.false_eq_true, e2]
        by_cases c2 : decide (r1 - (kids.length : Int) < 0) = true
        · simp only [c2, if_true, bind_some']
          exact ⟨-1, fun _ _ => rfl, by omega, .inl (by omega)⟩
        · simp only [c2]; simp at c2
          have key : ∀ i, i ≤ kids.length → ∀ v : Int, 0 ≤ v → v ≤ r1 - (kids.length : Int) → ∃ r, (∀ k, Tr.deeps kids ≤ k → laws_szNodeS.l0 (laws_szNode_n k) (Tr.nos kids) v i = some r) ∧ (match r with | .inl r => r = -1 | .inr r => 0 ≤ r ∧ r ≤ v ∧ (∀ x ∈ kids.drop i, Tr.Sm x) ∧ (Tr.sizes (kids.drop i) : Int) ≤ v - r + ((kids.length - i : Nat) : Int)) := by
            refine down _ fun i hi ih2 v hv0 hv1 => ?_
            by_cases hlt : i < kids.length
            · have c3 : decide ((i : Int) < ((Tr.nos kids).length : Int)) = true := by rw [Tr.nos_len]; simpa using hlt
              have hm : kids[i] ∈ kids := List.getElem_mem hlt
              obtain ⟨r, e, lr, sr⟩ := ih kids[i] hm (o6 _ hm) v hv0 (by omega)
              have step : ∀ k, Tr.deeps kids ≤ k → laws_szNodeS.l0 (laws_szNode_n k) (Tr.nos kids) v i = if decide (r < 0) = true then some (.inl (-1)) else laws_szNodeS.l0 (laws_szNode_n k) (Tr.nos kids) r ((i + 1 : Nat) : Int) := by
                intro k hk
                rw [laws_szNodeS.l0]
                rw [if_pos c3, kid kids i hlt, e k (by have := Tr.deeps_le kids _ hm; omega), bind_some', w64_succ (show i < 9223372036854775807 by omega)]
              by_cases c4 : decide (r < 0) = true
              · exact ⟨.inl (-1), fun k hk => by rw [step k hk, if_pos c4], rfl⟩
              · simp at c4
                obtain ⟨z, ez, hz⟩ := ih2 hlt r (by omega) (by omega)
                refine ⟨z, fun k hk => by rw [step k hk, if_neg (by simpa using c4)]; exact ez k hk, ?_⟩
                have sr := sr.resolve_left (by omega)
                cases z with
                | inl z => exact hz
                | inr z =>
                  obtain ⟨z1, z2, z3, z4⟩ := hz
                  refine ⟨z1, by omega, fun x hx => ?_, ?_⟩
                  · rw [List.drop_eq_getElem_cons hlt] at hx
                    rcases List.mem_cons.1 hx with rfl | hx
                    · exact sr.1
                    · exact z3 x hx
                  · rw [List.drop_eq_getElem_cons hlt, Tr.sizes]
                    have := sr.2
                    omega
            · obtain rfl : i = kids.length := by omega
              refine ⟨.inr v, fun k hk => ?_, hv0, Int.le_refl _, by simp, by simp [Tr.sizes]⟩
              rw [laws_szNodeS.l0, if_neg (by simp [Tr.nos_len])]
          obtain ⟨r, e, hr⟩ := key 0 (by omega) _ (by omega) (Int.le_refl _)
          simp only [Int.natCast_zero] at e
          cases r with
          | inl r =>
            have : r = -1 := hr
            subst this
            refine ⟨-1, fun k hk => ?_, by omega, .inl (by omega)⟩
            rw [if_neg (by decide), e k hk]
            rfl
          | inr r =>
            obtain ⟨z1, z2, z3, z4⟩ := hr
            refine ⟨r, fun k hk => ?_, by omega, .inr ⟨.mk (by unfold smS; omega) s1 (by omega) (by simpa using z3), ?_⟩⟩
            · rw [if_neg (by decide), e k hk]
              show (if decide (r < 0) = true then some (-1) else some r) = some r
              rw [if_neg (by simpa using z1)]
            · rw [Tr.size]
              simp only [List.drop_zero, Nat.sub_zero] at z4
              omega
  obtain ⟨r, e, h2, h3⟩ := main
  refine ⟨r, fun k hk => ?_, h2, h3⟩
  rw [Tr.deep] at hk
  obtain ⟨k', rfl⟩ : ∃ k', k = k' + 1 := ⟨k - 1, by omega⟩
  exact e k' (by omega)
theorem Tr.size_le : ∀ (l : List Tr) (t : Tr), t ∈ l → Tr.size t ≤ Tr.sizes l
  | a :: l, t, h => by
    rw [Tr.sizes]
    rcases List.mem_cons.1 h with rfl | h
    · omega
    · have := Tr.size_le l t h; omega
theorem toStringS_some (a : List Str) (h : smL smS a) : laws_toStringS a = some a := by
  have hl : a.length ≤ 1048576 := h.1
  have key : ∀ i, i ≤ a.length → ∀ v : List Str, v.length = a.length → laws_toStringS.l0 a i v = some (v.take i ++ a.drop i) := by
    refine down _ fun i hi ih v hv => ?_
    rw [laws_toStringS.l0]
    by_cases hlt : i < a.length
    · have c : decide ((i : Int) < (a.length : Int)) = true := by simpa using hlt
      have hv' : i < v.length := by omega
      simp only [c, if_true, ix_nat, List.getElem?_eq_getElem hlt, List.getElem?_eq_getElem hv', bind_some', put_nat hv', w64_succ (show i < 9223372036854775807 by omega)]
      rw [ih hlt _ (by simpa using hv), set_step hlt hv']
    · rw [if_neg (by simpa using hlt)]
      obtain rfl : i = a.length := by omega
      simp [List.take_of_length_le, hv]
  simp only [laws_toStringS]
  rw [mk_ok (by omega)]
  simp only [bind_some']
  have := fun z => key 0 (by omega) (List.replicate a.length z) (by simp)
  simp only [Int.natCast_zero] at this
  simp only [this, bind_some']; simp
theorem eqStringS_self (a : List Str) (h : smL smS a) : laws_eqStringS a a = some true := by
  have hl : a.length ≤ 1048576 := h.1
  have key : ∀ i, i ≤ a.length → laws_eqStringS.l0 a a i = some (.inr ()) := by
    refine down _ fun i hi ih => ?_
    rw [laws_eqStringS.l0]
    by_cases hlt : i < a.length
    · have c : decide ((i : Int) < (a.length : Int)) = true := by simpa using hlt
      simp only [c, if_true, ix_nat, List.getElem?_eq_getElem hlt, bind_some', bne_self_eq_false, beq_self_eq_true, Bool.false_eq_true, if_false, Bool.not_true, w64_succ (show i < 9223372036854775807 by omega)]
      exact ih hlt
    · rw [if_neg (by simpa using hlt)]
  simp only [laws_eqStringS, bne_self_eq_false, Bool.false_eq_true, if_false]
  have := key 0 (by omega)
  simp only [Int.natCast_zero] at this
  rw [this]; rfl
theorem fuel1 {t : Tr} {k n : Int} {s : Str} {ks : List Str} {kids : List Tr} (e : t = .mk k n s ks kids) {m : Nat} (h : Tr.deep t ≤ m) : ∃ m', m = m' + 1 ∧ Tr.deeps kids ≤ m' := by
  subst e
  rw [Tr.deep] at h
  exact ⟨m - 1, by omega, by omega⟩
theorem toNode_some : ∀ t : Tr, Tr.Sm t → ∀ k, Tr.deep t ≤ k → laws_toNode_n k (Tr.no t) = some (Tr.no t) := by
  refine Tr.ind fun kd n s ks kids ih hsm k hk => ?_
  obtain ⟨k, rfl, hk⟩ := fuel1 rfl hk
  cases hsm with
  | mk s1 s2 s3 s4 =>
  have key : ∀ i, i ≤ kids.length → ∀ v : List RNode, v.length = kids.length → (∀ x ∈ v, ∃ y, x = rN_Node y) → laws_toNodeS.l0 (laws_toNode_n k) (Tr.nos kids) i v = some (v.take i ++ (Tr.nos kids).drop i) := by
    refine down _ fun i hi ih2 v hv hy => ?_
    by_cases hlt : i < kids.length
    · have c3 : decide ((i : Int) < ((Tr.nos kids).length : Int)) = true := by rw [Tr.nos_len]; simpa using hlt
      have hm : kids[i] ∈ kids := List.getElem_mem hlt
      have hv' : i < v.length := by omega
      have hn' : i < (Tr.nos kids).length := by rw [Tr.nos_len]; exact hlt
      have hne : (Tr.nos kids)[i] = rN_Node (Tr.no kids[i]) := by
        have := Tr.nos_get kids i hlt
        rw [List.getElem?_eq_getElem hn'] at this
        exact Option.some.inj this
      obtain ⟨y, hy1⟩ := hy v[i] (List.getElem_mem hv')
      rw [laws_toNodeS.l0, if_pos c3, kid kids i hlt, ih _ hm (s4 _ hm) k (by have := Tr.deeps_le kids _ hm; omega), bind_some']
      rw [ix_nat, List.getElem?_eq_getElem hv', bind_some', hy1, dN_Node_rN, bind_some', put_nat hv', bind_some', w64_succ (show i < 9223372036854775807 by omega)]
      rw [ih2 hlt _ (by simpa using hv) (fun x hx => ?_), ← hne, set_step hn' hv']
      rcases List.mem_or_eq_of_mem_set hx with hx | rfl
      · exact hy x hx
      · exact ⟨_, rfl⟩
    · obtain rfl : i = kids.length := by omega
      rw [laws_toNodeS.l0, if_neg (by simp [Tr.nos_len])]
      simp [List.take_of_length_le, hv, List.drop_of_length_le, Tr.nos_len]
  show laws_toNode_F (laws_toNode_n k) _ = _
  simp only [laws_toNode_F, Tr.no, toStringS_some ks s2, bind_some', laws_toNodeS, Tr.nos_len]
  rw [mk_ok (by omega)]
  have := key 0 (by omega) (List.replicate kids.length (rN_Node (Node.mk 0 0 [] [] []))) (by simp) (fun x hx => ⟨_, (List.mem_replicate.1 hx).2⟩)
  simp only [Int.natCast_zero] at this
  simp only [this, bind_some']; simp
theorem eqNode_self : ∀ t : Tr, Tr.Sm t → ∀ k, Tr.deep t ≤ k → laws_eqNode_n k (Tr.no t) (Tr.no t) = some true := by
  refine Tr.ind fun kd n s ks kids ih hsm k hk => ?_
  obtain ⟨k, rfl, hk⟩ := fuel1 rfl hk
  cases hsm with
  | mk s1 s2 s3 s4 =>
  have key : ∀ i, i ≤ kids.length → laws_eqNodeS.l0 (laws_eqNode_n k) (Tr.nos kids) (Tr.nos kids) i = some (.inr ()) := by
    refine down _ fun i hi ih2 => ?_
    by_cases hlt : i < kids.length
    · have c3 : decide ((i : Int) < ((Tr.nos kids).length : Int)) = true := by rw [Tr.nos_len]; simpa using hlt
      have hm : kids[i] ∈ kids := List.getElem_mem hlt
      rw [laws_eqNodeS.l0, if_pos c3, kid kids i hlt, kid kids i hlt, ih _ hm (s4 _ hm) k (by have := Tr.deeps_le kids _ hm; omega), bind_some', if_neg (by decide), w64_succ (show i < 9223372036854775807 by omega)]
      exact ih2 hlt
    · obtain rfl : i = kids.length := by omega
      rw [laws_eqNodeS.l0, if_neg (by simp [Tr.nos_len])]
  have := key 0 (by omega)
  simp only [Int.natCast_zero] at this
  show laws_eqNode_F (laws_eqNode_n k) _ _ = _
  simp only [laws_eqNode_F, Tr.no, eqStringS_self ks s2, bind_some', laws_eqNodeS, bne_self_eq_false, beq_self_eq_true, Bool.not_true, Bool.false_eq_true, if_false, this]
theorem no_kids {k n : Int} {s : Str} {ks : List Str} {kids : List Tr} : (Tr.no (.mk k n s ks kids)).Kids = Tr.nos kids := by rw [Tr.no]
theorem deep_some : ∀ t : Tr, Tr.size t ≤ 2000000 → ∀ k, Tr.deep t ≤ k → spec_l3Deep_n k (Tr.no t) = some (Tr.deep t : Int) := by
  refine Tr.ind fun kd n s ks kids ih hsz k hk => ?_
  obtain ⟨k, rfl, hk⟩ := fuel1 rfl hk
  have hds := Tr.deep_size (.mk kd n s ks kids)
  rw [Tr.size] at hsz hds
  rw [Tr.deep] at hds
  have key : ∀ i, i ≤ kids.length → ∀ v : Nat, spec_l3Deep.l0 (spec_l3Deep_n k) (Tr.no (.mk kd n s ks kids)) v i = some ((max v (Tr.deeps (kids.drop i)) : Nat) : Int) := by
    refine down _ fun i hi ih2 v => ?_
    rw [spec_l3Deep.l0]
    rw [no_kids]
    by_cases hlt : i < kids.length
    · have c3 : decide ((i : Int) < ((Tr.nos kids).length : Int)) = true := by rw [Tr.nos_len]; simpa using hlt
      have hm : kids[i] ∈ kids := List.getElem_mem hlt
      have hs1 := Tr.size_le kids _ hm
      have hl : kids.length ≤ 2000000 := by
        have : ∀ l : List Tr, l.length ≤ Tr.sizes l := by
          intro l
          induction l with
          | nil => simp
          | cons a l ih => rw [Tr.sizes]; have : 1 ≤ Tr.size a := by cases a; rw [Tr.size]; omega
                           simp only [List.length_cons]; omega
        have := this kids; omega
      rw [if_pos c3, kid kids i hlt, ih _ hm (by omega) k (by have := Tr.deeps_le kids _ hm; omega), bind_some']
      have e : spec_l1Max (v : Int) (Tr.deep kids[i] : Int) = some ((max v (Tr.deep kids[i]) : Nat) : Int) := by
        simp only [spec_l1Max]
        by_cases h : (v : Int) > (Tr.deep kids[i] : Int)
        · rw [if_pos (by simpa using h)]; congr 1; omega
        · rw [if_neg (by simpa using h)]; congr 1; omega
      rw [e, bind_some', w64_succ (show i < 9223372036854775807 by omega)]
      have := ih2 hlt (max v (Tr.deep kids[i]))
      rw [this, List.drop_eq_getElem_cons hlt, Tr.deeps]
      congr 2; omega
    · obtain rfl : i = kids.length := by omega
      rw [if_neg (by simp [Tr.nos_len])]
      simp [Tr.deeps]
  have := key 0 (by omega) 0
  simp only [Int.natCast_zero, List.drop_zero] at this
  show spec_l3Deep_F (spec_l3Deep_n k) _ = _
  simp only [spec_l3Deep_F, this, bind_some', Tr.deep]
  rw [w64_id (by omega) (by omega)]
  congr 1 <;> omega
theorem len_sizes : ∀ l : List Tr, l.length ≤ Tr.sizes l
  | [] => by simp
  | a :: l => by
    have := len_sizes l
    rw [Tr.sizes]
    have h1 : 1 ≤ Tr.size a := by cases a; rw [Tr.size]; omega
    simp only [List.length_cons]; omega
theorem size_some : ∀ t : Tr, Tr.size t ≤ 2000000 → ∀ k, Tr.deep t ≤ k → spec_l3Size_n k (Tr.no t) = some (Tr.size t : Int) := by
  refine Tr.ind fun kd n s ks kids ih hsz k hk => ?_
  obtain ⟨k, rfl, hk⟩ := fuel1 rfl hk
  rw [Tr.size] at hsz
  have hl : kids.length ≤ 2000000 := by have := len_sizes kids; omega
  have drops : ∀ i, Tr.sizes (kids.drop i) ≤ Tr.sizes kids := by
    have : ∀ (l : List Tr) (i : Nat), Tr.sizes (l.drop i) ≤ Tr.sizes l := by
      intro l
      induction l with
      | nil => intro i; simp
      | cons a l ih =>
        intro i
        cases i with
        | zero => simp
        | succ i => simp only [List.drop_succ_cons, Tr.sizes]; have := ih i; omega
    exact this kids
  have key : ∀ i, i ≤ kids.length → ∀ v : Nat, v + Tr.sizes (kids.drop i) ≤ 2000001 → spec_l3Size.l0 (spec_l3Size_n k) (Tr.no (.mk kd n s ks kids)) v i = some ((v + Tr.sizes (kids.drop i) : Nat) : Int) := by
    refine down _ fun i hi ih2 v hv => ?_
    rw [spec_l3Size.l0]
    rw [no_kids]
    by_cases hlt : i < kids.length
    · have c3 : decide ((i : Int) < ((Tr.nos kids).length : Int)) = true := by rw [Tr.nos_len]; simpa using hlt
      have hm : kids[i] ∈ kids := List.getElem_mem hlt
      have hs1 := Tr.size_le kids _ hm
      rw [List.drop_eq_getElem_cons hlt, Tr.sizes] at hv
      rw [if_pos c3, kid kids i hlt, ih _ hm (by omega) k (by have := Tr.deeps_le kids _ hm; omega), bind_some']
      have e : IntKind.i64.wrap ((v : Int) + (Tr.size kids[i] : Int)) = ((v + Tr.size kids[i] : Nat) : Int) := by rw [w64_id (by omega) (by omega)]; omega
      rw [e, w64_succ (show i < 9223372036854775807 by omega)]
      have := ih2 hlt (v + Tr.size kids[i]) (by omega)
      rw [this, List.drop_eq_getElem_cons hlt, Tr.sizes]
      congr 2; omega
    · obtain rfl : i = kids.length := by omega
      rw [if_neg (by simp [Tr.nos_len])]
      simp [Tr.sizes]
  have := key 0 (by omega) 1 (by simp only [List.drop_zero]; omega)
  simp only [Int.natCast_zero, List.drop_zero, Int.natCast_one] at this
  show spec_l3Size_F (spec_l3Size_n k) _ = _
  simp only [spec_l3Size_F, this, bind_some', Tr.size]
  congr 2; omega
theorem isize_some : ∀ t : Tr, Tr.size t ≤ 2000000 → ∀ r : Int, 0 ≤ r → r ≤ 9 → ∃ p q : Int, (∀ k, Tr.deep t ≤ k → impl_size_n k (Tr.no t) r = some (p, q)) ∧ ((Tr.deep t : Int) ≤ r → p = (min (Tr.size t) 201 : Nat) ∧ q = Tr.deep t) ∧ (r < (Tr.deep t : Int) → 9 ≤ q) ∧ 0 ≤ q ∧ q ≤ 9 + r ∧ 0 ≤ p ∧ p ≤ 201 := by
  refine Tr.ind fun kd n s ks kids ih hsz r r0 r9 => ?_
  have hdp := Tr.deep_pos (.mk kd n s ks kids)
  rw [Tr.size] at hsz
  have hl : kids.length ≤ 2000000 := by have := len_sizes kids; omega
  by_cases hr : r = 0
  · subst hr
    refine ⟨201, 9, fun k hk => ?_, fun h => by omega, fun _ => by omega, by omega, by omega, by omega, by omega⟩
    obtain ⟨k, rfl, hk⟩ := fuel1 rfl hk
    show impl_size_F (impl_size_n k) _ 0 = _
    rfl
  · have e0 : IntKind.i64.wrap (r - 1) = r - 1 := w64_id (by omega) (by omega)
    have key : ∀ i, i ≤ kids.length → ∀ v m : Nat, v ≤ 201 → (m : Int) ≤ 8 + r → ∃ p q : Int, (∀ k, Tr.deeps kids ≤ k → impl_size.l0 (impl_size_n k) (Tr.no (.mk kd n s ks kids)) r v m i = some (p, q)) ∧
        ((Tr.deeps (kids.drop i) : Int) ≤ r - 1 → p = (min (v + Tr.sizes (kids.drop i)) 201 : Nat) ∧ q = (max m (Tr.deeps (kids.drop i)) : Nat)) ∧ (r - 1 < (Tr.deeps (kids.drop i) : Int) → 9 ≤ q) ∧ (m : Int) ≤ q ∧ q ≤ 8 + r ∧ 0 ≤ p ∧ p ≤ 201 := by
      refine down _ fun i hi ih2 v m hv hm0 => ?_
      by_cases hlt : i < kids.length
      · have c3 : decide ((i : Int) < ((Tr.nos kids).length : Int)) = true := by rw [Tr.nos_len]; simpa using hlt
        have hm : kids[i] ∈ kids := List.getElem_mem hlt
        have hs1 := Tr.size_le kids _ hm
        obtain ⟨p, q, e, a1, a2, a3, a4, a5, a6⟩ := ih _ hm (by omega) (r - 1) (by omega) (by omega)
        obtain ⟨p', rfl⟩ : ∃ p' : Nat, p = p' := ⟨p.toNat, by omega⟩
        obtain ⟨q', rfl⟩ : ∃ q' : Nat, q = q' := ⟨q.toNat, by omega⟩
        obtain ⟨x, y, e2, b1, b2, b3, b4, b5, b6⟩ := ih2 hlt (min (v + p') 201) (max m q') (by omega) (by omega)
        refine ⟨x, y, fun k hk => ?_, ?_, ?_, by omega, b4, b5, b6⟩
        · rw [impl_size.l0]
          rw [no_kids, if_pos c3, kid kids i hlt, e0, e k (by have := Tr.deeps_le kids _ hm; omega), bind_some']
          have e3 : IntKind.i64.wrap ((v : Int) + (p' : Int)) = (v : Int) + (p' : Int) := w64_id (by omega) (by omega)
          have e4 : (if 201 < (v : Int) + (p' : Int) then (201 : Int) else (v : Int) + (p' : Int)) = ((min (v + p') 201 : Nat) : Int) := by split <;> omega
          have e5 : (if (q' : Int) > (m : Int) then (q' : Int) else (m : Int)) = ((max m q' : Nat) : Int) := by split <;> omega
          simp only [e3, e4, e5]
          rw [w64_succ (show i < 9223372036854775807 by omega)]
          have := e2 k hk
          exact this
        · intro hd
          rw [List.drop_eq_getElem_cons hlt, Tr.deeps] at hd
          obtain ⟨c1, c2⟩ := a1 (by omega)
          obtain ⟨d1, d2⟩ := b1 (by omega)
          rw [List.drop_eq_getElem_cons hlt, Tr.deeps, Tr.sizes]
          constructor
          · rw [d1]; omega
          · rw [d2]; omega
        · intro hd
          rw [List.drop_eq_getElem_cons hlt, Tr.deeps] at hd
          by_cases h1 : r - 1 < (Tr.deep kids[i] : Int)
          · have := a2 h1; omega
          · exact b2 (by omega)
      · obtain rfl : i = kids.length := by omega
        refine ⟨v, m, fun k hk => ?_, fun h => ?_, fun h => ?_, by omega, by omega, by omega, by omega⟩
        · rw [impl_size.l0]
          rw [no_kids, if_neg (by simp [Tr.nos_len])]
        · simp [Tr.deeps, Tr.sizes]; omega
        · simp [Tr.deeps] at h; omega
    obtain ⟨p, q, e, a1, a2, a3, a4, a5, a6⟩ := key 0 (by omega) 1 0 (by omega) (by omega)
    simp only [List.drop_zero] at a1 a2
    refine ⟨p, q + 1, fun k hk => ?_, fun h => ?_, fun h => ?_, by omega, by omega, a5, a6⟩
    · obtain ⟨k1, e1, hk1⟩ := fuel1 rfl hk
      subst e1
      have := e k1 hk1
      simp only [Int.natCast_zero, Int.natCast_one] at this
      show impl_size_F (impl_size_n k1) _ r = _
      simp only [impl_size_F]
      rw [if_neg (by simpa using hr), this, bind_some']
      show some (p, IntKind.i64.wrap (q + 1)) = _
      rw [w64_id (by omega) (by omega)]
    · rw [Tr.deep] at h ⊢
      obtain ⟨c1, c2⟩ := a1 (by omega)
      rw [Tr.size]
      constructor
      · rw [c1]; omega
      · rw [c2]; omega
    · rw [Tr.deep] at h
      have := a2 (by omega)
      omega
theorem keys_same (a : Node) (h : smL smS a.Keys) : ∃ b : Bool, spec_l3Keys a.Keys = some b ∧ impl_shapeOk.l5 a 0 = some (if b then .inr () else .inl false) := by
  have hl : a.Keys.length ≤ 1048576 := h.1
  have key : ∀ i, i ≤ a.Keys.length → ∃ b : Bool, spec_l3Keys.l0 a.Keys i = some (if b then .inr () else .inl false) ∧ impl_shapeOk.l5 a i = some (if b then .inr () else .inl false) := by
    refine down _ fun i hi ih => ?_
    rw [spec_l3Keys.l0, impl_shapeOk.l5]
    by_cases hlt : i < a.Keys.length
    · have c : decide ((i : Int) < (a.Keys.length : Int)) = true := by simpa using hlt
      obtain ⟨b, e1, e2⟩ := ih hlt
      obtain ⟨x, x1, x2⟩ := textOk_same a.Keys[i] (h.2 _ (List.getElem_mem hlt))
      simp only [c, if_true, ix_nat, List.getElem?_eq_getElem hlt, bind_some', x1, x2, w64_succ (show i < 9223372036854775807 by omega), e1, e2]
      cases x
      · exact ⟨false, rfl, rfl⟩
      · simp only [Bool.not_true, Bool.false_eq_true, if_false]
        by_cases h0 : 0 < i
        · have c2 : decide ((i : Int) > 0) = true := by simpa using h0
          have e : IntKind.i64.wrap ((i : Int) - 1) = ((i - 1 : Nat) : Int) := by rw [w64_id (by omega) (by omega)]; omega
          have hlt2 : i - 1 < a.Keys.length := by omega
          simp only [c2, if_true, e, ix_nat, List.getElem?_eq_getElem hlt2, bind_some']
          cases slt a.Keys[i - 1] a.Keys[i]
          · exact ⟨false, rfl, rfl⟩
          · exact ⟨b, rfl, rfl⟩
        · have c2 : decide ((i : Int) > 0) = false := by simpa using h0
          simp only [c2, if_false, Bool.false_eq_true]
          exact ⟨b, rfl, rfl⟩
    · rw [if_neg (by simpa using hlt), if_neg (by simpa using hlt)]
      exact ⟨true, rfl, rfl⟩
  obtain ⟨b, e1, e2⟩ := key 0 (by omega)
  simp only [Int.natCast_zero] at e1 e2
  refine ⟨b, ?_, e2⟩
  simp only [spec_l3Keys, e1, bind_some']
  cases b <;> rfl
theorem leaf_same (a : Node) (hs : smS a.S) (h4 : a.Kind ≠ 4) (h5 : a.Kind ≠ 5) : ∃ b, spec_l3Leaf a = some b ∧ impl_shapeOk a = some b ∧ (b = true → a.Kids.length = 0) := by
  obtain ⟨x, x1, x2⟩ := textOk_same a.S hs
  have k4 : (a.Kind == 4) = false := by simpa using h4
  have k5 : (a.Kind == 5) = false := by simpa using h5
  simp only [spec_l3Leaf, impl_shapeOk, impl_shapeOk.l0, impl_shapeOk.l1, impl_shapeOk.l2, impl_shapeOk.l3, in_some, from_some, x1, x2, bind_some', k4, k5, beq_self_eq_true, Bool.false_eq_true, if_false, if_true]
  by_cases a0 : a.Kids.length = 0
  · have c1 : decide ((a.Kids.length : Int) > 0) = false := decide_eq_false (by omega)
    have c2 : ((a.Kids.length : Int) == 0) = true := by simp [a0]
    simp only [c1, c2, Bool.false_eq_true, if_false]
    by_cases b0 : a.Keys.length = 0
    · have d1 : decide ((a.Keys.length : Int) > 0) = false := decide_eq_false (by omega)
      have d2 : ((a.Keys.length : Int) == 0) = true := by simp [b0]
      simp only [d1, d2, Bool.false_eq_true, if_false, if_true]
      cases (a.Kind == 0) <;> cases (a.Kind == 1) <;> cases (a.Kind == 2) <;> cases (a.Kind == 3) <;> cases (a.N == 0) <;> cases (a.S == ([] : Str)) <;> cases (decide (a.N ≥ 0) && decide (a.N ≤ 1)) <;> cases (decide (a.N ≥ -1000000000000) && decide (a.N ≤ 1000000000000)) <;> cases x <;> exact ⟨_, rfl, rfl, fun _ => a0⟩
    · have d1 : decide ((a.Keys.length : Int) > 0) = true := decide_eq_true (by omega)
      have d2 : ((a.Keys.length : Int) == 0) = false := by simpa using b0
      simp only [d1, d2, Bool.false_eq_true, if_false, if_true]
      cases (a.Kind == 0) <;> cases (a.Kind == 1) <;> cases (a.Kind == 2) <;> cases (a.Kind == 3) <;> cases (a.N == 0) <;> cases (a.S == ([] : Str)) <;> cases (decide (a.N ≥ 0) && decide (a.N ≤ 1)) <;> cases (decide (a.N ≥ -1000000000000) && decide (a.N ≤ 1000000000000)) <;> cases x <;> exact ⟨_, rfl, rfl, fun _ => a0⟩
  · have c1 : decide ((a.Kids.length : Int) > 0) = true := decide_eq_true (by omega)
    have c2 : ((a.Kids.length : Int) == 0) = false := by simpa using a0
    simp only [c1, c2, if_true]
    refine ⟨false, rfl, ?_, fun h => by cases h⟩
    cases (a.Kind == 0) <;> cases (a.Kind == 1) <;> cases (a.Kind == 2) <;> cases (a.Kind == 3) <;> cases (a.N == 0) <;> cases (a.S == ([] : Str)) <;> cases ((a.Keys.length : Int) == 0) <;> cases (decide (a.N ≥ 0) && decide (a.N ≤ 1)) <;> cases (decide (a.N ≥ -1000000000000) && decide (a.N ≤ 1000000000000)) <;> cases x <;> rfl
theorem kids_end (kids : List Tr) : ¬ (decide ((kids.length : Int) < ((Tr.nos kids).length : Int)) = true) := by simp [Tr.nos_len]
theorem kids_same (kids : List Tr) (T : Node) (hT : T.Kids = Tr.nos kids) (hl : kids.length ≤ 1048576) (ih : ∀ t ∈ kids, ∃ b, ∀ k, Tr.deep t ≤ k → spec_l3Right_n k (Tr.no t) = some b ∧ impl_allShapes_n k (Tr.no t) = some b) :
    ∃ b : Bool, ∀ k, Tr.deeps kids ≤ k → spec_l3Right.l2 (spec_l3Right_n k) T 0 = some (if b then .inr () else .inl false) ∧ spec_l3Right.l5 (spec_l3Right_n k) T 0 = some (if b then .inr () else .inl false) ∧ slices_ContainsFunc_Simpl_Node_impl_Node_impl_allShapes_1 (impl_allShapes_n k) T.Kids = some (!b) := by
  have key : ∀ i, i ≤ kids.length → ∃ (b : Bool) (j : Nat), ∀ k, Tr.deeps kids ≤ k → spec_l3Right.l2 (spec_l3Right_n k) T i = some (if b then .inr () else .inl false) ∧ spec_l3Right.l5 (spec_l3Right_n k) T i = some (if b then .inr () else .inl false) ∧ slices_IndexFunc_Simpl_Node_impl_Node_impl_allShapes_1.l0 (impl_allShapes_n k) T.Kids i = some (if b then .inr () else .inl (j : Int)) := by
    refine down _ fun i hi ih2 => ?_
    by_cases hlt : i < kids.length
    · have c3 : decide ((i : Int) < ((Tr.nos kids).length : Int)) = true := by rw [Tr.nos_len]; simpa using hlt
      have hm : kids[i] ∈ kids := List.getElem_mem hlt
      obtain ⟨x, hx⟩ := ih _ hm
      obtain ⟨b, j, hb⟩ := ih2 hlt
      have hd := Tr.deeps_le kids _ hm
      cases x with
      | false =>
        refine ⟨false, i, fun k hk => ?_⟩
        obtain ⟨x1, x2⟩ := hx k (by omega)
        rw [spec_l3Right.l2, spec_l3Right.l5, slices_IndexFunc_Simpl_Node_impl_Node_impl_allShapes_1.l0, hT, if_pos c3, kid kids i hlt, if_pos c3, kid kids i hlt, if_pos c3, kid kids i hlt, x1]
        simp only [impl_allShapes_1, x2, bind_some']
        exact ⟨rfl, rfl, rfl⟩
      | true =>
        refine ⟨b, j, fun k hk => ?_⟩
        obtain ⟨x1, x2⟩ := hx k (by omega)
        obtain ⟨y1, y2, y3⟩ := hb k hk
        rw [hT] at y3
        rw [spec_l3Right.l2, spec_l3Right.l5, slices_IndexFunc_Simpl_Node_impl_Node_impl_allShapes_1.l0, hT, if_pos c3, kid kids i hlt, if_pos c3, kid kids i hlt, if_pos c3, kid kids i hlt, x1]
        simp only [impl_allShapes_1, x2, bind_some', Bool.not_true, Bool.false_eq_true, if_false, w64_succ (show i < 9223372036854775807 by omega), y1, y2, y3]
        exact ⟨trivial, trivial, trivial⟩
    · obtain rfl : i = kids.length := by omega
      refine ⟨true, 0, fun k hk => ?_⟩
      rw [spec_l3Right.l2, spec_l3Right.l5, slices_IndexFunc_Simpl_Node_impl_Node_impl_allShapes_1.l0, hT, if_neg (kids_end kids), if_neg (kids_end kids), if_neg (kids_end kids)]
      exact ⟨rfl, rfl, rfl⟩
  obtain ⟨b, j, hb⟩ := key 0 (by omega)
  refine ⟨b, fun k hk => ?_⟩
  obtain ⟨y1, y2, y3⟩ := hb k hk
  simp only [Int.natCast_zero] at y1 y2 y3
  refine ⟨y1, y2, ?_⟩
  simp only [slices_ContainsFunc_Simpl_Node_impl_Node_impl_allShapes_1, slices_IndexFunc_Simpl_Node_impl_Node_impl_allShapes_1, y3, bind_some']
  cases b
  · show some (decide ((j : Int) ≥ 0)) = _
    have : decide ((j : Int) ≥ 0) = true := decide_eq_true (by omega)
    rw [this]; rfl
  · rfl
theorem right_same : ∀ t : Tr, Tr.Sm t → ∃ b, ∀ k, Tr.deep t ≤ k → spec_l3Right_n k (Tr.no t) = some b ∧ impl_allShapes_n k (Tr.no t) = some b := by
  refine Tr.ind fun kd n s ks kids ih hsm => ?_
  cases hsm with
  | mk s1 s2 s3 s4 =>
  obtain ⟨b, hb⟩ := kids_same kids (Tr.no (.mk kd n s ks kids)) no_kids s3 fun t ht => ih t ht (s4 t ht)
  generalize hT : Tr.no (.mk kd n s ks kids) = T at hb
  have hk : T.Kids = Tr.nos kids := by rw [← hT]; exact no_kids
  have hK : T.Keys = ks := by rw [← hT, Tr.no]
  have hS : T.S = s := by rw [← hT, Tr.no]
  have main : ∃ b, ∀ k, Tr.deeps kids ≤ k → spec_l3Right_F (spec_l3Right_n k) T = some b ∧ impl_allShapes_F (impl_allShapes_n k) T = some b := by
    by_cases k4 : T.Kind = 4
    · have c4 : (T.Kind != 4) = false := by simpa using k4
      have d4 : (T.Kind == 4) = true := by simpa using k4
      have d5 : (T.Kind == 5) = false := by simp [k4]
      have d0 : (T.Kind == 0) = false := by simp [k4]
      have d1 : (T.Kind == 1) = false := by simp [k4]
      have d2 : (T.Kind == 2) = false := by simp [k4]
      have d3 : (T.Kind == 3) = false := by simp [k4]
      by_cases hc : T.N = 0 ∧ T.S = [] ∧ T.Keys.length = 0
      · obtain ⟨n0, s0, l0⟩ := hc
        refine ⟨b, fun k hk' => ?_⟩
        obtain ⟨y1, y2, y3⟩ := hb k hk'
        have e1 : (T.N != 0) = false := by simpa using n0
        have e1' : (T.N == 0) = true := by simpa using n0
        have e2 : (T.S == ([] : Str)) = true := by simpa using s0
        have e3 : decide ((T.Keys.length : Int) > 0) = false := decide_eq_false (by omega)
        have e4 : ((T.Keys.length : Int) == 0) = true := by simp [l0]
        simp only [spec_l3Right_F, impl_allShapes_F, impl_shapeOk, impl_shapeOk.l4, c4, d0, d1, d2, d3, d4, d5, e1, e1', e2, e3, e4, y2, y3, bind_some', Bool.false_eq_true, Bool.not_true, if_false, if_true, beq_self_eq_true]
        cases b <;> exact ⟨rfl, rfl⟩
      · refine ⟨false, fun k hk' => ?_⟩
        obtain ⟨y1, y2, y3⟩ := hb k hk'
        simp only [spec_l3Right_F, impl_allShapes_F, impl_shapeOk, impl_shapeOk.l4, c4, d0, d1, d2, d3, d4, d5, y2, y3, bind_some', Bool.false_eq_true, Bool.not_true, if_false, if_true, beq_self_eq_true]
        by_cases n0 : T.N = 0
        · have e1 : (T.N != 0) = false := by simpa using n0
          have e1' : (T.N == 0) = true := by simpa using n0
          by_cases s0 : T.S = []
          · have e2 : (T.S == ([] : Str)) = true := by simpa using s0
            have l0 : T.Keys.length ≠ 0 := fun h => hc ⟨n0, s0, h⟩
            have e3 : decide ((T.Keys.length : Int) > 0) = true := decide_eq_true (by omega)
            have e4 : ((T.Keys.length : Int) == 0) = false := by simpa using l0
            simp only [e1, e1', e2, e3, e4, Bool.false_eq_true, Bool.not_true, if_false, if_true, bind_some', and_self]
          · have e2 : (T.S == ([] : Str)) = false := by simpa using s0
            simp only [e1, e1', e2, Bool.false_eq_true, Bool.not_false, if_false, if_true, bind_some', and_self]
        · have e1 : (T.N != 0) = true := by simpa using n0
          have e1' : (T.N == 0) = false := by simpa using n0
          simp only [e1, e1', Bool.false_eq_true, if_false, if_true, bind_some', and_self]
    · by_cases k5 : T.Kind = 5
      · have c4 : (T.Kind != 4) = true := by simpa using k4
        have c5 : (T.Kind != 5) = false := by simpa using k5
        have d4 : (T.Kind == 4) = false := by simpa using k4
        have d5 : (T.Kind == 5) = true := by simpa using k5
        have d0 : (T.Kind == 0) = false := by simp [k5]
        have d1 : (T.Kind == 1) = false := by simp [k5]
        have d2 : (T.Kind == 2) = false := by simp [k5]
        have d3 : (T.Kind == 3) = false := by simp [k5]
        obtain ⟨x, x1, x2⟩ := keys_same T (by rw [hK]; exact s2)
        by_cases hc : T.N = 0 ∧ T.S = [] ∧ T.Keys.length = T.Kids.length ∧ x = true
        · obtain ⟨n0, s0, l0, rfl⟩ := hc
          refine ⟨b, fun k hk' => ?_⟩
          obtain ⟨y1, y2, y3⟩ := hb k hk'
          have e1 : (T.N != 0) = false := by simpa using n0
          have e1' : (T.N == 0) = true := by simpa using n0
          have e2 : (T.S == ([] : Str)) = true := by simpa using s0
          have e3 : ((T.Keys.length : Int) != (T.Kids.length : Int)) = false := by simp [l0]
          simp only [spec_l3Right_F, impl_allShapes_F, impl_shapeOk, c4, c5, d0, d1, d2, d3, d4, d5, e1, e1', e2, e3, x1, x2, y1, y3, bind_some', Bool.false_eq_true, Bool.not_true, if_false, if_true, beq_self_eq_true]
          cases b <;> exact ⟨rfl, rfl⟩
        · refine ⟨false, fun k hk' => ?_⟩
          obtain ⟨y1, y2, y3⟩ := hb k hk'
          simp only [spec_l3Right_F, impl_allShapes_F, impl_shapeOk, c4, c5, d0, d1, d2, d3, d4, d5, x1, x2, y1, y3, bind_some', Bool.false_eq_true, Bool.not_true, if_false, if_true, beq_self_eq_true]
          by_cases l0 : T.Keys.length = T.Kids.length
          · have e3 : ((T.Keys.length : Int) != (T.Kids.length : Int)) = false := by simp [l0]
            simp only [e3, Bool.false_eq_true, if_false]
            cases hx : x
            · subst hx
              simp only [Bool.false_eq_true, if_false, if_true, Bool.not_false, bind_some']
              constructor
              · split
                · rfl
                · split <;> rfl
              · trivial
            · subst hx
              simp only [Bool.not_true, Bool.false_eq_true, if_false, if_true]
              by_cases n0 : T.N = 0
              · have e1 : (T.N != 0) = false := by simpa using n0
                have e1' : (T.N == 0) = true := by simpa using n0
                have s0 : T.S ≠ [] := fun h => hc ⟨n0, h, l0, rfl⟩
                have e2 : (T.S == ([] : Str)) = false := by simpa using s0
                simp only [e1, e1', e2, Bool.false_eq_true, Bool.not_false, if_false, if_true, bind_some', and_self]
              · have e1 : (T.N != 0) = true := by simpa using n0
                have e1' : (T.N == 0) = false := by simpa using n0
                simp only [e1, e1', Bool.false_eq_true, if_false, if_true, bind_some', and_self]
          · have e3 : ((T.Keys.length : Int) != (T.Kids.length : Int)) = true := by simp only [bne_iff_ne, ne_eq]; omega
            simp only [e3, Bool.false_eq_true, if_false, if_true, bind_some']
            constructor
            · split
              · rfl
              · split <;> rfl
            · trivial
      · have c4 : (T.Kind != 4) = true := by simpa using k4
        have c5 : (T.Kind != 5) = true := by simpa using k5
        obtain ⟨x, x1, x2, x3⟩ := leaf_same T (by rw [hS]; exact s1) k4 k5
        refine ⟨x, fun k hk' => ?_⟩
        simp only [spec_l3Right_F, impl_allShapes_F, c4, c5, x1, x2, bind_some', if_true]
        cases x
        · exact ⟨trivial, rfl⟩
        · have h0 : T.Kids = [] := List.eq_nil_of_length_eq_zero (x3 rfl)
          have : slices_IndexFunc_Simpl_Node_impl_Node_impl_allShapes_1.l0 (impl_allShapes_n k) [] 0 = some (.inr ()) := by
            rw [slices_IndexFunc_Simpl_Node_impl_Node_impl_allShapes_1.l0]; rfl
          simp only [slices_ContainsFunc_Simpl_Node_impl_Node_impl_allShapes_1, slices_IndexFunc_Simpl_Node_impl_Node_impl_allShapes_1, h0, this, bind_some', if_true]
          exact ⟨trivial, rfl⟩
  obtain ⟨b, hm⟩ := main
  refine ⟨b, fun k hk' => ?_⟩
  obtain ⟨k1, e1, hk1⟩ := fuel1 rfl hk'
  subst e1
  exact hm k1 hk1
theorem noNull_same : ∀ t : Tr, Tr.Sm t → ∃ b, ∀ k, Tr.deep t ≤ k → spec_l10NoNull_n k (Tr.no t) = some b ∧ impl_noNull_n k (Tr.no t) = some b := by
  refine Tr.ind fun kd n s ks kids ih hsm => ?_
  cases hsm with
  | mk s1 s2 s3 s4 =>
  generalize hT : Tr.no (.mk kd n s ks kids) = T
  have hk : T.Kids = Tr.nos kids := by rw [← hT]; exact no_kids
  have key : ∀ i, i ≤ kids.length → ∃ (b : Bool) (j : Nat), ∀ k, Tr.deeps kids ≤ k → spec_l10NoNull.l0 (spec_l10NoNull_n k) T i = some (if b then .inr () else .inl false) ∧ slices_IndexFunc_Simpl_Node_impl_Node_impl_noNull_1.l0 (impl_noNull_n k) T.Kids i T.Kind T.N T.S T.Keys T.Kids = some (if b then .inr (T.Kind, T.N, T.S, T.Keys, T.Kids) else .inl ((j : Int), T)) := by
    refine down _ fun i hi ih2 => ?_
    by_cases hlt : i < kids.length
    · have c3 : decide ((i : Int) < ((Tr.nos kids).length : Int)) = true := by rw [Tr.nos_len]; simpa using hlt
      have hm : kids[i] ∈ kids := List.getElem_mem hlt
      obtain ⟨x, hx⟩ := ih _ hm (s4 _ hm)
      obtain ⟨b, j, hb⟩ := ih2 hlt
      have hd := Tr.deeps_le kids _ hm
      by_cases h5 : T.Kind = 5 ∧ (Tr.no kids[i]).Kind = 0
      · obtain ⟨g1, g2⟩ := h5
        have e1 : (T.Kind == 5) = true := by simpa using g1
        have e2 : ((Tr.no kids[i]).Kind == 0) = true := by simpa using g2
        refine ⟨false, i, fun k hk' => ?_⟩
        rw [spec_l10NoNull.l0, slices_IndexFunc_Simpl_Node_impl_Node_impl_noNull_1.l0]
        simp only [e1, if_true]
        rw [hk, if_pos c3, kid kids i hlt, if_pos c3]
        simp only [e2, if_true]
        rw [kid kids i hlt]
        simp only [impl_noNull_1, e1, e2, if_true, bind_some']
        rw [← hk]
        refine ⟨?_, ?_⟩ <;> first | rfl | trivial
      · cases x with
        | false =>
          refine ⟨false, i, fun k hk' => ?_⟩
          obtain ⟨x1, x2⟩ := hx k (by omega)
          rw [spec_l10NoNull.l0, slices_IndexFunc_Simpl_Node_impl_Node_impl_noNull_1.l0]
          by_cases g1 : T.Kind = 5
          · have e1 : (T.Kind == 5) = true := by simpa using g1
            have e2 : ((Tr.no kids[i]).Kind == 0) = false := by
              have : (Tr.no kids[i]).Kind ≠ 0 := fun h => h5 ⟨g1, h⟩
              simpa using this
            simp only [e1, if_true]
            rw [hk, if_pos c3, kid kids i hlt, if_pos c3, kid kids i hlt, kid kids i hlt]
            simp only [impl_noNull_1, e1, e2, x1, x2, if_true, if_false, Bool.false_eq_true, Bool.not_false, bind_some']
            rw [← hk]
            refine ⟨?_, ?_⟩ <;> first | rfl | trivial
          · have e1 : (T.Kind == 5) = false := by simpa using g1
            simp only [e1, if_false, Bool.false_eq_true]
            rw [hk, if_pos c3, kid kids i hlt, if_pos c3, kid kids i hlt]
            simp only [impl_noNull_1, e1, x1, x2, if_true, if_false, Bool.false_eq_true, Bool.not_false, bind_some']
            rw [← hk]
            refine ⟨?_, ?_⟩ <;> first | rfl | trivial
        | true =>
          refine ⟨b, j, fun k hk' => ?_⟩
          obtain ⟨x1, x2⟩ := hx k (by omega)
          obtain ⟨y1, y2⟩ := hb k hk'
          rw [hk] at y2
          rw [spec_l10NoNull.l0, slices_IndexFunc_Simpl_Node_impl_Node_impl_noNull_1.l0]
          by_cases g1 : T.Kind = 5
          · have e1 : (T.Kind == 5) = true := by simpa using g1
            have e2 : ((Tr.no kids[i]).Kind == 0) = false := by
              have : (Tr.no kids[i]).Kind ≠ 0 := fun h => h5 ⟨g1, h⟩
              simpa using this
            simp only [e1, if_true]
            rw [hk, if_pos c3, kid kids i hlt, if_pos c3, kid kids i hlt, kid kids i hlt]
            simp only [impl_noNull_1, e1, e2, x1, x2, if_true, if_false, Bool.false_eq_true, Bool.not_true, bind_some', w64_succ (show i < 9223372036854775807 by omega), y1, y2]
            exact ⟨trivial, trivial⟩
          · have e1 : (T.Kind == 5) = false := by simpa using g1
            simp only [e1, if_false, Bool.false_eq_true]
            rw [hk, if_pos c3, kid kids i hlt, if_pos c3, kid kids i hlt]
            simp only [impl_noNull_1, e1, x1, x2, if_true, if_false, Bool.false_eq_true, Bool.not_true, bind_some', w64_succ (show i < 9223372036854775807 by omega), y1, y2]
            exact ⟨trivial, trivial⟩
    · obtain rfl : i = kids.length := by omega
      refine ⟨true, 0, fun k hk' => ?_⟩
      rw [spec_l10NoNull.l0, slices_IndexFunc_Simpl_Node_impl_Node_impl_noNull_1.l0, hk, if_neg (kids_end kids), if_neg (kids_end kids)]
      exact ⟨rfl, rfl⟩
  obtain ⟨b, j, hb⟩ := key 0 (by omega)
  refine ⟨b, fun k hk' => ?_⟩
  obtain ⟨k1, e1, hk1⟩ := fuel1 rfl hk'
  subst e1
  obtain ⟨y1, y2⟩ := hb k1 hk1
  simp only [Int.natCast_zero] at y1 y2
  show spec_l10NoNull_F (spec_l10NoNull_n k1) T = _ ∧ impl_noNull_F (impl_noNull_n k1) T = _
  simp only [spec_l10NoNull_F, impl_noNull_F, slices_ContainsFunc_Simpl_Node_impl_Node_impl_noNull_1, slices_IndexFunc_Simpl_Node_impl_Node_impl_noNull_1, y1, y2, bind_some']
  cases b
  · have : decide ((j : Int) ≥ 0) = true := decide_eq_true (by omega)
    refine ⟨rfl, ?_⟩
    show some (!(decide ((j : Int) ≥ 0))) = _
    rw [this]; rfl
  · exact ⟨rfl, rfl⟩
theorem Pure.FnExactNoNull (a : Node) (ha : Node.ok a) : laws_FnExactNoNull a = some true := by
  obtain ⟨d, hd⟩ := ha
  obtain ⟨t, rfl⟩ := tr_of d a hd
  have hok := tr_ok t d hd
  obtain ⟨r, e, hle, hr⟩ := szNode_sp t hok 1048576 (by omega) (by omega)
  have e' : laws_szNode (Tr.no t) 1048576 = some r := Nt.lim_of _ e
  simp only [laws_FnExactNoNull, e', bind_some']
  rcases hr with hr | ⟨hs, hz⟩
  · rw [if_pos (by simpa using hr)]
  · by_cases h0 : decide (r < 0) = true
    · rw [if_pos h0]
    rw [if_neg h0]
    simp at h0
    have t1 : laws_toNode (Tr.no t) = some (Tr.no t) := Nt.lim_of _ (toNode_some t hs)
    have t2 : laws_eqNode (Tr.no t) (Tr.no t) = some true := Nt.lim_of _ (eqNode_self t hs)
    have t3 : spec_l3Deep (Tr.no t) = some (Tr.deep t : Int) := Nt.lim_of _ (deep_some t (by omega))
    have t4 : spec_l3Size (Tr.no t) = some (Tr.size t : Int) := Nt.lim_of _ (size_some t (by omega))
    obtain ⟨p, q, e5, q1, q2, q3, q4, q5, q6⟩ := isize_some t (by omega) 9 (by omega) (by omega)
    have t5 : impl_size (Tr.no t) 9 = some (p, q) := Nt.lim_of _ e5
    obtain ⟨b, hb⟩ := right_same t hs
    have t6 : spec_l3Right (Tr.no t) = some b := Nt.lim_of _ fun k hk => (hb k hk).1
    have t7 : impl_allShapes (Tr.no t) = some b := Nt.lim_of _ fun k hk => (hb k hk).2
    obtain ⟨c, hc⟩ := noNull_same t hs
    have t8 : spec_l10NoNull (Tr.no t) = some c := Nt.lim_of _ fun k hk => (hc k hk).1
    have t9 : impl_noNull (Tr.no t) = some c := Nt.lim_of _ fun k hk => (hc k hk).2
    have same : ∃ x, spec_NoNull (Tr.no t) = some x ∧ impl_NoNull (Tr.no t) = some x := by
      have tree : ∃ x, spec_TreeOk (Tr.no t) = some x ∧ impl_TreeOk (Tr.no t) = some x := by
        simp only [spec_TreeOk, impl_TreeOk, t3, t4, t5, t6, t7, bind_some']
        by_cases g : Tr.deep t ≤ 8 ∧ Tr.size t ≤ 200
        · obtain ⟨g1, g2⟩ := g
          obtain ⟨w1, w2⟩ := q1 (by omega)
          have c1 : decide ((Tr.deep t : Int) ≤ 8) = true := decide_eq_true (by omega)
          have c2 : decide ((Tr.size t : Int) ≤ 200) = true := decide_eq_true (by omega)
          have c3 : decide (p ≤ 200) = true := decide_eq_true (by omega)
          have c4 : decide (q ≤ 8) = true := decide_eq_true (by omega)
          simp only [c1, c2, c3, c4, if_true]
          exact ⟨b, rfl, rfl⟩
        · refine ⟨false, ?_, ?_⟩
          · by_cases g1 : Tr.deep t ≤ 8
            · have c1 : decide ((Tr.deep t : Int) ≤ 8) = true := decide_eq_true (by omega)
              have c2 : decide ((Tr.size t : Int) ≤ 200) = false := decide_eq_false (by omega)
              simp only [c1, c2, if_true, if_false, Bool.false_eq_true]
            · have c1 : decide ((Tr.deep t : Int) ≤ 8) = false := decide_eq_false (by omega)
              simp only [c1, if_false, Bool.false_eq_true]
          · by_cases g3 : p ≤ 200
            · have c3 : decide (p ≤ 200) = true := decide_eq_true g3
              have c4 : decide (q ≤ 8) = false := by
                refine decide_eq_false fun h => ?_
                by_cases g4 : (Tr.deep t : Int) ≤ 9
                · obtain ⟨w1, w2⟩ := q1 g4
                  exact g ⟨by omega, by omega⟩
                · have := q2 (by omega)
                  omega
              simp only [c3, c4, if_true, if_false, Bool.false_eq_true]
            · have c3 : decide (p ≤ 200) = false := decide_eq_false g3
              simp only [c3, if_false, Bool.false_eq_true]
      obtain ⟨x, x1, x2⟩ := tree
      simp only [spec_NoNull, impl_NoNull, x1, x2, t8, t9, bind_some']
      cases x <;> exact ⟨_, rfl, rfl⟩
    obtain ⟨x, x1, x2⟩ := same
    simp only [t1, t2, x1, x2, bind_some', bne_self_eq_false, Bool.not_true, Bool.false_eq_true, if_false]
end Go.Pu
