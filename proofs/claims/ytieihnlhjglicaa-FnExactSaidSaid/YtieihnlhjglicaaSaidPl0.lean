import Derived.Test.YtieihnlhjglicaaSaidPu
set_option linter.unusedVariables false
set_option linter.unusedSimpArgs false
set_option synthInstance.maxSize 1000000000
namespace Go.Pu
open Go.Nt
theorem w64_id {n : Int} (h0 : -9223372036854775808 ≤ n) (h1 : n ≤ 9223372036854775807) : IntKind.i64.wrap n = n := by
  simp only [IntKind.wrap, IntKind.bits, IntKind.signed, Bool.true_and]
  split
  · rename_i h; simp at h; omega
  · rename_i h; simp at h; omega
theorem w64_succ {i : Nat} (h : i < 9223372036854775807) : IntKind.i64.wrap ((i : Int) + 1) = ((i + 1 : Nat) : Int) := by
  rw [w64_id (by omega) (by omega)]; omega
theorem ix_nat {α : Type} (l : List α) (i : Nat) : ix l (i : Int) = l[i]? := by simp [ix]
theorem put_nat {α : Type} {l : List α} {i : Nat} {x : α} (h : i < l.length) : Nt.put l (i : Int) x = some (l.set i x) := by simp [Nt.put, h]
theorem app_ok {α : Type} {b : Nat} {l m : List α} (h : (l.length + m.length) * b ≤ 70368744177664) : app b l m = some (l ++ m) := by
  simp only [app]; rw [if_pos h]
theorem mk_ok {α : Type} {b n : Nat} {x : α} (h : b * n ≤ 140737488355328) : Nt.mk b (n : Int) x = some (List.replicate n x) := by
  simp only [Nt.mk]; rw [if_pos ⟨by omega, by exact_mod_cast h⟩]; simp
/-- down from the end -/
theorem down {P : Nat → Prop} (n : Nat) (h : ∀ i, i ≤ n → (i < n → P (i + 1)) → P i) : ∀ i, i ≤ n → P i := by
  intro i hi
  obtain ⟨k, hk⟩ : ∃ k, k = n - i := ⟨_, rfl⟩
  induction k generalizing i with
  | zero => exact h i hi fun hlt => by omega
  | succ k ih => exact h i hi fun hlt => ih (i + 1) hlt (by omega)
theorem bind_some' {α β : Type} (x : α) (f : α → Option β) : (some x >>= f) = f x := rfl
theorem set_step {α : Type} {a v : List α} {i : Nat} (h : i < a.length) (hv : i < v.length) : some ((v.set i a[i]).take (i + 1) ++ a.drop (i + 1)) = some (v.take i ++ a.drop i) := by
  rw [List.take_set, List.take_add_one, List.getElem?_eq_getElem hv, List.set_append_right _ _ (by simp; omega), List.drop_eq_getElem_cons h]
  have : i - min i v.length = 0 := by omega
  simp [this]
def smL {α : Type} (p : α → Prop) (l : List α) : Prop := l.length ≤ 1048576 ∧ ∀ x ∈ l, p x
def smS (s : Str) : Prop := s.length ≤ 1048576
theorem in_some (a b c : Int) : spec_l1In a b c = some (decide (a ≥ b) && decide (a ≤ c)) := by
  simp only [spec_l1In]; by_cases h : a ≥ b <;> simp [h]
theorem from_some (a b c : Int) : impl_from a b c = some (decide (a ≥ b) && decide (a ≤ c)) := by
  simp only [impl_from]; by_cases h : a ≥ b <;> simp [h]
theorem byte_u8 (c : UInt8) : (byte c).toNat.toUInt8 = c := by
  simp [byte]
theorem byte_range (c : UInt8) : 0 ≤ byte c ∧ byte c ≤ 255 := by
  unfold byte; have := c.toNat_lt; omega
theorem byte_eq (c d : UInt8) : (byte c = byte d) ↔ c = d := by
  unfold byte
  constructor
  · intro h; exact UInt8.toNat_inj.1 (by omega)
  · intro h; rw [h]
theorem indexByte_four (c : UInt8) : Nt.indexByte [95, 46, 47, 45] c < 0 ↔ ¬ (byte c = 95) ∧ ¬ (byte c = 46) ∧ ¬ (byte c = 47) ∧ ¬ (byte c = 45) := by
  have h1 : (byte c = 95) ↔ c = 95 := byte_eq c 95
  have h2 : (byte c = 46) ↔ c = 46 := byte_eq c 46
  have h3 : (byte c = 47) ↔ c = 47 := byte_eq c 47
  have h4 : (byte c = 45) ↔ c = 45 := byte_eq c 45
  rw [h1, h2, h3, h4]
  simp only [Nt.indexByte]
  by_cases g1 : c = 95
  · subst g1; decide
  by_cases g2 : c = 46
  · subst g2; decide
  by_cases g3 : c = 47
  · subst g3; decide
  by_cases g4 : c = 45
  · subst g4; decide
  have f1 : ((95 : UInt8) == c) = false := by simp; exact fun h => g1 h.symm
  have f2 : ((46 : UInt8) == c) = false := by simp; exact fun h => g2 h.symm
  have f3 : ((47 : UInt8) == c) = false := by simp; exact fun h => g3 h.symm
  have f4 : ((45 : UInt8) == c) = false := by simp; exact fun h => g4 h.symm
  simp [f1, f2, f3, f4, g1, g2, g3, g4]
theorem plainOk_same (a : Str) (h : smS a) : ∃ b, spec_PlainOk a = some b ∧ impl_PlainOk a = some b := by
  unfold smS at h
  have key : ∀ i, i ≤ a.length → ∃ b, spec_PlainOk.l0 a i = some b ∧ impl_PlainOk.l0 a i = some b := by
    refine down _ fun i hi ih => ?_
    rw [spec_PlainOk.l0, impl_PlainOk.l0]
    by_cases hlt : i < a.length
    · have c : decide ((i : Int) < (a.length : Int)) = true := by simpa using hlt
      obtain ⟨b, e1, e2⟩ := ih hlt
      have hL : ∀ n, impl_isLetter n = spec_l5Letter n := fun n => by simp only [impl_isLetter, spec_l5Letter]
      have hT : ∀ n, ∃ t, spec_l5Letter n = some t := fun n => by
        simp only [spec_l5Letter]; repeat' split
        all_goals exact ⟨_, rfl⟩
      obtain ⟨t, ht⟩ := hT (byte a[i])
      simp only [c, if_true, ix_nat, List.getElem?_eq_getElem hlt, bind_some', impl_isDigit, hL, ht, w64_succ (show i < 9223372036854775807 by omega), e1, e2, strings_IndexByte, internal_stringslite_IndexByte, internal_bytealg_IndexByteString, byte_u8]
      have hx := indexByte_four a[i]
      have hq : decide (Nt.indexByte [95, 46, 47, 45] a[i] < 0) = decide (¬ (byte a[i] = 95) ∧ ¬ (byte a[i] = 46) ∧ ¬ (byte a[i] = 47) ∧ ¬ (byte a[i] = 45)) := by simp only [hx]
      rw [hq]
      generalize byte a[i] = x
      cases t
      · by_cases h3 : i = 0
        · subst h3; simp [bind_some']
        · have h3'' : ((i : Int) == 0) = false := by simp; omega
          by_cases h4 : x ≥ 48 <;> by_cases h5 : x ≤ 57 <;> by_cases h6 : x = 95 <;> by_cases h7 : x = 46 <;> by_cases h8 : x = 47 <;> by_cases h9 : x = 45 <;>
          first
          | omega
          | simp [h3'', h4, h5, h6, h7, h8, h9, bind_some']
      · simp
    · rw [if_neg (by simpa using hlt), if_neg (by simpa using hlt)]
      exact ⟨_, rfl, rfl⟩
  obtain ⟨b, e1, e2⟩ := key 0 (by omega)
  simp only [Int.natCast_zero] at e1 e2
  simp only [spec_PlainOk, impl_PlainOk, e1, e2, bind_some', in_some, from_some]
  cases b with
  | inl r => exact ⟨_, rfl, rfl⟩
  | inr u =>
    repeat' split
    all_goals exact ⟨_, rfl, rfl⟩
theorem textOk_same (a : Str) (h : smS a) : ∃ b, spec_TextOk a = some b ∧ impl_TextOk a = some b := by
  unfold smS at h
  have key : ∀ i, i ≤ a.length → ∃ b, spec_TextOk.l0 a i = some b ∧ impl_TextOk.l0 a i = some b := by
    refine down _ fun i hi ih => ?_
    rw [spec_TextOk.l0, impl_TextOk.l0]
    by_cases hlt : i < a.length
    · have c : decide ((i : Int) < (a.length : Int)) = true := by simpa using hlt
      obtain ⟨b, e1, e2⟩ := ih hlt
      have hb := byte_range a[i]
      simp only [c, if_true, ix_nat, List.getElem?_eq_getElem hlt, bind_some', from_some, w64_succ (show i < 9223372036854775807 by omega), e1, e2]
      rw [w64_id (by omega) (by omega)]
      generalize byte a[i] = x at hb
      by_cases h4 : x < 32 <;> by_cases h5 : x > 126 <;> first
        | omega
        | (have g4 : ¬ (32 ≤ x) ∨ 32 ≤ x := by omega
           rcases g4 with g4 | g4 <;> first
             | omega
             | (have g5 : ¬ (x ≤ 126) ∨ x ≤ 126 := by omega
                rcases g5 with g5 | g5 <;> first
                  | omega
                  | simp [h4, h5, g4, g5]))
    · rw [if_neg (by simpa using hlt), if_neg (by simpa using hlt)]
      exact ⟨_, rfl, rfl⟩
  obtain ⟨b, e1, e2⟩ := key 0 (by omega)
  simp only [Int.natCast_zero] at e1 e2
  simp only [spec_TextOk, impl_TextOk, e1, e2, bind_some']
  cases b with
  | inl r => exact ⟨_, rfl, rfl⟩
  | inr u => exact ⟨_, rfl, rfl⟩
inductive Tr where
  | mk (k n : Int) (s : Str) (ks : List Str) (kids : List Tr)
theorem Tr.ind {P : Tr → Prop} (h : ∀ k n s ks kids, (∀ t ∈ kids, P t) → P (.mk k n s ks kids)) : ∀ t, P t
  | .mk k n s ks kids => h k n s ks kids fun t ht => Tr.ind h t
  termination_by t => SizeOf.sizeOf t
  decreasing_by have := List.sizeOf_lt_of_mem ht; simp only [Tr.mk.sizeOf_spec]; omega
mutual
def Tr.no : Tr → Node
  | .mk k n s ks kids => Node.mk k n s ks (Tr.nos kids)
def Tr.nos : List Tr → List RNode
  | [] => []
  | t :: l => rN_Node (Tr.no t) :: Tr.nos l
end
mutual
def Tr.deep : Tr → Nat
  | .mk _ _ _ _ kids => Tr.deeps kids + 1
def Tr.deeps : List Tr → Nat
  | [] => 0
  | t :: l => max (Tr.deep t) (Tr.deeps l)
end
mutual
def Tr.size : Tr → Nat
  | .mk _ _ _ _ kids => Tr.sizes kids + 1
def Tr.sizes : List Tr → Nat
  | [] => 0
  | t :: l => Tr.size t + Tr.sizes l
end
theorem Tr.nos_map : ∀ l : List Tr, Tr.nos l = l.map fun t => rN_Node (Tr.no t)
  | [] => rfl
  | t :: l => by rw [Tr.nos, Tr.nos_map l]; rfl
theorem Tr.nos_len (l : List Tr) : (Tr.nos l).length = l.length := by rw [Tr.nos_map]; simp
theorem Tr.nos_get (l : List Tr) (i : Nat) (h : i < l.length) : (Tr.nos l)[i]? = some (rN_Node (Tr.no l[i])) := by rw [Tr.nos_map]; simp [h]
theorem Tr.deeps_le : ∀ (l : List Tr) (t : Tr), t ∈ l → Tr.deep t ≤ Tr.deeps l
  | a :: l, t, h => by
    rw [Tr.deeps]
    rcases List.mem_cons.1 h with rfl | h
    · omega
    · have := Tr.deeps_le l t h; omega
theorem Tr.deep_pos : ∀ t : Tr, 1 ≤ Tr.deep t
  | .mk _ _ _ _ _ => by rw [Tr.deep]; omega
theorem Tr.deep_size : ∀ t : Tr, Tr.deep t ≤ Tr.size t := Tr.ind fun k n s ks kids ih => by
  rw [Tr.deep, Tr.size]
  have : ∀ l : List Tr, (∀ t ∈ l, Tr.deep t ≤ Tr.size t) → Tr.deeps l ≤ Tr.sizes l := by
    intro l
    induction l with
    | nil => intro _; rw [Tr.deeps]; omega
    | cons a l ih =>
      intro h
      have h1 := h a (by simp)
      have h2 := ih fun t ht => h t (by simp [ht])
      rw [Tr.deeps, Tr.sizes]; omega
  have := this kids ih
  omega
/-- a kid, read -/
theorem kid {β : Type} (l : List Tr) (i : Nat) (h : i < l.length) (f : Node → Option β) : (ix (Tr.nos l) (i : Int) >>= fun x => dN_Node x >>= f) = f (Tr.no l[i]) := by
  rw [ix_nat, Tr.nos_get l i h]
  show (dN_Node (rN_Node (Tr.no l[i])) >>= f) = _
  rw [dN_Node_rN]; rfl
/-- right as to what Go's types hold -/
theorem tr_of : ∀ (d : Nat) (a : Node), Node.okd d a → ∃ t, a = Tr.no t
  | 0, _, h => h.elim
  | d + 1, a, ⟨_, _, _, _, _, h⟩ => by
    have key : ∀ l : List RNode, (∀ r ∈ l, ∃ y, r = rN_Node y ∧ Node.okd d y) → ∃ ts, l = Tr.nos ts := by
      intro l
      induction l with
      | nil => intro _; exact ⟨[], rfl⟩
      | cons r l ih =>
        intro h
        obtain ⟨ts, e⟩ := ih fun r hr => h r (by simp [hr])
        obtain ⟨y, e1, hy⟩ := h r (by simp)
        obtain ⟨t, e2⟩ := tr_of d y hy
        exact ⟨t :: ts, by rw [Tr.nos, ← e, ← e2, e1]⟩
    obtain ⟨ts, e⟩ := key a.Kids h
    exact ⟨.mk a.Kind a.N a.S a.Keys ts, by rw [Tr.no, ← e]⟩
inductive Tr.Ok : Tr → Prop
  | mk {k n s ks kids} : okI k → okI n → okS s → okL okS ks → kids.length ≤ 9223372036854775807 → (∀ t ∈ kids, Tr.Ok t) → Tr.Ok (.mk k n s ks kids)
theorem tr_ok : ∀ t : Tr, ∀ d, Node.okd d (Tr.no t) → Tr.Ok t := Tr.ind fun k n s ks kids ih d h => by
  cases d with
  | zero => exact h.elim
  | succ d =>
    rw [Tr.no] at h
    obtain ⟨h1, h2, h3, h4, h5, h6⟩ := h
    refine .mk h1 h2 h3 h4 (by simpa [Tr.nos_len] using h5) fun t ht => ?_
    obtain ⟨y, e, hy⟩ := h6 (rN_Node (Tr.no t)) (by show _ ∈ Tr.nos kids; rw [Tr.nos_map]; exact List.mem_map.2 ⟨t, ht, rfl⟩)
    exact ih t ht d (rN_Node_inj e ▸ hy)
/-- small -/
inductive Tr.Sm : Tr → Prop
  | mk {k n s ks kids} : smS s → smL smS ks → kids.length ≤ 1048576 → (∀ t ∈ kids, Tr.Sm t) → Tr.Sm (.mk k n s ks kids)
theorem szStringS_sp (a : List Str) (left : Int) (ha : okL okS a) (h0 : 0 ≤ left) (h1 : left ≤ 1048576) : ∃ r, laws_szStringS a left = some r ∧ r ≤ left ∧ (r < 0 ∨ smL smS a) := by
  have hl := ha.1
  simp only [laws_szStringS]
  rw [w64_id (n := left - _) (by omega) (by omega)]
  by_cases c : decide (left - (a.length : Int) < 0) = true
  · rw [if_pos c]; exact ⟨_, rfl, by omega, .inl (by omega)⟩
  · rw [if_neg c]; simp at c
    have key : ∀ i, i ≤ a.length → ∀ v : Int, 0 ≤ v → v ≤ left - (a.length : Int) → ∃ r, laws_szStringS.l0 a v i = some r ∧ (match r with | .inl r => r = -1 | .inr r => 0 ≤ r ∧ r ≤ v ∧ ∀ x ∈ a.drop i, smS x) := by
      refine down _ fun i hi ih v hv0 hv1 => ?_
      rw [laws_szStringS.l0]
      by_cases hlt : i < a.length
      · have c1 : decide ((i : Int) < (a.length : Int)) = true := by simpa using hlt
        have hx : okS a[i] := ha.2 _ (List.getElem_mem hlt)
        unfold okS at hx
        simp only [c1, if_true, ix_nat, List.getElem?_eq_getElem hlt, bind_some', w64_succ (show i < 9223372036854775807 by omega)]
        rw [w64_id (n := v - _) (by omega) (by omega)]
        by_cases c2 : decide (v - (a[i].length : Int) < 0) = true
        · rw [if_pos c2]; exact ⟨_, rfl, rfl⟩
        · rw [if_neg c2]; simp at c2
          obtain ⟨r, e, hr⟩ := ih hlt (v - (a[i].length : Int)) (by omega) (by omega)
          refine ⟨r, e, ?_⟩
          cases r with
          | inl r => exact hr
          | inr r =>
            refine ⟨hr.1, by have := hr.2.1; omega, fun x hx => ?_⟩
            rw [List.drop_eq_getElem_cons hlt] at hx
            rcases List.mem_cons.1 hx with rfl | hx
            · unfold smS; omega
            · exact hr.2.2 x hx
      · rw [if_neg (by simpa using hlt)]
        obtain rfl : i = a.length := by omega
        exact ⟨_, rfl, hv0, by omega, by simp⟩
    obtain ⟨r, e, hr⟩ := key 0 (by omega) _ (by omega) (Int.le_refl _)
    simp only [Int.natCast_zero] at e
    simp only [e, bind_some']
    cases r with
    | inl r => exact ⟨_, rfl, by have : r = -1 := hr; omega, .inl (by have : r = -1 := hr; omega)⟩
    | inr r => exact ⟨_, rfl, by have := hr.2.1; omega, .inr ⟨by omega, by simpa using hr.2.2⟩⟩
theorem szNode_sp : ∀ t : Tr, Tr.Ok t → ∀ left : Int, 0 ≤ left → left ≤ 1048576 → ∃ r, (∀ k, Tr.deep t ≤ k → laws_szNode_n k (Tr.no t) left = some r) ∧ r ≤ left ∧ (r < 0 ∨ (Tr.Sm t ∧ (Tr.size t : Int) ≤ left - r + 1)) := by
  refine Tr.ind fun kd n s ks kids ih hok left h0 h1 => ?_
  cases hok with
  | mk o1 o2 o3 o4 o5 o6 =>
  unfold okS at o3
  -- all but the fuel
  have main : ∃ r, (∀ k, Tr.deeps kids ≤ k → laws_szNode_F (laws_szNode_n k) (Tr.no (.mk kd n s ks kids)) left = some r) ∧ r ≤ left ∧ (r < 0 ∨ (Tr.Sm (.mk kd n s ks kids) ∧ (Tr.size (.mk kd n s ks kids) : Int) ≤ left - r + 1)) := by
    have e0 : IntKind.i64.wrap (left - (s.length : Int)) = left - (s.length : Int) := w64_id (by omega) (by omega)
    simp only [laws_szNode_F, Tr.no, e0]
    by_cases c : decide (left - (s.length : Int) < 0) = true
    · simp only [c, if_true]; exact ⟨_, fun _ _ => rfl, by omega, .inl (by omega)⟩
    · simp only [c]; simp at c
      obtain ⟨r1, e1, l1, s1⟩ := szStringS_sp ks (left - (s.length : Int)) o4 (by omega) (by omega)
      simp only [e1, bind_some', if_false, Bool.false_eq_true]
      by_cases c1 : decide (r1 < 0) = true
      · simp only [c1, if_true]; exact ⟨_, fun _ _ => rfl, by omega, .inl (by omega)⟩
      · simp only [c1]; simp at c1
        have s1 := s1.resolve_left (by omega)
        have e2 : IntKind.i64.wrap (r1 - (kids.length : Int)) = r1 - (kids.length : Int) := w64_id (by omega) (by omega)
        simp only [laws_szNodeS, Tr.nos_len, if_false, Bool.false_eq_true, e2]
        by_cases c2 : decide (r1 - (kids.length : Int) < 0) = true
        · simp only [c2, if_true, bind_some']
          exact ⟨-1, fun _ _ => rfl, by omega, .inl (by omega)⟩
        · simp only [c2]; simp at c2
          have key : ∀ i, i ≤ kids.length → ∀ v : Int, 0 ≤ v → v ≤ r1 - (kids.length : Int) → ∃ r, (∀ k, Tr.deeps kids ≤ k → laws_szNodeS.l0 (laws_szNode_n k) (Tr.nos kids) v i = some r) ∧ (match r with | .inl r => r = -1 | .inr r => 0 ≤ r ∧ r ≤ v ∧ (∀ x ∈ kids.drop i, Tr.Sm x) ∧ (Tr.sizes (kids.drop i) : Int) ≤ v - r + ((kids.length - i : Nat) : Int)) := by
            refine down _ fun i hi ih2 v hv0 hv1 => ?_
            by_cases hlt : i < kids.length
            · have c3 : decide ((i : Int) < ((Tr.nos kids).length : Int)) = true := by rw [Tr.nos_len]; simpa using hlt
              have hm : kids[i] ∈ kids := List.getElem_mem hlt
              obtain ⟨r, e, lr, sr⟩ := ih kids[i] hm (o6 _ hm) v hv0 (by omega)
              have step : ∀ k, Tr.deeps kids ≤ k → laws_szNodeS.l0 (laws_szNode_n k) (Tr.nos kids) v i = if decide (r < 0) = true then some (.inl (-1)) else laws_szNodeS.l0 (laws_szNode_n k) (Tr.nos kids) r ((i + 1 : Nat) : Int) := by
                intro k hk
                rw [laws_szNodeS.l0]
                rw [if_pos c3, kid kids i hlt, e k (by have := Tr.deeps_le kids _ hm; omega), bind_some', w64_succ (show i < 9223372036854775807 by omega)]
              by_cases c4 : decide (r < 0) = true
              · exact ⟨.inl (-1), fun k hk => by rw [step k hk, if_pos c4], rfl⟩
              · simp at c4
                obtain ⟨z, ez, hz⟩ := ih2 hlt r (by omega) (by omega)
                refine ⟨z, fun k hk => by rw [step k hk, if_neg (by simpa using c4)]; exact ez k hk, ?_⟩
                have sr := sr.resolve_left (by omega)
                cases z with
                | inl z => exact hz
                | inr z =>
                  obtain ⟨z1, z2, z3, z4⟩ := hz
                  refine ⟨z1, by omega, fun x hx => ?_, ?_⟩
                  · rw [List.drop_eq_getElem_cons hlt] at hx
                    rcases List.mem_cons.1 hx with rfl | hx
                    · exact sr.1
                    · exact z3 x hx
                  · rw [List.drop_eq_getElem_cons hlt, Tr.sizes]
                    have := sr.2
                    omega
            · obtain rfl : i = kids.length := by omega
              refine ⟨.inr v, fun k hk => ?_, hv0, Int.le_refl _, by simp, by simp [Tr.sizes]⟩
              rw [laws_szNodeS.l0, if_neg (by simp [Tr.nos_len])]
          obtain ⟨r, e, hr⟩ := key 0 (by omega) _ (by omega) (Int.le_refl _)
          simp only [Int.natCast_zero] at e
          cases r with
          | inl r =>
            have : r = -1 := hr
            subst this
            refine ⟨-1, fun k hk => ?_, by omega, .inl (by omega)⟩
            rw [if_neg (by decide), e k hk]
            rfl
          | inr r =>
            obtain ⟨z1, z2, z3, z4⟩ := hr
            refine ⟨r, fun k hk => ?_, by omega, .inr ⟨.mk (by unfold smS; omega) s1 (by omega) (by simpa using z3), ?_⟩⟩
            · rw [if_neg (by decide), e k hk]
              show (if decide (r < 0) = true then some (-1) else some r) = some r
              rw [if_neg (by simpa using z1)]
            · rw [Tr.size]
              simp only [List.drop_zero, Nat.sub_zero] at z4
              omega
  obtain ⟨r, e, h2, h3⟩ := main
  refine ⟨r, fun k hk => ?_, h2, h3⟩
  rw [Tr.deep] at hk
  obtain ⟨k', rfl⟩ : ∃ k', k = k' + 1 := ⟨k - 1, by omega⟩
  exact e k' (by omega)
theorem Tr.size_le : ∀ (l : List Tr) (t : Tr), t ∈ l → Tr.size t ≤ Tr.sizes l
  | a :: l, t, h => by
    rw [Tr.sizes]
    rcases List.mem_cons.1 h with rfl | h
    · omega
    · have := Tr.size_le l t h; omega
theorem toStringS_some (a : List Str) (h : smL smS a) : laws_toStringS a = some a := by
  have hl : a.length ≤ 1048576 := h.1
  have key : ∀ i, i ≤ a.length → ∀ v : List Str, v.length = a.length → laws_toStringS.l0 a i v = some (v.take i ++ a.drop i) := by
    refine down _ fun i hi ih v hv => ?_
    rw [laws_toStringS.l0]
    by_cases hlt : i < a.length
    · have c : decide ((i : Int) < (a.length : Int)) = true := by simpa using hlt
      have hv' : i < v.length := by omega
      simp only [c, if_true, ix_nat, List.getElem?_eq_getElem hlt, List.getElem?_eq_getElem hv', bind_some', put_nat hv', w64_succ (show i < 9223372036854775807 by omega)]
      rw [ih hlt _ (by simpa using hv), set_step hlt hv']
    · rw [if_neg (by simpa using hlt)]
      obtain rfl : i = a.length := by omega
      simp [List.take_of_length_le, hv]
  simp only [laws_toStringS]
  rw [mk_ok (by omega)]
  simp only [bind_some']
  have := fun z => key 0 (by omega) (List.replicate a.length z) (by simp)
  simp only [Int.natCast_zero] at this
  simp only [this, bind_some']; simp
theorem eqStringS_self (a : List Str) (h : smL smS a) : laws_eqStringS a a = some true := by
  have hl : a.length ≤ 1048576 := h.1
  have key : ∀ i, i ≤ a.length → laws_eqStringS.l0 a a i = some (.inr ()) := by
    refine down _ fun i hi ih => ?_
    rw [laws_eqStringS.l0]
    by_cases hlt : i < a.length
    · have c : decide ((i : Int) < (a.length : Int)) = true := by simpa using hlt
      simp only [c, if_true, ix_nat, List.getElem?_eq_getElem hlt, bind_some', bne_self_eq_false, beq_self_eq_true, Bool.false_eq_true, if_false, Bool.not_true, w64_succ (show i < 9223372036854775807 by omega)]
      exact ih hlt
    · rw [if_neg (by simpa using hlt)]
  simp only [laws_eqStringS, bne_self_eq_false, Bool.false_eq_true, if_false]
  have := key 0 (by omega)
  simp only [Int.natCast_zero] at this
  rw [this]; rfl
theorem fuel1 {t : Tr} {k n : Int} {s : Str} {ks : List Str} {kids : List Tr} (e : t = .mk k n s ks kids) {m : Nat} (h : Tr.deep t ≤ m) : ∃ m', m = m' + 1 ∧ Tr.deeps kids ≤ m' := by
  subst e
  rw [Tr.deep] at h
  exact ⟨m - 1, by omega, by omega⟩
theorem toNode_some : ∀ t : Tr, Tr.Sm t → ∀ k, Tr.deep t ≤ k → laws_toNode_n k (Tr.no t) = some (Tr.no t) := by
  refine Tr.ind fun kd n s ks kids ih hsm k hk => ?_
  obtain ⟨k, rfl, hk⟩ := fuel1 rfl hk
  cases hsm with
  | mk s1 s2 s3 s4 =>
  have key : ∀ i, i ≤ kids.length → ∀ v : List RNode, v.length = kids.length → (∀ x ∈ v, ∃ y, x = rN_Node y) → laws_toNodeS.l0 (laws_toNode_n k) (Tr.nos kids) i v = some (v.take i ++ (Tr.nos kids).drop i) := by
    refine down _ fun i hi ih2 v hv hy => ?_
    by_cases hlt : i < kids.length
    · have c3 : decide ((i : Int) < ((Tr.nos kids).length : Int)) = true := by rw [Tr.nos_len]; simpa using hlt
      have hm : kids[i] ∈ kids := List.getElem_mem hlt
      have hv' : i < v.length := by omega
      have hn' : i < (Tr.nos kids).length := by rw [Tr.nos_len]; exact hlt
      have hne : (Tr.nos kids)[i] = rN_Node (Tr.no kids[i]) := by
        have := Tr.nos_get kids i hlt
        rw [List.getElem?_eq_getElem hn'] at this
        exact Option.some.inj this
      obtain ⟨y, hy1⟩ := hy v[i] (List.getElem_mem hv')
      rw [laws_toNodeS.l0, if_pos c3, kid kids i hlt, ih _ hm (s4 _ hm) k (by have := Tr.deeps_le kids _ hm; omega), bind_some']
      rw [ix_nat, List.getElem?_eq_getElem hv', bind_some', hy1, dN_Node_rN, bind_some', put_nat hv', bind_some', w64_succ (show i < 9223372036854775807 by omega)]
      rw [ih2 hlt _ (by simpa using hv) (fun x hx => ?_), ← hne, set_step hn' hv']
      rcases List.mem_or_eq_of_mem_set hx with hx | rfl
      · exact hy x hx
      · exact ⟨_, rfl⟩
    · obtain rfl : i = kids.length := by omega
      rw [laws_toNodeS.l0, if_neg (by simp [Tr.nos_len])]
      simp [List.take_of_length_le, hv, List.drop_of_length_le, Tr.nos_len]
  show laws_toNode_F (laws_toNode_n k) _ = _
  simp only [laws_toNode_F, Tr.no, toStringS_some ks s2, bind_some', laws_toNodeS, Tr.nos_len]
  rw [mk_ok (by omega)]
  have := key 0 (by omega) (List.replicate kids.length (rN_Node (Node.mk 0 0 [] [] []))) (by simp) (fun x hx => ⟨_, (List.mem_replicate.1 hx).2⟩)
  simp only [Int.natCast_zero] at this
  simp only [this, bind_some']; simp
theorem eqNode_self : ∀ t : Tr, Tr.Sm t → ∀ k, Tr.deep t ≤ k → laws_eqNode_n k (Tr.no t) (Tr.no t) = some true := by
  refine Tr.ind fun kd n s ks kids ih hsm k hk => ?_
  obtain ⟨k, rfl, hk⟩ := fuel1 rfl hk
  cases hsm with
  | mk s1 s2 s3 s4 =>
  have key : ∀ i, i ≤ kids.length → laws_eqNodeS.l0 (laws_eqNode_n k) (Tr.nos kids) (Tr.nos kids) i = some (.inr ()) := by
    refine down _ fun i hi ih2 => ?_
    by_cases hlt : i < kids.length
    · have c3 : decide ((i : Int) < ((Tr.nos kids).length : Int)) = true := by rw [Tr.nos_len]; simpa using hlt
      have hm : kids[i] ∈ kids := List.getElem_mem hlt
      rw [laws_eqNodeS.l0, if_pos c3, kid kids i hlt, kid kids i hlt, ih _ hm (s4 _ hm) k (by have := Tr.deeps_le kids _ hm; omega), bind_some', if_neg (by decide), w64_succ (show i < 9223372036854775807 by omega)]
      exact ih2 hlt
    · obtain rfl : i = kids.length := by omega
      rw [laws_eqNodeS.l0, if_neg (by simp [Tr.nos_len])]
  have := key 0 (by omega)
  simp only [Int.natCast_zero] at this
  show laws_eqNode_F (laws_eqNode_n k) _ _ = _
  simp only [laws_eqNode_F, Tr.no, eqStringS_self ks s2, bind_some', laws_eqNodeS, bne_self_eq_false, beq_self_eq_true, Bool.not_true, Bool.false_eq_true, if_false, this]
theorem no_kids {k n : Int} {s : Str} {ks : List Str} {kids : List Tr} : (Tr.no (.mk k n s ks kids)).Kids = Tr.nos kids := by rw [Tr.no]
theorem deep_some : ∀ t : Tr, Tr.size t ≤ 2000000 → ∀ k, Tr.deep t ≤ k → spec_l3Deep_n k (Tr.no t) = some (Tr.deep t : Int) := by
  refine Tr.ind fun kd n s ks kids ih hsz k hk => ?_
  obtain ⟨k, rfl, hk⟩ := fuel1 rfl hk
  have hds := Tr.deep_size (.mk kd n s ks kids)
  rw [Tr.size] at hsz hds
  rw [Tr.deep] at hds
  have key : ∀ i, i ≤ kids.length → ∀ v : Nat, spec_l3Deep.l0 (spec_l3Deep_n k) (Tr.no (.mk kd n s ks kids)) v i = some ((max v (Tr.deeps (kids.drop i)) : Nat) : Int) := by
    refine down _ fun i hi ih2 v => ?_
    rw [spec_l3Deep.l0]
    rw [no_kids]
    by_cases hlt : i < kids.length
    · have c3 : decide ((i : Int) < ((Tr.nos kids).length : Int)) = true := by rw [Tr.nos_len]; simpa using hlt
      have hm : kids[i] ∈ kids := List.getElem_mem hlt
      have hs1 := Tr.size_le kids _ hm
      have hl : kids.length ≤ 2000000 := by
        have : ∀ l : List Tr, l.length ≤ Tr.sizes l := by
          intro l
          induction l with
          | nil => simp
          | cons a l ih => rw [Tr.sizes]; have : 1 ≤ Tr.size a := by cases a; rw [Tr.size]; omega
                           simp only [List.length_cons]; omega
        have := this kids; omega
      rw [if_pos c3, kid kids i hlt, ih _ hm (by omega) k (by have := Tr.deeps_le kids _ hm; omega), bind_some']
      have e : spec_l1Max (v : Int) (Tr.deep kids[i] : Int) = some ((max v (Tr.deep kids[i]) : Nat) : Int) := by
        simp only [spec_l1Max]
        by_cases h : (v : Int) > (Tr.deep kids[i] : Int)
        · rw [if_pos (by simpa using h)]; congr 1; omega
        · rw [if_neg (by simpa using h)]; congr 1; omega
      rw [e, bind_some', w64_succ (show i < 9223372036854775807 by omega)]
      have := ih2 hlt (max v (Tr.deep kids[i]))
      rw [this, List.drop_eq_getElem_cons hlt, Tr.deeps]
      congr 2; omega
    · obtain rfl : i = kids.length := by omega
      rw [if_neg (by simp [Tr.nos_len])]
      simp [Tr.deeps]
  have := key 0 (by omega) 0
  simp only [Int.natCast_zero, List.drop_zero] at this
  show spec_l3Deep_F (spec_l3Deep_n k) _ = _
  simp only [spec_l3Deep_F, this, bind_some', Tr.deep]
  rw [w64_id (by omega) (by omega)]
  congr 1 <;> omega
theorem len_sizes : ∀ l : List Tr, l.length ≤ Tr.sizes l
  | [] => by simp
  | a :: l => by
    have := len_sizes l
    rw [Tr.sizes]
    have h1 : 1 ≤ Tr.size a := by cases a; rw [Tr.size]; omega
    simp only [List.length_cons]; omega
theorem size_some : ∀ t : Tr, Tr.size t ≤ 2000000 → ∀ k, Tr.deep t ≤ k → spec_l3Size_n k (Tr.no t) = some (Tr.size t : Int) := by
  refine Tr.ind fun kd n s ks kids ih hsz k hk => ?_
  obtain ⟨k, rfl, hk⟩ := fuel1 rfl hk
  rw [Tr.size] at hsz
  have hl : kids.length ≤ 2000000 := by have := len_sizes kids; omega
  have drops : ∀ i, Tr.sizes (kids.drop i) ≤ Tr.sizes kids := by
    have : ∀ (l : List Tr) (i : Nat), Tr.sizes (l.drop i) ≤ Tr.sizes l := by
      intro l
      induction l with
      | nil => intro i; simp
      | cons a l ih =>
        intro i
        cases i with
        | zero => simp
        | succ i => simp only [List.drop_succ_cons, Tr.sizes]; have := ih i; omega
    exact this kids
  have key : ∀ i, i ≤ kids.length → ∀ v : Nat, v + Tr.sizes (kids.drop i) ≤ 2000001 → spec_l3Size.l0 (spec_l3Size_n k) (Tr.no (.mk kd n s ks kids)) v i = some ((v + Tr.sizes (kids.drop i) : Nat) : Int) := by
    refine down _ fun i hi ih2 v hv => ?_
    rw [spec_l3Size.l0]
    rw [no_kids]
    by_cases hlt : i < kids.length
    · have c3 : decide ((i : Int) < ((Tr.nos kids).length : Int)) = true := by rw [Tr.nos_len]; simpa using hlt
      have hm : kids[i] ∈ kids := List.getElem_mem hlt
      have hs1 := Tr.size_le kids _ hm
      rw [List.drop_eq_getElem_cons hlt, Tr.sizes] at hv
      rw [if_pos c3, kid kids i hlt, ih _ hm (by omega) k (by have := Tr.deeps_le kids _ hm; omega), bind_some']
      have e : IntKind.i64.wrap ((v : Int) + (Tr.size kids[i] : Int)) = ((v + Tr.size kids[i] : Nat) : Int) := by rw [w64_id (by omega) (by omega)]; omega
      rw [e, w64_succ (show i < 9223372036854775807 by omega)]
      have := ih2 hlt (v + Tr.size kids[i]) (by omega)
      rw [this, List.drop_eq_getElem_cons hlt, Tr.sizes]
      congr 2; omega
    · obtain rfl : i = kids.length := by omega
      rw [if_neg (by simp [Tr.nos_len])]
      simp [Tr.sizes]
  have := key 0 (by omega) 1 (by simp only [List.drop_zero]; omega)
  simp only [Int.natCast_zero, List.drop_zero, Int.natCast_one] at this
  show spec_l3Size_F (spec_l3Size_n k) _ = _
  simp only [spec_l3Size_F, this, bind_some', Tr.size]
  congr 2; omega
theorem isize_some : ∀ t : Tr, Tr.size t ≤ 2000000 → ∀ r : Int, 0 ≤ r → r ≤ 9 → ∃ p q : Int, (∀ k, Tr.deep t ≤ k → impl_size_n k (Tr.no t) r = some (p, q)) ∧ ((Tr.deep t : Int) ≤ r → p = (min (Tr.size t) 201 : Nat) ∧ q = Tr.deep t) ∧ (r < (Tr.deep t : Int) → 9 ≤ q) ∧ 0 ≤ q ∧ q ≤ 9 + r ∧ 0 ≤ p ∧ p ≤ 201 := by
  refine Tr.ind fun kd n s ks kids ih hsz r r0 r9 => ?_
  have hdp := Tr.deep_pos (.mk kd n s ks kids)
  rw [Tr.size] at hsz
  have hl : kids.length ≤ 2000000 := by have := len_sizes kids; omega
  by_cases hr : r = 0
  · subst hr
    refine ⟨201, 9, fun k hk => ?_, fun h => by omega, fun _ => by omega, by omega, by omega, by omega, by omega⟩
    obtain ⟨k, rfl, hk⟩ := fuel1 rfl hk
    show impl_size_F (impl_size_n k) _ 0 = _
    rfl
  · have e0 : IntKind.i64.wrap (r - 1) = r - 1 := w64_id (by omega) (by omega)
    have key : ∀ i, i ≤ kids.length → ∀ v m : Nat, v ≤ 201 → (m : Int) ≤ 8 + r → ∃ p q : Int, (∀ k, Tr.deeps kids ≤ k → impl_size.l0 (impl_size_n k) (Tr.no (.mk kd n s ks kids)) r v m i = some (p, q)) ∧
        ((Tr.deeps (kids.drop i) : Int) ≤ r - 1 → p = (min (v + Tr.sizes (kids.drop i)) 201 : Nat) ∧ q = (max m (Tr.deeps (kids.drop i)) : Nat)) ∧ (r - 1 < (Tr.deeps (kids.drop i) : Int) → 9 ≤ q) ∧ (m : Int) ≤ q ∧ q ≤ 8 + r ∧ 0 ≤ p ∧ p ≤ 201 := by
      refine down _ fun i hi ih2 v m hv hm0 => ?_
      by_cases hlt : i < kids.length
      · have c3 : decide ((i : Int) < ((Tr.nos kids).length : Int)) = true := by rw [Tr.nos_len]; simpa using hlt
        have hm : kids[i] ∈ kids := List.getElem_mem hlt
        have hs1 := Tr.size_le kids _ hm
        obtain ⟨p, q, e, a1, a2, a3, a4, a5, a6⟩ := ih _ hm (by omega) (r - 1) (by omega) (by omega)
        obtain ⟨p', rfl⟩ : ∃ p' : Nat, p = p' := ⟨p.toNat, by omega⟩
        obtain ⟨q', rfl⟩ : ∃ q' : Nat, q = q' := ⟨q.toNat, by omega⟩
        obtain ⟨x, y, e2, b1, b2, b3, b4, b5, b6⟩ := ih2 hlt (min (v + p') 201) (max m q') (by omega) (by omega)
        refine ⟨x, y, fun k hk => ?_, ?_, ?_, by omega, b4, b5, b6⟩
        · rw [impl_size.l0]
          rw [no_kids, if_pos c3, kid kids i hlt, e0, e k (by have := Tr.deeps_le kids _ hm; omega), bind_some']
          have e3 : IntKind.i64.wrap ((v : Int) + (p' : Int)) = (v : Int) + (p' : Int) := w64_id (by omega) (by omega)
          have e4 : (if 201 < (v : Int) + (p' : Int) then (201 : Int) else (v : Int) + (p' : Int)) = ((min (v + p') 201 : Nat) : Int) := by split <;> omega
          have e5 : (if (q' : Int) > (m : Int) then (q' : Int) else (m : Int)) = ((max m q' : Nat) : Int) := by split <;> omega
          simp only [e3, e4, e5]
          rw [w64_succ (show i < 9223372036854775807 by omega)]
          have := e2 k hk
          exact this
        · intro hd
          rw [List.drop_eq_getElem_cons hlt, Tr.deeps] at hd
          obtain ⟨c1, c2⟩ := a1 (by omega)
          obtain ⟨d1, d2⟩ := b1 (by omega)
          rw [List.drop_eq_getElem_cons hlt, Tr.deeps, Tr.sizes]
          constructor
          · rw [d1]; omega
          · rw [d2]; omega
        · intro hd
          rw [List.drop_eq_getElem_cons hlt, Tr.deeps] at hd
          by_cases h1 : r - 1 < (Tr.deep kids[i] : Int)
          · have := a2 h1; omega
          · exact b2 (by omega)
      · obtain rfl : i = kids.length := by omega
        refine ⟨v, m, fun k hk => ?_, fun h => ?_, fun h => ?_, by omega, by omega, by omega, by omega⟩
        · rw [impl_size.l0]
          rw [no_kids, if_neg (by simp [Tr.nos_len])]
        · simp [Tr.deeps, Tr.sizes]; omega
        · simp [Tr.deeps] at h; omega
    obtain ⟨p, q, e, a1, a2, a3, a4, a5, a6⟩ := key 0 (by omega) 1 0 (by omega) (by omega)
    simp only [List.drop_zero] at a1 a2
    refine ⟨p, q + 1, fun k hk => ?_, fun h => ?_, fun h => ?_, by omega, by omega, a5, a6⟩
    · obtain ⟨k1, e1, hk1⟩ := fuel1 rfl hk
      subst e1
      have := e k1 hk1
      simp only [Int.natCast_zero, Int.natCast_one] at this
      show impl_size_F (impl_size_n k1) _ r = _
      simp only [impl_size_F]
      rw [if_neg (by simpa using hr), this, bind_some']
      show some (p, IntKind.i64.wrap (q + 1)) = _
      rw [w64_id (by omega) (by omega)]
    · rw [Tr.deep] at h ⊢
      obtain ⟨c1, c2⟩ := a1 (by omega)
      rw [Tr.size]
      constructor
      · rw [c1]; omega
      · rw [c2]; omega
    · rw [Tr.deep] at h
      have := a2 (by omega)
      omega
theorem keys_same (a : Node) (h : smL smS a.Keys) : ∃ b : Bool, spec_l3Keys a.Keys = some b ∧ impl_shapeOk.l5 a 0 = some (if b then .inr () else .inl false) := by
  have hl : a.Keys.length ≤ 1048576 := h.1
  have key : ∀ i, i ≤ a.Keys.length → ∃ b : Bool, spec_l3Keys.l0 a.Keys i = some (if b then .inr () else .inl false) ∧ impl_shapeOk.l5 a i = some (if b then .inr () else .inl false) := by
    refine down _ fun i hi ih => ?_
    rw [spec_l3Keys.l0, impl_shapeOk.l5]
    by_cases hlt : i < a.Keys.length
    · have c : decide ((i : Int) < (a.Keys.length : Int)) = true := by simpa using hlt
      obtain ⟨b, e1, e2⟩ := ih hlt
      obtain ⟨x, x1, x2⟩ := textOk_same a.Keys[i] (h.2 _ (List.getElem_mem hlt))
      simp only [c, if_true, ix_nat, List.getElem?_eq_getElem hlt, bind_some', x1, x2, w64_succ (show i < 9223372036854775807 by omega), e1, e2]
      cases x
      · exact ⟨false, rfl, rfl⟩
      · simp only [Bool.not_true, Bool.false_eq_true, if_false]
        by_cases h0 : 0 < i
        · have c2 : decide ((i : Int) > 0) = true := by simpa using h0
          have e : IntKind.i64.wrap ((i : Int) - 1) = ((i - 1 : Nat) : Int) := by rw [w64_id (by omega) (by omega)]; omega
          have hlt2 : i - 1 < a.Keys.length := by omega
          simp only [c2, if_true, e, ix_nat, List.getElem?_eq_getElem hlt2, bind_some']
          cases slt a.Keys[i - 1] a.Keys[i]
          · exact ⟨false, rfl, rfl⟩
          · exact ⟨b, rfl, rfl⟩
        · have c2 : decide ((i : Int) > 0) = false := by simpa using h0
          simp only [c2, if_false, Bool.false_eq_true]
          exact ⟨b, rfl, rfl⟩
    · rw [if_neg (by simpa using hlt), if_neg (by simpa using hlt)]
      exact ⟨true, rfl, rfl⟩
  obtain ⟨b, e1, e2⟩ := key 0 (by omega)
  simp only [Int.natCast_zero] at e1 e2
  refine ⟨b, ?_, e2⟩
  simp only [spec_l3Keys, e1, bind_some']
  cases b <;> rfl
theorem leaf_same (a : Node) (hs : smS a.S) (h4 : a.Kind ≠ 4) (h5 : a.Kind ≠ 5) : ∃ b, spec_l3Leaf a = some b ∧ impl_shapeOk a = some b ∧ (b = true → a.Kids.length = 0) := by
  obtain ⟨x, x1, x2⟩ := textOk_same a.S hs
  have k4 : (a.Kind == 4) = false := by simpa using h4
  have k5 : (a.Kind == 5) = false := by simpa using h5
  simp only [spec_l3Leaf, impl_shapeOk, impl_shapeOk.l0, impl_shapeOk.l1, impl_shapeOk.l2, impl_shapeOk.l3, in_some, from_some, x1, x2, bind_some', k4, k5, beq_self_eq_true, Bool.false_eq_true, if_false, if_true]
  by_cases a0 : a.Kids.length = 0
  · have c1 : decide ((a.Kids.length : Int) > 0) = false := decide_eq_false (by omega)
    have c2 : ((a.Kids.length : Int) == 0) = true := by simp [a0]
    simp only [c1, c2, Bool.false_eq_true, if_false]
    by_cases b0 : a.Keys.length = 0
    · have d1 : decide ((a.Keys.length : Int) > 0) = false := decide_eq_false (by omega)
      have d2 : ((a.Keys.length : Int) == 0) = true := by simp [b0]
      simp only [d1, d2, Bool.false_eq_true, if_false, if_true]
      cases (a.Kind == 0) <;> cases (a.Kind == 1) <;> cases (a.Kind == 2) <;> cases (a.Kind == 3) <;> cases (a.N == 0) <;> cases (a.S == ([] : Str)) <;> cases (decide (a.N ≥ 0) && decide (a.N ≤ 1)) <;> cases (decide (a.N ≥ -1000000000000) && decide (a.N ≤ 1000000000000)) <;> cases x <;> exact ⟨_, rfl, rfl, fun _ => a0⟩
    · have d1 : decide ((a.Keys.length : Int) > 0) = true := decide_eq_true (by omega)
      have d2 : ((a.Keys.length : Int) == 0) = false := by simpa using b0
      simp only [d1, d2, Bool.false_eq_true, if_false, if_true]
      cases (a.Kind == 0) <;> cases (a.Kind == 1) <;> cases (a.Kind == 2) <;> cases (a.Kind == 3) <;> cases (a.N == 0) <;> cases (a.S == ([] : Str)) <;> cases (decide (a.N ≥ 0) && decide (a.N ≤ 1)) <;> cases (decide (a.N ≥ -1000000000000) && decide (a.N ≤ 1000000000000)) <;> cases x <;> exact ⟨_, rfl, rfl, fun _ => a0⟩
  · have c1 : decide ((a.Kids.length : Int) > 0) = true := decide_eq_true (by omega)
    have c2 : ((a.Kids.length : Int) == 0) = false := by simpa using a0
    simp only [c1, c2, if_true]
    refine ⟨false, rfl, ?_, fun h => by cases h⟩
    cases (a.Kind == 0) <;> cases (a.Kind == 1) <;> cases (a.Kind == 2) <;> cases (a.Kind == 3) <;> cases (a.N == 0) <;> cases (a.S == ([] : Str)) <;> cases ((a.Keys.length : Int) == 0) <;> cases (decide (a.N ≥ 0) && decide (a.N ≤ 1)) <;> cases (decide (a.N ≥ -1000000000000) && decide (a.N ≤ 1000000000000)) <;> cases x <;> rfl
theorem kids_end (kids : List Tr) : ¬ (decide ((kids.length : Int) < ((Tr.nos kids).length : Int)) = true) := by simp [Tr.nos_len]
/-- what of a right tree the writers lean on -/
inductive Tr.Kd : Tr → Prop
  | mk {k n s ks kids} : (k = 5 → ks.length = kids.length) → (k ≠ 4 → k ≠ 5 → kids = []) → (∀ t ∈ kids, Tr.Kd t) → Tr.Kd (.mk k n s ks kids)
theorem kids_same2 (kids : List Tr) (T : Node) (hT : T.Kids = Tr.nos kids) (hl : kids.length ≤ 1048576) (ih : ∀ t ∈ kids, ∃ b, (∀ k, Tr.deep t ≤ k → spec_l3Right_n k (Tr.no t) = some b ∧ impl_allShapes_n k (Tr.no t) = some b) ∧ (b = true → Tr.Kd t)) :
    ∃ b : Bool, (b = true → ∀ t ∈ kids, Tr.Kd t) ∧ ∀ k, Tr.deeps kids ≤ k → spec_l3Right.l2 (spec_l3Right_n k) T 0 = some (if b then .inr () else .inl false) ∧ spec_l3Right.l5 (spec_l3Right_n k) T 0 = some (if b then .inr () else .inl false) ∧ slices_ContainsFunc_Simpl_Node_impl_Node_impl_allShapes_1 (impl_allShapes_n k) T.Kids = some (!b) := by
  have key : ∀ i, i ≤ kids.length → ∃ (b : Bool) (j : Nat), (b = true → ∀ t ∈ kids.drop i, Tr.Kd t) ∧ ∀ k, Tr.deeps kids ≤ k → spec_l3Right.l2 (spec_l3Right_n k) T i = some (if b then .inr () else .inl false) ∧ spec_l3Right.l5 (spec_l3Right_n k) T i = some (if b then .inr () else .inl false) ∧ slices_IndexFunc_Simpl_Node_impl_Node_impl_allShapes_1.l0 (impl_allShapes_n k) T.Kids i = some (if b then .inr () else .inl (j : Int)) := by
    refine down _ fun i hi ih2 => ?_
    by_cases hlt : i < kids.length
    · have c3 : decide ((i : Int) < ((Tr.nos kids).length : Int)) = true := by rw [Tr.nos_len]; simpa using hlt
      have hm : kids[i] ∈ kids := List.getElem_mem hlt
      obtain ⟨x, hx, hxk⟩ := ih _ hm
      obtain ⟨b, j, hbk, hb⟩ := ih2 hlt
      have hd := Tr.deeps_le kids _ hm
      cases x with
      | false =>
        refine ⟨false, i, (fun h => by cases h), fun k hk => ?_⟩
        obtain ⟨x1, x2⟩ := hx k (by omega)
        rw [spec_l3Right.l2, spec_l3Right.l5, slices_IndexFunc_Simpl_Node_impl_Node_impl_allShapes_1.l0, hT, if_pos c3, kid kids i hlt, if_pos c3, kid kids i hlt, if_pos c3, kid kids i hlt, x1]
        simp only [impl_allShapes_1, x2, bind_some']
        exact ⟨rfl, rfl, rfl⟩
      | true =>
        refine ⟨b, j, fun h t ht => ?_, fun k hk => ?_⟩
        · rw [List.drop_eq_getElem_cons hlt] at ht
          rcases List.mem_cons.1 ht with rfl | ht
          · exact hxk rfl
          · exact hbk h t ht
        obtain ⟨x1, x2⟩ := hx k (by omega)
        obtain ⟨y1, y2, y3⟩ := hb k hk
        rw [hT] at y3
        rw [spec_l3Right.l2, spec_l3Right.l5, slices_IndexFunc_Simpl_Node_impl_Node_impl_allShapes_1.l0, hT, if_pos c3, kid kids i hlt, if_pos c3, kid kids i hlt, if_pos c3, kid kids i hlt, x1]
        simp only [impl_allShapes_1, x2, bind_some', Bool.not_true, Bool.false_eq_true, if_false, w64_succ (show i < 9223372036854775807 by omega), y1, y2, y3]
        exact ⟨trivial, trivial, trivial⟩
    · obtain rfl : i = kids.length := by omega
      refine ⟨true, 0, (fun _ t ht => by simp at ht), fun k hk => ?_⟩
      rw [spec_l3Right.l2, spec_l3Right.l5, slices_IndexFunc_Simpl_Node_impl_Node_impl_allShapes_1.l0, hT, if_neg (kids_end kids), if_neg (kids_end kids), if_neg (kids_end kids)]
      exact ⟨rfl, rfl, rfl⟩
  obtain ⟨b, j, hbk, hb⟩ := key 0 (by omega)
  refine ⟨b, by simpa using hbk, fun k hk => ?_⟩
  obtain ⟨y1, y2, y3⟩ := hb k hk
  simp only [Int.natCast_zero] at y1 y2 y3
  refine ⟨y1, y2, ?_⟩
  simp only [slices_ContainsFunc_Simpl_Node_impl_Node_impl_allShapes_1, slices_IndexFunc_Simpl_Node_impl_Node_impl_allShapes_1, y3, bind_some']
  cases b
  · show some (decide ((j : Int) ≥ 0)) = _
    have : decide ((j : Int) ≥ 0) = true := decide_eq_true (by omega)
    rw [this]; rfl
  · rfl
theorem right_same2 : ∀ t : Tr, Tr.Sm t → ∃ b, (∀ k, Tr.deep t ≤ k → spec_l3Right_n k (Tr.no t) = some b ∧ impl_allShapes_n k (Tr.no t) = some b) ∧ (b = true → Tr.Kd t) := by
  refine Tr.ind fun kd n s ks kids ih hsm => ?_
  cases hsm with
  | mk s1 s2 s3 s4 =>
  obtain ⟨b, hbk, hb⟩ := kids_same2 kids (Tr.no (.mk kd n s ks kids)) no_kids s3 fun t ht => ih t ht (s4 t ht)
  generalize hT : Tr.no (.mk kd n s ks kids) = T at hb
  have hk : T.Kids = Tr.nos kids := by rw [← hT]; exact no_kids
  have hK : T.Keys = ks := by rw [← hT, Tr.no]
  have hS : T.S = s := by rw [← hT, Tr.no]
  have hKd : T.Kind = kd := by rw [← hT, Tr.no]
  have mkKd : b = true → (T.Kind = 5 → ks.length = kids.length) → (T.Kind ≠ 4 → T.Kind ≠ 5 → kids = []) → Tr.Kd (.mk kd n s ks kids) := fun h h5 h0 => .mk (by rw [← hKd]; exact h5) (by rw [← hKd]; exact h0) (hbk h)
  have main : ∃ b, (∀ k, Tr.deeps kids ≤ k → spec_l3Right_F (spec_l3Right_n k) T = some b ∧ impl_allShapes_F (impl_allShapes_n k) T = some b) ∧ (b = true → Tr.Kd (.mk kd n s ks kids)) := by
    by_cases k4 : T.Kind = 4
    · have c4 : (T.Kind != 4) = false := by simpa using k4
      have d4 : (T.Kind == 4) = true := by simpa using k4
      have d5 : (T.Kind == 5) = false := by simp [k4]
      have d0 : (T.Kind == 0) = false := by simp [k4]
      have d1 : (T.Kind == 1) = false := by simp [k4]
      have d2 : (T.Kind == 2) = false := by simp [k4]
      have d3 : (T.Kind == 3) = false := by simp [k4]
      by_cases hc : T.N = 0 ∧ T.S = [] ∧ T.Keys.length = 0
      · obtain ⟨n0, s0, l0⟩ := hc
        refine ⟨b, fun k hk' => ?_, fun h => mkKd h (fun h5 => absurd (k4.symm.trans h5) (by decide)) (fun h4 => absurd k4 h4)⟩
        obtain ⟨y1, y2, y3⟩ := hb k hk'
        have e1 : (T.N != 0) = false := by simpa using n0
        have e1' : (T.N == 0) = true := by simpa using n0
        have e2 : (T.S == ([] : Str)) = true := by simpa using s0
        have e3 : decide ((T.Keys.length : Int) > 0) = false := decide_eq_false (by omega)
        have e4 : ((T.Keys.length : Int) == 0) = true := by simp [l0]
        simp only [spec_l3Right_F, impl_allShapes_F, impl_shapeOk, impl_shapeOk.l4, c4, d0, d1, d2, d3, d4, d5, e1, e1', e2, e3, e4, y2, y3, bind_some', Bool.false_eq_true, Bool.not_true, if_false, if_true, beq_self_eq_true]
        cases b <;> exact ⟨rfl, rfl⟩
      · refine ⟨false, fun k hk' => ?_, fun h => by cases h⟩
        obtain ⟨y1, y2, y3⟩ := hb k hk'
        simp only [spec_l3Right_F, impl_allShapes_F, impl_shapeOk, impl_shapeOk.l4, c4, d0, d1, d2, d3, d4, d5, y2, y3, bind_some', Bool.false_eq_true, Bool.not_true, if_false, if_true, beq_self_eq_true]
        by_cases n0 : T.N = 0
        · have e1 : (T.N != 0) = false := by simpa using n0
          have e1' : (T.N == 0) = true := by simpa using n0
          by_cases s0 : T.S = []
          · have e2 : (T.S == ([] : Str)) = true := by simpa using s0
            have l0 : T.Keys.length ≠ 0 := fun h => hc ⟨n0, s0, h⟩
            have e3 : decide ((T.Keys.length : Int) > 0) = true := decide_eq_true (by omega)
            have e4 : ((T.Keys.length : Int) == 0) = false := by simpa using l0
            simp only [e1, e1', e2, e3, e4, Bool.false_eq_true, Bool.not_true, if_false, if_true, bind_some', and_self]
          · have e2 : (T.S == ([] : Str)) = false := by simpa using s0
            simp only [e1, e1', e2, Bool.false_eq_true, Bool.not_false, if_false, if_true, bind_some', and_self]
        · have e1 : (T.N != 0) = true := by simpa using n0
          have e1' : (T.N == 0) = false := by simpa using n0
          simp only [e1, e1', Bool.false_eq_true, if_false, if_true, bind_some', and_self]
    · by_cases k5 : T.Kind = 5
      · have c4 : (T.Kind != 4) = true := by simpa using k4
        have c5 : (T.Kind != 5) = false := by simpa using k5
        have d4 : (T.Kind == 4) = false := by simpa using k4
        have d5 : (T.Kind == 5) = true := by simpa using k5
        have d0 : (T.Kind == 0) = false := by simp [k5]
        have d1 : (T.Kind == 1) = false := by simp [k5]
        have d2 : (T.Kind == 2) = false := by simp [k5]
        have d3 : (T.Kind == 3) = false := by simp [k5]
        obtain ⟨x, x1, x2⟩ := keys_same T (by rw [hK]; exact s2)
        by_cases hc : T.N = 0 ∧ T.S = [] ∧ T.Keys.length = T.Kids.length ∧ x = true
        · obtain ⟨n0, s0, l0, rfl⟩ := hc
          refine ⟨b, fun k hk' => ?_, fun h => mkKd h (fun _ => by rw [hK, hk, Tr.nos_len] at l0; exact l0) (fun _ h5 => absurd k5 h5)⟩
          obtain ⟨y1, y2, y3⟩ := hb k hk'
          have e1 : (T.N != 0) = false := by simpa using n0
          have e1' : (T.N == 0) = true := by simpa using n0
          have e2 : (T.S == ([] : Str)) = true := by simpa using s0
          have e3 : ((T.Keys.length : Int) != (T.Kids.length : Int)) = false := by simp [l0]
          simp only [spec_l3Right_F, impl_allShapes_F, impl_shapeOk, c4, c5, d0, d1, d2, d3, d4, d5, e1, e1', e2, e3, x1, x2, y1, y3, bind_some', Bool.false_eq_true, Bool.not_true, if_false, if_true, beq_self_eq_true]
          cases b <;> exact ⟨rfl, rfl⟩
        · refine ⟨false, fun k hk' => ?_, fun h => by cases h⟩
          obtain ⟨y1, y2, y3⟩ := hb k hk'
          simp only [spec_l3Right_F, impl_allShapes_F, impl_shapeOk, c4, c5, d0, d1, d2, d3, d4, d5, x1, x2, y1, y3, bind_some', Bool.false_eq_true, Bool.not_true, if_false, if_true, beq_self_eq_true]
          by_cases l0 : T.Keys.length = T.Kids.length
          · have e3 : ((T.Keys.length : Int) != (T.Kids.length : Int)) = false := by simp [l0]
            simp only [e3, Bool.false_eq_true, if_false]
            cases hx : x
            · subst hx
              simp only [Bool.false_eq_true, if_false, if_true, Bool.not_false, bind_some']
              constructor
              · split
                · rfl
                · split <;> rfl
              · trivial
            · subst hx
              simp only [Bool.not_true, Bool.false_eq_true, if_false, if_true]
              by_cases n0 : T.N = 0
              · have e1 : (T.N != 0) = false := by simpa using n0
                have e1' : (T.N == 0) = true := by simpa using n0
                have s0 : T.S ≠ [] := fun h => hc ⟨n0, h, l0, rfl⟩
                have e2 : (T.S == ([] : Str)) = false := by simpa using s0
                simp only [e1, e1', e2, Bool.false_eq_true, Bool.not_false, if_false, if_true, bind_some', and_self]
              · have e1 : (T.N != 0) = true := by simpa using n0
                have e1' : (T.N == 0) = false := by simpa using n0
                simp only [e1, e1', Bool.false_eq_true, if_false, if_true, bind_some', and_self]
          · have e3 : ((T.Keys.length : Int) != (T.Kids.length : Int)) = true := by simp only [bne_iff_ne, ne_eq]; omega
            simp only [e3, Bool.false_eq_true, if_false, if_true, bind_some']
            constructor
            · split
              · rfl
              · split <;> rfl
            · trivial
      · have c4 : (T.Kind != 4) = true := by simpa using k4
        have c5 : (T.Kind != 5) = true := by simpa using k5
        obtain ⟨x, x1, x2, x3⟩ := leaf_same T (by rw [hS]; exact s1) k4 k5
        have hnil : x = true → kids = [] := fun h => List.eq_nil_of_length_eq_zero (by have := x3 h; rw [hk, Tr.nos_len] at this; exact this)
        refine ⟨x, fun k hk' => ?_, fun h => .mk (fun h5 => absurd (hKd.trans h5) k5) (fun _ _ => hnil h) (fun t ht => by rw [hnil h] at ht; cases ht)⟩
        simp only [spec_l3Right_F, impl_allShapes_F, c4, c5, x1, x2, bind_some', if_true]
        cases x
        · exact ⟨trivial, rfl⟩
        · have h0 : T.Kids = [] := List.eq_nil_of_length_eq_zero (x3 rfl)
          have : slices_IndexFunc_Simpl_Node_impl_Node_impl_allShapes_1.l0 (impl_allShapes_n k) [] 0 = some (.inr ()) := by
            rw [slices_IndexFunc_Simpl_Node_impl_Node_impl_allShapes_1.l0]; rfl
          simp only [slices_ContainsFunc_Simpl_Node_impl_Node_impl_allShapes_1, slices_IndexFunc_Simpl_Node_impl_Node_impl_allShapes_1, h0, this, bind_some', if_true]
          exact ⟨trivial, rfl⟩
  obtain ⟨b, hm, hmk⟩ := main
  refine ⟨b, fun k hk' => ?_, hmk⟩
  obtain ⟨k1, e1, hk1⟩ := fuel1 rfl hk'
  subst e1
  exact hm k1 hk1
theorem tree_same (t : Tr) (hs : Tr.Sm t) (hz : Tr.size t ≤ 2000000) : ∃ x, spec_TreeOk (Tr.no t) = some x ∧ impl_TreeOk (Tr.no t) = some x ∧ (x = true → Tr.Kd t) := by
  have t3 : spec_l3Deep (Tr.no t) = some (Tr.deep t : Int) := Nt.lim_of _ (deep_some t hz)
  have t4 : spec_l3Size (Tr.no t) = some (Tr.size t : Int) := Nt.lim_of _ (size_some t hz)
  obtain ⟨p, q, e5, q1, q2, q3, q4, q5, q6⟩ := isize_some t hz 9 (by omega) (by omega)
  have t5 : impl_size (Tr.no t) 9 = some (p, q) := Nt.lim_of _ e5
  obtain ⟨b, hb, hbk⟩ := right_same2 t hs
  have t6 : spec_l3Right (Tr.no t) = some b := Nt.lim_of _ fun k hk => (hb k hk).1
  have t7 : impl_allShapes (Tr.no t) = some b := Nt.lim_of _ fun k hk => (hb k hk).2
  simp only [spec_TreeOk, impl_TreeOk, t3, t4, t5, t6, t7, bind_some']
  by_cases g : Tr.deep t ≤ 8 ∧ Tr.size t ≤ 200
  · obtain ⟨g1, g2⟩ := g
    obtain ⟨w1, w2⟩ := q1 (by omega)
    have c1 : decide ((Tr.deep t : Int) ≤ 8) = true := decide_eq_true (by omega)
    have c2 : decide ((Tr.size t : Int) ≤ 200) = true := decide_eq_true (by omega)
    have c3 : decide (p ≤ 200) = true := decide_eq_true (by omega)
    have c4 : decide (q ≤ 8) = true := decide_eq_true (by omega)
    simp only [c1, c2, c3, c4, if_true]
    exact ⟨b, rfl, rfl, hbk⟩
  · refine ⟨false, ?_, ?_, fun h => by cases h⟩
    · by_cases g1 : Tr.deep t ≤ 8
      · have c1 : decide ((Tr.deep t : Int) ≤ 8) = true := decide_eq_true (by omega)
        have c2 : decide ((Tr.size t : Int) ≤ 200) = false := decide_eq_false (by omega)
        simp only [c1, c2, if_true, if_false, Bool.false_eq_true]
      · have c1 : decide ((Tr.deep t : Int) ≤ 8) = false := decide_eq_false (by omega)
        simp only [c1, if_false, Bool.false_eq_true]
    · by_cases g3 : p ≤ 200
      · have c3 : decide (p ≤ 200) = true := decide_eq_true g3
        have c4 : decide (q ≤ 8) = false := by
          refine decide_eq_false fun h => ?_
          by_cases g4 : (Tr.deep t : Int) ≤ 9
          · obtain ⟨w1, w2⟩ := q1 g4
            exact g ⟨by omega, by omega⟩
          · have := q2 (by omega)
            omega
        simp only [c3, c4, if_true, if_false, Bool.false_eq_true]
      · have c3 : decide (p ≤ 200) = false := decide_eq_false g3
        simp only [c3, if_false, Bool.false_eq_true]
theorem cat_big {s t : Str} (h : s.length + t.length ≤ 1152921504606846976) : cat s t = some (s ++ t) := by
  unfold cat
  rw [if_neg]
  have : IntKind.i64.max = 9223372036854775807 := rfl
  omega
def dgt (m : Nat) : Str := if h : m = 0 then [] else dgt (m / 10) ++ [UInt8.ofNat (48 + m % 10)]
  termination_by m
  decreasing_by omega
theorem dgt_zero : dgt 0 = [] := by rw [dgt]; rfl
theorem dgt_step {m : Nat} (h : 0 < m) : dgt m = dgt (m / 10) ++ [UInt8.ofNat (48 + m % 10)] := by rw [dgt, dif_neg (by omega)]
theorem dgt_len : ∀ (k m : Nat), m < 10 ^ k → (dgt m).length ≤ k
  | 0, m, h => by have : m = 0 := by omega
                  subst this; rw [dgt_zero]; simp
  | k + 1, m, h => by
    by_cases h0 : m = 0
    · subst h0; rw [dgt_zero]; simp
    · rw [dgt_step (by omega)]
      have := dgt_len k (m / 10) (by rw [Nat.pow_succ] at h; omega)
      simp only [List.length_append, List.length_cons, List.length_nil]; omega
theorem dig_char (d : Nat) (h : d < 10) : strOf [IntKind.u8.wrap (IntKind.i64.wrap (48 + (d : Int)))] = [UInt8.ofNat (48 + d)] := by
  have : d = 0 ∨ d = 1 ∨ d = 2 ∨ d = 3 ∨ d = 4 ∨ d = 5 ∨ d = 6 ∨ d = 7 ∨ d = 8 ∨ d = 9 := by omega
  rcases this with rfl | rfl | rfl | rfl | rfl | rfl | rfl | rfl | rfl | rfl <;> decide
theorem dig_rune (d : Nat) (h : d < 10) : rune (IntKind.i32.wrap (IntKind.i64.wrap (48 + (d : Int)))) = [UInt8.ofNat (48 + d)] := by
  have : d = 0 ∨ d = 1 ∨ d = 2 ∨ d = 3 ∨ d = 4 ∨ d = 5 ∨ d = 6 ∨ d = 7 ∨ d = 8 ∨ d = 9 := by omega
  rcases this with rfl | rfl | rfl | rfl | rfl | rfl | rfl | rfl | rfl | rfl <;> decide
theorem tdiv_abs (v : Int) : (Int.tdiv v 10).natAbs = v.natAbs / 10 := by rw [Int.natAbs_tdiv]; rfl
theorem tmod_abs (v : Int) : (Int.tmod v 10).natAbs = v.natAbs % 10 := by rw [Int.natAbs_tmod]; rfl
theorem tdiv_okI {v : Int} (h : okI v) : okI (Int.tdiv v 10) := by
  have := tdiv_abs v
  unfold okI at *
  omega
theorem sDigits_l0 : ∀ (m : Nat) (v : Int) (acc : Str), v.natAbs = m → okI v → m + acc.length ≤ 576460752303423488000 → acc.length ≤ 1000 → m < 10 ^ 100 → ∀ k, m < 10 ^ k → k + acc.length ≤ 1000 → spec_Digits.l0 v acc = some (dgt m ++ acc) := by
  intro m
  induction m using Nat.strongRecOn with
  | _ m ih =>
    intro v acc hm hv hb ha hp k hk hka
    rw [spec_Digits.l0]
    by_cases h0 : v = 0
    · subst h0
      rw [if_neg (by decide)]
      have : m = 0 := by omega
      subst this; rw [dgt_zero]; rfl
    · have hne : (v != 0) = true := by simpa using h0
      have hmp : 0 < m := by omega
      have hmod := tmod_abs v
      have hdiv := tdiv_abs v
      have hw : IntKind.i64.wrap (Int.tdiv v 10) = Int.tdiv v 10 := by
        have := tdiv_okI hv
        unfold okI at this
        exact w64_id this.1 this.2
      have hok := tdiv_okI hv
      cases k with
      | zero => omega
      | succ k =>
      have hk' : m / 10 < 10 ^ k := by rw [Nat.pow_succ] at hk; omega
      have rec_ : spec_Digits.l0 (Int.tdiv v 10) ([UInt8.ofNat (48 + m % 10)] ++ acc) = some (dgt (m / 10) ++ ([UInt8.ofNat (48 + m % 10)] ++ acc)) :=
        ih (m / 10) (by omega) (Int.tdiv v 10) _ (by rw [hdiv, hm]) hok (by simp; omega) (by simp; omega) (by omega) k hk' (by simp; omega)
      have fin : dgt (m / 10) ++ ([UInt8.ofNat (48 + m % 10)] ++ acc) = dgt m ++ acc := by rw [dgt_step hmp]; simp
      rw [if_pos hne]
      by_cases hs : Int.tmod v 10 < 0
      · rw [if_pos (decide_eq_true hs)]
        have e1 : IntKind.i64.wrap (0 - Int.tmod v 10) = ((m % 10 : Nat) : Int) := by rw [w64_id (by omega) (by omega)]; omega
        rw [e1, dig_char _ (Nat.mod_lt _ (by omega)), cat_big (by simp; omega), bind_some', hw, rec_, fin]
      · rw [if_neg (by simpa using hs)]
        have e1 : Int.tmod v 10 = ((m % 10 : Nat) : Int) := by omega
        rw [e1, dig_char _ (Nat.mod_lt _ (by omega)), cat_big (by simp; omega), bind_some', hw, rec_, fin]
def digV (v : Int) : Str := if v = 0 then [48] else if v < 0 then [45] ++ dgt v.natAbs else dgt v.natAbs
theorem digV_len (v : Int) (h : okI v) : (digV v).length ≤ 40 := by
  unfold okI at h
  have := dgt_len 20 v.natAbs (by omega)
  unfold digV
  split
  · simp
  · split
    · simp; omega
    · omega
theorem sDigits (v : Int) (h : okI v) : spec_Digits v = some (digV v) := by
  unfold spec_Digits
  by_cases h0 : v = 0
  · subst h0; rfl
  · rw [if_neg (by simpa using h0)]
    have hn : v.natAbs < 10 ^ 20 := by unfold okI at h; omega
    rw [sDigits_l0 v.natAbs v [] rfl h (by simp; omega) (by simp) (by omega) 20 hn (by simp), bind_some']
    have hl := dgt_len 20 v.natAbs hn
    unfold digV
    rw [if_neg h0]
    by_cases hs : v < 0
    · rw [if_pos (decide_eq_true hs), if_pos hs, List.append_nil, cat_big (by simp; omega)]; rfl
    · rw [if_neg (by simpa using hs), if_neg hs, List.append_nil]
theorem dgt_small (x : Nat) (hx : x < 10) : (if x = 0 then ([48] : Str) else dgt x) = [UInt8.ofNat (48 + x)] := by
  by_cases h0 : x = 0
  · subst h0; rfl
  · rw [if_neg h0, dgt_step (by omega), show x / 10 = 0 by omega, dgt_zero, show x % 10 = x by omega]; rfl
theorem iDigits_n : ∀ (k : Nat) (v : Int), okI v → v.natAbs < 10 ^ k → impl_Digits_n (k + 2) v = some (digV v) := by
  intro k
  induction k with
  | zero =>
    intro v hv hk
    have : v = 0 := by omega
    subst this
    rfl
  | succ k ih =>
    intro v hv hk
    have hmod := tmod_abs v
    have hdiv := tdiv_abs v
    have hw : IntKind.i64.wrap (Int.tdiv v 10) = Int.tdiv v 10 := by
      have := tdiv_okI hv
      unfold okI at this
      exact w64_id this.1 this.2
    have hrec := ih (Int.tdiv v 10) (tdiv_okI hv) (by rw [hdiv]; rw [Nat.pow_succ] at hk; omega)
    have hlen := digV_len _ (tdiv_okI hv)
    show impl_Digits_F (impl_Digits_n (k + 2)) v = _
    unfold impl_Digits_F
    have small : ∀ x : Nat, x < 10 → ∀ j, impl_Digits_n (j + 1) (x : Int) = some (if x = 0 then [48] else dgt x) := by
      intro x hx j
      show impl_Digits_F (impl_Digits_n j) (x : Int) = _
      unfold impl_Digits_F
      rw [if_neg (by simp), if_neg (by simp), if_pos (decide_eq_true (by omega)), dig_rune x hx]
      by_cases h0 : x = 0
      · subst h0; rfl
      · rw [if_neg h0, dgt_step (by omega), show x / 10 = 0 by omega, dgt_zero, show x % 10 = x by omega]; rfl
    by_cases hs : v < 0
    · rw [if_pos (decide_eq_true hs)]
      by_cases h10 : v > -10
      · rw [if_pos (decide_eq_true h10)]
        have e : IntKind.i64.wrap (0 - v) = ((v.natAbs : Nat) : Int) := by rw [w64_id (by omega) (by omega)]; omega
        rw [e, small v.natAbs (by omega) (k + 1), bind_some', if_neg (by omega), cat_big (by have := dgt_len 1 v.natAbs (by rw [Nat.pow_one]; omega); simp; omega), bind_some']
        unfold digV
        rw [if_neg (by omega), if_pos hs]
      · rw [if_neg (by simpa using h10), if_pos (decide_eq_true hs), hw, hrec, bind_some']
        have hneg : 0 ≤ Int.tmod (-v) 10 := Int.tmod_nonneg _ (by omega)
        rw [Int.neg_tmod] at hneg
        have e : IntKind.i64.wrap (0 - Int.tmod v 10) = ((v.natAbs % 10 : Nat) : Int) := by rw [w64_id (by omega) (by omega)]; omega
        have hsm := small (v.natAbs % 10) (by omega) (k + 1)
        have hl1 : (if v.natAbs % 10 = 0 then ([48] : Str) else dgt (v.natAbs % 10)).length ≤ 1 := by
          split
          · simp
          · exact dgt_len 1 _ (by rw [Nat.pow_one]; omega)
        rw [e, hsm, bind_some', cat_big (by omega), bind_some']
        unfold digV
        have hd0 : Int.tdiv v 10 ≠ 0 := by intro h0; rw [h0] at hdiv; simp at hdiv; omega
        have hdn : Int.tdiv v 10 < 0 := by
          rcases Int.lt_trichotomy (Int.tdiv v 10) 0 with h | h | h
          · exact h
          · exact absurd h hd0
          · have := Int.tdiv_nonneg (a := -v) (b := 10) (by omega) (by omega)
            rw [Int.neg_tdiv] at this
            omega
        rw [dgt_small (v.natAbs % 10) (by omega), if_neg hd0, if_pos hdn, if_neg (by omega), if_pos hs, hdiv, dgt_step (m := v.natAbs) (by omega), List.append_assoc]
    · rw [if_neg (by simpa using hs), if_neg (by simpa using hs)]
      by_cases h10 : v < 10
      · obtain ⟨x, rfl⟩ : ∃ x : Nat, v = x := ⟨v.toNat, by omega⟩
        rw [if_pos (decide_eq_true h10), dig_rune x (by omega)]
        unfold digV
        by_cases h0 : x = 0
        · subst h0; rfl
        · rw [if_neg (by omega), if_neg (by omega)]
          show _ = some (dgt x)
          rw [dgt_step (by omega), show x / 10 = 0 by omega, dgt_zero, show x % 10 = x by omega]; rfl
      · rw [if_neg (by simpa using h10), hw, hrec, bind_some']
        have e : Int.tmod v 10 = ((v.natAbs % 10 : Nat) : Int) := by
          have : 0 ≤ Int.tmod v 10 := Int.tmod_nonneg _ (by omega)
          omega
        rw [e, dig_rune _ (by omega), cat_big (by simp; omega), bind_some']
        unfold digV
        have hd0 : Int.tdiv v 10 ≠ 0 := by intro h0; rw [h0] at hdiv; simp at hdiv; omega
        have hdn : ¬ Int.tdiv v 10 < 0 := by
          have := Int.tdiv_nonneg (a := v) (b := 10) (by omega) (by omega)
          omega
        rw [if_neg hd0, if_neg hdn, if_neg (by omega), if_neg hs, hdiv, dgt_step (m := v.natAbs) (by omega)]
theorem n_up : ∀ (j : Nat) (v : Int) (r : Str), impl_Digits_n j v = some r → impl_Digits_n (j + 1) v = some r := by
  intro j
  induction j with
  | zero => intro v r h; cases h
  | succ j ih =>
    intro v r h
    change impl_Digits_F (impl_Digits_n j) v = some r at h
    show impl_Digits_F (impl_Digits_n (j + 1)) v = some r
    unfold impl_Digits_F at h ⊢
    by_cases c1 : decide (v < 0) = true
    · rw [if_pos c1] at h ⊢
      by_cases c2 : decide (v > -10) = true
      · rw [if_pos c2] at h ⊢
        obtain ⟨x, h1, h2⟩ := bnd h
        rw [ih _ _ h1]; exact h2
      · rw [if_neg c2, if_pos c1] at h ⊢
        obtain ⟨x, h1, h2⟩ := bnd h
        obtain ⟨y, h3, h4⟩ := bnd h2
        rw [ih _ _ h1, bind_some', ih _ _ h3]; exact h4
    · rw [if_neg c1, if_neg c1] at h ⊢
      by_cases c4 : decide (v < 10) = true
      · rw [if_pos c4] at h ⊢; exact h
      · rw [if_neg c4] at h ⊢
        obtain ⟨x, h1, h2⟩ := bnd h
        rw [ih _ _ h1]; exact h2
theorem iDigits (v : Int) (h : okI v) : impl_Digits v = some (digV v) := by
  have h22 := iDigits_n 20 v h (by unfold okI at h; omega)
  refine Nt.lim_of 22 fun k hk => ?_
  induction hk with
  | refl => exact h22
  | step _ ih => exact n_up _ _ _ ih
theorem quote_same (s : Str) (h : smS s) : ∃ r, spec_Quote s = some r ∧ impl_Quote s = some r ∧ r.length ≤ 2097154 := by
  unfold smS at h
  have key : ∀ i, i ≤ s.length → ∀ v : List Int, v.length ≤ 2 * i + 1 → ∃ r, spec_Quote.l0 s i v = some r ∧ impl_Quote.l0 s i v = some r ∧ r.length ≤ 2 * s.length + 1 := by
    refine down _ fun i hi ih v hv => ?_
    rw [spec_Quote.l0, impl_Quote.l0]
    by_cases hlt : i < s.length
    · have c : decide ((i : Int) < (s.length : Int)) = true := by simpa using hlt
      have a1 : ∀ (u : List Int) (x : Int), u.length ≤ 2 * i + 2 → app 1 u [x] = some (u ++ [x]) := fun u x hu => app_ok (by simp; omega)
      have a2 : ∀ x : Int, app 1 v [x] = some (v ++ [x]) := fun x => a1 v x (by omega)
      have a3 : ∀ x y : Int, app 1 (v ++ [x]) [y] = some (v ++ [x] ++ [y]) := fun x y => a1 _ y (by simp; omega)
      obtain ⟨r1, e1, e1', l1⟩ := ih hlt (v ++ [92] ++ [byte s[i]]) (by simp; omega)
      obtain ⟨r2, e2, e2', l2⟩ := ih hlt (v ++ [byte s[i]]) (by simp; omega)
      simp only [c, if_true, ix_nat, List.getElem?_eq_getElem hlt, bind_some', a2, a3, w64_succ (show i < 9223372036854775807 by omega), e1, e1', e2, e2']
      by_cases b1 : (byte s[i] == 34) = true
      · rw [if_pos b1]; exact ⟨_, rfl, rfl, l1⟩
      · rw [if_neg b1]
        by_cases b2 : (byte s[i] == 92) = true
        · rw [if_pos b2]; exact ⟨_, rfl, rfl, l1⟩
        · rw [if_neg b2]; exact ⟨_, rfl, rfl, l2⟩
    · rw [if_neg (by simpa using hlt), if_neg (by simpa using hlt)]
      exact ⟨_, rfl, rfl, by omega⟩
  obtain ⟨r, e1, e2, l⟩ := key 0 (by omega) [34] (by simp)
  simp only [Int.natCast_zero] at e1 e2
  obtain ⟨x, x1, x2⟩ := textOk_same s h
  simp only [spec_Quote, impl_Quote, x1, x2, bind_some', e1, e2]
  rw [app_ok (by simp; omega)]
  cases x
  · exact ⟨_, rfl, rfl, by simp⟩
  · exact ⟨_, rfl, rfl, by simp [strOf]; omega⟩
theorem bx {α β : Type} {e : Option α} {x : α} (h : e = some x) (f : α → Option β) : (e >>= f) = f x := by rw [h]; rfl
/-! the braced writing -/
def tot : List Str → Nat
  | [] => 0
  | p :: l => p.length + tot l
def jt : List Str → Str
  | [] => []
  | p :: l => [44] ++ p ++ jt l
def jz : Nat → List Str → Str
  | 0, [] => []
  | 0, p :: l => p ++ jt l
  | _ + 1, l => jt l
theorem jt_len : ∀ l : List Str, (jt l).length = tot l + l.length
  | [] => rfl
  | p :: l => by
    have := jt_len l
    simp only [jt, tot, List.length_append, List.length_cons, List.length_nil, this]; omega
theorem jz_inter : ∀ l : List Str, jz 0 l = ([44] : Str).intercalate l
  | [] => rfl
  | p :: l => by
    have key : ∀ (l : List Str) (p : Str), ([44] : Str).intercalate (p :: l) = p ++ jt l := by
      intro l
      induction l with
      | nil => intro p; simp [List.intercalate, jt]
      | cons q l ih =>
        intro p
        have := ih q
        simp only [List.intercalate, List.intersperse, List.flatten_cons] at this ⊢
        rw [this, jt]; simp
    rw [key]; rfl
theorem jz_len (l : List Str) : (jz 0 l).length ≤ tot l + l.length := by
  cases l with
  | nil => simp [jz, tot]
  | cons p l => simp only [jz, tot, List.length_append, List.length_cons, jt_len]; omega
theorem join_ok {a : List Str} (h : tot a + a.length ≤ 70368744177664) : Nt.join a [44] = some (jz 0 a) := by
  have h1 := jz_len a
  rw [jz_inter] at h1
  unfold Nt.join
  rw [if_pos ⟨by omega, by omega⟩, jz_inter]
theorem sizes_drop (l : List Tr) (i : Nat) (h : i < l.length) : Tr.sizes (l.drop i) = Tr.size l[i] + Tr.sizes (l.drop (i + 1)) := by
  rw [List.drop_eq_getElem_cons h, Tr.sizes]
def bigText (t : Tr) (r : Str) : Prop := r.length + 4194304 ≤ Tr.size t * 8388608
/-- the pieces of a map -/
theorem braced_map (kids : List Tr) (T : Node) (hT : T.Kids = Tr.nos kids) (hl : Tr.sizes kids ≤ 2000000) (hk : smL smS T.Keys) (h5 : T.Kind = 5) (h6 : T.Keys.length = kids.length)
    (ih : ∀ t ∈ kids, ∃ r, (∀ k, Tr.deep t ≤ k → spec_l4Text_n k (Tr.no t) = some r ∧ impl_braced_n k (Tr.no t) = some r) ∧ bigText t r) :
    ∀ i, i ≤ kids.length → ∃ ps : List Str, ps.length = kids.length - i ∧ tot ps + ps.length * 2097149 ≤ Tr.sizes (kids.drop i) * 8388608 ∧ ∀ k, Tr.deeps kids ≤ k →
      (∀ w : Str, w.length + (tot ps + ps.length) ≤ 1125899906842624 → spec_l4Text.l0 (spec_l4Text_n k) T w i = some (w ++ jz i ps)) ∧
      (∀ v : List Str, v.length = i → impl_braced.l0 (impl_braced_n k) T i v = some (v ++ ps)) := by
  have hn := len_sizes kids
  refine down _ fun i hi ih2 => ?_
  by_cases hlt : i < kids.length
  · have c3 : decide ((i : Int) < ((Tr.nos kids).length : Int)) = true := by rw [Tr.nos_len]; simpa using hlt
    have hm : kids[i] ∈ kids := List.getElem_mem hlt
    have hd := Tr.deeps_le kids _ hm
    have hlt' : i < T.Keys.length := by omega
    have e5 : (T.Kind == 5) = true := by simpa using h5
    obtain ⟨r, hr, hb⟩ := ih _ hm
    obtain ⟨ps, p1, p2, p3⟩ := ih2 hlt
    obtain ⟨q, q1, q2, q3⟩ := quote_same T.Keys[i] (hk.2 _ (List.getElem_mem hlt'))
    have hs := sizes_drop kids i hlt
    have hsz := Tr.size_le kids _ hm
    have hln : (q ++ [58] ++ r).length = q.length + 1 + r.length := by simp; omega
    unfold bigText at hb
    have w1 : IntKind.i64.wrap ((i : Int) + 1) = ((i + 1 : Nat) : Int) := w64_succ (by omega)
    refine ⟨(q ++ [58] ++ r) :: ps, by simp; omega, ?_, fun k hk' => ?_⟩
    · simp only [tot, List.length_cons, hln]
      omega
    obtain ⟨x1, x2⟩ := hr k (by omega)
    obtain ⟨y1, y2⟩ := p3 k hk'
    constructor
    · intro w hw
      simp only [tot, List.length_cons, hln] at hw
      rw [spec_l4Text.l0, hT, if_pos c3]
      cases i with
      | zero =>
        rw [if_neg (by simp)]
        rw [if_pos e5, ix_nat, List.getElem?_eq_getElem hlt', bind_some', bx q1, bx (cat_big (by omega)), bx (cat_big (by simp; omega)), kid kids 0 hlt, bx x1, bx (cat_big (by simp; omega)), w1, y1 _ (by simp; omega)]
        simp [jz]
      | succ i =>
        rw [if_pos (by simp), bx (cat_big (by simp; omega))]
        rw [if_pos e5, ix_nat, List.getElem?_eq_getElem hlt', bind_some', bx q1, bx (cat_big (by simp; omega)), bx (cat_big (by simp; omega)), kid kids (i + 1) hlt, bx x1, bx (cat_big (by simp; omega)), w1, y1 _ (by simp; omega)]
        simp [jz, jt]
    · intro v hv
      rw [impl_braced.l0, hT, if_pos c3, kid kids i hlt, bx x2, if_pos e5, ix_nat, List.getElem?_eq_getElem hlt', bind_some', bx q2, bx (cat_big (by simp; omega)), bx (cat_big (by simp; omega)), bx (app_ok (by simp; omega)), w1, y2 _ (by simp; omega)]
      simp
  · obtain rfl : i = kids.length := by omega
    refine ⟨[], by simp, by simp [tot], fun k hk' => ⟨fun w hw => ?_, fun v hv => ?_⟩⟩
    · rw [spec_l4Text.l0, hT, if_neg (kids_end kids)]
      cases kids <;> simp [jz, jt]
    · rw [impl_braced.l0, hT, if_neg (kids_end kids)]; simp
/-- the pieces of a list -/
theorem braced_list (kids : List Tr) (T : Node) (hT : T.Kids = Tr.nos kids) (hl : Tr.sizes kids ≤ 2000000) (h5 : T.Kind ≠ 5)
    (ih : ∀ t ∈ kids, ∃ r, (∀ k, Tr.deep t ≤ k → spec_l4Text_n k (Tr.no t) = some r ∧ impl_braced_n k (Tr.no t) = some r) ∧ bigText t r) :
    ∀ i, i ≤ kids.length → ∃ ps : List Str, ps.length = kids.length - i ∧ tot ps + ps.length * 2097149 ≤ Tr.sizes (kids.drop i) * 8388608 ∧ ∀ k, Tr.deeps kids ≤ k →
      (∀ w : Str, w.length + (tot ps + ps.length) ≤ 1125899906842624 → spec_l4Text.l1 (spec_l4Text_n k) T w i = some (w ++ jz i ps)) ∧
      (∀ v : List Str, v.length = i → impl_braced.l0 (impl_braced_n k) T i v = some (v ++ ps)) := by
  have hn := len_sizes kids
  refine down _ fun i hi ih2 => ?_
  by_cases hlt : i < kids.length
  · have c3 : decide ((i : Int) < ((Tr.nos kids).length : Int)) = true := by rw [Tr.nos_len]; simpa using hlt
    have hm : kids[i] ∈ kids := List.getElem_mem hlt
    have hd := Tr.deeps_le kids _ hm
    have e5 : ¬ (T.Kind == 5) = true := by simpa using h5
    obtain ⟨r, hr, hb⟩ := ih _ hm
    obtain ⟨ps, p1, p2, p3⟩ := ih2 hlt
    have hs := sizes_drop kids i hlt
    have hsz := Tr.size_le kids _ hm
    unfold bigText at hb
    have w1 : IntKind.i64.wrap ((i : Int) + 1) = ((i + 1 : Nat) : Int) := w64_succ (by omega)
    refine ⟨r :: ps, by simp; omega, ?_, fun k hk' => ?_⟩
    · simp only [tot, List.length_cons]
      omega
    obtain ⟨x1, x2⟩ := hr k (by omega)
    obtain ⟨y1, y2⟩ := p3 k hk'
    constructor
    · intro w hw
      simp only [tot, List.length_cons] at hw
      rw [spec_l4Text.l1, hT, if_pos c3]
      cases i with
      | zero =>
        rw [if_neg (by simp)]
        rw [if_neg e5, kid kids 0 hlt, bx x1, bx (cat_big (by omega)), w1, y1 _ (by simp; omega)]
        simp [jz]
      | succ i =>
        rw [if_pos (by simp), bx (cat_big (by simp; omega))]
        rw [if_neg e5, kid kids (i + 1) hlt, bx x1, bx (cat_big (by simp; omega)), w1, y1 _ (by simp; omega)]
        simp [jz, jt]
    · intro v hv
      rw [impl_braced.l0, hT, if_pos c3, kid kids i hlt, bx x2, if_neg e5, bx (app_ok (by simp; omega)), w1, y2 _ (by simp; omega)]
      simp
  · obtain rfl : i = kids.length := by omega
    refine ⟨[], by simp, by simp [tot], fun k hk' => ⟨fun w hw => ?_, fun v hv => ?_⟩⟩
    · rw [spec_l4Text.l1, hT, if_neg (kids_end kids)]
      cases kids <;> simp [jz, jt]
    · rw [impl_braced.l0, hT, if_neg (kids_end kids)]; simp
theorem braced_same : ∀ t : Tr, Tr.Sm t → Tr.Ok t → Tr.Kd t → Tr.size t ≤ 2000000 → ∃ r, (∀ k, Tr.deep t ≤ k → spec_l4Text_n k (Tr.no t) = some r ∧ impl_braced_n k (Tr.no t) = some r) ∧ bigText t r := by
  refine Tr.ind fun kd n s ks kids ih hsm hok hkd hz => ?_
  cases hsm with
  | mk s1 s2 s3 s4 =>
  cases hok with
  | mk o1 o2 o3 o4 o5 o6 =>
  cases hkd with
  | mk d1 d2 d3 =>
  have hzz : Tr.size (.mk kd n s ks kids) = Tr.sizes kids + 1 := by rw [Tr.size]
  have hn := len_sizes kids
  have ih' : ∀ t ∈ kids, ∃ r, (∀ k, Tr.deep t ≤ k → spec_l4Text_n k (Tr.no t) = some r ∧ impl_braced_n k (Tr.no t) = some r) ∧ bigText t r := fun t ht => ih t ht (s4 t ht) (o6 t ht) (d3 t ht) (by have := Tr.size_le kids t ht; omega)
  have hT : Tr.no (.mk kd n s ks kids) = Node.mk kd n s ks (Tr.nos kids) := by rw [Tr.no]
  have main : ∃ r, (∀ k, Tr.deeps kids ≤ k → spec_l4Text_F (spec_l4Text_n k) (Node.mk kd n s ks (Tr.nos kids)) = some r ∧ impl_braced_F (impl_braced_n k) (Node.mk kd n s ks (Tr.nos kids)) = some r) ∧ bigText (.mk kd n s ks kids) r := by
    unfold bigText
    rw [hzz]
    by_cases k0 : (kd == 0) = true
    · refine ⟨[110, 117, 108, 108], fun k hk => ⟨?_, ?_⟩, ?_⟩
      · unfold spec_l4Text_F; dsimp only; rw [if_pos k0]
      · unfold impl_braced_F; dsimp only; rw [if_pos k0]
      · simp; omega
    by_cases k1 : (kd == 1) = true
    · by_cases n1 : (n == 1) = true
      · refine ⟨[116, 114, 117, 101], fun k hk => ⟨?_, ?_⟩, ?_⟩
        · unfold spec_l4Text_F; dsimp only; rw [if_neg k0, if_pos k1, if_pos n1]
        · unfold impl_braced_F; dsimp only; rw [if_neg k0, if_pos k1, if_pos n1]
        · simp; omega
      · refine ⟨[102, 97, 108, 115, 101], fun k hk => ⟨?_, ?_⟩, ?_⟩
        · unfold spec_l4Text_F; dsimp only; rw [if_neg k0, if_pos k1, if_neg n1]
        · unfold impl_braced_F; dsimp only; rw [if_neg k0, if_pos k1, if_neg n1]
        · simp; omega
    by_cases k2 : (kd == 2) = true
    · refine ⟨digV n, fun k hk => ⟨?_, ?_⟩, ?_⟩
      · unfold spec_l4Text_F; dsimp only; rw [if_neg k0, if_neg k1, if_pos k2, bx (sDigits n o2)]
      · unfold impl_braced_F; dsimp only; rw [if_neg k0, if_neg k1, if_pos k2, bx (iDigits n o2)]
      · have := digV_len n o2; omega
    by_cases k3 : (kd == 3) = true
    · obtain ⟨q, q1, q2, q3⟩ := quote_same s s1
      refine ⟨q, fun k hk => ⟨?_, ?_⟩, ?_⟩
      · unfold spec_l4Text_F; dsimp only; rw [if_neg k0, if_neg k1, if_neg k2, if_pos k3, bx q1]
      · unfold impl_braced_F; dsimp only; rw [if_neg k0, if_neg k1, if_neg k2, if_pos k3, bx q2]
      · omega
    by_cases k5 : kd = 5
    · have e5 : (kd == 5) = true := by simpa using k5
      obtain ⟨ps, p1, p2, p3⟩ := braced_map kids (Node.mk kd n s ks (Tr.nos kids)) rfl (by omega) s2 k5 (d1 k5) ih' 0 (by omega)
      have hj := jz_len ps
      rw [List.drop_zero] at p2
      refine ⟨[123] ++ jz 0 ps ++ [125], fun k hk => ?_, ?_⟩
      · obtain ⟨y1, y2⟩ := p3 k hk
        have y1' := y1 [123] (by simp; omega)
        have y2' := y2 [] rfl
        simp only [Int.natCast_zero] at y1' y2'
        constructor
        · unfold spec_l4Text_F; dsimp only; rw [if_neg k0, if_neg k1, if_neg k2, if_neg k3, if_pos e5, bx y1', bx (cat_big (by simp; omega))]
        · unfold impl_braced_F; dsimp only; rw [if_neg k0, if_neg k1, if_neg k2, if_neg k3, bx y2', if_pos e5, List.nil_append]
          unfold strings_Join
          rw [bx (join_ok (by omega)), bx (cat_big (by simp; omega)), bx (cat_big (by simp; omega))]
      · simp; omega
    · have e5 : ¬ (kd == 5) = true := by simpa using k5
      obtain ⟨ps, p1, p2, p3⟩ := braced_list kids (Node.mk kd n s ks (Tr.nos kids)) rfl (by omega) k5 ih' 0 (by omega)
      have hj := jz_len ps
      rw [List.drop_zero] at p2
      refine ⟨[91] ++ jz 0 ps ++ [93], fun k hk => ?_, ?_⟩
      · obtain ⟨y1, y2⟩ := p3 k hk
        have y1' := y1 [91] (by simp; omega)
        have y2' := y2 [] rfl
        simp only [Int.natCast_zero] at y1' y2'
        constructor
        · unfold spec_l4Text_F; dsimp only; rw [if_neg k0, if_neg k1, if_neg k2, if_neg k3, if_neg e5, bx y1', bx (cat_big (by simp; omega))]
        · unfold impl_braced_F; dsimp only; rw [if_neg k0, if_neg k1, if_neg k2, if_neg k3, bx y2', if_neg e5, List.nil_append]
          unfold strings_Join
          rw [bx (join_ok (by omega)), bx (cat_big (by simp; omega)), bx (cat_big (by simp; omega))]
      · simp; omega
  obtain ⟨r, hr, hb⟩ := main
  refine ⟨r, fun k hk' => ?_, hb⟩
  obtain ⟨k1, e1, hk1⟩ := fuel1 rfl hk'
  subst e1
  rw [hT]
  exact hr k1 hk1
theorem size_pos : ∀ t : Tr, 1 ≤ Tr.size t
  | .mk _ _ _ _ _ => by rw [Tr.size]; omega
theorem both_braced (t : Tr) (h1 : Tr.Sm t) (h2 : Tr.Ok t) (hz : Tr.size t ≤ 2000000) : ∃ r, spec_Braced (Tr.no t) = some r ∧ impl_Braced (Tr.no t) = some r ∧ r.length ≤ Tr.size t * 8388608 := by
  obtain ⟨x, x1, x2, x3⟩ := tree_same t h1 hz
  unfold spec_Braced impl_Braced
  rw [bx x1, bx x2]
  cases x with
  | false => exact ⟨[], rfl, rfl, by simp⟩
  | true =>
    obtain ⟨r, hr, hb⟩ := braced_same t h1 h2 (x3 rfl) hz
    have e1 : spec_l4Text (Tr.no t) = some r := Nt.lim_of _ fun k hk => (hr k hk).1
    have e2 : impl_braced (Tr.no t) = some r := Nt.lim_of _ fun k hk => (hr k hk).2
    unfold bigText at hb
    refine ⟨r, ?_, ?_, by omega⟩
    · rw [if_neg (by decide), bx e1]
    · rw [if_neg (by decide), bx e2]
theorem both_inline (t : Tr) (h1 : Tr.Sm t) (h2 : Tr.Ok t) (hz : Tr.size t ≤ 2000000) : ∃ r, spec_Inline (Tr.no t) = some r ∧ impl_Inline (Tr.no t) = some r ∧ r.length ≤ Tr.size t * 8388608 := by
  obtain ⟨r, r1, r2, r3⟩ := both_braced t h1 h2 hz
  have hp := size_pos t
  have hS : smS (Tr.no t).S := by cases h1; rw [Tr.no]; assumption
  unfold spec_Inline impl_Inline
  by_cases k3 : ((Tr.no t).Kind == 3) = true
  · obtain ⟨x, x1, x2, x3⟩ := tree_same t h1 hz
    obtain ⟨p, p1, p2⟩ := plainOk_same (Tr.no t).S hS
    unfold smS at hS
    rw [if_pos k3, if_pos k3, bx x1, bx p2]
    cases x with
    | false =>
      rw [if_neg Bool.false_ne_true, bx r1]
      cases p with
      | false => rw [if_neg Bool.false_ne_true, bx r2]; exact ⟨r, rfl, rfl, r3⟩
      | true => rw [if_pos rfl, bx x2, if_neg Bool.false_ne_true, bx r2]; exact ⟨r, rfl, rfl, r3⟩
    | true =>
      rw [if_pos rfl, bx p1]
      cases p with
      | false => rw [if_neg Bool.false_ne_true, if_neg Bool.false_ne_true, bx r1, bx r2]; exact ⟨r, rfl, rfl, r3⟩
      | true => rw [if_pos rfl, if_pos rfl, bx x2, if_pos rfl]; exact ⟨_, rfl, rfl, by omega⟩
  · rw [if_neg k3, if_neg k3, bx r1, bx r2]; exact ⟨r, rfl, rfl, r3⟩
theorem block_kd (t : Tr) (h : Tr.Kd t) : spec_l5Block (Tr.no t) = some (decide (((Tr.no t).Kids.length : Int) > 0)) := by
  cases h with
  | @mk kd n s ks kids h5 h0 h =>
  rw [Tr.no]
  unfold spec_l5Block
  dsimp only
  by_cases k4 : kd = 4
  · rw [if_pos (by simpa using k4)]
  · rw [if_neg (by simpa using k4)]
    by_cases k5 : kd = 5
    · rw [if_pos (by simpa using k5)]
    · rw [if_neg (by simpa using k5), h0 k4 k5]; rfl
theorem indent_kids (kids : List Tr) (T : Node) (b : Nat) (B : Str) (hT : T.Kids = Tr.nos kids) (hl : Tr.sizes kids ≤ 2000000) (hk : smL smS T.Keys) (hk45 : T.Kind = 4 ∨ T.Kind = 5) (hlen : T.Kind = 5 → T.Keys.length = kids.length)
    (hb : b + 2 ≤ 4194304) (hB : B.length = b) (hrep : strings_Repeat [32] (b : Int) = some B)
    (hgd : ∀ t ∈ kids, Tr.Sm t ∧ Tr.Ok t ∧ Tr.Kd t)
    (ih : ∀ t ∈ kids, 0 < (Tr.no t).Kids.length → ∃ r, (∀ k, Tr.deep t ≤ k → spec_l5Write_n k (Tr.no t) (B ++ [32, 32]) = some r ∧ impl_indented_n k (Tr.no t) ((b + 2 : Nat) : Int) = some r) ∧ r.length + 16777216 ≤ Tr.size t * 33554432) :
    ∀ i, i ≤ kids.length → ∃ u : Str, u.length ≤ Tr.sizes (kids.drop i) * 33554432 ∧ ∀ k, Tr.deeps kids ≤ k →
      (∀ w : Str, w.length + u.length ≤ 1125899906842624 → spec_l5Write.l0 (spec_l5Write_n k) T B w i = some (w ++ u)) ∧
      (∀ w : Str, w.length + u.length ≤ 1125899906842624 → impl_indented.l0 (impl_indented_n k) T (b : Int) w i = some (w ++ u)) := by
  have hn := len_sizes kids
  refine down _ fun i hi ih2 => ?_
  by_cases hlt : i < kids.length
  · have c3 : decide ((i : Int) < ((Tr.nos kids).length : Int)) = true := by rw [Tr.nos_len]; simpa using hlt
    have hm : kids[i] ∈ kids := List.getElem_mem hlt
    have hd := Tr.deeps_le kids _ hm
    have hs := sizes_drop kids i hlt
    have hsz := Tr.size_le kids _ hm
    have hsp := size_pos kids[i]
    obtain ⟨g1, g2, g3⟩ := hgd _ hm
    obtain ⟨u, u1, p3⟩ := ih2 hlt
    have hblk := block_kd _ g3
    have w1 : IntKind.i64.wrap ((i : Int) + 1) = ((i + 1 : Nat) : Int) := w64_succ (by omega)
    have w2 : IntKind.i64.wrap ((b : Int) + 2) = ((b + 2 : Nat) : Int) := by rw [w64_id (by omega) (by omega)]; omega
    by_cases hkk : 0 < (Tr.no kids[i]).Kids.length
    · have hpos : decide (((Tr.no kids[i]).Kids.length : Int) > 0) = true := decide_eq_true (by omega)
      obtain ⟨r, hr, hrl⟩ := ih _ hm hkk
      rcases hk45 with h4 | h5
      · have e4 : (T.Kind == 4) = true := by simpa using h4
        have e5 : ¬ (T.Kind == 5) = true := by simp [h4]
        refine ⟨B ++ [45] ++ ([10] ++ r) ++ u, by simp only [List.length_append, List.length_cons, List.length_nil]; omega, fun k hk' => ?_⟩
        obtain ⟨y1, y2⟩ := p3 k hk'
        obtain ⟨x1, x2⟩ := hr k (by omega)
        constructor
        · intro w hw
          simp only [List.length_append, List.length_cons, List.length_nil] at hw
          have z1 := y1
          rw [spec_l5Write.l0, hT, if_pos c3, if_neg e5, bx (cat_big (by first | omega | (simp; omega))), bx (cat_big (by simp; omega)), kid kids i hlt, bx hblk, if_pos hpos, bx (cat_big (by simp; omega)), kid kids i hlt, bx (cat_big (by simp; omega)), bx x1, bx (cat_big (by simp; omega)), w1, z1 _ (by simp; omega)]
          simp
        · intro w hw
          simp only [List.length_append, List.length_cons, List.length_nil] at hw
          have z2 := y2
          rw [impl_indented.l0, hT, if_pos c3, kid kids i hlt, bx hrep, bx (cat_big (by first | omega | (simp; omega))), if_pos e4, bx (cat_big (by simp; omega)), if_pos hpos, w2, bx x2, bx (cat_big (by simp; omega)), bx (cat_big (by simp; omega)), w1, z2 _ (by simp; omega)]
          simp
      · have e4 : ¬ (T.Kind == 4) = true := by simp [h5]
        have e5 : (T.Kind == 5) = true := by simpa using h5
        have hlt' : i < T.Keys.length := by rw [hlen h5]; exact hlt
        have hks := hk.2 _ (List.getElem_mem hlt')
        obtain ⟨q, q1, q2, q3⟩ := quote_same T.Keys[i] hks
        obtain ⟨p, p1', p2'⟩ := plainOk_same T.Keys[i] hks
        unfold smS at hks
        cases p with
        | true =>
          refine ⟨B ++ (T.Keys[i] ++ [58]) ++ ([10] ++ r) ++ u, by simp only [List.length_append, List.length_cons, List.length_nil]; omega, fun k hk' => ?_⟩
          obtain ⟨y1, y2⟩ := p3 k hk'
          obtain ⟨x1, x2⟩ := hr k (by omega)
          constructor
          · intro w hw
            simp only [List.length_append, List.length_cons, List.length_nil] at hw
            have z1 := y1
            rw [spec_l5Write.l0, hT, if_pos c3, if_pos e5, ix_nat, List.getElem?_eq_getElem hlt', bind_some', bx q1, bx (cat_big (by first | omega | (simp; omega))), bind_some', bx p1', if_pos rfl, bind_some', bx (cat_big (by first | omega | (simp; omega))), bx (cat_big (by first | omega | (simp; omega))), bx (cat_big (by simp; omega)), kid kids i hlt, bx hblk, if_pos hpos, bx (cat_big (by simp; omega)), kid kids i hlt, bx (cat_big (by simp; omega)), bx x1, bx (cat_big (by simp; omega)), w1, z1 _ (by simp; omega)]
            simp
          · intro w hw
            simp only [List.length_append, List.length_cons, List.length_nil] at hw
            have z2 := y2
            rw [impl_indented.l0, hT, if_pos c3, kid kids i hlt, bx hrep, bx (cat_big (by first | omega | (simp; omega))), if_neg e4, ix_nat, List.getElem?_eq_getElem hlt', bind_some', bx p2', if_pos rfl, bind_some', bx (cat_big (by first | omega | (simp; omega))), bx (cat_big (by simp; omega)), if_pos hpos, w2, bx x2, bx (cat_big (by simp; omega)), bx (cat_big (by simp; omega)), w1, z2 _ (by simp; omega)]
            simp
        | false =>
          refine ⟨B ++ (q ++ [58]) ++ ([10] ++ r) ++ u, by simp only [List.length_append, List.length_cons, List.length_nil]; omega, fun k hk' => ?_⟩
          obtain ⟨y1, y2⟩ := p3 k hk'
          obtain ⟨x1, x2⟩ := hr k (by omega)
          constructor
          · intro w hw
            simp only [List.length_append, List.length_cons, List.length_nil] at hw
            have z1 := y1
            rw [spec_l5Write.l0, hT, if_pos c3, if_pos e5, ix_nat, List.getElem?_eq_getElem hlt', bind_some', bx q1, bx (cat_big (by first | omega | (simp; omega))), bind_some', bx p1', if_neg Bool.false_ne_true, bx (cat_big (by first | omega | (simp; omega))), bx (cat_big (by simp; omega)), kid kids i hlt, bx hblk, if_pos hpos, bx (cat_big (by simp; omega)), kid kids i hlt, bx (cat_big (by simp; omega)), bx x1, bx (cat_big (by simp; omega)), w1, z1 _ (by simp; omega)]
            simp
          · intro w hw
            simp only [List.length_append, List.length_cons, List.length_nil] at hw
            have z2 := y2
            rw [impl_indented.l0, hT, if_pos c3, kid kids i hlt, bx hrep, bx (cat_big (by first | omega | (simp; omega))), if_neg e4, ix_nat, List.getElem?_eq_getElem hlt', bind_some', bx p2', if_neg Bool.false_ne_true, bind_some', bx q2, bx (cat_big (by first | omega | (simp; omega))), bx (cat_big (by simp; omega)), if_pos hpos, w2, bx x2, bx (cat_big (by simp; omega)), bx (cat_big (by simp; omega)), w1, z2 _ (by simp; omega)]
            simp
    · have hpos : ¬ decide (((Tr.no kids[i]).Kids.length : Int) > 0) = true := by simpa using hkk
      obtain ⟨r, x1, x2, hrl⟩ := both_inline kids[i] g1 g2 (by omega)
      rcases hk45 with h4 | h5
      · have e4 : (T.Kind == 4) = true := by simpa using h4
        have e5 : ¬ (T.Kind == 5) = true := by simp [h4]
        refine ⟨B ++ [45] ++ ([32] ++ r ++ [10]) ++ u, by simp only [List.length_append, List.length_cons, List.length_nil]; omega, fun k hk' => ?_⟩
        obtain ⟨y1, y2⟩ := p3 k hk'
        constructor
        · intro w hw
          simp only [List.length_append, List.length_cons, List.length_nil] at hw
          have z1 := y1
          rw [spec_l5Write.l0, hT, if_pos c3, if_neg e5, bx (cat_big (by first | omega | (simp; omega))), bx (cat_big (by simp; omega)), kid kids i hlt, bx hblk, if_neg hpos, bx (cat_big (by simp; omega)), kid kids i hlt, bx x1, bx (cat_big (by simp; omega)), bx (cat_big (by simp; omega)), w1, z1 _ (by simp; omega)]
          simp
        · intro w hw
          simp only [List.length_append, List.length_cons, List.length_nil] at hw
          have z2 := y2
          rw [impl_indented.l0, hT, if_pos c3, kid kids i hlt, bx hrep, bx (cat_big (by first | omega | (simp; omega))), if_pos e4, bx (cat_big (by simp; omega)), if_neg hpos, bx x2, bx (cat_big (by simp; omega)), bx (cat_big (by simp; omega)), bx (cat_big (by simp; omega)), w1, z2 _ (by simp; omega)]
          simp
      · have e4 : ¬ (T.Kind == 4) = true := by simp [h5]
        have e5 : (T.Kind == 5) = true := by simpa using h5
        have hlt' : i < T.Keys.length := by rw [hlen h5]; exact hlt
        have hks := hk.2 _ (List.getElem_mem hlt')
        obtain ⟨q, q1, q2, q3⟩ := quote_same T.Keys[i] hks
        obtain ⟨p, p1', p2'⟩ := plainOk_same T.Keys[i] hks
        unfold smS at hks
        cases p with
        | true =>
          refine ⟨B ++ (T.Keys[i] ++ [58]) ++ ([32] ++ r ++ [10]) ++ u, by simp only [List.length_append, List.length_cons, List.length_nil]; omega, fun k hk' => ?_⟩
          obtain ⟨y1, y2⟩ := p3 k hk'
          constructor
          · intro w hw
            simp only [List.length_append, List.length_cons, List.length_nil] at hw
            have z1 := y1
            rw [spec_l5Write.l0, hT, if_pos c3, if_pos e5, ix_nat, List.getElem?_eq_getElem hlt', bind_some', bx q1, bx (cat_big (by first | omega | (simp; omega))), bind_some', bx p1', if_pos rfl, bind_some', bx (cat_big (by first | omega | (simp; omega))), bx (cat_big (by first | omega | (simp; omega))), bx (cat_big (by simp; omega)), kid kids i hlt, bx hblk, if_neg hpos, bx (cat_big (by simp; omega)), kid kids i hlt, bx x1, bx (cat_big (by simp; omega)), bx (cat_big (by simp; omega)), w1, z1 _ (by simp; omega)]
            simp
          · intro w hw
            simp only [List.length_append, List.length_cons, List.length_nil] at hw
            have z2 := y2
            rw [impl_indented.l0, hT, if_pos c3, kid kids i hlt, bx hrep, bx (cat_big (by first | omega | (simp; omega))), if_neg e4, ix_nat, List.getElem?_eq_getElem hlt', bind_some', bx p2', if_pos rfl, bind_some', bx (cat_big (by first | omega | (simp; omega))), bx (cat_big (by simp; omega)), if_neg hpos, bx x2, bx (cat_big (by simp; omega)), bx (cat_big (by simp; omega)), bx (cat_big (by simp; omega)), w1, z2 _ (by simp; omega)]
            simp
        | false =>
          refine ⟨B ++ (q ++ [58]) ++ ([32] ++ r ++ [10]) ++ u, by simp only [List.length_append, List.length_cons, List.length_nil]; omega, fun k hk' => ?_⟩
          obtain ⟨y1, y2⟩ := p3 k hk'
          constructor
          · intro w hw
            simp only [List.length_append, List.length_cons, List.length_nil] at hw
            have z1 := y1
            rw [spec_l5Write.l0, hT, if_pos c3, if_pos e5, ix_nat, List.getElem?_eq_getElem hlt', bind_some', bx q1, bx (cat_big (by first | omega | (simp; omega))), bind_some', bx p1', if_neg Bool.false_ne_true, bx (cat_big (by first | omega | (simp; omega))), bx (cat_big (by simp; omega)), kid kids i hlt, bx hblk, if_neg hpos, bx (cat_big (by simp; omega)), kid kids i hlt, bx x1, bx (cat_big (by simp; omega)), bx (cat_big (by simp; omega)), w1, z1 _ (by simp; omega)]
            simp
          · intro w hw
            simp only [List.length_append, List.length_cons, List.length_nil] at hw
            have z2 := y2
            rw [impl_indented.l0, hT, if_pos c3, kid kids i hlt, bx hrep, bx (cat_big (by first | omega | (simp; omega))), if_neg e4, ix_nat, List.getElem?_eq_getElem hlt', bind_some', bx p2', if_neg Bool.false_ne_true, bind_some', bx q2, bx (cat_big (by first | omega | (simp; omega))), bx (cat_big (by simp; omega)), if_neg hpos, bx x2, bx (cat_big (by simp; omega)), bx (cat_big (by simp; omega)), bx (cat_big (by simp; omega)), w1, z2 _ (by simp; omega)]
            simp
  · obtain rfl : i = kids.length := by omega
    refine ⟨[], by simp, fun k hk' => ⟨fun w hw => ?_, fun w hw => ?_⟩⟩
    · rw [spec_l5Write.l0, hT, if_neg (kids_end kids)]; simp
    · rw [impl_indented.l0, hT, if_neg (kids_end kids)]; simp
theorem reps_len : ∀ b : Nat, (reps [32] b).length = b
  | 0 => rfl
  | b + 1 => by rw [reps, List.length_append, reps_len b]; simp; omega
theorem reps_two : ∀ b : Nat, reps [32] b ++ [32, 32] = reps [32] (b + 2)
  | 0 => rfl
  | b + 1 => by rw [reps, List.append_assoc, reps_two b]; rfl
theorem repeat_ok (b : Nat) (h : b ≤ 4194304) : strings_Repeat [32] (b : Int) = some (reps [32] b) := by
  unfold strings_Repeat Nt.repeats
  rw [if_pos (by simp; omega)]; simp
theorem indent_same : ∀ t : Tr, Tr.Sm t → Tr.Ok t → Tr.Kd t → Tr.size t ≤ 2000000 → 0 < (Tr.no t).Kids.length → ∀ b : Nat, b + 2 * Tr.deep t ≤ 4194304 → ∃ r, (∀ k, Tr.deep t ≤ k → spec_l5Write_n k (Tr.no t) (reps [32] b) = some r ∧ impl_indented_n k (Tr.no t) (b : Int) = some r) ∧ r.length + 16777216 ≤ Tr.size t * 33554432 := by
  refine Tr.ind fun kd n s ks kids ih hsm hok hkd hz hkk b hb => ?_
  cases hsm with
  | mk s1 s2 s3 s4 =>
  cases hok with
  | mk o1 o2 o3 o4 o5 o6 =>
  cases hkd with
  | mk d1 d2 d3 =>
  have hzz : Tr.size (.mk kd n s ks kids) = Tr.sizes kids + 1 := by rw [Tr.size]
  have hdd : Tr.deep (.mk kd n s ks kids) = Tr.deeps kids + 1 := by rw [Tr.deep]
  rw [no_kids, Tr.nos_len] at hkk
  have hT : Tr.no (.mk kd n s ks kids) = Node.mk kd n s ks (Tr.nos kids) := by rw [Tr.no]
  have hk45 : kd = 4 ∨ kd = 5 := by
    by_cases k4 : kd = 4
    · exact .inl k4
    · by_cases k5 : kd = 5
      · exact .inr k5
      · rw [d2 k4 k5] at hkk; simp at hkk
  obtain ⟨u, u1, u2⟩ := indent_kids kids (Node.mk kd n s ks (Tr.nos kids)) b (reps [32] b) rfl (by omega) s2 hk45 d1 (by omega) (reps_len b) (repeat_ok b (by omega)) (fun t ht => ⟨s4 t ht, o6 t ht, d3 t ht⟩) (fun t ht htk => by
    rw [reps_two]
    have h1 := Tr.size_le kids t ht
    have h2 := Tr.deeps_le kids t ht
    exact ih t ht (s4 t ht) (o6 t ht) (d3 t ht) (by omega) htk (b + 2) (by omega)) 0 (by omega)
  rw [List.drop_zero] at u1
  refine ⟨u, fun k hk' => ?_, by omega⟩
  obtain ⟨k1, e1, hk1⟩ := fuel1 rfl hk'
  subst e1
  obtain ⟨y1, y2⟩ := u2 k1 hk1
  have y1' := y1 [] (by simp; omega)
  have y2' := y2 [] (by simp; omega)
  simp only [Int.natCast_zero, List.nil_append] at y1' y2'
  rw [hT]
  show spec_l5Write_F (spec_l5Write_n k1) _ _ = _ ∧ impl_indented_F (impl_indented_n k1) _ _ = _
  unfold spec_l5Write_F impl_indented_F
  constructor
  · rw [bx y1']
  · rw [if_neg (by simp [Tr.nos_len]; intro h; rw [h] at hkk; simp at hkk), bx y2']
theorem both_indented (t : Tr) (h1 : Tr.Sm t) (h2 : Tr.Ok t) (hz : Tr.size t ≤ 2000000) : ∃ r, spec_Indented (Tr.no t) = some r ∧ impl_Indented (Tr.no t) = some r := by
  obtain ⟨x, x1, x2, x3⟩ := tree_same t h1 hz
  unfold spec_Indented impl_Indented
  rw [bx x1, bx x2]
  cases x with
  | false => exact ⟨[], rfl, rfl⟩
  | true =>
    have hkd := x3 rfl
    have hblk := block_kd t hkd
    rw [if_neg (by decide), if_neg (by decide), bx hblk]
    by_cases hkk : 0 < (Tr.no t).Kids.length
    · have hpos : decide (((Tr.no t).Kids.length : Int) > 0) = true := decide_eq_true (by omega)
      have hds := Tr.deep_size t
      obtain ⟨r, hr, hb⟩ := indent_same t h1 h2 hkd hz hkk 0 (by omega)
      have e1 : spec_l5Write (Tr.no t) [] = some r := Nt.lim_of _ fun k hk => (hr k hk).1
      have e2 : impl_indented (Tr.no t) 0 = some r := Nt.lim_of _ fun k hk => (hr k hk).2
      rw [if_pos hpos, bx e1, bx e2]
      exact ⟨r, rfl, rfl⟩
    · have hpos : ¬ decide (((Tr.no t).Kids.length : Int) > 0) = true := by simpa using hkk
      obtain ⟨r, r1, r2, r3⟩ := both_inline t h1 h2 hz
      have e2 : impl_indented (Tr.no t) 0 = some (r ++ [10]) := Nt.lim_of 1 fun k hk => by
        obtain ⟨k, rfl⟩ : ∃ k', k = k' + 1 := ⟨k - 1, by omega⟩
        show impl_indented_F (impl_indented_n k) _ _ = _
        unfold impl_indented_F
        rw [if_pos (by simp; simpa using hkk), bx r2, bx (cat_big (by simp; omega))]
      rw [if_neg hpos, bx r1, bx e2, bx (cat_big (by simp; omega))]
      exact ⟨_, rfl, rfl⟩
theorem Pure.FnExactSaid (f : Int) (a : Node) (hf : okI f) (ha : Node.ok a) : laws_FnExactSaid f a = some true := by
  obtain ⟨d, hd⟩ := ha
  obtain ⟨t, rfl⟩ := tr_of d a hd
  have hok := tr_ok t d hd
  obtain ⟨r, e, hle, hr⟩ := szNode_sp t hok 1048576 (by omega) (by omega)
  have e' : laws_szNode (Tr.no t) 1048576 = some r := Nt.lim_of _ e
  unfold laws_FnExactSaid
  rw [bx e']
  rcases hr with hr | ⟨hs, hz⟩
  · rw [if_pos (by simpa using hr)]
  · by_cases h0 : decide (r < 0) = true
    · rw [if_pos h0]
    rw [if_neg h0]
    simp at h0
    have t1 : laws_toNode (Tr.no t) = some (Tr.no t) := Nt.lim_of _ (toNode_some t hs)
    have t2 : laws_eqNode (Tr.no t) (Tr.no t) = some true := Nt.lim_of _ (eqNode_self t hs)
    have same : ∃ x, spec_Said f (Tr.no t) = some x ∧ impl_Said f (Tr.no t) = some x := by
      obtain ⟨r1, a1, a2, _⟩ := both_braced t hs hok (by omega)
      obtain ⟨r2, b1, b2⟩ := both_indented t hs hok (by omega)
      unfold spec_Said impl_Said
      by_cases f0 : (f == 0) = true
      · rw [if_pos f0, if_pos f0, bx a1, bx a2]; exact ⟨_, rfl, rfl⟩
      · rw [if_neg f0, if_neg f0]
        by_cases f1 : (f == 1) = true
        · rw [if_pos f1, if_pos f1, bx b1, bx b2]; exact ⟨_, rfl, rfl⟩
        · rw [if_neg f1, if_neg f1]; exact ⟨_, rfl, rfl⟩
    obtain ⟨x, x1, x2⟩ := same
    rw [bx t1, bx x1, bx t1, bx x2, if_neg (by simp), bx t1, bx t2]; rfl
end Go.Pu
