import Derived.Test.YtmdmbolhbjfcjaaAgreedPu
set_option linter.unusedVariables false
set_option linter.unusedSimpArgs false
set_option synthInstance.maxSize 1000000000
namespace Go.Pu
open Go.Nt
theorem w64_id {n : Int} (h0 : -9223372036854775808 ≤ n) (h1 : n ≤ 9223372036854775807) : IntKind.i64.wrap n = n := by
  simp only [IntKind.wrap, IntKind.bits, IntKind.signed, Bool.true_and]
  split
  · rename_i h; simp at h; omega
  · rename_i h; simp at h; omega
theorem w64_succ {i : Nat} (h : i < 9223372036854775807) : IntKind.i64.wrap ((i : Int) + 1) = ((i + 1 : Nat) : Int) := by
  rw [w64_id (by omega) (by omega)]; omega
theorem ix_nat {α : Type} (l : List α) (i : Nat) : ix l (i : Int) = l[i]? := by simp [ix]
theorem put_nat {α : Type} {l : List α} {i : Nat} {x : α} (h : i < l.length) : Nt.put l (i : Int) x = some (l.set i x) := by simp [Nt.put, h]
theorem app_ok {α : Type} {b : Nat} {l m : List α} (h : (l.length + m.length) * b ≤ 70368744177664) : app b l m = some (l ++ m) := by
  simp only [app]; rw [if_pos h]
theorem mk_ok {α : Type} {b n : Nat} {x : α} (h : b * n ≤ 140737488355328) : Nt.mk b (n : Int) x = some (List.replicate n x) := by
  simp only [Nt.mk]; rw [if_pos ⟨by omega, by exact_mod_cast h⟩]; simp
/-- down from the end -/
theorem down {P : Nat → Prop} (n : Nat) (h : ∀ i, i ≤ n → (i < n → P (i + 1)) → P i) : ∀ i, i ≤ n → P i := by
  intro i hi
  obtain ⟨k, hk⟩ : ∃ k, k = n - i := ⟨_, rfl⟩
  induction k generalizing i with
  | zero => exact h i hi fun hlt => by omega
  | succ k ih => exact h i hi fun hlt => ih (i + 1) hlt (by omega)
theorem bind_some' {α β : Type} (x : α) (f : α → Option β) : (some x >>= f) = f x := rfl
theorem set_step {α : Type} {a v : List α} {i : Nat} (h : i < a.length) (hv : i < v.length) : some ((v.set i a[i]).take (i + 1) ++ a.drop (i + 1)) = some (v.take i ++ a.drop i) := by
  rw [List.take_set, List.take_add_one, List.getElem?_eq_getElem hv, List.set_append_right _ _ (by simp; omega), List.drop_eq_getElem_cons h]
  have : i - min i v.length = 0 := by omega
  simp [this]
def smL {α : Type} (p : α → Prop) (l : List α) : Prop := l.length ≤ 1048576 ∧ ∀ x ∈ l, p x
def smS (s : Str) : Prop := s.length ≤ 1048576
inductive Tr where
  | mk (k n : Int) (s : Str) (ks : List Str) (kids : List Tr)
theorem Tr.ind {P : Tr → Prop} (h : ∀ k n s ks kids, (∀ t ∈ kids, P t) → P (.mk k n s ks kids)) : ∀ t, P t
  | .mk k n s ks kids => h k n s ks kids fun t ht => Tr.ind h t
  termination_by t => SizeOf.sizeOf t
  decreasing_by have := List.sizeOf_lt_of_mem ht; simp only [Tr.mk.sizeOf_spec]; omega
mutual
def Tr.no : Tr → Node
  | .mk k n s ks kids => Node.mk k n s ks (Tr.nos kids)
def Tr.nos : List Tr → List RNode
  | [] => []
  | t :: l => rN_Node (Tr.no t) :: Tr.nos l
end
mutual
def Tr.deep : Tr → Nat
  | .mk _ _ _ _ kids => Tr.deeps kids + 1
def Tr.deeps : List Tr → Nat
  | [] => 0
  | t :: l => max (Tr.deep t) (Tr.deeps l)
end
mutual
def Tr.size : Tr → Nat
  | .mk _ _ _ _ kids => Tr.sizes kids + 1
def Tr.sizes : List Tr → Nat
  | [] => 0
  | t :: l => Tr.size t + Tr.sizes l
end
theorem Tr.nos_map : ∀ l : List Tr, Tr.nos l = l.map fun t => rN_Node (Tr.no t)
  | [] => rfl
  | t :: l => by rw [Tr.nos, Tr.nos_map l]; rfl
theorem Tr.nos_len (l : List Tr) : (Tr.nos l).length = l.length := by rw [Tr.nos_map]; simp
theorem Tr.nos_get (l : List Tr) (i : Nat) (h : i < l.length) : (Tr.nos l)[i]? = some (rN_Node (Tr.no l[i])) := by rw [Tr.nos_map]; simp [h]
theorem Tr.deeps_le : ∀ (l : List Tr) (t : Tr), t ∈ l → Tr.deep t ≤ Tr.deeps l
  | a :: l, t, h => by
    rw [Tr.deeps]
    rcases List.mem_cons.1 h with rfl | h
    · omega
    · have := Tr.deeps_le l t h; omega
theorem Tr.deep_pos : ∀ t : Tr, 1 ≤ Tr.deep t
  | .mk _ _ _ _ _ => by rw [Tr.deep]; omega
theorem Tr.deep_size : ∀ t : Tr, Tr.deep t ≤ Tr.size t := Tr.ind fun k n s ks kids ih => by
  rw [Tr.deep, Tr.size]
  have : ∀ l : List Tr, (∀ t ∈ l, Tr.deep t ≤ Tr.size t) → Tr.deeps l ≤ Tr.sizes l := by
    intro l
    induction l with
    | nil => intro _; rw [Tr.deeps]; omega
    | cons a l ih =>
      intro h
      have h1 := h a (by simp)
      have h2 := ih fun t ht => h t (by simp [ht])
      rw [Tr.deeps, Tr.sizes]; omega
  have := this kids ih
  omega
/-- a kid, read -/
theorem kid {β : Type} (l : List Tr) (i : Nat) (h : i < l.length) (f : Node → Option β) : (ix (Tr.nos l) (i : Int) >>= fun x => dN_Node x >>= f) = f (Tr.no l[i]) := by
  rw [ix_nat, Tr.nos_get l i h]
  show (dN_Node (rN_Node (Tr.no l[i])) >>= f) = _
  rw [dN_Node_rN]; rfl
/-- right as to what Go's types hold -/
theorem tr_of : ∀ (d : Nat) (a : Node), Node.okd d a → ∃ t, a = Tr.no t
  | 0, _, h => h.elim
  | d + 1, a, ⟨_, _, _, _, _, h⟩ => by
    have key : ∀ l : List RNode, (∀ r ∈ l, ∃ y, r = rN_Node y ∧ Node.okd d y) → ∃ ts, l = Tr.nos ts := by
      intro l
      induction l with
      | nil => intro _; exact ⟨[], rfl⟩
      | cons r l ih =>
        intro h
        obtain ⟨ts, e⟩ := ih fun r hr => h r (by simp [hr])
        obtain ⟨y, e1, hy⟩ := h r (by simp)
        obtain ⟨t, e2⟩ := tr_of d y hy
        exact ⟨t :: ts, by rw [Tr.nos, ← e, ← e2, e1]⟩
    obtain ⟨ts, e⟩ := key a.Kids h
    exact ⟨.mk a.Kind a.N a.S a.Keys ts, by rw [Tr.no, ← e]⟩
inductive Tr.Ok : Tr → Prop
  | mk {k n s ks kids} : okI k → okI n → okS s → okL okS ks → kids.length ≤ 9223372036854775807 → (∀ t ∈ kids, Tr.Ok t) → Tr.Ok (.mk k n s ks kids)
theorem tr_ok : ∀ t : Tr, ∀ d, Node.okd d (Tr.no t) → Tr.Ok t := Tr.ind fun k n s ks kids ih d h => by
  cases d with
  | zero => exact h.elim
  | succ d =>
    rw [Tr.no] at h
    obtain ⟨h1, h2, h3, h4, h5, h6⟩ := h
    refine .mk h1 h2 h3 h4 (by simpa [Tr.nos_len] using h5) fun t ht => ?_
    obtain ⟨y, e, hy⟩ := h6 (rN_Node (Tr.no t)) (by show _ ∈ Tr.nos kids; rw [Tr.nos_map]; exact List.mem_map.2 ⟨t, ht, rfl⟩)
    exact ih t ht d (rN_Node_inj e ▸ hy)
/-- small -/
inductive Tr.Sm : Tr → Prop
  | mk {k n s ks kids} : smS s → smL smS ks → kids.length ≤ 1048576 → (∀ t ∈ kids, Tr.Sm t) → Tr.Sm (.mk k n s ks kids)
theorem szStringS_sp (a : List Str) (left : Int) (ha : okL okS a) (h0 : 0 ≤ left) (h1 : left ≤ 1048576) : ∃ r, laws_szStringS a left = some r ∧ r ≤ left ∧ (r < 0 ∨ smL smS a) := by
  have hl := ha.1
  simp only [laws_szStringS]
  rw [w64_id (n := left - _) (by omega) (by omega)]
  by_cases c : decide (left - (a.length : Int) < 0) = true
  · rw [if_pos c]; exact ⟨_, rfl, by omega, .inl (by omega)⟩
  · rw [if_neg c]; simp at c
    have key : ∀ i, i ≤ a.length → ∀ v : Int, 0 ≤ v → v ≤ left - (a.length : Int) → ∃ r, laws_szStringS.l0 a v i = some r ∧ (match r with | .inl r => r = -1 | .inr r => 0 ≤ r ∧ r ≤ v ∧ ∀ x ∈ a.drop i, smS x) := by
      refine down _ fun i hi ih v hv0 hv1 => ?_
      rw [laws_szStringS.l0]
      by_cases hlt : i < a.length
      · have c1 : decide ((i : Int) < (a.length : Int)) = true := by simpa using hlt
        have hx : okS a[i] := ha.2 _ (List.getElem_mem hlt)
        unfold okS at hx
        simp only [c1, if_true, ix_nat, List.getElem?_eq_getElem hlt, bind_some', w64_succ (show i < 9223372036854775807 by omega)]
        rw [w64_id (n := v - _) (by omega) (by omega)]
        by_cases c2 : decide (v - (a[i].length : Int) < 0) = true
        · rw [if_pos c2]; exact ⟨_, rfl, rfl⟩
        · rw [if_neg c2]; simp at c2
          obtain ⟨r, e, hr⟩ := ih hlt (v - (a[i].length : Int)) (by omega) (by omega)
          refine ⟨r, e, ?_⟩
          cases r with
          | inl r => exact hr
          | inr r =>
            refine ⟨hr.1, by have := hr.2.1; omega, fun x hx => ?_⟩
            rw [List.drop_eq_getElem_cons hlt] at hx
            rcases List.mem_cons.1 hx with rfl | hx
            · unfold smS; omega
            · exact hr.2.2 x hx
      · rw [if_neg (by simpa using hlt)]
        obtain rfl : i = a.length := by omega
        exact ⟨_, rfl, hv0, by omega, by simp⟩
    obtain ⟨r, e, hr⟩ := key 0 (by omega) _ (by omega) (Int.le_refl _)
    simp only [Int.natCast_zero] at e
    simp only [e, bind_some']
    cases r with
    | inl r => exact ⟨_, rfl, by have : r = -1 := hr; omega, .inl (by have : r = -1 := hr; omega)⟩
    | inr r => exact ⟨_, rfl, by have := hr.2.1; omega, .inr ⟨by omega, by simpa using hr.2.2⟩⟩
theorem szNode_sp : ∀ t : Tr, Tr.Ok t → ∀ left : Int, 0 ≤ left → left ≤ 1048576 → ∃ r, (∀ k, Tr.deep t ≤ k → laws_szNode_n k (Tr.no t) left = some r) ∧ r ≤ left ∧ (r < 0 ∨ (Tr.Sm t ∧ (Tr.size t : Int) ≤ left - r + 1)) := by
  refine Tr.ind fun kd n s ks kids ih hok left h0 h1 => ?_
  cases hok with
  | mk o1 o2 o3 o4 o5 o6 =>
  unfold okS at o3
  -- all but the fuel
  have main : ∃ r, (∀ k, Tr.deeps kids ≤ k → laws_szNode_F (laws_szNode_n k) (Tr.no (.mk kd n s ks kids)) left = some r) ∧ r ≤ left ∧ (r < 0 ∨ (Tr.Sm (.mk kd n s ks kids) ∧ (Tr.size (.mk kd n s ks kids) : Int) ≤ left - r + 1)) := by
    have e0 : IntKind.i64.wrap (left - (s.length : Int)) = left - (s.length : Int) := w64_id (by omega) (by omega)
    simp only [laws_szNode_F, Tr.no, e0]
    by_cases c : decide (left - (s.length : Int) < 0) = true
    · simp only [c, if_true]; exact ⟨_, fun _ _ => rfl, by omega, .inl (by omega)⟩
    · simp only [c]; simp at c
      obtain ⟨r1, e1, l1, s1⟩ := szStringS_sp ks (left - (s.length : Int)) o4 (by omega) (by omega)
      simp only [e1, bind_some', if_false, Bool.false_eq_true]
      by_cases c1 : decide (r1 < 0) = true
      · simp only [c1, if_true]; exact ⟨_, fun _ _ => rfl, by omega, .inl (by omega)⟩
      · simp only [c1]; simp at c1
        have s1 := s1.resolve_left (by omega)
        have e2 : IntKind.i64.wrap (r1 - (kids.length : Int)) = r1 - (kids.length : Int) := w64_id (by omega) (by omega)
        simp only [laws_szNodeS, Tr.nos_len, if_false, Bool.false_eq_true, e2]
        by_cases c2 : decide (r1 - (kids.length : Int) < 0) = true
        · simp only [c2, if_true, bind_some']
          exact ⟨-1, fun _ _ => rfl, by omega, .inl (by omega)⟩
        · simp only [c2]; simp at c2
          have key : ∀ i, i ≤ kids.length → ∀ v : Int, 0 ≤ v → v ≤ r1 - (kids.length : Int) → ∃ r, (∀ k, Tr.deeps kids ≤ k → laws_szNodeS.l0 (laws_szNode_n k) (Tr.nos kids) v i = some r) ∧ (match r with | .inl r => r = -1 | .inr r => 0 ≤ r ∧ r ≤ v ∧ (∀ x ∈ kids.drop i, Tr.Sm x) ∧ (Tr.sizes (kids.drop i) : Int) ≤ v - r + ((kids.length - i : Nat) : Int)) := by
            refine down _ fun i hi ih2 v hv0 hv1 => ?_
            by_cases hlt : i < kids.length
            · have c3 : decide ((i : Int) < ((Tr.nos kids).length : Int)) = true := by rw [Tr.nos_len]; simpa using hlt
              have hm : kids[i] ∈ kids := List.getElem_mem hlt
              obtain ⟨r, e, lr, sr⟩ := ih kids[i] hm (o6 _ hm) v hv0 (by omega)
              have step : ∀ k, Tr.deeps kids ≤ k → laws_szNodeS.l0 (laws_szNode_n k) (Tr.nos kids) v i = if decide (r < 0) = true then some (.inl (-1)) else laws_szNodeS.l0 (laws_szNode_n k) (Tr.nos kids) r ((i + 1 : Nat) : Int) := by
                intro k hk
                rw [laws_szNodeS.l0]
                rw [if_pos c3, kid kids i hlt, e k (by have := Tr.deeps_le kids _ hm; omega), bind_some', w64_succ (show i < 9223372036854775807 by omega)]
              by_cases c4 : decide (r < 0) = true
              · exact ⟨.inl (-1), fun k hk => by rw [step k hk, if_pos c4], rfl⟩
              · simp at c4
                obtain ⟨z, ez, hz⟩ := ih2 hlt r (by omega) (by omega)
                refine ⟨z, fun k hk => by rw [step k hk, if_neg (by simpa using c4)]; exact ez k hk, ?_⟩
                have sr := sr.resolve_left (by omega)
                cases z with
                | inl z => exact hz
                | inr z =>
                  obtain ⟨z1, z2, z3, z4⟩ := hz
                  refine ⟨z1, by omega, fun x hx => ?_, ?_⟩
                  · rw [List.drop_eq_getElem_cons hlt] at hx
                    rcases List.mem_cons.1 hx with rfl | hx
                    · exact sr.1
                    · exact z3 x hx
                  · rw [List.drop_eq_getElem_cons hlt, Tr.sizes]
                    have := sr.2
                    omega
            · obtain rfl : i = kids.length := by omega
              refine ⟨.inr v, fun k hk => ?_, hv0, Int.le_refl _, by simp, by simp [Tr.sizes]⟩
              rw [laws_szNodeS.l0, if_neg (by simp [Tr.nos_len])]
          obtain ⟨r, e, hr⟩ := key 0 (by omega) _ (by omega) (Int.le_refl _)
          simp only [Int.natCast_zero] at e
          cases r with
          | inl r =>
            have : r = -1 := hr
            subst this
            refine ⟨-1, fun k hk => ?_, by omega, .inl (by omega)⟩
            rw [if_neg (by decide), e k hk]
            rfl
          | inr r =>
            obtain ⟨z1, z2, z3, z4⟩ := hr
            refine ⟨r, fun k hk => ?_, by omega, .inr ⟨.mk (by unfold smS; omega) s1 (by omega) (by simpa using z3), ?_⟩⟩
            · rw [if_neg (by decide), e k hk]
              show (if decide (r < 0) = true then some (-1) else some r) = some r
              rw [if_neg (by simpa using z1)]
            · rw [Tr.size]
              simp only [List.drop_zero, Nat.sub_zero] at z4
              omega
  obtain ⟨r, e, h2, h3⟩ := main
  refine ⟨r, fun k hk => ?_, h2, h3⟩
  rw [Tr.deep] at hk
  obtain ⟨k', rfl⟩ : ∃ k', k = k' + 1 := ⟨k - 1, by omega⟩
  exact e k' (by omega)
theorem Tr.size_le : ∀ (l : List Tr) (t : Tr), t ∈ l → Tr.size t ≤ Tr.sizes l
  | a :: l, t, h => by
    rw [Tr.sizes]
    rcases List.mem_cons.1 h with rfl | h
    · omega
    · have := Tr.size_le l t h; omega
theorem toStringS_some (a : List Str) (h : smL smS a) : laws_toStringS a = some a := by
  have hl : a.length ≤ 1048576 := h.1
  have key : ∀ i, i ≤ a.length → ∀ v : List Str, v.length = a.length → laws_toStringS.l0 a i v = some (v.take i ++ a.drop i) := by
    refine down _ fun i hi ih v hv => ?_
    rw [laws_toStringS.l0]
    by_cases hlt : i < a.length
    · have c : decide ((i : Int) < (a.length : Int)) = true := by simpa using hlt
      have hv' : i < v.length := by omega
      simp only [c, if_true, ix_nat, List.getElem?_eq_getElem hlt, List.getElem?_eq_getElem hv', bind_some', put_nat hv', w64_succ (show i < 9223372036854775807 by omega)]
      rw [ih hlt _ (by simpa using hv), set_step hlt hv']
    · rw [if_neg (by simpa using hlt)]
      obtain rfl : i = a.length := by omega
      simp [List.take_of_length_le, hv]
  simp only [laws_toStringS]
  rw [mk_ok (by omega)]
  simp only [bind_some']
  have := fun z => key 0 (by omega) (List.replicate a.length z) (by simp)
  simp only [Int.natCast_zero] at this
  simp only [this, bind_some']; simp
theorem eqStringS_self (a : List Str) (h : smL smS a) : laws_eqStringS a a = some true := by
  have hl : a.length ≤ 1048576 := h.1
  have key : ∀ i, i ≤ a.length → laws_eqStringS.l0 a a i = some (.inr ()) := by
    refine down _ fun i hi ih => ?_
    rw [laws_eqStringS.l0]
    by_cases hlt : i < a.length
    · have c : decide ((i : Int) < (a.length : Int)) = true := by simpa using hlt
      simp only [c, if_true, ix_nat, List.getElem?_eq_getElem hlt, bind_some', bne_self_eq_false, beq_self_eq_true, Bool.false_eq_true, if_false, Bool.not_true, w64_succ (show i < 9223372036854775807 by omega)]
      exact ih hlt
    · rw [if_neg (by simpa using hlt)]
  simp only [laws_eqStringS, bne_self_eq_false, Bool.false_eq_true, if_false]
  have := key 0 (by omega)
  simp only [Int.natCast_zero] at this
  rw [this]; rfl
theorem fuel1 {t : Tr} {k n : Int} {s : Str} {ks : List Str} {kids : List Tr} (e : t = .mk k n s ks kids) {m : Nat} (h : Tr.deep t ≤ m) : ∃ m', m = m' + 1 ∧ Tr.deeps kids ≤ m' := by
  subst e
  rw [Tr.deep] at h
  exact ⟨m - 1, by omega, by omega⟩
theorem toNode_some : ∀ t : Tr, Tr.Sm t → ∀ k, Tr.deep t ≤ k → laws_toNode_n k (Tr.no t) = some (Tr.no t) := by
  refine Tr.ind fun kd n s ks kids ih hsm k hk => ?_
  obtain ⟨k, rfl, hk⟩ := fuel1 rfl hk
  cases hsm with
  | mk s1 s2 s3 s4 =>
  have key : ∀ i, i ≤ kids.length → ∀ v : List RNode, v.length = kids.length → (∀ x ∈ v, ∃ y, x = rN_Node y) → laws_toNodeS.l0 (laws_toNode_n k) (Tr.nos kids) i v = some (v.take i ++ (Tr.nos kids).drop i) := by
    refine down _ fun i hi ih2 v hv hy => ?_
    by_cases hlt : i < kids.length
    · have c3 : decide ((i : Int) < ((Tr.nos kids).length : Int)) = true := by rw [Tr.nos_len]; simpa using hlt
      have hm : kids[i] ∈ kids := List.getElem_mem hlt
      have hv' : i < v.length := by omega
      have hn' : i < (Tr.nos kids).length := by rw [Tr.nos_len]; exact hlt
      have hne : (Tr.nos kids)[i] = rN_Node (Tr.no kids[i]) := by
        have := Tr.nos_get kids i hlt
        rw [List.getElem?_eq_getElem hn'] at this
        exact Option.some.inj this
      obtain ⟨y, hy1⟩ := hy v[i] (List.getElem_mem hv')
      rw [laws_toNodeS.l0, if_pos c3, kid kids i hlt, ih _ hm (s4 _ hm) k (by have := Tr.deeps_le kids _ hm; omega), bind_some']
      rw [ix_nat, List.getElem?_eq_getElem hv', bind_some', hy1, dN_Node_rN, bind_some', put_nat hv', bind_some', w64_succ (show i < 9223372036854775807 by omega)]
      rw [ih2 hlt _ (by simpa using hv) (fun x hx => ?_), ← hne, set_step hn' hv']
      rcases List.mem_or_eq_of_mem_set hx with hx | rfl
      · exact hy x hx
      · exact ⟨_, rfl⟩
    · obtain rfl : i = kids.length := by omega
      rw [laws_toNodeS.l0, if_neg (by simp [Tr.nos_len])]
      simp [List.take_of_length_le, hv, List.drop_of_length_le, Tr.nos_len]
  show laws_toNode_F (laws_toNode_n k) _ = _
  simp only [laws_toNode_F, Tr.no, toStringS_some ks s2, bind_some', laws_toNodeS, Tr.nos_len]
  rw [mk_ok (by omega)]
  have := key 0 (by omega) (List.replicate kids.length (rN_Node (Node.mk 0 0 [] [] []))) (by simp) (fun x hx => ⟨_, (List.mem_replicate.1 hx).2⟩)
  simp only [Int.natCast_zero] at this
  simp only [this, bind_some']; simp
theorem eqNode_self : ∀ t : Tr, Tr.Sm t → ∀ k, Tr.deep t ≤ k → laws_eqNode_n k (Tr.no t) (Tr.no t) = some true := by
  refine Tr.ind fun kd n s ks kids ih hsm k hk => ?_
  obtain ⟨k, rfl, hk⟩ := fuel1 rfl hk
  cases hsm with
  | mk s1 s2 s3 s4 =>
  have key : ∀ i, i ≤ kids.length → laws_eqNodeS.l0 (laws_eqNode_n k) (Tr.nos kids) (Tr.nos kids) i = some (.inr ()) := by
    refine down _ fun i hi ih2 => ?_
    by_cases hlt : i < kids.length
    · have c3 : decide ((i : Int) < ((Tr.nos kids).length : Int)) = true := by rw [Tr.nos_len]; simpa using hlt
      have hm : kids[i] ∈ kids := List.getElem_mem hlt
      rw [laws_eqNodeS.l0, if_pos c3, kid kids i hlt, kid kids i hlt, ih _ hm (s4 _ hm) k (by have := Tr.deeps_le kids _ hm; omega), bind_some', if_neg (by decide), w64_succ (show i < 9223372036854775807 by omega)]
      exact ih2 hlt
    · obtain rfl : i = kids.length := by omega
      rw [laws_eqNodeS.l0, if_neg (by simp [Tr.nos_len])]
  have := key 0 (by omega)
  simp only [Int.natCast_zero] at this
  show laws_eqNode_F (laws_eqNode_n k) _ _ = _
  simp only [laws_eqNode_F, Tr.no, eqStringS_self ks s2, bind_some', laws_eqNodeS, bne_self_eq_false, beq_self_eq_true, Bool.not_true, Bool.false_eq_true, if_false, this]
theorem kids_end (kids : List Tr) : ¬ (decide ((kids.length : Int) < ((Tr.nos kids).length : Int)) = true) := by simp [Tr.nos_len]
theorem bx {α β : Type} {e : Option α} {x : α} (h : e = some x) (f : α → Option β) : (e >>= f) = f x := by rw [h]; rfl
/-! trees within bounds -/
inductive Tr.Bd : Tr → Prop
  | mk {k n s ks kids} : ks.length ≤ 4194304 → kids.length ≤ 4194304 → (∀ t ∈ kids, Tr.Bd t) → Tr.Bd (.mk k n s ks kids)
theorem Tr.nos_append (l m : List Tr) : Tr.nos (l ++ m) = Tr.nos l ++ Tr.nos m := by simp [Tr.nos_map]
theorem Tr.nos_take (l : List Tr) (i : Nat) : (Tr.nos l).take i = Tr.nos (l.take i) := by simp [Tr.nos_map, List.map_take]
theorem Tr.nos_drop (l : List Tr) (i : Nat) : (Tr.nos l).drop i = Tr.nos (l.drop i) := by simp [Tr.nos_map, List.map_drop]
theorem Tr.nos_one (t : Tr) : [rN_Node (Tr.no t)] = Tr.nos [t] := by simp [Tr.nos_map]
theorem clone_ok' {α : Type} {b : Nat} {l : List α} (h : l.length * b ≤ 70368744177664) : Nt.clone b l = some l := by unfold Nt.clone; rw [if_pos h]
theorem copy_both : ∀ t : Tr, Tr.Bd t → ∀ k, Tr.deep t ≤ k → spec_l3Copy_n k (Tr.no t) = some (Tr.no t) ∧ impl_copyTree_n k (Tr.no t) = some (Tr.no t) := by
  refine Tr.ind fun kd n s ks kids ih hb k hk => ?_
  cases hb with
  | mk b1 b2 b3 =>
  obtain ⟨k, rfl, hk⟩ := fuel1 rfl hk
  have hT : Tr.no (.mk kd n s ks kids) = Node.mk kd n s ks (Tr.nos kids) := by rw [Tr.no]
  have key : ∀ i, i ≤ kids.length → ∀ v : List RNode, v.length = i → spec_l3Copy.l0 (spec_l3Copy_n k) (Node.mk kd n s ks (Tr.nos kids)) i v = some (v ++ (Tr.nos kids).drop i) ∧ impl_copyTree.l0 (impl_copyTree_n k) (Node.mk kd n s ks (Tr.nos kids)) i v = some (v ++ (Tr.nos kids).drop i) := by
    refine down _ fun i hi ih2 v hv => ?_
    rw [spec_l3Copy.l0, impl_copyTree.l0]
    dsimp only
    by_cases hlt : i < kids.length
    · have c3 : decide ((i : Int) < ((Tr.nos kids).length : Int)) = true := by rw [Tr.nos_len]; simpa using hlt
      have hm : kids[i] ∈ kids := List.getElem_mem hlt
      have hd := Tr.deeps_le kids _ hm
      obtain ⟨x1, x2⟩ := ih _ hm (b3 _ hm) k (by omega)
      have e : (v ++ [rN_Node (Tr.no kids[i])]) ++ (Tr.nos kids).drop (i + 1) = v ++ (Tr.nos kids).drop i := by
        rw [List.append_assoc]; congr 1
        have hl : i < (Tr.nos kids).length := by rw [Tr.nos_len]; exact hlt
        rw [List.drop_eq_getElem_cons hl]
        have := Tr.nos_get kids i hlt
        rw [List.getElem?_eq_getElem hl] at this
        rw [Option.some.inj this]; rfl
      have w1 : IntKind.i64.wrap ((i : Int) + 1) = ((i + 1 : Nat) : Int) := w64_succ (by omega)
      obtain ⟨y1, y2⟩ := ih2 hlt (v ++ [rN_Node (Tr.no kids[i])]) (by simp; omega)
      rw [if_pos c3, if_pos c3, kid kids i hlt, kid kids i hlt, bx x1, bx x2, bx (app_ok (by simp; omega)), bx (app_ok (by simp; omega)), w1, y1, y2, e]
      exact ⟨rfl, rfl⟩
    · obtain rfl : i = kids.length := by omega
      rw [if_neg (kids_end kids), if_neg (kids_end kids), List.drop_eq_nil_of_le (by rw [Tr.nos_len]; exact Nat.le_refl _)]; simp
  obtain ⟨y1, y2⟩ := key 0 (by omega) [] rfl
  simp only [Int.natCast_zero, List.nil_append, List.drop_zero] at y1 y2
  rw [hT]
  show spec_l3Copy_F (spec_l3Copy_n k) _ = _ ∧ impl_copyTree_F (impl_copyTree_n k) _ = _
  unfold spec_l3Copy_F impl_copyTree_F slices_Clone_Sstring_string
  rw [bx (app_ok (by simp; omega)), bx (clone_ok' (by show ks.length * 16 ≤ _; omega)), bx y1, bx y2]
  exact ⟨rfl, rfl⟩
theorem copy_spec (t : Tr) (h : Tr.Bd t) : spec_l3Copy (Tr.no t) = some (Tr.no t) := Nt.lim_of _ fun k hk => (copy_both t h k hk).1
theorem copy_impl (t : Tr) (h : Tr.Bd t) : impl_copyTree (Tr.no t) = some (Tr.no t) := Nt.lim_of _ fun k hk => (copy_both t h k hk).2
/-! are two trees the same -/
theorem strs_same (a b : List Str) (T U : Node) (hT : T.Keys = a) (hU : U.Keys = b) (hl : a.length = b.length) (ha : a.length ≤ 4194304) : ∃ x : Bool, spec_TreeSame.l0 T U 0 = some (if x then .inr () else .inl false) ∧ slices_Equal_Sstring_string a b = some x := by
  have key : ∀ i, i ≤ a.length → ∃ x : Bool, spec_TreeSame.l0 T U i = some (if x then .inr () else .inl false) ∧ slices_Equal_Sstring_string.l0 a b i = some (if x then .inr () else .inl false) := by
    refine down _ fun i hi ih => ?_
    rw [spec_TreeSame.l0, slices_Equal_Sstring_string.l0, hT, hU]
    by_cases hlt : i < a.length
    · have hlt' : i < b.length := by omega
      have c : decide ((i : Int) < (a.length : Int)) = true := by simpa using hlt
      obtain ⟨x, x1, x2⟩ := ih hlt
      simp only [c, if_true, ix_nat, List.getElem?_eq_getElem hlt, List.getElem?_eq_getElem hlt', bind_some', w64_succ (show i < 9223372036854775807 by omega), x1, x2]
      by_cases he : (!(a[i] == b[i])) = true
      · rw [if_pos he]; exact ⟨false, rfl, rfl⟩
      · rw [if_neg he]; exact ⟨x, rfl, rfl⟩
    · rw [if_neg (by simpa using hlt), if_neg (by simpa using hlt)]; exact ⟨true, rfl, rfl⟩
  obtain ⟨x, x1, x2⟩ := key 0 (by omega)
  refine ⟨x, x1, ?_⟩
  unfold slices_Equal_Sstring_string
  simp only [Int.natCast_zero] at x2
  rw [if_neg (by simp [hl]), bx x2]
  cases x <;> rfl
theorem same_both : ∀ a : Tr, Tr.Bd a → ∀ b : Tr, Tr.Bd b → ∃ x : Bool, ∀ k, Tr.deep a ≤ k → spec_TreeSame_n k (Tr.no a) (Tr.no b) = some x ∧ impl_TreeSame_n k (Tr.no a) (Tr.no b) = some x := by
  refine Tr.ind fun kd n s ks kids ih hb b hbb => ?_
  cases hb with
  | mk b1 b2 b3 =>
  cases hbb with
  | @mk kd2 n2 s2 ks2 kids2 c1 c2 c3 =>
  have hT : Tr.no (.mk kd n s ks kids) = Node.mk kd n s ks (Tr.nos kids) := by rw [Tr.no]
  have hU : Tr.no (.mk kd2 n2 s2 ks2 kids2) = Node.mk kd2 n2 s2 ks2 (Tr.nos kids2) := by rw [Tr.no]
  have main : ∃ x : Bool, ∀ k, Tr.deeps kids ≤ k → spec_TreeSame_F (spec_TreeSame_n k) (Node.mk kd n s ks (Tr.nos kids)) (Node.mk kd2 n2 s2 ks2 (Tr.nos kids2)) = some x ∧ impl_TreeSame_F (impl_TreeSame_n k) (Node.mk kd n s ks (Tr.nos kids)) (Node.mk kd2 n2 s2 ks2 (Tr.nos kids2)) = some x := by
    unfold spec_TreeSame_F impl_TreeSame_F slices_EqualFunc_Simpl_Node_Simpl_Node_impl_Node_impl_Node_impl_TreeSame
    dsimp only
    by_cases e1 : kd = kd2
    case neg => exact ⟨false, fun k hk => ⟨by rw [if_pos (by simpa using e1)], by rw [if_neg (by simpa using e1)]⟩⟩
    by_cases e2 : n = n2
    case neg => exact ⟨false, fun k hk => ⟨by rw [if_neg (by simp [e1]), if_pos (by simpa using e2)], by rw [if_pos (by simp [e1]), if_neg (by simpa using e2)]⟩⟩
    by_cases e3 : s = s2
    case neg => exact ⟨false, fun k hk => ⟨by rw [if_neg (by simp [e1]), if_neg (by simp [e2]), if_pos (by simpa using e3)], by rw [if_pos (by simp [e1]), if_pos (by simp [e2]), if_neg (by simpa using e3)]⟩⟩
    by_cases e4 : ks.length = ks2.length
    case neg =>
      have hq : slices_Equal_Sstring_string ks ks2 = some false := by
        unfold slices_Equal_Sstring_string
        rw [if_pos (by simp only [bne_iff_ne, ne_eq]; omega)]
      exact ⟨false, fun k hk => ⟨by rw [if_neg (by simp [e1]), if_neg (by simp [e2]), if_neg (by simp [e3]), if_pos (by simp only [bne_iff_ne, ne_eq]; omega)], by rw [if_pos (by simp [e1]), if_pos (by simp [e2]), if_pos (by simp [e3]), bx hq]; rfl⟩⟩
    obtain ⟨x, x1, x2⟩ := strs_same ks ks2 (Node.mk kd n s ks (Tr.nos kids)) (Node.mk kd2 n2 s2 ks2 (Tr.nos kids2)) rfl rfl e4 b1
    by_cases e5 : kids.length = kids2.length
    case neg =>
      have c5 : ((Tr.nos kids).length : Int) != ((Tr.nos kids2).length : Int) := by rw [Tr.nos_len, Tr.nos_len]; simp only [bne_iff_ne, ne_eq]; omega
      refine ⟨false, fun k hk => ⟨by rw [if_neg (by simp [e1]), if_neg (by simp [e2]), if_neg (by simp [e3]), if_neg (by simp [e4]), if_pos c5], ?_⟩⟩
      rw [if_pos (by simp [e1]), if_pos (by simp [e2]), if_pos (by simp [e3]), bx x2]
      cases x
      · rfl
      · rw [if_pos rfl, if_pos c5]; rfl
    have c5 : ¬ ((((Tr.nos kids).length : Int) != ((Tr.nos kids2).length : Int)) = true) := by rw [Tr.nos_len, Tr.nos_len]; simp [e5]
    have key : ∀ i, i ≤ kids.length → ∃ y : Bool, ∀ k, Tr.deeps kids ≤ k → spec_TreeSame.l1 (spec_TreeSame_n k) (Node.mk kd n s ks (Tr.nos kids)) (Node.mk kd2 n2 s2 ks2 (Tr.nos kids2)) i = some (if y then .inr () else .inl false) ∧ slices_EqualFunc_Simpl_Node_Simpl_Node_impl_Node_impl_Node_impl_TreeSame.l0 (impl_TreeSame_n k) (Tr.nos kids) (Tr.nos kids2) i = some (if y then .inr () else .inl false) := by
      refine down _ fun i hi ih2 => ?_
      by_cases hlt : i < kids.length
      · have hlt2 : i < kids2.length := by omega
        have c3' : decide ((i : Int) < ((Tr.nos kids).length : Int)) = true := by rw [Tr.nos_len]; simpa using hlt
        have hm : kids[i] ∈ kids := List.getElem_mem hlt
        have hd := Tr.deeps_le kids _ hm
        obtain ⟨y, hy⟩ := ih _ hm (b3 _ hm) _ (c3 _ (List.getElem_mem hlt2))
        obtain ⟨z, hz⟩ := ih2 hlt
        have w1 : IntKind.i64.wrap ((i : Int) + 1) = ((i + 1 : Nat) : Int) := w64_succ (by omega)
        cases y with
        | false =>
          refine ⟨false, fun k hk => ?_⟩
          obtain ⟨y1, y2⟩ := hy k (by omega)
          rw [spec_TreeSame.l1, slices_EqualFunc_Simpl_Node_Simpl_Node_impl_Node_impl_Node_impl_TreeSame.l0]
          dsimp only
          rw [if_pos c3', if_pos c3', kid kids i hlt, kid kids i hlt, kid kids2 i hlt2, kid kids2 i hlt2, bx y1, bx y2]
          exact ⟨rfl, rfl⟩
        | true =>
          refine ⟨z, fun k hk => ?_⟩
          obtain ⟨y1, y2⟩ := hy k (by omega)
          obtain ⟨z1, z2⟩ := hz k hk
          rw [spec_TreeSame.l1, slices_EqualFunc_Simpl_Node_Simpl_Node_impl_Node_impl_Node_impl_TreeSame.l0]
          dsimp only
          rw [if_pos c3', if_pos c3', kid kids i hlt, kid kids i hlt, kid kids2 i hlt2, kid kids2 i hlt2, bx y1, bx y2, w1]
          exact ⟨z1, z2⟩
      · obtain rfl : i = kids.length := by omega
        refine ⟨true, fun k hk => ?_⟩
        rw [spec_TreeSame.l1, slices_EqualFunc_Simpl_Node_Simpl_Node_impl_Node_impl_Node_impl_TreeSame.l0]
        dsimp only
        rw [if_neg (kids_end kids), if_neg (kids_end kids)]
        exact ⟨rfl, rfl⟩
    obtain ⟨y, hy⟩ := key 0 (by omega)
    refine ⟨x && y, fun k hk => ?_⟩
    obtain ⟨y1, y2⟩ := hy k hk
    simp only [Int.natCast_zero] at y1 y2
    constructor
    · rw [if_neg (by simp [e1]), if_neg (by simp [e2]), if_neg (by simp [e3]), if_neg (by simp [e4]), if_neg c5, bx x1]
      cases x
      · rfl
      · show (spec_TreeSame.l1 _ _ _ 0 >>= _) = _
        rw [bx y1]
        cases y <;> rfl
    · rw [if_pos (by simp [e1]), if_pos (by simp [e2]), if_pos (by simp [e3]), bx x2]
      cases x
      · rfl
      · rw [if_pos rfl, if_neg c5, bx y2]
        cases y <;> rfl
  obtain ⟨x, hx⟩ := main
  refine ⟨x, fun k hk' => ?_⟩
  obtain ⟨k1, e1, hk1⟩ := fuel1 rfl hk'
  subst e1
  rw [hT, hU]
  exact hx k1 hk1
def posA (key : Str) : List Str → Option Nat
  | [] => none
  | k :: ks => if k = key then some 0 else (posA key ks).map (· + 1)
theorem posA_some {key : Str} : ∀ {ks : List Str} {p : Nat}, posA key ks = some p → ks[p]? = some key
  | [], _, h => by simp [posA] at h
  | k :: ks, p, h => by
    simp only [posA] at h
    split at h
    · rename_i e; cases h; simp [e]
    · obtain ⟨q, h1, rfl⟩ := Option.map_eq_some_iff.1 h
      simpa using posA_some h1
theorem posA_lt {key : Str} {ks : List Str} {p : Nat} (h : posA key ks = some p) : p < ks.length := (List.getElem?_eq_some_iff.1 (posA_some h)).1
theorem posA_none {key : Str} : ∀ {ks : List Str}, posA key ks = none → key ∉ ks
  | [], _ => by simp
  | k :: ks, h => by
    simp only [posA] at h
    split at h
    · cases h
    · rename_i e
      have := posA_none (Option.map_eq_none_iff.1 h)
      simp only [List.mem_cons, not_or]
      exact ⟨fun h => e h.symm, this⟩
theorem posA_drop {key : Str} {ks : List Str} {i : Nat} (h : i < ks.length) : posA key (ks.drop i) = if ks[i] = key then some 0 else (posA key (ks.drop (i + 1))).map (· + 1) := by
  rw [List.drop_eq_getElem_cons h, posA]
def gtk : Tr → Str → Option Tr
  | .mk kd _ _ ks kids, key => if kd = 5 then (posA key ks).bind fun p => kids[p]? else none
theorem index_impl (ks : List Str) (key : Str) (hl : ks.length ≤ 4194304) : slices_Index_Sstring_string ks key = some (match posA key ks with | some p => (p : Int) | none => -1) := by
  have key' : ∀ i, i ≤ ks.length → slices_Index_Sstring_string.l0 ks key i = some (match posA key (ks.drop i) with | some p => .inl ((i + p : Nat) : Int) | none => .inr ()) := by
    refine down _ fun i hi ih => ?_
    rw [slices_Index_Sstring_string.l0]
    by_cases hlt : i < ks.length
    · have c : decide ((i : Int) < (ks.length : Int)) = true := by simpa using hlt
      rw [if_pos c, ix_nat, List.getElem?_eq_getElem hlt, bind_some', posA_drop hlt]
      by_cases e : ks[i] = key
      · rw [if_pos (by simp [e]), if_pos e]; rfl
      · rw [if_neg (by simpa using fun h => e h.symm), if_neg e, w64_succ (by omega), ih hlt]
        cases posA key (ks.drop (i + 1)) with
        | none => rfl
        | some p => simp only [Option.map_some]; congr 3; omega
    · obtain rfl : i = ks.length := by omega
      rw [if_neg (by simp), List.drop_length]; rfl
  have := key' 0 (by omega)
  simp only [Int.natCast_zero, List.drop_zero] at this
  unfold slices_Index_Sstring_string
  rw [bx this]
  cases posA key ks with
  | none => rfl
  | some p => simp
theorem at_spec (T : Node) (ks : List Str) (kids : List Tr) (key : Str) (h5 : T.Kind = 5) (hK : T.Keys = ks) (hT : T.Kids = Tr.nos kids) (hl : ks.length ≤ 4194304) : spec_l3At T key = some (match posA key ks with | some p => if p < kids.length then (p : Int) else -1 | none => -1) := by
  have key' : ∀ i, i ≤ ks.length → spec_l3At.l0 T key i = some (match posA key (ks.drop i) with | some p => if i + p < kids.length then .inl ((i + p : Nat) : Int) else .inr () | none => .inr ()) := by
    refine down _ fun i hi ih => ?_
    rw [spec_l3At.l0, hK, hT]
    by_cases hlt : i < ks.length
    · have c : decide ((i : Int) < (ks.length : Int)) = true := by simpa using hlt
      rw [if_pos c]
      by_cases hlt2 : i < kids.length
      · have c2 : decide ((i : Int) < ((Tr.nos kids).length : Int)) = true := by rw [Tr.nos_len]; simpa using hlt2
        rw [if_pos c2, if_pos (by simpa using h5), ix_nat, List.getElem?_eq_getElem hlt, bind_some', posA_drop hlt]
        by_cases e : ks[i] = key
        · rw [if_pos (by simpa using e), if_pos e]; simp [hlt2]
        · rw [if_neg (by simpa using e), if_neg e, w64_succ (by omega), ih hlt]
          cases posA key (ks.drop (i + 1)) with
          | none => rfl
          | some p => simp only [Option.map_some]; rw [show i + 1 + p = i + (p + 1) by omega]
      · have c2 : ¬ (decide ((i : Int) < ((Tr.nos kids).length : Int)) = true) := by rw [Tr.nos_len]; simpa using hlt2
        rw [if_neg c2]
        cases posA key (ks.drop i) with
        | none => rfl
        | some p => simp only; rw [if_neg (by omega)]
    · obtain rfl : i = ks.length := by omega
      rw [if_neg (by simp), List.drop_length]; rfl
  have := key' 0 (by omega)
  simp only [Int.natCast_zero, List.drop_zero, Nat.zero_add] at this
  unfold spec_l3At
  rw [bx this]
  cases posA key ks with
  | none => rfl
  | some p =>
    by_cases hlt : p < kids.length
    · simp only [if_pos hlt]
    · simp only [if_neg hlt]
theorem at_other (T : Node) (key : Str) (h5 : T.Kind ≠ 5) : spec_l3At T key = some (-1) := by
  unfold spec_l3At
  rw [spec_l3At.l0]
  have c : ¬ ((T.Kind == 5) = true) := by simpa using h5
  by_cases h1 : decide ((0 : Int) < (T.Keys.length : Int)) = true
  · rw [if_pos h1]
    by_cases h2 : decide ((0 : Int) < (T.Kids.length : Int)) = true
    · rw [if_pos h2, if_neg c]; rfl
    · rw [if_neg h2]; rfl
  · rw [if_neg h1]; rfl
def gv : Option Tr → Node × Bool
  | some u => (Tr.no u, true)
  | none => (Node.mk 0 0 [] [] [], false)
theorem gtk_bd {t u : Tr} {key : Str} (h : Tr.Bd t) (hg : gtk t key = some u) : Tr.Bd u := by
  cases h with
  | mk b1 b2 b3 =>
    simp only [gtk] at hg
    split at hg
    · obtain ⟨p, _, h2⟩ := Option.bind_eq_some_iff.1 hg
      exact b3 _ (List.mem_of_getElem? h2)
    · cases hg
theorem get_both (t : Tr) (key : Str) (h : Tr.Bd t) : spec_Get (Tr.no t) key = some (gv (gtk t key)) ∧ impl_Get (Tr.no t) key = some (gv (gtk t key)) := by
  have hbd := fun u (hu : gtk t key = some u) => gtk_bd h hu
  cases h with
  | @mk kd n s ks kids b1 b2 b3 =>
  have hT : Tr.no (.mk kd n s ks kids) = Node.mk kd n s ks (Tr.nos kids) := by rw [Tr.no]
  rw [hT]
  unfold spec_Get impl_Get
  rw [bx (index_impl ks key b1)]
  by_cases h5 : kd = 5
  · have n5 : ¬ ((kd != 5) = true) := by simpa using h5
    simp only [gtk, if_pos h5] at hbd ⊢
    have ha := at_spec (Node.mk kd n s ks (Tr.nos kids)) ks kids key h5 rfl rfl b1
    cases hp : posA key ks with
    | none =>
      rw [hp] at ha
      constructor
      · rw [bx ha]; rfl
      · rw [if_neg n5]; rfl
    | some p =>
      rw [hp] at hbd ha
      simp only [Option.bind_some] at hbd ⊢
      by_cases hlt : p < kids.length
      · have hu := hbd _ (List.getElem?_eq_getElem hlt)
        simp only [if_pos hlt] at ha
        rw [List.getElem?_eq_getElem hlt]
        constructor
        · rw [bx ha, if_neg (by simp), kid kids p hlt, bx (copy_spec _ hu)]; rfl
        · rw [if_neg n5, if_neg (by simp), if_neg (by simp [Tr.nos_len]; omega), kid kids p hlt, bx (copy_impl _ hu)]; rfl
      · simp only [if_neg hlt] at ha
        rw [List.getElem?_eq_none (by omega)]
        constructor
        · rw [bx ha]; rfl
        · rw [if_neg n5, if_neg (by simp), if_pos (by simp [Tr.nos_len]; omega)]; rfl
  · rw [bx (at_other (Node.mk kd n s ks (Tr.nos kids)) key h5)]
    simp only [gtk, if_neg h5]
    constructor
    · rfl
    · rw [if_pos (by simpa using h5)]; rfl
def Tr.keys : Tr → List Str
  | .mk _ _ _ ks _ => ks
/-- a map as it is built: no more than c keys, a kid each -/
def OutT (c : Nat) (o : Tr) : Prop := ∃ n s ks kids, o = .mk 5 n s ks kids ∧ ks.length = kids.length ∧ ks.length ≤ c ∧ ∀ t ∈ kids, Tr.Bd t
theorem OutT.bd {c : Nat} {o : Tr} (h : OutT c o) (hc : c ≤ 4194304) : Tr.Bd o := by
  obtain ⟨n, s, ks, kids, rfl, h1, h2, h3⟩ := h
  exact .mk (by omega) (by omega) h3
/-- what setting a key makes -/
def SetT (o : Tr) (key : Str) (o' : Tr) : Prop := (∀ y, y ∈ o'.keys ↔ y ∈ o.keys ∨ y = key) ∧ (o.keys.Nodup → o'.keys.Nodup)
theorem slc_take' {α : Type} (l : List α) (i : Nat) (h : i ≤ l.length) : slc l 0 (i : Int) = some (l.take i) := by
  unfold slc; rw [if_pos (by omega)]; simp [cut]
theorem slc_drop' {α : Type} (l : List α) (i n : Nat) (h : i ≤ l.length) (hn : l.length = n) : slc l (i : Int) (n : Int) = some (l.drop i) := by
  unfold slc; rw [if_pos (by omega)]; simp [cut, ← hn]
theorem mem_ins {α : Type} {l : List α} {q : Nat} {x y : α} : y ∈ l.take q ++ [x] ++ l.drop q ↔ y ∈ l ∨ y = x := by
  have : y ∈ l ↔ y ∈ l.take q ∨ y ∈ l.drop q := by rw [← List.mem_append, List.take_append_drop]
  rw [this]; simp only [List.mem_append, List.mem_singleton]
  constructor
  · rintro ((h | h) | h)
    · exact .inl (.inl h)
    · exact .inr h
    · exact .inl (.inr h)
  · rintro ((h | h) | h)
    · exact .inl (.inl h)
    · exact .inr h
    · exact .inl (.inr h)
theorem nodup_ins {l : List Str} {q : Nat} {x : Str} (h : l.Nodup) (hx : x ∉ l) : (l.take q ++ [x] ++ l.drop q).Nodup := by
  have hp : (l.take q ++ [x] ++ l.drop q).Perm (x :: l) := by
    have h1 : (l.take q ++ [x] ++ l.drop q).Perm ([x] ++ l.take q ++ l.drop q) := List.Perm.append_right _ List.perm_append_comm
    refine h1.trans ?_
    rw [List.append_assoc, List.take_append_drop]; exact List.Perm.refl _
  exact hp.nodup_iff.2 (List.nodup_cons.2 ⟨hx, h⟩)
/-- put in, or put over -/
theorem out_ins {c q : Nat} {n : Int} {s key : Str} {ks : List Str} {kids : List Tr} {x : Tr} (h1 : ks.length = kids.length) (h2 : ks.length ≤ c) (h3 : ∀ t ∈ kids, Tr.Bd t) (hx : Tr.Bd x) (hq : q ≤ ks.length) (hk : key ∉ ks) :
    OutT (c + 1) (.mk 5 n s (ks.take q ++ [key] ++ ks.drop q) (kids.take q ++ [x] ++ kids.drop q)) ∧ SetT (.mk 5 n s ks kids) key (.mk 5 n s (ks.take q ++ [key] ++ ks.drop q) (kids.take q ++ [x] ++ kids.drop q)) :=
  ⟨⟨n, s, _, _, rfl, by simp; omega, by simp; omega, fun t ht => by
    rcases mem_ins.1 ht with h | rfl
    · exact h3 t h
    · exact hx⟩, fun y => mem_ins, fun h => nodup_ins h hk⟩
theorem out_put {c p : Nat} {n : Int} {s key : Str} {ks : List Str} {kids : List Tr} {x : Tr} (h1 : ks.length = kids.length) (h2 : ks.length ≤ c) (h3 : ∀ t ∈ kids, Tr.Bd t) (hx : Tr.Bd x) (hk : key ∈ ks) :
    OutT (c + 1) (.mk 5 n s ks (kids.set p x)) ∧ SetT (.mk 5 n s ks kids) key (.mk 5 n s ks (kids.set p x)) :=
  ⟨⟨n, s, ks, _, rfl, by simpa using h1, by omega, fun t ht => by
    rcases List.mem_or_eq_of_mem_set ht with h | rfl
    · exact h3 t h
    · exact hx⟩, fun y => ⟨fun h => .inl h, fun h => h.elim id fun e => e ▸ hk⟩, id⟩
theorem nos_set (kids : List Tr) (p : Nat) (x : Tr) : (Tr.nos kids).set p (rN_Node (Tr.no x)) = Tr.nos (kids.set p x) := by simp [Tr.nos_map, List.map_set]
theorem set_spec {c : Nat} {o x : Tr} (key : Str) (ho : OutT c o) (hc : c < 4194304) (hx : Tr.Bd x) : ∃ o', spec_Set (Tr.no o) key (Tr.no x) = some (Tr.no o') ∧ OutT (c + 1) o' ∧ SetT o key o' := by
  have hbd := ho.bd (by omega)
  obtain ⟨n, s, ks, kids, rfl, h1, h2, h3⟩ := ho
  have hT : Tr.no (.mk 5 n s ks kids) = Node.mk 5 n s ks (Tr.nos kids) := by rw [Tr.no]
  have hcp := copy_spec _ hbd
  unfold spec_Set
  rw [bx hcp, hT]
  dsimp only
  rw [if_neg (by decide), if_neg (by rw [Tr.nos_len]; simp [h1]), bx (at_spec (Node.mk 5 n s ks (Tr.nos kids)) ks kids key rfl rfl rfl (by omega))]
  cases hp : posA key ks with
  | some p =>
    have hlt := posA_lt hp
    have hlt2 : p < kids.length := by omega
    simp only [if_pos hlt2]
    rw [if_pos (by simp), bx (copy_spec x hx), kid kids p hlt2, bx (put_nat (by rw [Tr.nos_len]; exact hlt2)), nos_set]
    obtain ⟨g1, g2⟩ := out_put (c := c) (p := p) (n := n) (s := s) (key := key) (x := x) h1 h2 h3 hx (List.mem_of_getElem? (posA_some hp))
    exact ⟨_, by rw [Tr.no], g1, g2⟩
  | none =>
    simp only
    rw [if_neg (by simp)]
    have hk := posA_none hp
    have hq : ∀ i, i ≤ ks.length → ∃ q, q ≤ ks.length ∧ spec_Set.l0 (Node.mk 5 n s ks (Tr.nos kids)) key i = some (q : Int) := by
      refine down _ fun i hi ih => ?_
      rw [spec_Set.l0]
      dsimp only
      by_cases hlt : i < ks.length
      · rw [if_pos (by simpa using hlt), ix_nat, List.getElem?_eq_getElem hlt, bind_some']
        by_cases hs : slt ks[i] key = true
        · obtain ⟨q, q1, q2⟩ := ih hlt
          rw [if_pos hs, w64_succ (by omega)]; exact ⟨q, q1, q2⟩
        · rw [if_neg hs]; exact ⟨i, hi, rfl⟩
      · rw [if_neg (by simpa using hlt)]; exact ⟨i, hi, rfl⟩
    obtain ⟨q, q1, q2⟩ := hq 0 (by omega)
    simp only [Int.natCast_zero] at q2
    have hkl : (Tr.nos kids).length = kids.length := Tr.nos_len kids
    rw [bx q2, bx (slc_take' ks q q1), bx (app_ok (by simp; omega)), bx (app_ok (by simp; omega)), bx (slc_take' (Tr.nos kids) q (by omega)), bx (app_ok (by simp; omega)), bx (copy_spec x hx), bx (app_ok (by simp; omega)), bx (slc_drop' ks q _ q1 rfl), bx (app_ok (by simp; omega)), bx (slc_drop' (Tr.nos kids) q _ (by omega) rfl), bx (app_ok (by simp; omega))]
    obtain ⟨g1, g2⟩ := out_ins (c := c) (q := q) (n := n) (s := s) (key := key) (x := x) h1 h2 h3 hx q1 hk
    refine ⟨_, ?_, g1, g2⟩
    rw [Tr.no, Tr.nos_append, Tr.nos_append, ← Tr.nos_one, Tr.nos_take, Tr.nos_drop]
    simp
theorem ins_ok {α : Type} {b q : Nat} {l v : List α} (h1 : q ≤ l.length) (h2 : 0 < v.length) (h3 : (l.length + v.length) * b ≤ 70368744177664) : Nt.ins b l (q : Int) v = some (l.take q ++ v ++ l.drop q) := by
  unfold Nt.ins
  rw [if_pos ⟨by omega, by omega, h2, h3⟩]; simp
theorem set_impl {c : Nat} {o x : Tr} (key : Str) (ho : OutT c o) (hc : c < 4194304) (hx : Tr.Bd x) : ∃ o', impl_Set (Tr.no o) key (Tr.no x) = some (Tr.no o') ∧ OutT (c + 1) o' ∧ SetT o key o' := by
  have hbd := ho.bd (by omega)
  obtain ⟨n, s, ks, kids, rfl, h1, h2, h3⟩ := ho
  have hT : Tr.no (.mk 5 n s ks kids) = Node.mk 5 n s ks (Tr.nos kids) := by rw [Tr.no]
  have hcp := copy_impl _ hbd
  have hkl : (Tr.nos kids).length = kids.length := Tr.nos_len kids
  unfold impl_Set
  rw [bx hcp, hT]
  dsimp only
  have hm : impl_isMap (Node.mk 5 n s ks (Tr.nos kids)) = some true := by
    unfold impl_isMap
    dsimp only
    rw [if_pos (by decide), Tr.nos_len]; simp [h1]
  rw [bx hm, if_neg (by decide), bx (index_impl ks key (by omega))]
  cases hp : posA key ks with
  | some p =>
    have hlt := posA_lt hp
    have hlt2 : p < kids.length := by omega
    simp only
    rw [if_pos (by simp), bx (copy_impl x hx), kid kids p hlt2, bx (put_nat (by rw [Tr.nos_len]; exact hlt2)), nos_set]
    obtain ⟨g1, g2⟩ := out_put (c := c) (p := p) (n := n) (s := s) (key := key) (x := x) h1 h2 h3 hx (List.mem_of_getElem? (posA_some hp))
    exact ⟨_, by rw [Tr.no], g1, g2⟩
  | none =>
    simp only
    rw [if_neg (by decide)]
    have hk := posA_none hp
    have hq : ∀ i, i ≤ ks.length → slices_IndexFunc_Sstring_string_impl_Set_1.l0 ks i key = some (.inr key) ∨ ∃ q, q < ks.length ∧ slices_IndexFunc_Sstring_string_impl_Set_1.l0 ks i key = some (.inl ((q : Int), key)) := by
      refine down _ fun i hi ih => ?_
      rw [slices_IndexFunc_Sstring_string_impl_Set_1.l0]
      by_cases hlt : i < ks.length
      · rw [if_pos (by simpa using hlt), ix_nat, List.getElem?_eq_getElem hlt, bind_some']
        unfold impl_Set_1
        rw [bind_some']
        dsimp only
        by_cases hs : (!(slt ks[i] key || ks[i] == key)) = true
        · rw [if_pos hs]; exact .inr ⟨i, hlt, rfl⟩
        · rw [if_neg hs, w64_succ (by omega)]; exact ih hlt
      · rw [if_neg (by simpa using hlt)]; exact .inl rfl
    have hf : ∃ j : Int, slices_IndexFunc_Sstring_string_impl_Set_1 ks key = some (j, key) ∧ (j = -1 ∨ ∃ q : Nat, q < ks.length ∧ j = q) := by
      unfold slices_IndexFunc_Sstring_string_impl_Set_1
      rcases hq 0 (by omega) with h | ⟨q, q1, h⟩
      · simp only [Int.natCast_zero] at h
        rw [bx h]; exact ⟨-1, rfl, .inl rfl⟩
      · simp only [Int.natCast_zero] at h
        rw [bx h]; exact ⟨q, rfl, .inr ⟨q, q1, rfl⟩⟩
    obtain ⟨j, j1, j2⟩ := hf
    rw [bx j1]
    dsimp only
    unfold slices_Insert_Sstring_string slices_Insert_Simpl_Node_impl_Node
    have fin : ∀ q, q ≤ ks.length → ∃ o', some (Node.mk 5 n s (ks.take q ++ [key] ++ ks.drop q) ((Tr.nos kids).take q ++ [rN_Node (Tr.no x)] ++ (Tr.nos kids).drop q)) = some (Tr.no o') ∧ OutT (c + 1) o' ∧ SetT (.mk 5 n s ks kids) key o' := fun q q1 => by
      obtain ⟨g1, g2⟩ := out_ins (c := c) (q := q) (n := n) (s := s) (key := key) (x := x) h1 h2 h3 hx q1 hk
      refine ⟨_, ?_, g1, g2⟩
      rw [Tr.no, Tr.nos_append, Tr.nos_append, ← Tr.nos_one, Tr.nos_take, Tr.nos_drop]
    rcases j2 with rfl | ⟨q, q1, rfl⟩
    · rw [if_pos (by simp), bx (ins_ok (Nat.le_refl _) (by simp) (by simp; omega)), bx (copy_impl x hx), bx (ins_ok (by omega) (by simp) (by simp; omega))]
      exact fin ks.length (Nat.le_refl _)
    · rw [if_neg (by simp), bx (ins_ok (by omega) (by simp) (by simp; omega)), bx (copy_impl x hx), bx (ins_ok (by omega) (by simp) (by simp; omega))]
      exact fin q (by omega)
theorem le_tr (a b c : Str) (h1 : decide (a ≤ b) = true) (h2 : decide (b ≤ c) = true) : decide (a ≤ c) = true := by
  simp only [decide_eq_true_eq] at *; exact List.le_trans h1 h2
theorem le_to (a b : Str) : (decide (a ≤ b) || decide (b ≤ a)) = true := by
  simp only [Bool.or_eq_true, decide_eq_true_eq]; exact List.le_total a b
theorem sorted_get {l : List Str} (hs : l.Pairwise fun a b => decide (a ≤ b) = true) {i j : Nat} (hij : i ≤ j) (hj : j < l.length) : l[i]'(by omega) ≤ l[j] := by
  rcases Nat.lt_or_eq_of_le hij with h | rfl
  · have := (List.pairwise_iff_getElem.1 hs) i j (by omega) hj h
    simpa using this
  · exact List.le_refl _
theorem uniqs_mem (l : List Str) (y : Str) : y ∈ uniqs l ↔ y ∈ l := by
  unfold uniqs
  constructor
  · intro h
    obtain ⟨j, h1, rfl⟩ := List.mem_map.1 h
    have hj := List.mem_range.1 (List.mem_filter.1 h1).1
    rw [getElem!_pos l j hj]; exact List.getElem_mem hj
  · intro h
    obtain ⟨j, hj, rfl⟩ := List.mem_iff_getElem.1 h
    have key : ∀ j, j < l.length → l[j]! ∈ ((List.range l.length).filter fun j => decide (j = 0 ∨ l[j]! ≠ l[j - 1]!)).map (l[·]!) := by
      intro j
      induction j with
      | zero => intro hj; exact List.mem_map.2 ⟨0, List.mem_filter.2 ⟨List.mem_range.2 hj, by simp⟩, rfl⟩
      | succ j ih =>
        intro hj
        by_cases he : l[j + 1]! = l[j]!
        · rw [he]; exact ih (by omega)
        · exact List.mem_map.2 ⟨j + 1, List.mem_filter.2 ⟨List.mem_range.2 hj, by simpa using he⟩, rfl⟩
    have := key j hj
    rw [getElem!_pos l j hj] at this; exact this
theorem uniqs_nodup (l : List Str) (hs : l.Pairwise fun a b => decide (a ≤ b) = true) : (uniqs l).Nodup := by
  unfold uniqs
  rw [List.Nodup, List.pairwise_map]
  have h1 : ((List.range l.length).filter fun j => decide (j = 0 ∨ l[j]! ≠ l[j - 1]!)).Pairwise (· < ·) := List.Pairwise.filter _ List.pairwise_lt_range
  refine h1.imp_of_mem fun {i j} hi hj hij he => ?_
  have hjl := List.mem_range.1 (List.mem_filter.1 hj).1
  have hk := (List.mem_filter.1 hj).2
  simp only [decide_eq_true_eq] at hk
  rcases hk with hk | hk
  · omega
  · have e1 : l[i]! = l[i]'(by omega) := getElem!_pos l i (by omega)
    have e2 : l[j]! = l[j] := getElem!_pos l j hjl
    have e3 : l[j - 1]! = l[j - 1]'(by omega) := getElem!_pos l (j - 1) (by omega)
    have a1 := sorted_get hs (show i ≤ j - 1 by omega) (by omega)
    have a2 := sorted_get hs (show j - 1 ≤ j by omega) hjl
    rw [e1, e2] at he
    rw [he] at a1
    exact hk (by rw [e2, e3]; exact List.le_antisymm a1 a2)
theorem uniqs_len (l : List Str) : (uniqs l).length ≤ l.length := by
  unfold uniqs
  rw [List.length_map]
  exact Nat.le_trans (List.length_filter_le _ _) (by simp)
/-- the keys that have a kid -/
def kk : Tr → List Str
  | .mk _ _ _ ks kids => ks.take kids.length
def SmK (t : Tr) : Prop := t.keys.length ≤ 1048576
theorem keysOf_some (t : Tr) (h : SmK t) : ∃ l, impl_keysOf (Tr.no t) = some l ∧ (∀ y, y ∈ l ↔ y ∈ kk t) ∧ l.length ≤ 1048576 := by
  cases t with
  | mk kd n s ks kids =>
  replace h : ks.length ≤ 1048576 := h
  rw [show Tr.no (.mk kd n s ks kids) = Node.mk kd n s ks (Tr.nos kids) from by rw [Tr.no]]
  unfold impl_keysOf slices_Clone_Sstring_string slices_Sort_Sstring_string
  dsimp only
  have hmin : (if ((Tr.nos kids).length : Int) < (ks.length : Int) then ((Tr.nos kids).length : Int) else (ks.length : Int)) = ((min kids.length ks.length : Nat) : Int) := by
    rw [Tr.nos_len]; split <;> omega
  have htk : ks.take (min kids.length ks.length) = ks.take kids.length := by
    rw [Nat.min_def]; split
    · rfl
    · rw [List.take_of_length_le (Nat.le_refl _), List.take_of_length_le (by omega)]
  rw [hmin, bx (slc_take' ks _ (by omega)), htk]
  have hl : (ks.take kids.length).length ≤ 1048576 := by simp; omega
  rw [bx (clone_ok' (by omega))]
  unfold Nt.sort
  rw [if_pos (by omega)]
  exact ⟨_, rfl, fun y => List.mem_mergeSort, by rw [List.length_mergeSort]; exact hl⟩
theorem union_some (t u v : Tr) (ht : SmK t) (hu : SmK u) (hv : SmK v) : ∃ K, impl_union [rN_Node (Tr.no t), rN_Node (Tr.no u), rN_Node (Tr.no v)] = some K ∧ K.Nodup ∧ (∀ y, y ∈ K ↔ y ∈ kk t ∨ y ∈ kk u ∨ y ∈ kk v) ∧ K.length ≤ 3145728 := by
  obtain ⟨l1, a1, a2, a3⟩ := keysOf_some t ht
  obtain ⟨l2, b1, b2, b3⟩ := keysOf_some u hu
  obtain ⟨l3, c1, c2, c3⟩ := keysOf_some v hv
  have hL : [rN_Node (Tr.no t), rN_Node (Tr.no u), rN_Node (Tr.no v)] = Tr.nos [t, u, v] := by simp [Tr.nos_map]
  have h0 : impl_union.l0 (Tr.nos [t, u, v]) 0 [] = some (l1 ++ l2 ++ l3) := by
    have w0 : IntKind.i64.wrap (((0 : Nat) : Int) + 1) = ((1 : Nat) : Int) := by decide
    have w1 : IntKind.i64.wrap (((1 : Nat) : Int) + 1) = ((2 : Nat) : Int) := by decide
    have w2 : IntKind.i64.wrap (((2 : Nat) : Int) + 1) = ((3 : Nat) : Int) := by decide
    have k0 : ∀ {β : Type} (f : Node → Option β), (ix (Tr.nos [t, u, v]) ((0 : Nat) : Int) >>= fun x => dN_Node x >>= f) = f (Tr.no t) := fun f => kid [t, u, v] 0 (by simp) f
    have k1 : ∀ {β : Type} (f : Node → Option β), (ix (Tr.nos [t, u, v]) ((1 : Nat) : Int) >>= fun x => dN_Node x >>= f) = f (Tr.no u) := fun f => kid [t, u, v] 1 (by simp) f
    have k2 : ∀ {β : Type} (f : Node → Option β), (ix (Tr.nos [t, u, v]) ((2 : Nat) : Int) >>= fun x => dN_Node x >>= f) = f (Tr.no v) := fun f => kid [t, u, v] 2 (by simp) f
    have e0 : ∀ x, impl_union.l0 (Tr.nos [t, u, v]) ((3 : Nat) : Int) x = some x := fun x => by rw [impl_union.l0, if_neg (by rw [Tr.nos_len]; simp)]
    have e1 : ∀ x : List Str, x.length ≤ 2097152 → impl_union.l0 (Tr.nos [t, u, v]) ((2 : Nat) : Int) x = some (x ++ l3) := fun x hx => by
      rw [impl_union.l0, if_pos (by rw [Tr.nos_len]; simp), k2, bx c1, bx (app_ok (by omega)), w2, e0]
    have e2 : ∀ x : List Str, x.length ≤ 1048576 → impl_union.l0 (Tr.nos [t, u, v]) ((1 : Nat) : Int) x = some (x ++ l2 ++ l3) := fun x hx => by
      rw [impl_union.l0, if_pos (by rw [Tr.nos_len]; simp), k1, bx b1, bx (app_ok (by omega)), w1, e1 _ (by simp; omega)]
    have e3 : impl_union.l0 (Tr.nos [t, u, v]) ((0 : Nat) : Int) [] = some ([] ++ l1 ++ l2 ++ l3) := by
      rw [impl_union.l0, if_pos (by rw [Tr.nos_len]; simp), k0, bx a1, bx (app_ok (by simp; omega)), w0, e2 _ (by simp; omega)]
    simpa using e3
  unfold impl_union slices_Sort_Sstring_string slices_Compact_Sstring_string
  rw [hL, bx h0]
  unfold Nt.sort Nt.uniq
  rw [if_pos (by simp; omega), bind_some', if_pos (by rw [List.length_mergeSort]; simp; omega)]
  refine ⟨_, rfl, uniqs_nodup _ (List.pairwise_mergeSort le_tr le_to _), fun y => ?_, ?_⟩
  · rw [uniqs_mem, List.mem_mergeSort, List.mem_append, List.mem_append, a2, b2, c2, or_assoc]
  · exact Nat.le_trans (uniqs_len _) (by rw [List.length_mergeSort]; simp; omega)
theorem l11_some (t u v : Tr) (ht : SmK t) (hu : SmK u) (hv : SmK v) : ∃ K, spec_l11Keys (Tr.no t) (Tr.no u) (Tr.no v) = some K ∧ K.Nodup ∧ (∀ y, y ∈ K ↔ y ∈ t.keys ∨ y ∈ u.keys ∨ y ∈ v.keys) ∧ K.length ≤ 3145728 := by
  unfold SmK at ht hu hv
  have hk : ∀ t : Tr, (Tr.no t).Keys = t.keys := fun t => by cases t; rw [Tr.no]; rfl
  obtain ⟨K, hK⟩ : ∃ K, K = t.keys ++ u.keys ++ v.keys := ⟨_, rfl⟩
  have hKl : K.length ≤ 3145728 := by rw [hK]; simp; omega
  have he : Tr.Bd (.mk 0 0 [] [] []) := .mk (by simp) (by simp) (by simp)
  have hen : Tr.no (.mk 0 0 [] [] []) = Node.mk 0 0 [] [] [] := by rw [Tr.no, Tr.nos]
  have key : ∀ i, i ≤ K.length → ∀ n s ks kids, OutT i (.mk 5 n s ks kids) → ks.Nodup → ∃ n' s' ks' kids', spec_l11Keys.l0 K i 5 n s ks (Tr.nos kids) = some (5, n', s', ks', kids') ∧ ks'.Nodup ∧ (∀ y, y ∈ ks' ↔ y ∈ ks ∨ y ∈ K.drop i) ∧ ks'.length ≤ K.length := by
    refine down (P := fun i => ∀ n s ks kids, OutT i (.mk 5 n s ks kids) → ks.Nodup → ∃ n' s' ks' kids', spec_l11Keys.l0 K i 5 n s ks (Tr.nos kids) = some (5, n', s', ks', kids') ∧ ks'.Nodup ∧ (∀ y, y ∈ ks' ↔ y ∈ ks ∨ y ∈ K.drop i) ∧ ks'.length ≤ K.length) _ fun i hi ih n s ks kids ho hn => ?_
    rw [spec_l11Keys.l0]
    by_cases hlt : i < K.length
    · rw [if_pos (by simpa using hlt), ix_nat, List.getElem?_eq_getElem hlt, bind_some']
      obtain ⟨o', h1, h2, h3, h4⟩ := set_spec K[i] ho (by omega) he
      obtain ⟨n', s', ks', kids', rfl, g1, g2, g3⟩ := h2
      rw [hen, show Tr.no (.mk 5 n s ks kids) = Node.mk 5 n s ks (Tr.nos kids) from by rw [Tr.no], show Tr.no (.mk 5 n' s' ks' kids') = Node.mk 5 n' s' ks' (Tr.nos kids') from by rw [Tr.no]] at h1
      rw [bx h1, w64_succ (by omega)]
      obtain ⟨n2, s2, ks2, kids2, q1, q2, q3, q4⟩ := ih hlt n' s' ks' kids' ⟨n', s', ks', kids', rfl, g1, g2, g3⟩ (h4 hn)
      refine ⟨n2, s2, ks2, kids2, q1, q2, fun y => ?_, q4⟩
      have h5 := h3 y
      simp only [Tr.keys] at h5
      rw [q3, h5, List.drop_eq_getElem_cons hlt, List.mem_cons, or_assoc]
    · obtain rfl : i = K.length := by omega
      rw [if_neg (by simp)]
      obtain ⟨n', s', ks', kids', e, g1, g2, g3⟩ := ho
      cases e
      exact ⟨n, s, ks, Tr.nos kids, rfl, hn, fun y => by simp, g2⟩
  obtain ⟨n', s', ks', kids', q1, q2, q3, q4⟩ := key 0 (by omega) 0 [] [] [] ⟨0, [], [], [], rfl, rfl, by simp, by simp⟩ List.nodup_nil
  unfold spec_l11Keys
  rw [hk, hk, hk, bx (app_ok (by simp; omega)), bx (app_ok (by simp; omega)), bx (app_ok (by simp; omega))]
  rw [show [] ++ t.keys ++ u.keys ++ v.keys = K from by rw [hK]; simp]
  simp only [Int.natCast_zero, Tr.nos] at q1
  rw [bx q1]
  refine ⟨ks', rfl, q2, fun y => ?_, by omega⟩
  rw [q3, List.drop_zero, hK]; simp [or_assoc]
noncomputable def TS (t u : Tr) : Bool := (spec_TreeSame (Tr.no t) (Tr.no u)).getD false
theorem ts_both (t u : Tr) (ht : Tr.Bd t) (hu : Tr.Bd u) : spec_TreeSame (Tr.no t) (Tr.no u) = some (TS t u) ∧ impl_TreeSame (Tr.no t) (Tr.no u) = some (TS t u) := by
  obtain ⟨x, hx⟩ := same_both t ht u hu
  have h1 : spec_TreeSame (Tr.no t) (Tr.no u) = some x := Nt.lim_of _ fun k hk => (hx k hk).1
  have h2 : impl_TreeSame (Tr.no t) (Tr.no u) = some x := Nt.lim_of _ fun k hk => (hx k hk).2
  have h3 : TS t u = x := by unfold TS; rw [h1]; rfl
  rw [h3]; exact ⟨h1, h2⟩
def E0 : Tr := .mk 0 0 [] [] []
theorem e0_no : Tr.no E0 = Node.mk 0 0 [] [] [] := by unfold E0; rw [Tr.no, Tr.nos]
theorem e0_bd : Tr.Bd E0 := .mk (by simp) (by simp) (by simp)
theorem ts_e0 : TS E0 E0 = true := by
  have : spec_TreeSame (Tr.no E0) (Tr.no E0) = some true := Nt.lim_of 1 fun k hk => by
    obtain ⟨k, rfl⟩ : ∃ k', k = k' + 1 := ⟨k - 1, by omega⟩
    rw [e0_no]
    show spec_TreeSame_F (spec_TreeSame_n k) _ _ = _
    unfold spec_TreeSame_F
    rw [spec_TreeSame.l0, spec_TreeSame.l1]
    rfl
  unfold TS; rw [this]; rfl
noncomputable def sameO : Option Tr → Option Tr → Bool
  | none, none => true
  | some a, some b => TS a b
  | _, _ => false
def BdO (u : Option Tr) : Prop := ∀ t, u = some t → Tr.Bd t
theorem gtk_bdo {t : Tr} {key : Str} (h : Tr.Bd t) : BdO (gtk t key) := fun u hu => gtk_bd h hu
theorem node_eta (n : Node) : Node.mk n.Kind n.N n.S n.Keys n.Kids = n := rfl
theorem l11Same_some (u v : Option Tr) (hu : BdO u) (hv : BdO v) : spec_l11Same (gv u).1 (gv u).2 (gv v).1 (gv v).2 = some (sameO u v) := by
  unfold spec_l11Same
  cases u with
  | none => cases v <;> rfl
  | some a => cases v with
    | none => rfl
    | some b =>
      have := (ts_both a b (hu a rfl) (hv b rfl)).1
      show (spec_TreeSame (Tr.no a) (Tr.no b) >>= fun x5 => some x5) = _
      rw [bx this]; rfl
theorem alike_some (t u : Tr) (key : Str) (ht : Tr.Bd t) (hu : Tr.Bd u) : impl_alike (Tr.no t) (Tr.no u) key = some (sameO (gtk t key) (gtk u key)) := by
  unfold impl_alike
  rw [bx (get_both t key ht).2, bx (get_both u key hu).2]
  have h1 := gtk_bdo (key := key) ht
  have h2 := gtk_bdo (key := key) hu
  simp only [node_eta]
  generalize gtk t key = x at *
  generalize gtk u key = y at *
  cases x with
  | none => cases y with
    | none =>
      have := (ts_both E0 E0 e0_bd e0_bd).2
      rw [e0_no, ts_e0] at this
      show (impl_TreeSame (Node.mk 0 0 [] [] []) (Node.mk 0 0 [] [] []) >>= fun x6 => some x6) = _
      rw [bx this]; rfl
    | some b => rfl
  | some a => cases y with
    | none => rfl
    | some b =>
      have := (ts_both a b (h1 a rfl) (h2 b rfl)).2
      show (impl_TreeSame (Tr.no a) (Tr.no b) >>= fun x6 => some x6) = _
      rw [bx this]; rfl
noncomputable def conf (x y z : Option Tr) : Bool := !(sameO z x || sameO y z || sameO y x)
theorem OutT.up {c : Nat} {o : Tr} (h : OutT c o) : OutT (c + 1) o := by
  obtain ⟨n, s, ks, kids, e, h1, h2, h3⟩ := h
  exact ⟨n, s, ks, kids, e, h1, by omega, h3⟩
theorem put_some {c : Nat} {o : Tr} (key : Str) (ho : OutT c o) (hc : c < 4194304) (u : Option Tr) (hu : BdO u) : ∃ o', spec_l11Put (Tr.no o) key (gv u).1 (gv u).2 = some (Tr.no o') ∧ OutT (c + 1) o' := by
  unfold spec_l11Put
  cases u with
  | none => exact ⟨o, rfl, ho.up⟩
  | some t =>
    obtain ⟨o', h1, h2, _⟩ := set_spec key ho hc (hu t rfl)
    exact ⟨o', by show (spec_Set (Tr.no o) key (Tr.no t) >>= fun x5 => some x5) = _; rw [bx h1], h2⟩
def wayS (key w : Str) : Str := if w = [] then [] else if w = [46] then key else key ++ [47] ++ w
def wayI (key w : Str) : Str := if w = [46] then key else key ++ [47] ++ w
theorem l7Way_some (key w : Str) (h : key.length + w.length ≤ 4398046511104) : spec_l7Way key w = some (wayS key w) := by
  unfold spec_l7Way wayS
  by_cases h1 : w = []
  · rw [if_pos (by simpa using h1), if_pos h1]
  · rw [if_neg (by simpa using h1), if_neg h1]
    by_cases h2 : w = [46]
    · rw [if_pos (by simpa using h2), if_pos h2]
    · rw [if_neg (by simpa using h2), if_neg h2]
      have e1 : cat key [47] = some (key ++ [47]) := by unfold cat; rw [if_neg]; have : IntKind.i64.max = 9223372036854775807 := rfl; simp; omega
      have e2 : cat (key ++ [47]) w = some (key ++ [47] ++ w) := by unfold cat; rw [if_neg]; have : IntKind.i64.max = 9223372036854775807 := rfl; simp; omega
      rw [bx e1, bx e2]
theorem below_some (key w : Str) (h : key.length + w.length ≤ 4398046511104) : impl_below key w = some (wayI key w) := by
  unfold impl_below wayI
  by_cases h2 : w = [46]
  · rw [if_pos (by simpa using h2), if_pos h2]
  · rw [if_neg (by simpa using h2), if_neg h2]
    have e1 : cat key [47] = some (key ++ [47]) := by unfold cat; rw [if_neg]; have : IntKind.i64.max = 9223372036854775807 := rfl; simp; omega
    have e2 : cat (key ++ [47]) w = some (key ++ [47] ++ w) := by unfold cat; rw [if_neg]; have : IntKind.i64.max = 9223372036854775807 := rfl; simp; omega
    rw [bx e1, bx e2]
theorem wayS_len (key w : Str) : (wayS key w).length ≤ key.length + 1 + w.length := by
  unfold wayS; split
  · simp
  · split
    · omega
    · simp only [List.length_append, List.length_cons, List.length_nil]; omega
theorem wayI_len (key w : Str) : (wayI key w).length ≤ key.length + 1 + w.length := by
  unfold wayI; split
  · omega
  · simp only [List.length_append, List.length_cons, List.length_nil]; omega
theorem ways_spec (key : Str) (x : Node × List Str) (hl : x.2.length ≤ 8388608) (hw : ∀ w ∈ x.2, key.length + w.length ≤ 4398046511104) : spec_l11Key.l0 key x 0 [] = some (x.2.map (wayS key)) := by
  have key' : ∀ i, i ≤ x.2.length → ∀ v : List Str, v.length = i → spec_l11Key.l0 key x i v = some (v ++ (x.2.drop i).map (wayS key)) := by
    refine down _ fun i hi ih v hv => ?_
    rw [spec_l11Key.l0]
    by_cases hlt : i < x.2.length
    · rw [if_pos (by simpa using hlt), ix_nat, List.getElem?_eq_getElem hlt, bind_some', bx (l7Way_some key _ (hw _ (List.getElem_mem hlt))), bx (app_ok (by simp; omega)), w64_succ (by omega), ih hlt _ (by simp; omega), List.drop_eq_getElem_cons hlt, List.map_cons, List.append_assoc]; rfl
    · obtain rfl : i = x.2.length := by omega
      rw [if_neg (by simp)]; simp
  simpa using key' 0 (by omega) [] rfl
theorem ways_impl (key : Str) (x : Node × List Str) (v : List Str) (hl : v.length + x.2.length ≤ 1073741824) (hw : ∀ w ∈ x.2, key.length + w.length ≤ 4398046511104) : impl_Merge.l1 key x 0 v = some (v ++ x.2.map (wayI key)) := by
  have key' : ∀ i, i ≤ x.2.length → ∀ v : List Str, v.length + x.2.length ≤ 1073741824 + i → impl_Merge.l1 key x i v = some (v ++ (x.2.drop i).map (wayI key)) := by
    refine down _ fun i hi ih v hv => ?_
    rw [impl_Merge.l1]
    by_cases hlt : i < x.2.length
    · rw [if_pos (by simpa using hlt), ix_nat, List.getElem?_eq_getElem hlt, bind_some', bx (below_some key _ (hw _ (List.getElem_mem hlt))), bx (app_ok (by simp; omega)), w64_succ (by omega), ih hlt _ (by simp; omega), List.drop_eq_getElem_cons hlt, List.map_cons, List.append_assoc]; rfl
    · obtain rfl : i = x.2.length := by omega
      rw [if_neg (by simp)]; simp
  simpa using key' 0 (by omega) v (by omega)
/-- a key, not in all three -/
theorem l11Key_two {c : Nat} {o base a b : Tr} {rc : Node → Node → Node → Option (Node × List Str)} (key : Str) (ho : OutT c o) (hc : c < 4194304) (h1 : Tr.Bd base) (h2 : Tr.Bd a) (h3 : Tr.Bd b) (hn : ((gtk base key).isSome && (gtk a key).isSome && (gtk b key).isSome) = false) :
    ∃ o', (∀ rc, spec_l11Key rc (Tr.no o) (Tr.no base) (Tr.no a) (Tr.no b) key = some (Tr.no o', if conf (gtk base key) (gtk a key) (gtk b key) then [key] else [])) ∧ OutT (c + 1) o' := by
  have b1 := gtk_bdo (key := key) h1
  have b2 := gtk_bdo (key := key) h2
  have b3 := gtk_bdo (key := key) h3
  have g1 := (get_both base key h1).1
  have g2 := (get_both a key h2).1
  have g3 := (get_both b key h3).1
  generalize gtk base key = x at *
  generalize gtk a key = y at *
  generalize gtk b key = z at *
  obtain ⟨oy, py, qy⟩ := put_some key ho hc y b2
  obtain ⟨oz, pz, qz⟩ := put_some key ho hc z b3
  have s1 := l11Same_some z x b3 b1
  have s2 := l11Same_some y z b2 b3
  have s3 := l11Same_some y x b2 b1
  unfold conf
  refine ⟨if sameO z x || sameO y z then oy else if sameO y x then oz else oy, fun rc => ?_, by split; exact qy; split; exact qz; exact qy⟩
  unfold spec_l11Key
  rw [bx g1, bx g2, bx g3]
  simp only [node_eta]
  have fin : ∀ e : Option (Node × List Str), e = (spec_l11Same (gv z).1 (gv z).2 (gv x).1 (gv x).2 >>= fun x18 => (if x18 = true then (if x18 = true then (spec_l11Put (Tr.no o) key (gv y).1 (gv y).2 >>= fun x19 => some (x19, ([] : List Str))) else (spec_l11Same (gv y).1 (gv y).2 (gv x).1 (gv x).2 >>= fun x20 => (if x20 = true then (spec_l11Put (Tr.no o) key (gv z).1 (gv z).2 >>= fun x21 => some (x21, ([] : List Str))) else (spec_l11Put (Tr.no o) key (gv y).1 (gv y).2 >>= fun x22 => some (x22, ([key] : List Str)))))) else (spec_l11Same (gv y).1 (gv y).2 (gv z).1 (gv z).2 >>= fun x23 => (if x23 = true then (spec_l11Put (Tr.no o) key (gv y).1 (gv y).2 >>= fun x24 => some (x24, ([] : List Str))) else (spec_l11Same (gv y).1 (gv y).2 (gv x).1 (gv x).2 >>= fun x25 => (if x25 = true then (spec_l11Put (Tr.no o) key (gv z).1 (gv z).2 >>= fun x26 => some (x26, ([] : List Str))) else (spec_l11Put (Tr.no o) key (gv y).1 (gv y).2 >>= fun x27 => some (x27, ([key] : List Str))))))))) → e = some (Tr.no (if sameO z x || sameO y z then oy else if sameO y x then oz else oy), if (!(sameO z x || sameO y z || sameO y x)) then [key] else []) := by
    intro e he
    rw [he, bx s1]
    cases sameO z x
    · rw [if_neg (by decide), bx s2]
      cases sameO y z
      · rw [if_neg (by decide), bx s3]
        cases sameO y x
        · rw [if_neg (by decide), bx py]; rfl
        · rw [if_pos rfl, bx pz]; rfl
      · rw [if_pos rfl, bx py]; rfl
    · rw [if_pos rfl, if_pos rfl, bx py]; rfl
  refine fin _ ?_
  cases x with
  | none => rfl
  | some x => cases y with
    | none => rfl
    | some y => cases z with
      | none => rfl
      | some z => simp at hn
/-- a key in all three -/
theorem l11Key_three {c : Nat} {o base a b x y z m : Tr} {ws : List Str} (key : Str) (ho : OutT c o) (hc : c < 4194304) (h1 : Tr.Bd base) (h2 : Tr.Bd a) (h3 : Tr.Bd b) (e1 : gtk base key = some x) (e2 : gtk a key = some y) (e3 : gtk b key = some z) (hm : Tr.Bd m) (hl : ws.length ≤ 8388608) (hw : ∀ w ∈ ws, key.length + w.length ≤ 4398046511104) :
    ∃ o', (∀ rc : Node → Node → Node → Option (Node × List Str), rc (Tr.no x) (Tr.no y) (Tr.no z) = some (Tr.no m, ws) → spec_l11Key rc (Tr.no o) (Tr.no base) (Tr.no a) (Tr.no b) key = some (Tr.no o', ws.map (wayS key))) ∧ OutT (c + 1) o' := by
  have g1 := (get_both base key h1).1
  have g2 := (get_both a key h2).1
  have g3 := (get_both b key h3).1
  rw [e1] at g1; rw [e2] at g2; rw [e3] at g3
  obtain ⟨o', p1, p2, _⟩ := set_spec key ho hc hm
  refine ⟨o', fun rc hr => ?_, p2⟩
  unfold spec_l11Key
  rw [bx g1, bx g2, bx g3]
  simp only [node_eta, gv, if_true]
  rw [bx hr, bx (ways_spec key (Tr.no m, ws) hl hw), bx p1]
theorem put_impl {c : Nat} {o : Tr} (key : Str) (ho : OutT c o) (hc : c < 4194304) (u : Option Tr) (hu : BdO u) : ∃ o', OutT (c + 1) o' ∧ ∀ (β : Type) (L : Node → Option β), (if (gv u).2 = true then (impl_Set (Tr.no o) key (gv u).1 >>= L) else L (Tr.no o)) = L (Tr.no o') := by
  cases u with
  | none => exact ⟨o, ho.up, fun β L => rfl⟩
  | some t =>
    obtain ⟨o', h1, h2, _⟩ := set_impl key ho hc (hu t rfl)
    exact ⟨o', h2, fun β L => by show (impl_Set (Tr.no o) key (Tr.no t) >>= L) = _; rw [bx h1]⟩
/-- a key, not in all three -/
theorem step_two {c i : Nat} {o base a b : Tr} {K : List Str} (hlt : i < K.length) (hK : K.length ≤ 4194304) (ho : OutT c o) (hc : c < 4194304) (h1 : Tr.Bd base) (h2 : Tr.Bd a) (h3 : Tr.Bd b) (v : List Str) (hv : v.length ≤ 1073741824)
    (hn : ((gtk base K[i]).isSome && (gtk a K[i]).isSome && (gtk b K[i]).isSome) = false) :
    ∃ o', OutT (c + 1) o' ∧ ∀ rc, impl_Merge.l0 rc (Tr.no base) (Tr.no a) (Tr.no b) K i (Tr.no o).Kind (Tr.no o).N (Tr.no o).S v (Tr.no o).Keys (Tr.no o).Kids = impl_Merge.l0 rc (Tr.no base) (Tr.no a) (Tr.no b) K ((i + 1 : Nat) : Int) (Tr.no o').Kind (Tr.no o').N (Tr.no o').S (v ++ if conf (gtk base K[i]) (gtk a K[i]) (gtk b K[i]) then [K[i]] else []) (Tr.no o').Keys (Tr.no o').Kids := by
  have b1 := gtk_bdo (key := K[i]) h1
  have b2 := gtk_bdo (key := K[i]) h2
  have b3 := gtk_bdo (key := K[i]) h3
  have g1 := (get_both base K[i] h1).2
  have g2 := (get_both a K[i] h2).2
  have g3 := (get_both b K[i] h3).2
  have s1 := alike_some b base K[i] h3 h1
  have s2 := alike_some a b K[i] h2 h3
  have s3 := alike_some a base K[i] h2 h1
  generalize gtk base K[i] = x at *
  generalize gtk a K[i] = y at *
  generalize gtk b K[i] = z at *
  obtain ⟨oy, qy, py⟩ := put_impl K[i] ho hc y b2
  obtain ⟨oz, qz, pz⟩ := put_impl K[i] ho hc z b3
  unfold conf
  refine ⟨if sameO z x || sameO y z then oy else if sameO y x then oz else oy, by split; exact qy; split; exact qz; exact qy, fun rc => ?_⟩
  rw [impl_Merge.l0, if_pos (by simpa using hlt), ix_nat, List.getElem?_eq_getElem hlt, bind_some', bx g1, bx g2, bx g3, w64_succ (by omega)]
  simp only [node_eta]
  have fin : ∀ e : Option (Int × Int × Str × List Str × List RNode × List Str), e = (impl_alike (Tr.no b) (Tr.no base) K[i] >>= fun x34 => (if x34 = true then (if (gv y).2 = true then (impl_Set (Tr.no o) K[i] (gv y).1 >>= fun nd => impl_Merge.l0 rc (Tr.no base) (Tr.no a) (Tr.no b) K ((i + 1 : Nat) : Int) nd.Kind nd.N nd.S v nd.Keys nd.Kids) else impl_Merge.l0 rc (Tr.no base) (Tr.no a) (Tr.no b) K ((i + 1 : Nat) : Int) (Tr.no o).Kind (Tr.no o).N (Tr.no o).S v (Tr.no o).Keys (Tr.no o).Kids) else (impl_alike (Tr.no a) (Tr.no b) K[i] >>= fun x36 => (if x36 = true then (if (gv y).2 = true then (impl_Set (Tr.no o) K[i] (gv y).1 >>= fun nd => impl_Merge.l0 rc (Tr.no base) (Tr.no a) (Tr.no b) K ((i + 1 : Nat) : Int) nd.Kind nd.N nd.S v nd.Keys nd.Kids) else impl_Merge.l0 rc (Tr.no base) (Tr.no a) (Tr.no b) K ((i + 1 : Nat) : Int) (Tr.no o).Kind (Tr.no o).N (Tr.no o).S v (Tr.no o).Keys (Tr.no o).Kids) else (impl_alike (Tr.no a) (Tr.no base) K[i] >>= fun x38 => (if x38 = true then (if (gv z).2 = true then (impl_Set (Tr.no o) K[i] (gv z).1 >>= fun nd => impl_Merge.l0 rc (Tr.no base) (Tr.no a) (Tr.no b) K ((i + 1 : Nat) : Int) nd.Kind nd.N nd.S v nd.Keys nd.Kids) else impl_Merge.l0 rc (Tr.no base) (Tr.no a) (Tr.no b) K ((i + 1 : Nat) : Int) (Tr.no o).Kind (Tr.no o).N (Tr.no o).S v (Tr.no o).Keys (Tr.no o).Kids) else (app 16 v ([K[i]] : List Str) >>= fun m40 => (if (gv y).2 = true then (impl_Set (Tr.no o) K[i] (gv y).1 >>= fun nd => impl_Merge.l0 rc (Tr.no base) (Tr.no a) (Tr.no b) K ((i + 1 : Nat) : Int) nd.Kind nd.N nd.S m40 nd.Keys nd.Kids) else impl_Merge.l0 rc (Tr.no base) (Tr.no a) (Tr.no b) K ((i + 1 : Nat) : Int) (Tr.no o).Kind (Tr.no o).N (Tr.no o).S m40 (Tr.no o).Keys (Tr.no o).Kids)))))))) → e = impl_Merge.l0 rc (Tr.no base) (Tr.no a) (Tr.no b) K ((i + 1 : Nat) : Int) (Tr.no (if sameO z x || sameO y z then oy else if sameO y x then oz else oy)).Kind (Tr.no (if sameO z x || sameO y z then oy else if sameO y x then oz else oy)).N (Tr.no (if sameO z x || sameO y z then oy else if sameO y x then oz else oy)).S (v ++ if (!(sameO z x || sameO y z || sameO y x)) then [K[i]] else []) (Tr.no (if sameO z x || sameO y z then oy else if sameO y x then oz else oy)).Keys (Tr.no (if sameO z x || sameO y z then oy else if sameO y x then oz else oy)).Kids := by
    intro e he
    rw [he, bx s1]
    have l1 := py _ fun nd => impl_Merge.l0 rc (Tr.no base) (Tr.no a) (Tr.no b) K ((i + 1 : Nat) : Int) nd.Kind nd.N nd.S v nd.Keys nd.Kids
    have l2 := pz _ fun nd => impl_Merge.l0 rc (Tr.no base) (Tr.no a) (Tr.no b) K ((i + 1 : Nat) : Int) nd.Kind nd.N nd.S v nd.Keys nd.Kids
    have l3 := py _ fun nd => impl_Merge.l0 rc (Tr.no base) (Tr.no a) (Tr.no b) K ((i + 1 : Nat) : Int) nd.Kind nd.N nd.S (v ++ [K[i]]) nd.Keys nd.Kids
    cases sameO z x
    · rw [if_neg Bool.false_ne_true, bx s2]
      cases sameO y z
      · rw [if_neg Bool.false_ne_true, bx s3]
        cases sameO y x
        · rw [if_neg Bool.false_ne_true, bx (app_ok (by simp; omega))]; exact l3
        · rw [if_pos rfl]; simp only [Bool.or_false, Bool.or_true, Bool.not_true, Bool.false_eq_true, if_false, if_true, List.append_nil]; exact l2
      · rw [if_pos rfl]; simp only [Bool.or_false, Bool.or_true, Bool.true_or, Bool.not_true, Bool.false_eq_true, if_false, if_true, List.append_nil]; exact l1
    · rw [if_pos rfl]; simp only [Bool.or_false, Bool.or_true, Bool.true_or, Bool.not_true, Bool.false_eq_true, if_false, if_true, List.append_nil]; exact l1
  refine fin _ ?_
  cases x with
  | none => rfl
  | some x => cases y with
    | none => rfl
    | some y => cases z with
      | none => rfl
      | some z => simp at hn
/-- a key in all three -/
theorem step_three {c i : Nat} {o base a b x y z m : Tr} {K ws : List Str} (hlt : i < K.length) (hK : K.length ≤ 4194304) (ho : OutT c o) (hc : c < 4194304) (h1 : Tr.Bd base) (h2 : Tr.Bd a) (h3 : Tr.Bd b) (v : List Str) (hv : v.length + ws.length ≤ 1073741824)
    (e1 : gtk base K[i] = some x) (e2 : gtk a K[i] = some y) (e3 : gtk b K[i] = some z) (hm : Tr.Bd m) (hw : ∀ w ∈ ws, (K[i]).length + w.length ≤ 4398046511104) :
    ∃ o', OutT (c + 1) o' ∧ ∀ rc : Node → Node → Node → Option (Node × List Str), rc (Tr.no x) (Tr.no y) (Tr.no z) = some (Tr.no m, ws) → impl_Merge.l0 rc (Tr.no base) (Tr.no a) (Tr.no b) K i (Tr.no o).Kind (Tr.no o).N (Tr.no o).S v (Tr.no o).Keys (Tr.no o).Kids = impl_Merge.l0 rc (Tr.no base) (Tr.no a) (Tr.no b) K ((i + 1 : Nat) : Int) (Tr.no o').Kind (Tr.no o').N (Tr.no o').S (v ++ ws.map (wayI K[i])) (Tr.no o').Keys (Tr.no o').Kids := by
  have g1 := (get_both base K[i] h1).2
  have g2 := (get_both a K[i] h2).2
  have g3 := (get_both b K[i] h3).2
  rw [e1] at g1; rw [e2] at g2; rw [e3] at g3
  obtain ⟨o', p1, p2, _⟩ := set_impl K[i] ho hc hm
  refine ⟨o', p2, fun rc hr => ?_⟩
  rw [impl_Merge.l0, if_pos (by simpa using hlt), ix_nat, List.getElem?_eq_getElem hlt, bind_some', bx g1, bx g2, bx g3, w64_succ (by omega)]
  simp only [node_eta, gv, if_true]
  rw [bx hr]
  simp only [node_eta]
  rw [bx p1, bx (ways_impl K[i] (Tr.no m, ws) v hv hw)]
/-! how many -/
def szO : Option Tr → Nat
  | none => 0
  | some t => Tr.size t
theorem sum_ite (k : Str) (s : Nat) (g : Str → Nat) : ∀ K : List Str, K.Nodup → (K.map fun key => if k = key then s else g key).sum ≤ s + (K.map g).sum
  | [], _ => by simp
  | key :: K, h => by
    obtain ⟨h1, h2⟩ := List.nodup_cons.1 h
    simp only [List.map_cons, List.sum_cons]
    by_cases e : k = key
    · rw [if_pos e]
      have : K.map (fun key => if k = key then s else g key) = K.map g := List.map_congr_left fun y hy => by
        rw [if_neg]; rintro rfl; exact h1 (e ▸ hy)
      rw [this]; omega
    · rw [if_neg e]
      have := sum_ite k s g K h2
      omega
def fnd (ks : List Str) (kids : List Tr) (key : Str) : Option Tr := (posA key ks).bind fun p => kids[p]?
theorem fnd_cons (k : Str) (ks : List Str) (t : Tr) (kids : List Tr) (key : Str) : fnd (k :: ks) (t :: kids) key = if k = key then some t else fnd ks kids key := by
  unfold fnd
  rw [posA]
  split
  · rfl
  · cases posA key ks with
    | none => rfl
    | some p => rfl
theorem sum_zero : ∀ K : List Str, (K.map fun _ => 0).sum = 0
  | [] => rfl
  | _ :: K => by rw [List.map_cons, List.sum_cons, sum_zero K]
theorem fnd_sum : ∀ (kids : List Tr) (ks : List Str) (K : List Str), K.Nodup → (K.map fun key => szO (fnd ks kids key)).sum ≤ Tr.sizes kids
  | [], ks, K, _ => by
    have : ∀ key, szO (fnd ks [] key) = 0 := fun key => by
      unfold fnd; cases posA key ks <;> rfl
    rw [show (fun key => szO (fnd ks [] key)) = fun _ => 0 from funext this, sum_zero]; omega
  | t :: kids, [], K, _ => by
    rw [show (fun key => szO (fnd [] (t :: kids) key)) = fun _ => 0 from funext fun key => rfl, sum_zero]; omega
  | t :: kids, k :: ks, K, h => by
    have e : (fun key => szO (fnd (k :: ks) (t :: kids) key)) = fun key => if k = key then Tr.size t else szO (fnd ks kids key) := funext fun key => by
      rw [fnd_cons]; split <;> rfl
    rw [e, Tr.sizes]
    exact Nat.le_trans (sum_ite k _ _ K h) (Nat.add_le_add_left (fnd_sum kids ks K h) _)
theorem gtk_sum (t : Tr) (K : List Str) (h : K.Nodup) : (K.map fun key => szO (gtk t key)).sum + 1 ≤ Tr.size t := by
  cases t with
  | mk kd n s ks kids =>
    rw [Tr.size]
    by_cases h5 : kd = 5
    · have : (fun key => szO (gtk (.mk kd n s ks kids) key)) = fun key => szO (fnd ks kids key) := funext fun key => by simp only [gtk, if_pos h5]; rfl
      rw [this]; have := fnd_sum kids ks K h; omega
    · have : (fun key => szO (gtk (.mk kd n s ks kids) key)) = fun _ => 0 := funext fun key => by simp only [gtk, if_neg h5]; rfl
      rw [this, sum_zero]; omega
theorem gtk_kk {t u : Tr} {key : Str} (h : gtk t key = some u) : key ∈ kk t := by
  cases t with
  | mk kd n s ks kids =>
    simp only [gtk] at h
    split at h
    · obtain ⟨p, h1, h2⟩ := Option.bind_eq_some_iff.1 h
      have hp := (List.getElem?_eq_some_iff.1 h2).1
      show key ∈ ks.take kids.length
      exact List.mem_of_getElem? (i := p) (by rw [List.getElem?_take, if_pos hp]; exact posA_some h1)
    · cases h
theorem kk_keys {t : Tr} {key : Str} (h : key ∈ kk t) : key ∈ t.keys := by
  cases t with
  | mk kd n s ks kids => exact List.mem_of_mem_take h
theorem gtk_size {t u : Tr} {key : Str} (h : gtk t key = some u) : ∃ kids, (∃ k n s ks, t = .mk k n s ks kids) ∧ u ∈ kids := by
  cases t with
  | mk kd n s ks kids =>
    simp only [gtk] at h
    split at h
    · obtain ⟨p, h1, h2⟩ := Option.bind_eq_some_iff.1 h
      exact ⟨kids, ⟨_, _, _, _, rfl⟩, List.mem_of_getElem? h2⟩
    · cases h
theorem sm_bd : ∀ t : Tr, Tr.Sm t → Tr.Bd t := Tr.ind fun k n s ks kids ih h => by
  cases h with
  | mk s1 s2 s3 s4 => exact .mk (by have := s2.1; omega) (by omega) fun t ht => ih t ht (s4 t ht)
theorem sm_smk {t : Tr} (h : Tr.Sm t) : SmK t := by
  cases h with
  | mk s1 s2 s3 s4 => exact s2.1
theorem sm_key {t : Tr} {key : Str} (h : Tr.Sm t) (hk : key ∈ t.keys) : key.length ≤ 1048576 := by
  cases h with
  | mk s1 s2 s3 s4 => exact s2.2 key hk
theorem gtk_sm {t u : Tr} {key : Str} (h : Tr.Sm t) (hg : gtk t key = some u) : Tr.Sm u ∧ Tr.size u + 1 ≤ Tr.size t := by
  obtain ⟨kids, ⟨k, n, s, ks, rfl⟩, hu⟩ := gtk_size hg
  cases h with
  | mk s1 s2 s3 s4 => exact ⟨s4 u hu, by have := Tr.size_le kids u hu; rw [Tr.size]; omega⟩
theorem size_pos' : ∀ t : Tr, 1 ≤ Tr.size t
  | .mk _ _ _ _ _ => by rw [Tr.size]; omega
theorem sum_three (f g h : Str → Nat) : ∀ K : List Str, (K.map fun y => f y + g y + h y).sum = (K.map f).sum + (K.map g).sum + (K.map h).sum
  | [] => rfl
  | y :: K => by
    have := sum_three f g h K
    simp only [List.map_cons, List.sum_cons]; omega
def SK (base a b : Tr) (key : Str) : Nat := szO (gtk base key) + szO (gtk a key) + szO (gtk b key)
theorem flat_len (W : Str → List Str) (S : Str → Nat) : ∀ K : List Str, (∀ y ∈ K, (W y).length ≤ S y) → (K.flatMap W).length ≤ (K.map S).sum
  | [], _ => by simp
  | y :: K, h => by
    have h1 := h y (by simp)
    have h2 := flat_len W S K fun z hz => h z (by simp [hz])
    simp only [List.flatMap_cons, List.length_append, List.map_cons, List.sum_cons]; omega
/-- what a key does -/
structure KeyT (base a b : Tr) (D : Nat) (key : Str) (w w' : List Str) : Prop where
  nil : w = [] ↔ w' = []
  len : w.length ≤ SK base a b key
  len' : w'.length ≤ SK base a b key
  str : ∀ u ∈ w, u.length ≤ 1048578 * (D + 1)
  str' : ∀ u ∈ w', u.length ≤ 1048578 * (D + 1)
  none : gtk base key = .none → gtk a key = .none → gtk b key = .none → w = []
  spec : ∀ (c : Nat) (o : Tr), OutT c o → c < 4194304 → ∃ o', OutT (c + 1) o' ∧ ∀ k, D ≤ k → spec_l11Key (spec_Merge_n k) (Tr.no o) (Tr.no base) (Tr.no a) (Tr.no b) key = some (Tr.no o', w)
  impl : ∀ (c i : Nat) (o : Tr) (K : List Str) (hlt : i < K.length), K[i] = key → K.length ≤ 4194304 → OutT c o → c < 4194304 → ∀ v : List Str, v.length ≤ 8388608 → ∃ o', OutT (c + 1) o' ∧ ∀ k, D ≤ k → impl_Merge.l0 (impl_Merge_n k) (Tr.no base) (Tr.no a) (Tr.no b) K i (Tr.no o).Kind (Tr.no o).N (Tr.no o).S v (Tr.no o).Keys (Tr.no o).Kids = impl_Merge.l0 (impl_Merge_n k) (Tr.no base) (Tr.no a) (Tr.no b) K ((i + 1 : Nat) : Int) (Tr.no o').Kind (Tr.no o').N (Tr.no o').S (v ++ w') (Tr.no o').Keys (Tr.no o').Kids
def MergeT (base a b : Tr) : Prop := ∃ m m' ws ws', (∀ k, Tr.deep base ≤ k → spec_Merge_n k (Tr.no base) (Tr.no a) (Tr.no b) = some (Tr.no m, ws) ∧ impl_Merge_n k (Tr.no base) (Tr.no a) (Tr.no b) = some (Tr.no m', ws')) ∧ Tr.Bd m ∧ Tr.Bd m' ∧ (ws = [] ↔ ws' = []) ∧ ws.length ≤ Tr.size base + Tr.size a + Tr.size b ∧ ws'.length ≤ Tr.size base + Tr.size a + Tr.size b ∧ (∀ w ∈ ws, w.length ≤ 1048578 * Tr.deep base) ∧ (∀ w ∈ ws', w.length ≤ 1048578 * Tr.deep base)
theorem key_ex (base a b : Tr) (h1 : Tr.Sm base) (h2 : Tr.Sm a) (h3 : Tr.Sm b) (hz : Tr.size base + Tr.size a + Tr.size b ≤ 3145731) (D : Nat) (hD : ∀ x key, gtk base key = some x → Tr.deep x ≤ D)
    (ih : ∀ x key, gtk base key = some x → ∀ y z, Tr.Sm y → Tr.Sm z → Tr.size x + Tr.size y + Tr.size z ≤ 3145731 → MergeT x y z) (key : Str) (hkl : key.length ≤ 1048576) : ∃ w w', KeyT base a b D key w w' := by
  have d1 := sm_bd _ h1
  have d2 := sm_bd _ h2
  have d3 := sm_bd _ h3
  by_cases hn : ((gtk base key).isSome && (gtk a key).isSome && (gtk b key).isSome) = true
  · simp only [Bool.and_eq_true] at hn
    obtain ⟨⟨n1, n2⟩, n3⟩ := hn
    obtain ⟨x, e1⟩ := Option.isSome_iff_exists.1 n1
    obtain ⟨y, e2⟩ := Option.isSome_iff_exists.1 n2
    obtain ⟨z, e3⟩ := Option.isSome_iff_exists.1 n3
    obtain ⟨p1, q1⟩ := gtk_sm h1 e1
    obtain ⟨p2, q2⟩ := gtk_sm h2 e2
    obtain ⟨p3, q3⟩ := gtk_sm h3 e3
    obtain ⟨m, m', ws, ws', hm, bm, bm', hnil, hl, hl', hs, hs'⟩ := ih x key e1 y z p2 p3 (by omega)
    have hdx := hD x key e1
    have hds := Tr.deep_size x
    have hmul : 1048578 * Tr.deep x ≤ 1048578 * D := Nat.mul_le_mul_left _ hdx
    have hmul2 : 1048578 * Tr.deep x ≤ 1048578 * 3145731 := Nat.mul_le_mul_left _ (by omega)
    have hS : SK base a b key = Tr.size x + Tr.size y + Tr.size z := by unfold SK; rw [e1, e2, e3]; rfl
    have cw : ∀ w ∈ ws, key.length + w.length ≤ 4398046511104 := fun w hw => by have := hs w hw; omega
    have cw' : ∀ w ∈ ws', key.length + w.length ≤ 4398046511104 := fun w hw => by have := hs' w hw; omega
    refine ⟨ws.map (wayS key), ws'.map (wayI key), ?_, by rw [hS, List.length_map]; exact hl, by rw [hS, List.length_map]; exact hl', ?_, ?_, fun h => (by rw [e1] at h; cases h), fun c o ho hc => ?_, fun c i o K hlt hKi hK ho hc v hv => ?_⟩
    · rw [List.map_eq_nil_iff, List.map_eq_nil_iff]; exact hnil
    · intro u hu
      obtain ⟨w, hw, rfl⟩ := List.mem_map.1 hu
      have := wayS_len key w; have := hs w hw; rw [Nat.mul_add]; omega
    · intro u hu
      obtain ⟨w, hw, rfl⟩ := List.mem_map.1 hu
      have := wayI_len key w; have := hs' w hw; rw [Nat.mul_add]; omega
    · obtain ⟨o', r1, r2⟩ := l11Key_three key ho hc d1 d2 d3 e1 e2 e3 bm (by omega) cw
      exact ⟨o', r2, fun k hk => r1 _ (hm k (by omega)).1⟩
    · subst hKi
      obtain ⟨o', r1, r2⟩ := step_three hlt hK ho hc d1 d2 d3 v (by omega) e1 e2 e3 bm' cw'
      exact ⟨o', r1, fun k hk => r2 _ (hm k (by omega)).2⟩
  · have hn' : ((gtk base key).isSome && (gtk a key).isSome && (gtk b key).isSome) = false := by simpa using hn
    have hle : (if conf (gtk base key) (gtk a key) (gtk b key) then [key] else []).length ≤ SK base a b key := by
      unfold SK
      cases e1 : gtk base key with
      | some x => have := size_pos' x; simp only [szO]; split <;> simp; omega
      | none => cases e2 : gtk a key with
        | some y => have := size_pos' y; simp only [szO]; split <;> simp; omega
        | none => cases e3 : gtk b key with
          | some z => have := size_pos' z; simp only [szO]; split <;> simp; omega
          | none => simp [conf, sameO]
    have hstr : ∀ u ∈ (if conf (gtk base key) (gtk a key) (gtk b key) then [key] else []), u.length ≤ 1048578 * (D + 1) := by
      intro u hu
      split at hu
      · simp only [List.mem_singleton] at hu; subst hu; rw [Nat.mul_add]; omega
      · cases hu
    refine ⟨_, _, Iff.rfl, hle, hle, hstr, hstr, fun a1 a2 a3 => (by rw [a1, a2, a3]; simp [conf, sameO]), fun c o ho hc => ?_, fun c i o K hlt hKi hK ho hc v hv => ?_⟩
    · obtain ⟨o', r1, r2⟩ := l11Key_two (rc := spec_Merge_n 0) key ho hc d1 d2 d3 hn'
      exact ⟨o', r2, fun k hk => r1 _⟩
    · subst hKi
      obtain ⟨o', r1, r2⟩ := step_two hlt hK ho hc d1 d2 d3 v (by omega) hn'
      exact ⟨o', r1, fun k hk => r2 _⟩
/-- all keys -/
theorem loop_spec {base a b : Tr} {D : Nat} {W W' : Str → List Str} (K : List Str) (hK : K.length ≤ 3145728) (hW : ∀ key ∈ K, KeyT base a b D key (W key) (W' key)) : ∀ i, i ≤ K.length → ∀ o, OutT i o → ∀ v : List Str, v.length + ((K.drop i).map (SK base a b)).sum ≤ 8388608 →
    ∃ o', OutT K.length o' ∧ ∀ k, D ≤ k → spec_Merge.l0 (spec_Merge_n k) (Tr.no base) (Tr.no a) (Tr.no b) K i (Tr.no o).Kind (Tr.no o).N (Tr.no o).S (Tr.no o).Keys (Tr.no o).Kids v = some ((Tr.no o').Kind, (Tr.no o').N, (Tr.no o').S, (Tr.no o').Keys, (Tr.no o').Kids, v ++ (K.drop i).flatMap W) := by
  refine down (P := fun i => ∀ o, OutT i o → ∀ v : List Str, v.length + ((K.drop i).map (SK base a b)).sum ≤ 8388608 → ∃ o', OutT K.length o' ∧ ∀ k, D ≤ k → spec_Merge.l0 (spec_Merge_n k) (Tr.no base) (Tr.no a) (Tr.no b) K i (Tr.no o).Kind (Tr.no o).N (Tr.no o).S (Tr.no o).Keys (Tr.no o).Kids v = some ((Tr.no o').Kind, (Tr.no o').N, (Tr.no o').S, (Tr.no o').Keys, (Tr.no o').Kids, v ++ (K.drop i).flatMap W)) _ fun i hi ih o ho v hv => ?_
  by_cases hlt : i < K.length
  · have hk := hW _ (List.getElem_mem hlt)
    obtain ⟨o1, p1, p2⟩ := hk.spec i o ho (by omega)
    have hl := hk.len
    rw [List.drop_eq_getElem_cons hlt, List.map_cons, List.sum_cons] at hv
    obtain ⟨o2, r1, r2⟩ := ih hlt o1 p1 (v ++ W K[i]) (by rw [List.length_append]; omega)
    refine ⟨o2, r1, fun k hk' => ?_⟩
    rw [spec_Merge.l0, if_pos (by simpa using hlt), ix_nat, List.getElem?_eq_getElem hlt, bind_some', node_eta, bx (p2 k hk'), bx (app_ok (b := 16) (l := v) (m := W K[i]) (by omega)), w64_succ (by omega), r2 k hk', List.drop_eq_getElem_cons hlt, List.flatMap_cons, List.append_assoc]
  · obtain rfl : i = K.length := by omega
    refine ⟨o, ho, fun k hk' => ?_⟩
    rw [spec_Merge.l0, if_neg (by simp), List.drop_length]; simp
theorem loop_impl {base a b : Tr} {D : Nat} {W W' : Str → List Str} (K : List Str) (hK : K.length ≤ 3145728) (hW : ∀ key ∈ K, KeyT base a b D key (W key) (W' key)) : ∀ i, i ≤ K.length → ∀ o, OutT i o → ∀ v : List Str, v.length + ((K.drop i).map (SK base a b)).sum ≤ 8388608 →
    ∃ o', OutT K.length o' ∧ ∀ k, D ≤ k → impl_Merge.l0 (impl_Merge_n k) (Tr.no base) (Tr.no a) (Tr.no b) K i (Tr.no o).Kind (Tr.no o).N (Tr.no o).S v (Tr.no o).Keys (Tr.no o).Kids = some ((Tr.no o').Kind, (Tr.no o').N, (Tr.no o').S, (Tr.no o').Keys, (Tr.no o').Kids, v ++ (K.drop i).flatMap W') := by
  refine down (P := fun i => ∀ o, OutT i o → ∀ v : List Str, v.length + ((K.drop i).map (SK base a b)).sum ≤ 8388608 → ∃ o', OutT K.length o' ∧ ∀ k, D ≤ k → impl_Merge.l0 (impl_Merge_n k) (Tr.no base) (Tr.no a) (Tr.no b) K i (Tr.no o).Kind (Tr.no o).N (Tr.no o).S v (Tr.no o).Keys (Tr.no o).Kids = some ((Tr.no o').Kind, (Tr.no o').N, (Tr.no o').S, (Tr.no o').Keys, (Tr.no o').Kids, v ++ (K.drop i).flatMap W')) _ fun i hi ih o ho v hv => ?_
  by_cases hlt : i < K.length
  · have hk := hW _ (List.getElem_mem hlt)
    obtain ⟨o1, p1, p2⟩ := hk.impl i i o K hlt rfl (by omega) ho (by omega) v (by omega)
    have hl := hk.len'
    rw [List.drop_eq_getElem_cons hlt, List.map_cons, List.sum_cons] at hv
    obtain ⟨o2, r1, r2⟩ := ih hlt o1 p1 (v ++ W' K[i]) (by rw [List.length_append]; omega)
    refine ⟨o2, r1, fun k hk' => ?_⟩
    rw [p2 k hk', r2 k hk', List.drop_eq_getElem_cons hlt, List.flatMap_cons, List.append_assoc]
  · obtain rfl : i = K.length := by omega
    refine ⟨o, ho, fun k hk' => ?_⟩
    rw [impl_Merge.l0, if_neg (by simp), List.drop_length]; simp
theorem merge_both : ∀ base, Tr.Sm base → ∀ a b, Tr.Sm a → Tr.Sm b → Tr.size base + Tr.size a + Tr.size b ≤ 3145731 → MergeT base a b := by
  refine Tr.ind fun kd n s ks kids ih hsm a b h2 h3 hz => ?_
  obtain ⟨base, hbase⟩ : ∃ base, base = Tr.mk kd n s ks kids := ⟨_, rfl⟩
  rw [← hbase] at hsm hz ⊢
  have d1 := sm_bd _ hsm
  have d2 := sm_bd _ h2
  have d3 := sm_bd _ h3
  have hp := size_pos' base
  have hdp := Tr.deep_pos base
  suffices main : ∃ m m' ws ws', (∀ k, Tr.deeps kids ≤ k → spec_Merge_F (spec_Merge_n k) (Tr.no base) (Tr.no a) (Tr.no b) = some (Tr.no m, ws) ∧ impl_Merge_F (impl_Merge_n k) (Tr.no base) (Tr.no a) (Tr.no b) = some (Tr.no m', ws')) ∧ Tr.Bd m ∧ Tr.Bd m' ∧ (ws = [] ↔ ws' = []) ∧ ws.length ≤ Tr.size base + Tr.size a + Tr.size b ∧ ws'.length ≤ Tr.size base + Tr.size a + Tr.size b ∧ (∀ w ∈ ws, w.length ≤ 1048578 * Tr.deep base) ∧ (∀ w ∈ ws', w.length ≤ 1048578 * Tr.deep base) by
    obtain ⟨m, m', ws, ws', h, rest⟩ := main
    refine ⟨m, m', ws, ws', fun k hk => ?_, rest⟩
    obtain ⟨k1, e1, hk1⟩ := fuel1 hbase hk
    subst e1
    exact h k1 hk1
  have t1 := ts_both b base d3 d1
  have t2 := ts_both a b d2 d3
  have t3 := ts_both a base d2 d1
  have ca := copy_spec a d2
  have ca' := copy_impl a d2
  have cb := copy_spec b d3
  have cb' := copy_impl b d3
  have small : ∀ t : Tr, Tr.Bd t → (∀ k, Tr.deeps kids ≤ k → spec_Merge_F (spec_Merge_n k) (Tr.no base) (Tr.no a) (Tr.no b) = some (Tr.no t, []) ∧ impl_Merge_F (impl_Merge_n k) (Tr.no base) (Tr.no a) (Tr.no b) = some (Tr.no t, [])) → ∃ m m' ws ws', (∀ k, Tr.deeps kids ≤ k → spec_Merge_F (spec_Merge_n k) (Tr.no base) (Tr.no a) (Tr.no b) = some (Tr.no m, ws) ∧ impl_Merge_F (impl_Merge_n k) (Tr.no base) (Tr.no a) (Tr.no b) = some (Tr.no m', ws')) ∧ Tr.Bd m ∧ Tr.Bd m' ∧ (ws = [] ↔ ws' = []) ∧ ws.length ≤ Tr.size base + Tr.size a + Tr.size b ∧ ws'.length ≤ Tr.size base + Tr.size a + Tr.size b ∧ (∀ w ∈ ws, w.length ≤ 1048578 * Tr.deep base) ∧ (∀ w ∈ ws', w.length ≤ 1048578 * Tr.deep base) := fun t ht h => ⟨t, t, [], [], h, ht, ht, Iff.rfl, by simp, by simp, by simp, by simp⟩
  have dot : (∀ k, Tr.deeps kids ≤ k → spec_Merge_F (spec_Merge_n k) (Tr.no base) (Tr.no a) (Tr.no b) = some (Tr.no a, [[46]]) ∧ impl_Merge_F (impl_Merge_n k) (Tr.no base) (Tr.no a) (Tr.no b) = some (Tr.no a, [[46]])) → ∃ m m' ws ws', (∀ k, Tr.deeps kids ≤ k → spec_Merge_F (spec_Merge_n k) (Tr.no base) (Tr.no a) (Tr.no b) = some (Tr.no m, ws) ∧ impl_Merge_F (impl_Merge_n k) (Tr.no base) (Tr.no a) (Tr.no b) = some (Tr.no m', ws')) ∧ Tr.Bd m ∧ Tr.Bd m' ∧ (ws = [] ↔ ws' = []) ∧ ws.length ≤ Tr.size base + Tr.size a + Tr.size b ∧ ws'.length ≤ Tr.size base + Tr.size a + Tr.size b ∧ (∀ w ∈ ws, w.length ≤ 1048578 * Tr.deep base) ∧ (∀ w ∈ ws', w.length ≤ 1048578 * Tr.deep base) := fun h => ⟨a, a, [[46]], [[46]], h, d2, d2, Iff.rfl, by simp; omega, by simp; omega, by simp; omega, by simp; omega⟩
  unfold spec_Merge_F impl_Merge_F at small dot ⊢
  simp only [bx t1.1, bx t1.2, bx t2.1, bx t2.2, bx t3.1, bx t3.2] at small dot ⊢
  by_cases c1 : TS b base = true
  · exact small a d2 fun k hk => ⟨by rw [if_pos c1, bx ca], by rw [if_pos c1, bx ca']⟩
  by_cases c2 : TS a b = true
  · exact small a d2 fun k hk => ⟨by rw [if_neg c1, if_pos c2, bx ca], by rw [if_neg c1, if_pos c2, bx ca']⟩
  by_cases c3 : TS a base = true
  · exact small b d3 fun k hk => ⟨by rw [if_neg c1, if_neg c2, if_pos c3, bx cb], by rw [if_neg c1, if_neg c2, if_pos c3, bx cb']⟩
  by_cases c4 : ((Tr.no base).Kind != 5) = true
  · exact dot fun k hk => ⟨by rw [if_neg c1, if_neg c2, if_neg c3, if_pos c4, bx ca], by rw [if_neg c1, if_neg c2, if_neg c3, if_pos c4, bx ca']⟩
  by_cases c5 : ((Tr.no a).Kind != 5) = true
  · exact dot fun k hk => ⟨by rw [if_neg c1, if_neg c2, if_neg c3, if_neg c4, if_pos c5, bx ca], by rw [if_neg c1, if_neg c2, if_neg c3, if_neg c4, if_pos c5, bx ca']⟩
  by_cases c6 : ((Tr.no b).Kind != 5) = true
  · exact dot fun k hk => ⟨by rw [if_neg c1, if_neg c2, if_neg c3, if_neg c4, if_neg c5, if_pos c6, bx ca], by rw [if_neg c1, if_neg c2, if_neg c3, if_neg c4, if_neg c5, if_pos c6, bx ca']⟩
  clear small dot
  obtain ⟨K, k1, k2, k3, k4⟩ := l11_some base a b (sm_smk hsm) (sm_smk h2) (sm_smk h3)
  obtain ⟨U, u1, u2, u3, u4⟩ := union_some base a b (sm_smk hsm) (sm_smk h2) (sm_smk h3)
  have hdb : Tr.deep base = Tr.deeps kids + 1 := by rw [hbase, Tr.deep]
  have hkid : ∀ x key, gtk base key = some x → x ∈ kids := fun x key h => by
    obtain ⟨kids', ⟨k', n', s', ks', e⟩, hx⟩ := gtk_size h
    rw [hbase] at e; cases e; exact hx
  have hkey : ∀ key, ∃ w w', key.length ≤ 1048576 → KeyT base a b (Tr.deeps kids) key w w' := fun key => by
    by_cases hl : key.length ≤ 1048576
    · obtain ⟨w, w', h⟩ := key_ex base a b hsm h2 h3 hz (Tr.deeps kids) (fun x key h => Tr.deeps_le kids x (hkid x key h)) (fun x key h y z hy hz' hs => ih x (hkid x key h) (gtk_sm hsm h).1 y z hy hz' hs) key hl
      exact ⟨w, w', fun _ => h⟩
    · exact ⟨[], [], fun h => absurd h hl⟩
  obtain ⟨W, hW⟩ := Classical.axiomOfChoice hkey
  obtain ⟨W', hW'⟩ := Classical.axiomOfChoice hW
  have mK : ∀ key ∈ K, key.length ≤ 1048576 := fun key hk => by
    rcases (k3 key).1 hk with h | h | h
    · exact sm_key hsm h
    · exact sm_key h2 h
    · exact sm_key h3 h
  have mU : ∀ key ∈ U, key.length ≤ 1048576 := fun key hk => by
    rcases (u3 key).1 hk with h | h | h
    · exact sm_key hsm (kk_keys h)
    · exact sm_key h2 (kk_keys h)
    · exact sm_key h3 (kk_keys h)
  have hsum : ∀ L : List Str, L.Nodup → (L.map (SK base a b)).sum + 3 ≤ Tr.size base + Tr.size a + Tr.size b := fun L hL => by
    have e : (L.map (SK base a b)).sum = (L.map fun key => szO (gtk base key)).sum + (L.map fun key => szO (gtk a key)).sum + (L.map fun key => szO (gtk b key)).sum := sum_three _ _ _ L
    have g1 := gtk_sum base L hL
    have g2 := gtk_sum a L hL
    have g3 := gtk_sum b L hL
    omega
  have sK := hsum K k2
  have sU := hsum U u2
  have e5 : Tr.no (.mk 5 0 [] [] []) = Node.mk 5 0 [] [] [] := by rw [Tr.no, Tr.nos]
  have o5 : OutT 0 (.mk 5 0 [] [] []) := ⟨0, [], [], [], rfl, rfl, by simp, by simp⟩
  obtain ⟨m, m1, m2⟩ := loop_spec K (by omega) (fun key hk => hW' key (mK key hk)) 0 (by omega) _ o5 [] (by simp; omega)
  obtain ⟨m', m1', m2'⟩ := loop_impl U (by omega) (fun key hk => hW' key (mU key hk)) 0 (by omega) _ o5 [] (by simp; omega)
  rw [e5] at m2 m2'
  simp only [Int.natCast_zero, List.nil_append, List.drop_zero] at m2 m2'
  refine ⟨m, m', K.flatMap W, U.flatMap W', fun k hk => ⟨?_, ?_⟩, m1.bd (by omega), m1'.bd (by omega), ?_, ?_, ?_, ?_, ?_⟩
  · rw [if_neg c1, if_neg c2, if_neg c3, if_neg c4, if_neg c5, if_neg c6, bx k1, bx (m2 k hk)]
  · rw [if_neg c1, if_neg c2, if_neg c3, if_neg c4, if_neg c5, if_neg c6, bx u1, bx (m2' k hk)]
  · rw [List.flatMap_eq_nil_iff, List.flatMap_eq_nil_iff]
    constructor
    · intro h key hk
      have hkK : key ∈ K := (k3 key).2 (((u3 key).1 hk).imp kk_keys fun h => h.imp kk_keys kk_keys)
      exact (hW' key (mU key hk)).nil.1 (h key hkK)
    · intro h key hk
      have hw := hW' key (mK key hk)
      by_cases hu : key ∈ U
      · exact hw.nil.2 (h key hu)
      · have hno : ∀ t : Tr, (key ∉ kk t) → gtk t key = none := fun t ht => by
          cases e : gtk t key with
          | none => rfl
          | some u => exact absurd (gtk_kk e) ht
        exact hw.none (hno _ fun h => hu ((u3 key).2 (.inl h))) (hno _ fun h => hu ((u3 key).2 (.inr (.inl h)))) (hno _ fun h => hu ((u3 key).2 (.inr (.inr h))))
  · have := flat_len W (SK base a b) K fun y hy => (hW' y (mK y hy)).len
    omega
  · have := flat_len W' (SK base a b) U fun y hy => (hW' y (mU y hy)).len'
    omega
  · intro w hw
    obtain ⟨key, hk, hw⟩ := List.mem_flatMap.1 hw
    rw [hdb]; exact (hW' key (mK key hk)).str w hw
  · intro w hw
    obtain ⟨key, hk, hw⟩ := List.mem_flatMap.1 hw
    rw [hdb]; exact (hW' key (mU key hk)).str' w hw
theorem Pure.FnExactAgreed (a b c : Node) (ha : Node.ok a) (hb : Node.ok b) (hc : Node.ok c) : laws_FnExactAgreed a b c = some true := by
  obtain ⟨d, hd⟩ := ha
  obtain ⟨t, rfl⟩ := tr_of d a hd
  obtain ⟨d2, hd2⟩ := hb
  obtain ⟨u, rfl⟩ := tr_of d2 b hd2
  obtain ⟨d3, hd3⟩ := hc
  obtain ⟨v, rfl⟩ := tr_of d3 c hd3
  obtain ⟨r, e, hle, hr⟩ := szNode_sp t (tr_ok t d hd) 1048576 (by omega) (by omega)
  have e' : laws_szNode (Tr.no t) 1048576 = some r := Nt.lim_of _ e
  unfold laws_FnExactAgreed
  rw [bx e']
  rcases hr with hr | ⟨hs, hz⟩
  · rw [if_pos (by simpa using hr)]
  by_cases h0 : decide (r < 0) = true
  · rw [if_pos h0]
  rw [if_neg h0]; simp at h0
  obtain ⟨r2, e2, hle2, hr2⟩ := szNode_sp u (tr_ok u d2 hd2) r (by omega) (by omega)
  have e2' : laws_szNode (Tr.no u) r = some r2 := Nt.lim_of _ e2
  rw [bx e2']
  rcases hr2 with hr2 | ⟨hs2, hz2⟩
  · rw [if_pos (by simpa using hr2)]
  by_cases h02 : decide (r2 < 0) = true
  · rw [if_pos h02]
  rw [if_neg h02]; simp at h02
  obtain ⟨r3, e3, hle3, hr3⟩ := szNode_sp v (tr_ok v d3 hd3) r2 (by omega) (by omega)
  have e3' : laws_szNode (Tr.no v) r2 = some r3 := Nt.lim_of _ e3
  rw [bx e3']
  rcases hr3 with hr3 | ⟨hs3, hz3⟩
  · rw [if_pos (by simpa using hr3)]
  by_cases h03 : decide (r3 < 0) = true
  · rw [if_pos h03]
  rw [if_neg h03]; simp at h03
  have t1 : laws_toNode (Tr.no t) = some (Tr.no t) := Nt.lim_of _ (toNode_some t hs)
  have t2 : laws_toNode (Tr.no u) = some (Tr.no u) := Nt.lim_of _ (toNode_some u hs2)
  have t3 : laws_toNode (Tr.no v) = some (Tr.no v) := Nt.lim_of _ (toNode_some v hs3)
  have q1 : laws_eqNode (Tr.no t) (Tr.no t) = some true := Nt.lim_of _ (eqNode_self t hs)
  have q2 : laws_eqNode (Tr.no u) (Tr.no u) = some true := Nt.lim_of _ (eqNode_self u hs2)
  have q3 : laws_eqNode (Tr.no v) (Tr.no v) = some true := Nt.lim_of _ (eqNode_self v hs3)
  obtain ⟨m, m', ws, ws', hm, _, _, hnil, _⟩ := merge_both t hs u v hs2 hs3 (by omega)
  have g1 : spec_Merge (Tr.no t) (Tr.no u) (Tr.no v) = some (Tr.no m, ws) := Nt.lim_of _ fun k hk => (hm k hk).1
  have g2 : impl_Merge (Tr.no t) (Tr.no u) (Tr.no v) = some (Tr.no m', ws') := Nt.lim_of _ fun k hk => (hm k hk).2
  have f1 : spec_Agreed (Tr.no t) (Tr.no u) (Tr.no v) = some (decide (ws = [])) := by
    unfold spec_Agreed; rw [bx g1]
    cases ws <;> simp <;> omega
  have f2 : impl_Agreed (Tr.no t) (Tr.no u) (Tr.no v) = some (decide (ws = [])) := by
    unfold impl_Agreed; rw [bx g2]
    have : decide (ws = []) = decide (ws' = []) := decide_eq_decide.2 hnil
    rw [this]
    cases ws' <;> simp <;> omega
  rw [bx t1, bx t2, bx t3, bx f1, bx t1, bx t2, bx t3, bx f2, if_neg (by simp), bx t1, bx q1, if_neg (by decide), bx t2, bx q2, if_neg (by decide), bx t3, bx q3, if_neg (by decide)]
end Go.Pu
