import Derived.Test.YtmdmbolhbjfcjaaSx1
import Derived.Below
set_option linter.unusedVariables false
set_option linter.unusedSimpArgs false
set_option linter.unusedSectionVars false
namespace Go.SX
open Go.RowKit (Below)

inductive All2 {α β : Type} (R : α → β → Prop) : List α → List β → Prop
  | nil : All2 R [] []
  | cons {a b l m} : R a b → All2 R l m → All2 R (a :: l) (b :: m)
namespace All2
variable {α β : Type} {R S : α → β → Prop}
theorem len {l : List α} {m : List β} (h : All2 R l m) : l.length = m.length := by
  induction h with
  | nil => rfl
  | cons _ _ ih => simp [ih]
theorem imp {l : List α} {m : List β} (h : All2 R l m) (f : ∀ a b, R a b → S a b) : All2 S l m := by
  induction h with
  | nil => exact .nil
  | cons h _ ih => exact .cons (f _ _ h) ih
theorem get {l : List α} {m : List β} (h : All2 R l m) : ∀ (i : Nat) a, l[i]? = some a → ∃ b, m[i]? = some b ∧ R a b := by
  induction h with
  | nil => intro i a h; simp at h
  | cons h _ ih =>
    intro i a hi
    cases i with
    | zero => simp at hi; subst hi; exact ⟨_, rfl, h⟩
    | succ i => simpa using ih i a (by simpa using hi)
theorem of_get {l : List α} {m : List β} (hl : l.length = m.length) (h : ∀ (i : Nat) a b, l[i]? = some a → m[i]? = some b → R a b) : All2 R l m := by
  induction l generalizing m with
  | nil => cases m with
    | nil => exact .nil
    | cons _ _ => simp at hl
  | cons a l ih => cases m with
    | nil => simp at hl
    | cons b m => exact .cons (h 0 a b rfl rfl) (ih (by simpa using hl) fun i a b ha hb => h (i + 1) a b (by simpa using ha) (by simpa using hb))
theorem append {l l' : List α} {m m' : List β} (h : All2 R l m) (k : All2 R l' m') : All2 R (l ++ l') (m ++ m') := by
  induction h with
  | nil => exact k
  | cons h _ ih => exact .cons h ih
theorem take {l : List α} {m : List β} (h : All2 R l m) (n : Nat) : All2 R (l.take n) (m.take n) := by
  induction h generalizing n with
  | nil => simp; exact .nil
  | cons h _ ih => cases n with
    | zero => simp; exact .nil
    | succ n => simp; exact .cons h (ih n)
theorem drop {l : List α} {m : List β} (h : All2 R l m) (n : Nat) : All2 R (l.drop n) (m.drop n) := by
  induction h generalizing n with
  | nil => simp; exact .nil
  | cons h t ih => cases n with
    | zero => simp; exact .cons h t
    | succ n => simp; exact ih n
end All2

/-- v tells c in w, by blocks that are ok -/
inductive Holds (w : World) (ok : Nat → Prop) : C → Value → Prop
  | s (v : Value) (h : v.oneCell' = true) : Holds w ok (.s v) v
  | r (l : List (List C)) (a : Option Addr) (n cap sz : Nat) (f : Nat → Nat → Value) (hn : l.length = n) (hc : n ≤ cap) (hz : ∀ el ∈ l, el.length = sz)
      (hm : ∀ i j, i < n → j < sz → ∃ ad, a = some ad ∧ ok ad.block ∧ w.cell? (ad.add (i * sz + j)) = some (f i j))
      (hf : ∀ i j el c, l[i]? = some el → el[j]? = some c → Holds w ok c (f i j)) : Holds w ok (.r l) (.slice a n cap)

structure RV where
  a : Option Addr
  n : Nat
  cap : Nat
  sz : Nat
  κ : Option Nat
structure Env where
  β : List Nat
  ρ : List RV

def ptr (k : Nat) : Value := .pointer (some ⟨k, 0, none⟩)
/-- what a one-cell slot holds -/
def XRel (w : World) (ok : Nat → Prop) (E : Env) : T → Value → Prop
  | .c x, v => Holds w ok x v
  | .nil, v => v = .slice none 0 0
  | .row i, v => ∃ r, E.ρ[i]? = some r ∧ v = .slice r.a r.n r.cap
  | .sl i lo hi, v => ∃ r a', E.ρ[i]? = some r ∧ lo ≤ hi ∧ hi ≤ r.n ∧ v = .slice a' (hi - lo) (r.cap - lo) ∧ (r.cap - lo ≠ 0 → ∃ ad, r.a = some ad ∧ a' = some (ad.add (lo * r.sz)))
  | .bp b o, v => ∃ k, E.β[b]? = some k ∧ v = .pointer (some ⟨k, o, none⟩)
  | .rp i n o, v => ∃ r ad, E.ρ[i]? = some r ∧ r.a = some ad ∧ n < r.n ∧ v = .pointer (some (ad.add (n * r.sz + o)))
  | .cp l o, v => ∃ (ad : Addr) (f : Nat → Value), v = .pointer (some (ad.add o)) ∧ (∀ j c, l[j]? = some c → ok ad.block ∧ w.cell? (ad.add j) = some (f j) ∧ Holds w ok c (f j))
  | .fn g bs, v => ∃ ks, v = .func (.func g) #[] (ks.map ptr).toArray ∧ All2 (fun b k => E.β[b]? = some k) bs ks
  | _, _ => False
def VRel (w : World) (ok : Nat → Prop) (E : Env) : T → Value → Prop
  | .ag l, v => ∃ vs, v = .agg vs ∧ All2 (XRel w ok E) l vs.toList
  | x, v => XRel w ok E x v
def TRel (w : World) (ok : Nat → Prop) (E : Env) : T → Value → Prop
  | .tu l, v => ∃ vs, v = .tuple vs ∧ All2 (VRel w ok E) l vs.toList
  | .no, _ => True
  | x, v => VRel w ok E x v

def Keep (w w' : World) (ok ok' : Nat → Prop) : Prop := ∀ k, ok k → k < w.heap.size → w'.heap[k]? = w.heap[k]? ∧ ok' k
structure Env.Le (E E' : Env) : Prop where
  b : ∀ (b k : Nat), E.β[b]? = some k → E'.β[b]? = some k
  r : ∀ (i : Nat) (r : RV), E.ρ[i]? = some r → E'.ρ[i]? = some r
theorem Env.Le.refl (E : Env) : E.Le E := ⟨fun _ _ h => h, fun _ _ h => h⟩
theorem Env.Le.trans {E F G : Env} (h : E.Le F) (k : F.Le G) : E.Le G := ⟨fun b x e => k.b b x (h.b b x e), fun b x e => k.r b x (h.r b x e)⟩

section
variable {w w' : World} {ok ok' : Nat → Prop} {E E' : Env} {x : T} {v : Value}
theorem cell_lt {a : Addr} {u : Value} (h : w.cell? a = some u) : a.block < w.heap.size := by
  unfold World.cell? at h
  cases hb : w.heap[a.block]? with
  | none => simp [hb] at h
  | some o => exact (Array.getElem?_eq_some_iff.mp hb).1
theorem cell_same {a : Addr} (h : w'.heap[a.block]? = w.heap[a.block]?) : w'.cell? a = w.cell? a := by unfold World.cell?; rw [h]
theorem add_block (a : Addr) (n : Nat) : (a.add n).block = a.block := by unfold Addr.add; split <;> rfl
theorem add_add (a : Addr) (m n : Nat) : (a.add m).add n = a.add (m + n) := by
  unfold Addr.add
  by_cases hm : m = 0
  · simp [hm]
  · by_cases hn : n = 0
    · simp [hn]
    · simp [hm, hn, Nat.add_assoc]
theorem cell_keep (hk : Keep w w' ok ok') {a : Addr} {u : Value} (ho : ok a.block) (h : w.cell? a = some u) : w'.cell? a = some u ∧ ok' a.block := by
  obtain ⟨h1, h2⟩ := hk _ ho (cell_lt h)
  exact ⟨(cell_same h1).trans h, h2⟩
theorem Holds.keep {c : C} (hk : Keep w w' ok ok') (h : Holds w ok c v) : Holds w' ok' c v := by
  induction h with
  | s v h => exact .s v h
  | r l a n cap sz f hn hc hz hm _ ih =>
    refine .r l a n cap sz f hn hc hz (fun i j hi hj => ?_) ih
    obtain ⟨ad, rfl, ho, hcell⟩ := hm i j hi hj
    obtain ⟨h1, h2⟩ := cell_keep hk (a := ad.add (i * sz + j)) (by rw [add_block]; exact ho) hcell
    exact ⟨ad, rfl, by rw [add_block] at h2; exact h2, h1⟩
theorem Holds.one {c : C} (h : Holds w ok c v) : v.oneCell' = true := by cases h <;> first | assumption | rfl
theorem XRel.keep (hk : Keep w w' ok ok') (hE : E.Le E') (h : XRel w ok E x v) : XRel w' ok' E' x v := by
  cases x with
  | c x => exact Holds.keep hk h
  | nil => exact h
  | row i => obtain ⟨r, h1, h2⟩ := h; exact ⟨r, hE.r _ _ h1, h2⟩
  | sl i lo hi => obtain ⟨r, a, h1, h2⟩ := h; exact ⟨r, a, hE.r _ _ h1, h2⟩
  | bp b o => obtain ⟨k, h1, h2⟩ := h; exact ⟨k, hE.b _ _ h1, h2⟩
  | rp i n o => obtain ⟨r, a, h1, h2⟩ := h; exact ⟨r, a, hE.r _ _ h1, h2⟩
  | cp l o =>
    obtain ⟨ad, f, h1, h2⟩ := h
    refine ⟨ad, f, h1, fun j c hj => ?_⟩
    obtain ⟨h3, h4, h5⟩ := h2 j c hj
    obtain ⟨h6, h7⟩ := cell_keep hk (a := ad.add j) (by rw [add_block]; exact h3) h4
    exact ⟨by rw [add_block] at h7; exact h7, h6, h5.keep hk⟩
  | fn g bs => obtain ⟨ks, h1, h2⟩ := h; exact ⟨ks, h1, h2.imp fun _ _ h => hE.b _ _ h⟩
  | _ => exact h
theorem VRel.keep (hk : Keep w w' ok ok') (hE : E.Le E') (h : VRel w ok E x v) : VRel w' ok' E' x v := by
  cases x with
  | ag l => obtain ⟨vs, h1, h2⟩ := h; exact ⟨vs, h1, h2.imp fun _ _ h => h.keep hk hE⟩
  | _ => simp only [VRel] at h ⊢; exact XRel.keep hk hE h
theorem TRel.keep (hk : Keep w w' ok ok') (hE : E.Le E') (h : TRel w ok E x v) : TRel w' ok' E' x v := by
  cases x with
  | tu l => obtain ⟨vs, h1, h2⟩ := h; exact ⟨vs, h1, h2.imp fun _ _ h => h.keep hk hE⟩
  | no => trivial
  | _ => simp only [TRel] at h ⊢; exact VRel.keep hk hE h
theorem XRel.one (h : XRel w ok E x v) : v.oneCell' = true := by
  cases x with
  | c x => exact Holds.one h
  | nil => rw [show v = _ from h]; rfl
  | row i => obtain ⟨r, h1, rfl⟩ := h; rfl
  | sl i lo hi => obtain ⟨r, a, h1, h2, h3, rfl, h4⟩ := h; rfl
  | bp b o => obtain ⟨k, h1, rfl⟩ := h; rfl
  | rp i n o => obtain ⟨r, a, h1, h2, h3, rfl⟩ := h; rfl
  | cp l o => obtain ⟨ad, f, rfl, _⟩ := h; rfl
  | fn g bs => obtain ⟨ks, rfl, _⟩ := h; rfl
  | _ => exact h.elim
theorem XRel.t (h : XRel w ok E x v) : TRel w ok E x v := by cases x <;> first | exact h | exact h.elim
theorem one_cells {v : Value} (h : v.oneCell' = true) : v.cells = #[v] := by cases v <;> first | rfl | simp [Value.oneCell'] at h
/-- a value's cells -/
theorem TRel.flat {l : List T} (h : TRel w ok E x v) (hf : flat x = some l) : All2 (XRel w ok E) l v.cells.toList := by
  have one : ∀ y, XRel w ok E y v → All2 (XRel w ok E) [y] v.cells.toList := fun y hy => by
    rw [one_cells hy.one]; exact .cons hy .nil
  cases x <;> simp only [SX.flat, Option.some.injEq, reduceCtorEq] at hf
  case ag => obtain ⟨vs, rfl, h2⟩ := h; subst hf; exact h2
  all_goals (subst hf; exact one _ h)
end

def BoxOk (w : World) (ok : Nat → Prop) (E : Env) (k : Nat) (l : List T) : Prop := ∃ t cs, w.heap[k]? = some (.cells cs t (0, 0)) ∧ All2 (XRel w ok E) l cs.toList
def OwnAt (w : World) (ok : Nat → Prop) (r : RV) (l : List (List C)) : Prop :=
  l.length = r.n ∧ r.n ≤ r.cap ∧ (∀ el ∈ l, el.length = r.sz) ∧ (r.sz = 0 → r.κ = none) ∧
  match r.κ with
  | none => r.cap = 0
  | some k => ∃ off t cs, r.a = some ⟨k, off, none⟩ ∧ w.heap[k]? = some (.cells cs t (0, 0)) ∧ off + r.cap * r.sz ≤ cs.size ∧
      ∀ i j el c, l[i]? = some el → el[j]? = some c → ∃ u, cs[off + (i * r.sz + j)]? = some u ∧ Holds w ok c u
def ShAt (w : World) (ok : Nat → Prop) (r : RV) (l : List (List C)) : Prop :=
  l.length = r.n ∧ r.n ≤ r.cap ∧ (∀ el ∈ l, el.length = r.sz) ∧ (r.cap ≠ 0 → ∃ ad, r.a = some ad) ∧
  ∃ f : Nat → Nat → Value, (∀ i j, i < r.n → j < r.sz → ∃ ad, r.a = some ad ∧ ok ad.block ∧ w.cell? (ad.add (i * r.sz + j)) = some (f i j)) ∧ (∀ i j el c, l[i]? = some el → el[j]? = some c → Holds w ok c (f i j))
def RowOk (w : World) (ok : Nat → Prop) (r : RV) (q : Row) : Prop := q.sz = r.sz ∧ if q.ow then OwnAt w ok r q.l else ShAt w ok r q.l

def mutAt (σ : St) (E : Env) : Lend → Option Nat
  | .b b => match boxAt σ b with | some _ => E.β[b]? | none => none
  | .r i => match rowAt σ i with | some q => if q.ow then (E.ρ[i]?).bind (·.κ) else none | none => none

structure Fr (w0 : World) (L : Nat → Prop) (w : World) : Prop where
  os : w.os = w0.os
  tape : w.tape = w0.tape
  output : w.output = w0.output
  size : w0.heap.size ≤ w.heap.size
  old : ∀ k, k < w0.heap.size → ¬ L k → w.heap[k]? = w0.heap[k]?

/-- L: what of the caller's may be written; okA: what of his the arguments are seen by -/
structure Bd where
  L : Nat → Prop
  okA : Nat → Prop
structure Mem (w0 : World) (B : Bd) (σ : St) (E : Env) (ok : Nat → Prop) (w : World) : Prop where
  fr : Fr w0 B.L w
  okin : ∀ k, ok k → B.okA k ∨ w0.heap.size ≤ k ∨ B.L k
  lb : E.β.length = σ.bx.length
  lr : E.ρ.length = σ.rw.length
  box : ∀ b k l, E.β[b]? = some k → boxAt σ b = some l → BoxOk w ok E k l
  row : ∀ i r q, E.ρ[i]? = some r → rowAt σ i = some q → RowOk w ok r q
  mine : ∀ x k, mutAt σ E x = some k → ¬ ok k ∧ (w0.heap.size ≤ k ∨ B.L k) ∧ k < w.heap.size
  dis : ∀ x y k, mutAt σ E x = some k → mutAt σ E y = some k → x = y

section
variable {w w' w0 : World} {ok ok' : Nat → Prop} {E E' : Env} {B : Bd} {σ σ' : St}
theorem BoxOk.keep {k : Nat} {l : List T} (hk : Keep w w' ok ok') (hE : E.Le E') (hs : w'.heap[k]? = w.heap[k]?) (h : BoxOk w ok E k l) : BoxOk w' ok' E' k l := by
  obtain ⟨t, cs, h1, h2⟩ := h
  exact ⟨t, cs, hs.trans h1, h2.imp fun _ _ h => h.keep hk hE⟩
theorem OwnAt.keep {r : RV} {l} (hk : Keep w w' ok ok') (hs : ∀ k, r.κ = some k → w'.heap[k]? = w.heap[k]?) (h : OwnAt w ok r l) : OwnAt w' ok' r l := by
  obtain ⟨h1, h2, h3, h3', h4⟩ := h
  refine ⟨h1, h2, h3, h3', ?_⟩
  cases hκ : r.κ with
  | none => simpa [hκ] using h4
  | some k =>
    simp only [hκ] at h4 ⊢
    obtain ⟨off, t, cs, h5, h6, h7, h8⟩ := h4
    refine ⟨off, t, cs, h5, (hs k hκ).trans h6, h7, fun i j el c hi hj => ?_⟩
    obtain ⟨u, h9, h10⟩ := h8 i j el c hi hj
    exact ⟨u, h9, h10.keep hk⟩
theorem ShAt.keep {r : RV} {l} (hk : Keep w w' ok ok') (h : ShAt w ok r l) : ShAt w' ok' r l := by
  obtain ⟨h1, h2, h3, h3', f, h4, h5⟩ := h
  refine ⟨h1, h2, h3, h3', f, fun i j hi hj => ?_, fun i j el c hi hj => (h5 i j el c hi hj).keep hk⟩
  obtain ⟨ad, h6, h7, h8⟩ := h4 i j hi hj
  obtain ⟨h9, h10⟩ := cell_keep hk (a := ad.add (i * r.sz + j)) (by rw [add_block]; exact h7) h8
  exact ⟨ad, h6, by rw [add_block] at h10; exact h10, h9⟩
theorem RowOk.keep {r : RV} {q : Row} (hk : Keep w w' ok ok') (hs : ∀ k, q.ow = true → r.κ = some k → w'.heap[k]? = w.heap[k]?) (h : RowOk w ok r q) : RowOk w' ok' r q := by
  obtain ⟨h1, h2⟩ := h
  refine ⟨h1, ?_⟩
  cases hq : q.ow with
  | true => rw [hq] at h2; exact OwnAt.keep hk (fun k => hs k hq) h2
  | false => rw [hq] at h2; exact ShAt.keep hk h2
theorem mut_b {b k : Nat} {l : List T} (h1 : E.β[b]? = some k) (h2 : boxAt σ b = some l) : mutAt σ E (.b b) = some k := by simp [mutAt, h1, h2]
theorem mut_r {i k : Nat} {r : RV} {q : Row} (h1 : E.ρ[i]? = some r) (h2 : rowAt σ i = some q) (h3 : q.ow = true) (h4 : r.κ = some k) : mutAt σ E (.r i) = some k := by simp [mutAt, h1, h2, h3, h4]

/-- the world goes on; what is ours lies as it lay -/
theorem Mem.go (M : Mem w0 B σ E ok w) (hk : Keep w w' ok ok') (ho : ∀ k, ok' k → B.okA k ∨ w0.heap.size ≤ k ∨ B.L k) (hf : Fr w0 B.L w') (hs : w.heap.size ≤ w'.heap.size) (hm : ∀ x k, mutAt σ E x = some k → w'.heap[k]? = w.heap[k]? ∧ ¬ ok' k) : Mem w0 B σ E ok' w' where
  fr := hf
  okin := ho
  lb := M.lb
  lr := M.lr
  box b k l h1 h2 := (M.box b k l h1 h2).keep hk (.refl _) (hm (.b b) k (mut_b h1 h2)).1
  row i r q h1 h2 := (M.row i r q h1 h2).keep hk fun k h3 h4 => (hm (.r i) k (mut_r h1 h2 h3 h4)).1
  mine x k h := ⟨(hm x k h).2, (M.mine x k h).2.1, Nat.lt_of_lt_of_le (M.mine x k h).2.2 hs⟩
  dis := M.dis
/-- more is ok -/
theorem Mem.okUp (M : Mem w0 B σ E ok w) (h : ∀ k, ok k → k < w.heap.size → ok' k) (ho : ∀ k, ok' k → B.okA k ∨ w0.heap.size ≤ k ∨ B.L k) (hm : ∀ x k, mutAt σ E x = some k → ¬ ok' k) : Mem w0 B σ E ok' w :=
  M.go (fun k h1 h2 => ⟨rfl, h k h1 h2⟩) ho M.fr (Nat.le_refl _) fun x k hx => ⟨rfl, hm x k hx⟩

theorem boxAt_set {b b' : Nat} {l : Option (List T)} : boxAt (setBox σ b l) b' = if b = b' ∧ b < σ.bx.length then l else boxAt σ b' := by
  unfold boxAt setBox
  simp only [List.getElem?_set]
  by_cases h : b = b'
  · subst h
    by_cases hb : b < σ.bx.length <;> simp [hb]
  · simp [h]
theorem rowAt_set {i i' : Nat} {r : Option Row} : rowAt (setRow σ i r) i' = if i = i' ∧ i < σ.rw.length then r else rowAt σ i' := by
  unfold rowAt setRow
  simp only [List.getElem?_set]
  by_cases h : i = i'
  · subst h
    by_cases hb : i < σ.rw.length <;> simp [hb]
  · simp [h]
theorem boxAt_lt {b : Nat} {l} (h : boxAt σ b = some l) : b < σ.bx.length := by
  unfold boxAt at h
  cases hb : σ.bx[b]? with
  | none => simp [hb] at h
  | some x => exact (List.getElem?_eq_some_iff.mp hb).1
theorem rowAt_lt {i : Nat} {q} (h : rowAt σ i = some q) : i < σ.rw.length := by
  unfold rowAt at h
  cases hb : σ.rw[i]? with
  | none => simp [hb] at h
  | some x => exact (List.getElem?_eq_some_iff.mp hb).1

/-- a state with fewer things -/
theorem Mem.less (M : Mem w0 B σ E ok w) (hb : σ'.bx.length = σ.bx.length) (hr : σ'.rw.length = σ.rw.length) (h1 : ∀ b l, boxAt σ' b = some l → boxAt σ b = some l) (h2 : ∀ i q, rowAt σ' i = some q → rowAt σ i = some q) : Mem w0 B σ' E ok w := by
  have hm : ∀ x k, mutAt σ' E x = some k → mutAt σ E x = some k := by
    intro x k h
    cases x with
    | b b =>
      simp only [mutAt] at h ⊢
      cases hx : boxAt σ' b with
      | none => simp [hx] at h
      | some l => rw [h1 b l hx]; simpa [hx] using h
    | r i =>
      simp only [mutAt] at h ⊢
      cases hx : rowAt σ' i with
      | none => simp [hx] at h
      | some q => rw [h2 i q hx]; simpa [hx] using h
  exact ⟨M.fr, M.okin, M.lb.trans hb.symm, M.lr.trans hr.symm, fun b k l h h' => M.box b k l h (h1 b l h'), fun i r q h h' => M.row i r q h (h2 i q h'), fun x k h => M.mine x k (hm x k h), fun x y k h h' => M.dis x y k (hm x k h) (hm y k h')⟩
theorem Mem.killB (M : Mem w0 B σ E ok w) (b : Nat) : Mem w0 B (setBox σ b none) E ok w :=
  M.less (by simp [setBox]) rfl (fun b' l h => by rw [boxAt_set] at h; split at h <;> simp_all) fun _ _ h => h
theorem Mem.killR (M : Mem w0 B σ E ok w) (i : Nat) : Mem w0 B (setRow σ i none) E ok w :=
  M.less rfl (by simp [setRow]) (fun _ _ h => h) fun i' q h => by rw [rowAt_set] at h; split at h <;> simp_all
theorem Mem.ts (M : Mem w0 B σ E ok w) (ts : List T) : Mem w0 B { σ with ts } E ok w := ⟨M.fr, M.okin, M.lb, M.lr, M.box, M.row, M.mine, M.dis⟩

/-- a box is there (again) -/
theorem Mem.setB (M : Mem w0 B σ E ok w) {b k : Nat} {l : List T} (hE : E.β[b]? = some k) (hn : boxAt σ b = none) (hb : BoxOk w ok E k l) (ho : ¬ ok k) (hh : w0.heap.size ≤ k ∨ B.L k) (hd : ∀ x, mutAt σ E x ≠ some k) : Mem w0 B (setBox σ b (some l)) E ok w := by
  have hlt : b < σ.bx.length := by rw [← M.lb]; exact (List.getElem?_eq_some_iff.mp hE).1
  have hm : ∀ x k', mutAt (setBox σ b (some l)) E x = some k' → (x = .b b ∧ k' = k) ∨ (x ≠ .b b ∧ mutAt σ E x = some k') := by
    intro x k' h
    cases x with
    | b b' =>
      simp only [mutAt, boxAt_set] at h
      by_cases hbb : b = b'
      · subst hbb; simp only [hlt, and_self, if_true] at h; rw [hE] at h; exact .inl ⟨rfl, by simpa using h.symm⟩
      · simp only [hbb, false_and, if_false] at h; exact .inr ⟨by simpa using Ne.symm hbb, h⟩
    | r i => exact .inr ⟨by simp, h⟩
  have hkl : k < w.heap.size := by obtain ⟨t, cs, h1, _⟩ := hb; exact (Array.getElem?_eq_some_iff.mp h1).1
  refine ⟨M.fr, M.okin, by simpa [setBox] using M.lb, M.lr, fun b' k' l' h h' => ?_, M.row, fun x k' h => ?_, fun x y k' h h' => ?_⟩
  · rw [boxAt_set] at h'
    by_cases hbb : b = b'
    · subst hbb; simp only [hlt, and_self, if_true, Option.some.injEq] at h'; subst h'; rw [hE] at h; cases h; exact hb
    · simp only [hbb, false_and, if_false] at h'; exact M.box b' k' l' h h'
  · rcases hm x k' h with ⟨_, rfl⟩ | ⟨_, h⟩
    · exact ⟨ho, hh, hkl⟩
    · exact M.mine x k' h
  · rcases hm x k' h with ⟨rfl, rfl⟩ | ⟨_, h⟩ <;> rcases hm y k' h' with ⟨rfl, e⟩ | ⟨_, h'⟩
    · rfl
    · exact absurd h' (hd y)
    · subst e; exact absurd h (hd x)
    · exact M.dis x y k' h h'
/-- a row is there (again) -/
theorem Mem.setR (M : Mem w0 B σ E ok w) {i : Nat} {r : RV} {q : Row} (hE : E.ρ[i]? = some r) (hn : rowAt σ i = none) (hb : RowOk w ok r q) (hd : ∀ k, q.ow = true → r.κ = some k → ¬ ok k ∧ (w0.heap.size ≤ k ∨ B.L k) ∧ ∀ x, mutAt σ E x ≠ some k) : Mem w0 B (setRow σ i (some q)) E ok w := by
  have hlt : i < σ.rw.length := by rw [← M.lr]; exact (List.getElem?_eq_some_iff.mp hE).1
  have hm : ∀ x k', mutAt (setRow σ i (some q)) E x = some k' → (x = .r i ∧ q.ow = true ∧ r.κ = some k') ∨ (x ≠ .r i ∧ mutAt σ E x = some k') := by
    intro x k' h
    cases x with
    | r i' =>
      simp only [mutAt, rowAt_set] at h
      by_cases hbb : i = i'
      · subst hbb; simp only [hlt, and_self, if_true] at h; rw [hE] at h
        split at h
        · rename_i ho; exact .inl ⟨rfl, ho, by simpa using h⟩
        · simp at h
      · simp only [hbb, false_and, if_false] at h; exact .inr ⟨by simpa using Ne.symm hbb, h⟩
    | b b => exact .inr ⟨by simp, h⟩
  have hkl : ∀ k, q.ow = true → r.κ = some k → k < w.heap.size := by
    intro k h1 h2
    obtain ⟨_, h3⟩ := hb
    rw [h1] at h3
    obtain ⟨_, _, _, _, h4⟩ := h3
    simp only [h2] at h4
    obtain ⟨off, t, cs, _, h5, _⟩ := h4
    exact (Array.getElem?_eq_some_iff.mp h5).1
  refine ⟨M.fr, M.okin, M.lb, by simpa [setRow] using M.lr, M.box, fun i' r' q' h h' => ?_, fun x k' h => ?_, fun x y k' h h' => ?_⟩
  · rw [rowAt_set] at h'
    by_cases hbb : i = i'
    · subst hbb; simp only [hlt, and_self, if_true, Option.some.injEq] at h'; subst h'; rw [hE] at h; cases h; exact hb
    · simp only [hbb, false_and, if_false] at h'; exact M.row i' r' q' h h'
  · rcases hm x k' h with ⟨_, h1, h2⟩ | ⟨_, h⟩
    · exact ⟨(hd k' h1 h2).1, (hd k' h1 h2).2.1, hkl k' h1 h2⟩
    · exact M.mine x k' h
  · rcases hm x k' h with ⟨rfl, h1, h2⟩ | ⟨_, h⟩ <;> rcases hm y k' h' with ⟨rfl, h3, h4⟩ | ⟨_, h'⟩
    · rfl
    · exact absurd h' ((hd k' h1 h2).2.2 y)
    · exact absurd h ((hd k' h3 h4).2.2 x)
    · exact M.dis x y k' h h'
/-- room for one more box, none there yet -/
theorem Mem.roomB (M : Mem w0 B σ E ok w) (k : Nat) : Mem w0 B { σ with bx := σ.bx ++ [none] } ⟨E.β ++ [k], E.ρ⟩ ok w ∧ E.Le ⟨E.β ++ [k], E.ρ⟩ := by
  have hle : E.Le ⟨E.β ++ [k], E.ρ⟩ := ⟨fun b x h => by
    have := (List.getElem?_eq_some_iff.mp h).1
    show (E.β ++ [k])[b]? = some x
    rw [List.getElem?_append_left this]; exact h, fun _ _ h => h⟩
  have hbx : ∀ b l, boxAt { σ with bx := σ.bx ++ [none] } b = some l → boxAt σ b = some l := by
    intro b l h
    unfold boxAt at h ⊢
    simp only at h
    by_cases hb : b < σ.bx.length
    · rw [List.getElem?_append_left hb] at h; exact h
    · rw [List.getElem?_append_right (by omega)] at h
      cases hx : ([none] : List (Option (List T)))[b - σ.bx.length]? with
      | none => rw [hx] at h; simp at h
      | some y =>
        rw [hx] at h
        have : b - σ.bx.length = 0 := by have := (List.getElem?_eq_some_iff.mp hx).1; simp at this; omega
        rw [this] at hx; simp at hx; subst hx; simp at h
  have hβ : ∀ b k', (E.β ++ [k])[b]? = some k' → b < σ.bx.length → E.β[b]? = some k' := by
    intro b k' h hb
    rw [List.getElem?_append_left (by rw [M.lb]; exact hb)] at h; exact h
  have hm : ∀ x k', mutAt { σ with bx := σ.bx ++ [none] } ⟨E.β ++ [k], E.ρ⟩ x = some k' → mutAt σ E x = some k' := by
    intro x k' h
    cases x with
    | b b =>
      simp only [mutAt] at h ⊢
      cases hx : boxAt { σ with bx := σ.bx ++ [none] } b with
      | none => simp [hx] at h
      | some l => rw [hbx b l hx]; simp only [hx] at h; exact hβ b k' h (boxAt_lt (hbx b l hx))
    | r i => exact h
  refine ⟨⟨M.fr, M.okin, by simp [M.lb], M.lr, fun b k' l h h' => ?_, fun i r q h h' => ?_, fun x k' h => M.mine x k' (hm x k' h), fun x y k' h h' => M.dis x y k' (hm x k' h) (hm y k' h')⟩, hle⟩
  · have h2 := hbx b l h'
    exact (M.box b k' l (hβ b k' h (boxAt_lt h2)) h2).keep (fun _ h _ => ⟨rfl, h⟩) hle rfl
  · exact M.row i r q h h'
theorem Mem.roomR (M : Mem w0 B σ E ok w) (r : RV) : Mem w0 B { σ with rw := σ.rw ++ [none] } ⟨E.β, E.ρ ++ [r]⟩ ok w ∧ E.Le ⟨E.β, E.ρ ++ [r]⟩ := by
  have hle : E.Le ⟨E.β, E.ρ ++ [r]⟩ := ⟨fun _ _ h => h, fun b x h => by
    have := (List.getElem?_eq_some_iff.mp h).1
    show (E.ρ ++ [r])[b]? = some x
    rw [List.getElem?_append_left this]; exact h⟩
  have hbx : ∀ b l, rowAt { σ with rw := σ.rw ++ [none] } b = some l → rowAt σ b = some l := by
    intro b l h
    unfold rowAt at h ⊢
    simp only at h
    by_cases hb : b < σ.rw.length
    · rw [List.getElem?_append_left hb] at h; exact h
    · rw [List.getElem?_append_right (by omega)] at h
      cases hx : ([none] : List (Option Row))[b - σ.rw.length]? with
      | none => rw [hx] at h; simp at h
      | some y =>
        rw [hx] at h
        have : b - σ.rw.length = 0 := by have := (List.getElem?_eq_some_iff.mp hx).1; simp at this; omega
        rw [this] at hx; simp at hx; subst hx; simp at h
  have hβ : ∀ b k', (E.ρ ++ [r])[b]? = some k' → b < σ.rw.length → E.ρ[b]? = some k' := by
    intro b k' h hb
    rw [List.getElem?_append_left (by rw [M.lr]; exact hb)] at h; exact h
  have hm : ∀ x k', mutAt { σ with rw := σ.rw ++ [none] } ⟨E.β, E.ρ ++ [r]⟩ x = some k' → mutAt σ E x = some k' := by
    intro x k' h
    cases x with
    | r b =>
      simp only [mutAt] at h ⊢
      cases hx : rowAt { σ with rw := σ.rw ++ [none] } b with
      | none => simp [hx] at h
      | some l =>
        have h2 := hbx b l hx
        have h3 : (E.ρ ++ [r])[b]? = E.ρ[b]? := List.getElem?_append_left (by rw [M.lr]; exact rowAt_lt h2)
        rw [h2]; simp only [hx, h3] at h; exact h
    | b i => exact h
  refine ⟨⟨M.fr, M.okin, M.lb, by simp [M.lr], fun b k' l h h' => ?_, fun i r' q h h' => ?_, fun x k' h => M.mine x k' (hm x k' h), fun x y k' h h' => M.dis x y k' (hm x k' h) (hm y k' h')⟩, hle⟩
  · exact (M.box b k' l h h').keep (fun _ h _ => ⟨rfl, h⟩) hle rfl
  · have h2 := hbx i q h'
    exact M.row i r' q (hβ i r' h (rowAt_lt h2)) h2
end
end Go.SX
