import Derived.Test.YtligkplajabcfaaSx1
import Derived.Below
set_option linter.unusedVariables false
set_option linter.unusedSimpArgs false
set_option linter.unusedSectionVars false
namespace Go.SX
open Go.RowKit (Below)

inductive All2 {α β : Type} (R : α → β → Prop) : List α → List β → Prop
  | nil : All2 R [] []
  | cons {a b l m} : R a b → All2 R l m → All2 R (a :: l) (b :: m)
namespace All2
variable {α β : Type} {R S : α → β → Prop}
theorem len {l : List α} {m : List β} (h : All2 R l m) : l.length = m.length := by
  induction h with
  | nil => rfl
  | cons _ _ ih => simp [ih]
theorem imp {l : List α} {m : List β} (h : All2 R l m) (f : ∀ a b, R a b → S a b) : All2 S l m := by
  induction h with
  | nil => exact .nil
  | cons h _ ih => exact .cons (f _ _ h) ih
theorem get {l : List α} {m : List β} (h : All2 R l m) : ∀ (i : Nat) a, l[i]? = some a → ∃ b, m[i]? = some b ∧ R a b := by
  induction h with
  | nil => intro i a h; simp at h
  | cons h _ ih =>
    intro i a hi
    cases i with
    | zero => simp at hi; subst hi; exact ⟨_, rfl, h⟩
    | succ i => simpa using ih i a (by simpa using hi)
theorem of_get {l : List α} {m : List β} (hl : l.length = m.length) (h : ∀ (i : Nat) a b, l[i]? = some a → m[i]? = some b → R a b) : All2 R l m := by
  induction l generalizing m with
  | nil => cases m with
    | nil => exact .nil
    | cons _ _ => simp at hl
  | cons a l ih => cases m with
    | nil => simp at hl
    | cons b m => exact .cons (h 0 a b rfl rfl) (ih (by simpa using hl) fun i a b ha hb => h (i + 1) a b (by simpa using ha) (by simpa using hb))
theorem append {l l' : List α} {m m' : List β} (h : All2 R l m) (k : All2 R l' m') : All2 R (l ++ l') (m ++ m') := by
  induction h with
  | nil => exact k
  | cons h _ ih => exact .cons h ih
theorem take {l : List α} {m : List β} (h : All2 R l m) (n : Nat) : All2 R (l.take n) (m.take n) := by
  induction h generalizing n with
  | nil => simp; exact .nil
  | cons h _ ih => cases n with
    | zero => simp; exact .nil
    | succ n => simp; exact .cons h (ih n)
theorem drop {l : List α} {m : List β} (h : All2 R l m) (n : Nat) : All2 R (l.drop n) (m.drop n) := by
  induction h generalizing n with
  | nil => simp; exact .nil
  | cons h t ih => cases n with
    | zero => simp; exact .cons h t
    | succ n => simp; exact ih n
end All2

/-- v tells c in w, by blocks that are ok -/
inductive Holds (w : World) (ok : Nat → Prop) : C → Value → Prop
  | s (v : Value) (h : v.oneCell' = true) : Holds w ok (.s v) v
  | r (l : List (List C)) (a : Option Addr) (n cap sz : Nat) (f : Nat → Nat → Value) (hn : l.length = n) (hc : n ≤ cap) (hz : ∀ el ∈ l, el.length = sz)
      (hm : ∀ i j, i < n → j < sz → ∃ ad, a = some ad ∧ ok ad.block ∧ w.cell? (ad.add (i * sz + j)) = some (f i j))
      (hf : ∀ i j el c, l[i]? = some el → el[j]? = some c → Holds w ok c (f i j)) : Holds w ok (.r l) (.slice a n cap)

structure RV where
  a : Option Addr
  n : Nat
  cap : Nat
  sz : Nat
  κ : Option Nat
/-- room for elements of so many cells -/
def Room (w : World) (z : Nat) : Value → Prop
  | .slice a _ cap => z = 0 ∨ cap = 0 ∨ ∃ k off t cs, a = some ⟨k, off, none⟩ ∧ w.heap[k]? = some (.cells cs t (0, 0)) ∧ off + cap * z ≤ cs.size
  | _ => True
/-- v is c, by blocks of its own (D) -/
inductive DH (w : World) : C → Value → List Nat → Prop
  | s (v : Value) (h : v.oneCell' = true) : DH w (.s v) v []
  | r (l : List (List C)) (a : Option Addr) (n cap sz : Nat) (κ : Option Nat) (off : Nat) (t : TypeId) (cs : Array Value) (D : List Nat) (u : Nat → Nat → Value) (f : Nat → Nat → List Nat)
      (hn : l.length = n) (hc : n ≤ cap) (hz : ∀ el ∈ l, el.length = sz) (h0 : sz = 0 → κ = none) (hN : κ = none → cap = 0)
      (hS : ∀ k, κ = some k → a = some ⟨k, off, none⟩ ∧ w.heap[k]? = some (.cells cs t (0, 0)) ∧ off + cap * sz ≤ cs.size)
      (hu : ∀ i j, i < n → j < sz → cs[off + (i * sz + j)]? = some (u i j))
      (hf : ∀ i j el c, l[i]? = some el → el[j]? = some c → DH w c (u i j) (f i j))
      (hD : ∀ b, b ∈ D ↔ κ = some b ∨ ∃ i j, i < n ∧ j < sz ∧ b ∈ f i j)
      (hk : ∀ i j, i < n → j < sz → ∀ b ∈ f i j, κ ≠ some b)
      (hd : ∀ i j i' j', i < n → j < sz → i' < n → j' < sz → ∀ b, b ∈ f i j → b ∈ f i' j' → i = i' ∧ j = j')
      (hE : ∀ i j el, l[i]? = some el → el[j]? = some (.r []) → Room w (colZ sz j) (u i j)) : DH w (.r l) (.slice a n cap) D
/-- the same in a cell -/
def DHc (w : World) (z : Nat) (c : C) (v : Value) (D : List Nat) : Prop := DH w c v D ∧ (c = .r [] → Room w z v)
structure Env where
  β : List Nat
  ρ : List RV
  δ : Nat → List Nat
def upd (δ : Nat → List Nat) (i : Nat) (D : List Nat) : Nat → List Nat := fun j => if j = i then D else δ j

def ptr (k : Nat) : Value := .pointer (some ⟨k, 0, none⟩)
/-- what a one-cell slot holds -/
def XRel (w : World) (ok : Nat → Prop) (E : Env) : T → Value → Prop
  | .c x, v => Holds w ok x v
  | .nil, v => v = .slice none 0 0
  | .row i, v => ∃ r, E.ρ[i]? = some r ∧ v = .slice r.a r.n r.cap
  | .sl i lo hi, v => ∃ r a', E.ρ[i]? = some r ∧ lo ≤ hi ∧ hi ≤ r.n ∧ v = .slice a' (hi - lo) (r.cap - lo) ∧ (r.cap - lo ≠ 0 → ∃ ad, r.a = some ad ∧ a' = some (ad.add (lo * r.sz)))
  | .bp b o, v => ∃ k, E.β[b]? = some k ∧ v = .pointer (some ⟨k, o, none⟩)
  | .rp i n o, v => ∃ r ad, E.ρ[i]? = some r ∧ r.a = some ad ∧ n < r.n ∧ v = .pointer (some (ad.add (n * r.sz + o)))
  | .cp l o, v => ∃ (ad : Addr) (f : Nat → Value), v = .pointer (some (ad.add o)) ∧ (∀ j c, l[j]? = some c → ok ad.block ∧ w.cell? (ad.add j) = some (f j) ∧ Holds w ok c (f j))
  | .fn g bs, v => ∃ ks, v = .func (.func g) #[] (ks.map ptr).toArray ∧ All2 (fun b k => E.β[b]? = some k) bs ks
  | _, _ => False
def VRel (w : World) (ok : Nat → Prop) (E : Env) : T → Value → Prop
  | .ag l, v => ∃ vs, v = .agg vs ∧ All2 (XRel w ok E) l vs.toList
  | x, v => XRel w ok E x v
def TRel (w : World) (ok : Nat → Prop) (E : Env) : T → Value → Prop
  | .tu l, v => ∃ vs, v = .tuple vs ∧ All2 (VRel w ok E) l vs.toList
  | .no, _ => True
  | x, v => VRel w ok E x v

def Keep (w w' : World) (ok ok' : Nat → Prop) : Prop := ∀ k, ok k → k < w.heap.size → w'.heap[k]? = w.heap[k]? ∧ ok' k
structure Env.Le (E E' : Env) : Prop where
  b : ∀ (b k : Nat), E.β[b]? = some k → E'.β[b]? = some k
  r : ∀ (i : Nat) (r : RV), E.ρ[i]? = some r → E'.ρ[i]? = some r
theorem Env.Le.refl (E : Env) : E.Le E := ⟨fun _ _ h => h, fun _ _ h => h⟩
theorem Env.Le.trans {E F G : Env} (h : E.Le F) (k : F.Le G) : E.Le G := ⟨fun b x e => k.b b x (h.b b x e), fun b x e => k.r b x (h.r b x e)⟩

section
variable {w w' : World} {ok ok' : Nat → Prop} {E E' : Env} {x : T} {v : Value}
theorem cell_lt {a : Addr} {u : Value} (h : w.cell? a = some u) : a.block < w.heap.size := by
  unfold World.cell? at h
  cases hb : w.heap[a.block]? with
  | none => simp [hb] at h
  | some o => exact (Array.getElem?_eq_some_iff.mp hb).1
theorem cell_same {a : Addr} (h : w'.heap[a.block]? = w.heap[a.block]?) : w'.cell? a = w.cell? a := by unfold World.cell?; rw [h]
theorem add_block (a : Addr) (n : Nat) : (a.add n).block = a.block := by unfold Addr.add; split <;> rfl
theorem add_add (a : Addr) (m n : Nat) : (a.add m).add n = a.add (m + n) := by
  unfold Addr.add
  by_cases hm : m = 0
  · simp [hm]
  · by_cases hn : n = 0
    · simp [hn]
    · simp [hm, hn, Nat.add_assoc]
theorem cell_keep (hk : Keep w w' ok ok') {a : Addr} {u : Value} (ho : ok a.block) (h : w.cell? a = some u) : w'.cell? a = some u ∧ ok' a.block := by
  obtain ⟨h1, h2⟩ := hk _ ho (cell_lt h)
  exact ⟨(cell_same h1).trans h, h2⟩
theorem Holds.keep {c : C} (hk : Keep w w' ok ok') (h : Holds w ok c v) : Holds w' ok' c v := by
  induction h with
  | s v h => exact .s v h
  | r l a n cap sz f hn hc hz hm _ ih =>
    refine .r l a n cap sz f hn hc hz (fun i j hi hj => ?_) ih
    obtain ⟨ad, rfl, ho, hcell⟩ := hm i j hi hj
    obtain ⟨h1, h2⟩ := cell_keep hk (a := ad.add (i * sz + j)) (by rw [add_block]; exact ho) hcell
    exact ⟨ad, rfl, by rw [add_block] at h2; exact h2, h1⟩
theorem Holds.one {c : C} (h : Holds w ok c v) : v.oneCell' = true := by cases h <;> first | assumption | rfl
theorem XRel.keep (hk : Keep w w' ok ok') (hE : E.Le E') (h : XRel w ok E x v) : XRel w' ok' E' x v := by
  cases x with
  | c x => exact Holds.keep hk h
  | nil => exact h
  | row i => obtain ⟨r, h1, h2⟩ := h; exact ⟨r, hE.r _ _ h1, h2⟩
  | sl i lo hi => obtain ⟨r, a, h1, h2⟩ := h; exact ⟨r, a, hE.r _ _ h1, h2⟩
  | bp b o => obtain ⟨k, h1, h2⟩ := h; exact ⟨k, hE.b _ _ h1, h2⟩
  | rp i n o => obtain ⟨r, a, h1, h2⟩ := h; exact ⟨r, a, hE.r _ _ h1, h2⟩
  | cp l o =>
    obtain ⟨ad, f, h1, h2⟩ := h
    refine ⟨ad, f, h1, fun j c hj => ?_⟩
    obtain ⟨h3, h4, h5⟩ := h2 j c hj
    obtain ⟨h6, h7⟩ := cell_keep hk (a := ad.add j) (by rw [add_block]; exact h3) h4
    exact ⟨by rw [add_block] at h7; exact h7, h6, h5.keep hk⟩
  | fn g bs => obtain ⟨ks, h1, h2⟩ := h; exact ⟨ks, h1, h2.imp fun _ _ h => hE.b _ _ h⟩
  | _ => exact h
theorem VRel.keep (hk : Keep w w' ok ok') (hE : E.Le E') (h : VRel w ok E x v) : VRel w' ok' E' x v := by
  cases x with
  | ag l => obtain ⟨vs, h1, h2⟩ := h; exact ⟨vs, h1, h2.imp fun _ _ h => h.keep hk hE⟩
  | _ => simp only [VRel] at h ⊢; exact XRel.keep hk hE h
theorem TRel.keep (hk : Keep w w' ok ok') (hE : E.Le E') (h : TRel w ok E x v) : TRel w' ok' E' x v := by
  cases x with
  | tu l => obtain ⟨vs, h1, h2⟩ := h; exact ⟨vs, h1, h2.imp fun _ _ h => h.keep hk hE⟩
  | no => trivial
  | _ => simp only [TRel] at h ⊢; exact VRel.keep hk hE h
theorem XRel.one (h : XRel w ok E x v) : v.oneCell' = true := by
  cases x with
  | c x => exact Holds.one h
  | nil => rw [show v = _ from h]; rfl
  | row i => obtain ⟨r, h1, rfl⟩ := h; rfl
  | sl i lo hi => obtain ⟨r, a, h1, h2, h3, rfl, h4⟩ := h; rfl
  | bp b o => obtain ⟨k, h1, rfl⟩ := h; rfl
  | rp i n o => obtain ⟨r, a, h1, h2, h3, rfl⟩ := h; rfl
  | cp l o => obtain ⟨ad, f, rfl, _⟩ := h; rfl
  | fn g bs => obtain ⟨ks, rfl, _⟩ := h; rfl
  | _ => exact h.elim
theorem XRel.t (h : XRel w ok E x v) : TRel w ok E x v := by cases x <;> first | exact h | exact h.elim
theorem one_cells {v : Value} (h : v.oneCell' = true) : v.cells = #[v] := by cases v <;> first | rfl | simp [Value.oneCell'] at h
/-- a value's cells -/
theorem TRel.flat {l : List T} (h : TRel w ok E x v) (hf : flat x = some l) : All2 (XRel w ok E) l v.cells.toList := by
  have one : ∀ y, XRel w ok E y v → All2 (XRel w ok E) [y] v.cells.toList := fun y hy => by
    rw [one_cells hy.one]; exact .cons hy .nil
  cases x <;> simp only [SX.flat, Option.some.injEq, reduceCtorEq] at hf
  case ag => obtain ⟨vs, rfl, h2⟩ := h; subst hf; exact h2
  all_goals (subst hf; exact one _ h)
end

def BoxOk (w : World) (ok : Nat → Prop) (E : Env) (k : Nat) (l : List T) : Prop := ∃ t cs, w.heap[k]? = some (.cells cs t (0, 0)) ∧ All2 (XRel w ok E) l cs.toList
def OwnAt (w : World) (ok : Nat → Prop) (r : RV) (l : List (List C)) : Prop :=
  l.length = r.n ∧ r.n ≤ r.cap ∧ (∀ el ∈ l, el.length = r.sz) ∧ (r.sz = 0 → r.κ = none) ∧
  match r.κ with
  | none => r.cap = 0
  | some k => ∃ off t cs, r.a = some ⟨k, off, none⟩ ∧ w.heap[k]? = some (.cells cs t (0, 0)) ∧ off + r.cap * r.sz ≤ cs.size ∧
      ∀ i j el c, l[i]? = some el → el[j]? = some c → ∃ u, cs[off + (i * r.sz + j)]? = some u ∧ Holds w ok c u
def ShAt (w : World) (ok : Nat → Prop) (r : RV) (l : List (List C)) : Prop :=
  l.length = r.n ∧ r.n ≤ r.cap ∧ (∀ el ∈ l, el.length = r.sz) ∧ (r.cap ≠ 0 → ∃ ad, r.a = some ad) ∧
  ∃ f : Nat → Nat → Value, (∀ i j, i < r.n → j < r.sz → ∃ ad, r.a = some ad ∧ ok ad.block ∧ w.cell? (ad.add (i * r.sz + j)) = some (f i j)) ∧ (∀ i j el c, l[i]? = some el → el[j]? = some c → Holds w ok c (f i j))
/-- a row and all below it (δ), ours alone; the rows of the first x elements away -/
def DeepAt (w : World) (r : RV) (l : List (List C)) (δ : List Nat) (x : Option Nat) : Prop :=
  ∃ (off : Nat) (t : TypeId) (cs : Array Value) (u : Nat → Nat → Value) (f : Nat → Nat → List Nat),
    l.length = r.n ∧ r.n ≤ r.cap ∧ (∀ el ∈ l, el.length = r.sz) ∧ (r.sz = 0 → r.κ = none) ∧ (r.κ = none → r.cap = 0) ∧
    (∀ k, r.κ = some k → r.a = some ⟨k, off, none⟩ ∧ w.heap[k]? = some (.cells cs t (0, 0)) ∧ off + r.cap * r.sz ≤ cs.size) ∧
    (∀ i j, i < r.n → j < r.sz → cs[off + (i * r.sz + j)]? = some (u i j)) ∧
    (∀ i j el c, l[i]? = some el → el[j]? = some c → (∀ m, x = some m → m ≤ i) → DHc w (colZ r.sz j) c (u i j) (f i j)) ∧
    (∀ b, b ∈ δ ↔ ∃ i j, i < r.n ∧ j < r.sz ∧ (∀ m, x = some m → m ≤ i) ∧ b ∈ f i j) ∧
    (∀ i j, i < r.n → j < r.sz → (∀ m, x = some m → m ≤ i) → ∀ b ∈ f i j, r.κ ≠ some b) ∧
    (∀ i j i' j', i < r.n → j < r.sz → i' < r.n → j' < r.sz → (∀ m, x = some m → m ≤ i) → (∀ m, x = some m → m ≤ i') → ∀ b, b ∈ f i j → b ∈ f i' j' → i = i' ∧ j = j') ∧
    δ.Nodup
def OwnK (w : World) (ok : Nat → Prop) (r : RV) (l : List (List C)) (δ : List Nat) : Dp → Prop
  | .f => OwnAt w ok r l
  | .d => DeepAt w r l δ none
  | .p m => DeepAt w r l δ (some m)
def RowOk (w : World) (ok : Nat → Prop) (δ : List Nat) (r : RV) (q : Row) : Prop := q.sz = r.sz ∧ if q.ow then OwnK w ok r q.l δ q.dp else q.dp = .f ∧ ShAt w ok r q.l

/-- what may be ours: a box's block, a row's block, a block below a row -/
inductive Mt where
  | b (b : Nat)
  | r (i : Nat)
  | d (i m : Nat)
  deriving DecidableEq
def mutAt (σ : St) (E : Env) : Mt → Option Nat
  | .b b => match boxAt σ b with | some _ => E.β[b]? | none => none
  | .r i => match rawAt σ i with | some q => if q.ow then (E.ρ[i]?).bind (·.κ) else none | none => none
  | .d i m => match rawAt σ i with | some q => if q.ow then (if q.dp = .f then none else (E.δ i)[m]?) else none | none => none
theorem here_some {o : Option Row} {q : Row} : here o = some q ↔ o = some q ∧ ∀ n, q.dp ≠ .p n := by
  unfold here
  split
  · rename_i r
    split
    · rename_i n h; simp only [reduceCtorEq, Option.some.injEq, false_iff, not_and]; rintro rfl h'; exact h' _ h
    · rename_i h; simp only [Option.some.injEq]; exact ⟨fun e => ⟨e, fun n h' => h n (e ▸ h')⟩, fun e => e.1⟩
  · simp
theorem row_raw {σ : St} {i : Nat} {q : Row} (h : rowAt σ i = some q) : rawAt σ i = some q := (here_some.1 h).1

structure Fr (w0 : World) (L : Nat → Prop) (w : World) : Prop where
  os : w.os = w0.os
  tape : w.tape = w0.tape
  output : w.output = w0.output
  size : w0.heap.size ≤ w.heap.size
  old : ∀ k, k < w0.heap.size → ¬ L k → w.heap[k]? = w0.heap[k]?

/-- L: what of the caller's may be written; okA: what of his the arguments are seen by -/
structure Bd where
  L : Nat → Prop
  okA : Nat → Prop
structure Mem (w0 : World) (B : Bd) (σ : St) (E : Env) (ok : Nat → Prop) (w : World) : Prop where
  fr : Fr w0 B.L w
  okin : ∀ k, ok k → B.okA k ∨ w0.heap.size ≤ k ∨ B.L k
  lb : E.β.length = σ.bx.length
  lr : E.ρ.length = σ.rw.length
  box : ∀ b k l, E.β[b]? = some k → boxAt σ b = some l → BoxOk w ok E k l
  raw : ∀ i r q, E.ρ[i]? = some r → rawAt σ i = some q → RowOk w ok (E.δ i) r q
  mine : ∀ x k, mutAt σ E x = some k → ¬ ok k ∧ (w0.heap.size ≤ k ∨ B.L k) ∧ k < w.heap.size
  dis : ∀ x y k, mutAt σ E x = some k → mutAt σ E y = some k → x = y

section
variable {w w' w0 : World} {ok ok' : Nat → Prop} {E E' : Env} {B : Bd} {σ σ' : St}
theorem Mem.row (M : Mem w0 B σ E ok w) (i : Nat) (r : RV) (q : Row) (h1 : E.ρ[i]? = some r) (h2 : rowAt σ i = some q) : RowOk w ok (E.δ i) r q := M.raw i r q h1 (row_raw h2)
theorem Mem.own (M : Mem w0 B σ E ok w) {i : Nat} {r : RV} {q : Row} (h1 : E.ρ[i]? = some r) (h2 : rowAt σ i = some q) (ho : q.ow = true) (hd : q.dp = .f) : OwnAt w ok r q.l := by
  have := (M.row i r q h1 h2).2
  rw [ho, if_pos rfl, hd] at this; exact this
theorem Mem.sh (M : Mem w0 B σ E ok w) {i : Nat} {r : RV} {q : Row} (h1 : E.ρ[i]? = some r) (h2 : rowAt σ i = some q) (ho : q.ow = false) : ShAt w ok r q.l := by
  have := (M.row i r q h1 h2).2
  rw [ho, if_neg (by simp)] at this; exact this.2
theorem dp_cases {q : Row} {i : Nat} (h : rowAt σ i = some q) : q.dp = .f ∨ q.dp = .d := by
  have := (here_some.1 h).2
  cases hq : q.dp with
  | f => exact .inl rfl
  | d => exact .inr rfl
  | p n => exact absurd hq (this n)
theorem room_keep {z : Nat} {v : Value} {D : List Nat} (h : DH w (.r []) v D) (hk : ∀ b ∈ D, w'.heap[b]? = w.heap[b]?) (hr : Room w z v) : Room w' z v := by
  cases h with
  | r _ a n cap sz κ off t cs D u f hn hc hz h0 hN hS hu hf hD hkk hd hE =>
    rcases hr with h | h | ⟨k, o, t', cs', h1, h2, h3⟩
    · exact .inl h
    · exact .inr (.inl h)
    · cases hκ : κ with
      | none => exact .inr (.inl (hN hκ))
      | some k' =>
        obtain ⟨g1, g2, g3⟩ := hS k' hκ
        rw [h1] at g1; cases g1
        exact .inr (.inr ⟨_, _, t', cs', h1, (hk k ((hD k).2 (.inl hκ))).trans h2, h3⟩)
theorem DH.keep {c : C} {v : Value} {D : List Nat} (h : DH w c v D) (hk : ∀ b ∈ D, w'.heap[b]? = w.heap[b]?) : DH w' c v D := by
  induction h with
  | s v h => exact .s v h
  | r l a n cap sz κ off t cs D u f hn hc hz h0 hN hS hu hf hD hkk hd hE ih =>
    refine .r l a n cap sz κ off t cs D u f hn hc hz h0 hN (fun k hκ => ?_) hu (fun i j el c hi hj => ih i j el c hi hj fun b hb => hk b ((hD b).2 (.inr ⟨i, j, ?_, ?_, hb⟩))) hD hkk hd (fun i j el hi hj => room_keep (hf i j el _ hi hj) (fun b hb => hk b ((hD b).2 (.inr ⟨i, j, ?_, ?_, hb⟩))) (hE i j el hi hj))
    · obtain ⟨h1, h2, h3⟩ := hS k hκ
      exact ⟨h1, (hk k ((hD k).2 (.inl hκ))).trans h2, h3⟩
    · rw [← hn]; exact (List.getElem?_eq_some_iff.mp hi).1
    · rw [← hz el (List.mem_of_getElem? hi)]; exact (List.getElem?_eq_some_iff.mp hj).1
    · rw [← hn]; exact (List.getElem?_eq_some_iff.mp hi).1
    · rw [← hz el (List.mem_of_getElem? hi)]; exact (List.getElem?_eq_some_iff.mp hj).1
theorem DHc.keep {z : Nat} {c : C} {v : Value} {D : List Nat} (h : DHc w z c v D) (hk : ∀ b ∈ D, w'.heap[b]? = w.heap[b]?) : DHc w' z c v D :=
  ⟨h.1.keep hk, fun e => by have h1 := h.1; rw [e] at h1; exact room_keep h1 hk (h.2 e)⟩
theorem DeepAt.keep {r : RV} {l} {δ : List Nat} {x : Option Nat} (h : DeepAt w r l δ x) (h1 : ∀ k, r.κ = some k → w'.heap[k]? = w.heap[k]?) (h2 : ∀ b ∈ δ, w'.heap[b]? = w.heap[b]?) : DeepAt w' r l δ x := by
  obtain ⟨off, t, cs, u, f, a1, a2, a3, a4, a5, a6, a7, a8, a9, a10⟩ := h
  refine ⟨off, t, cs, u, f, a1, a2, a3, a4, a5, fun k hk => ?_, a7, fun i j el c hi hj hx => (a8 i j el c hi hj hx).keep fun b hb => h2 b ((a9 b).2 ⟨i, j, ?_, ?_, hx, hb⟩), a9, a10⟩
  · obtain ⟨b1, b2, b3⟩ := a6 k hk
    exact ⟨b1, (h1 k hk).trans b2, b3⟩
  · rw [← a1]; exact (List.getElem?_eq_some_iff.mp hi).1
  · rw [← a3 el (List.mem_of_getElem? hi)]; exact (List.getElem?_eq_some_iff.mp hj).1
theorem BoxOk.keep {k : Nat} {l : List T} (hk : Keep w w' ok ok') (hE : E.Le E') (hs : w'.heap[k]? = w.heap[k]?) (h : BoxOk w ok E k l) : BoxOk w' ok' E' k l := by
  obtain ⟨t, cs, h1, h2⟩ := h
  exact ⟨t, cs, hs.trans h1, h2.imp fun _ _ h => h.keep hk hE⟩
theorem OwnAt.keep {r : RV} {l} (hk : Keep w w' ok ok') (hs : ∀ k, r.κ = some k → w'.heap[k]? = w.heap[k]?) (h : OwnAt w ok r l) : OwnAt w' ok' r l := by
  obtain ⟨h1, h2, h3, h3', h4⟩ := h
  refine ⟨h1, h2, h3, h3', ?_⟩
  cases hκ : r.κ with
  | none => simpa [hκ] using h4
  | some k =>
    simp only [hκ] at h4 ⊢
    obtain ⟨off, t, cs, h5, h6, h7, h8⟩ := h4
    refine ⟨off, t, cs, h5, (hs k hκ).trans h6, h7, fun i j el c hi hj => ?_⟩
    obtain ⟨u, h9, h10⟩ := h8 i j el c hi hj
    exact ⟨u, h9, h10.keep hk⟩
theorem ShAt.keep {r : RV} {l} (hk : Keep w w' ok ok') (h : ShAt w ok r l) : ShAt w' ok' r l := by
  obtain ⟨h1, h2, h3, h3', f, h4, h5⟩ := h
  refine ⟨h1, h2, h3, h3', f, fun i j hi hj => ?_, fun i j el c hi hj => (h5 i j el c hi hj).keep hk⟩
  obtain ⟨ad, h6, h7, h8⟩ := h4 i j hi hj
  obtain ⟨h9, h10⟩ := cell_keep hk (a := ad.add (i * r.sz + j)) (by rw [add_block]; exact h7) h8
  exact ⟨ad, h6, by rw [add_block] at h10; exact h10, h9⟩
theorem RowOk.keep {r : RV} {q : Row} {δ : List Nat} (hk : Keep w w' ok ok') (hs : ∀ k, q.ow = true → r.κ = some k → w'.heap[k]? = w.heap[k]?) (hd : ∀ b ∈ δ, q.ow = true → q.dp ≠ .f → w'.heap[b]? = w.heap[b]?) (h : RowOk w ok δ r q) : RowOk w' ok' δ r q := by
  obtain ⟨h1, h2⟩ := h
  refine ⟨h1, ?_⟩
  cases hq : q.ow with
  | true =>
    rw [hq, if_pos rfl] at h2
    rw [if_pos rfl]
    cases hp : q.dp with
    | f => rw [hp] at h2; exact OwnAt.keep hk (fun k => hs k hq) h2
    | d => rw [hp] at h2; exact DeepAt.keep h2 (fun k => hs k hq) fun b hb => hd b hb hq (by rw [hp]; simp)
    | p n => rw [hp] at h2; exact DeepAt.keep h2 (fun k => hs k hq) fun b hb => hd b hb hq (by rw [hp]; simp)
  | false => rw [hq] at h2; exact ⟨h2.1, ShAt.keep hk h2.2⟩
theorem mut_b {b k : Nat} {l : List T} (h1 : E.β[b]? = some k) (h2 : boxAt σ b = some l) : mutAt σ E (.b b) = some k := by simp [mutAt, h1, h2]
theorem mut_r {i k : Nat} {r : RV} {q : Row} (h1 : E.ρ[i]? = some r) (h2 : rowAt σ i = some q) (h3 : q.ow = true) (h4 : r.κ = some k) : mutAt σ E (.r i) = some k := by simp [mutAt, h1, row_raw h2, h3, h4]
theorem mut_raw {i k : Nat} {r : RV} {q : Row} (h1 : E.ρ[i]? = some r) (h2 : rawAt σ i = some q) (h3 : q.ow = true) (h4 : r.κ = some k) : mutAt σ E (.r i) = some k := by simp [mutAt, h1, h2, h3, h4]
theorem mut_d {i m k : Nat} {q : Row} (h2 : rawAt σ i = some q) (h3 : q.ow = true) (h4 : q.dp ≠ .f) (h5 : (E.δ i)[m]? = some k) : mutAt σ E (.d i m) = some k := by simp [mutAt, h2, h3, h4, h5]
theorem mut_mem {i k : Nat} {q : Row} (h2 : rawAt σ i = some q) (h3 : q.ow = true) (h4 : q.dp ≠ .f) (h5 : k ∈ E.δ i) : ∃ m, mutAt σ E (.d i m) = some k := by
  obtain ⟨m, hm⟩ := List.getElem?_of_mem h5
  exact ⟨m, mut_d h2 h3 h4 hm⟩

/-- the world goes on; what is ours lies as it lay -/
theorem Mem.go (M : Mem w0 B σ E ok w) (hk : Keep w w' ok ok') (ho : ∀ k, ok' k → B.okA k ∨ w0.heap.size ≤ k ∨ B.L k) (hf : Fr w0 B.L w') (hs : w.heap.size ≤ w'.heap.size) (hm : ∀ x k, mutAt σ E x = some k → w'.heap[k]? = w.heap[k]? ∧ ¬ ok' k) : Mem w0 B σ E ok' w' where
  fr := hf
  okin := ho
  lb := M.lb
  lr := M.lr
  box b k l h1 h2 := (M.box b k l h1 h2).keep hk (.refl _) (hm (.b b) k (mut_b h1 h2)).1
  raw i r q h1 h2 := (M.raw i r q h1 h2).keep hk (fun k h3 h4 => (hm (.r i) k (mut_raw h1 h2 h3 h4)).1) fun b hb h3 h4 => by
    obtain ⟨m, hm'⟩ := mut_mem h2 h3 h4 hb
    exact (hm (.d i m) b hm').1
  mine x k h := ⟨(hm x k h).2, (M.mine x k h).2.1, Nat.lt_of_lt_of_le (M.mine x k h).2.2 hs⟩
  dis := M.dis
/-- more is ok -/
theorem Mem.okUp (M : Mem w0 B σ E ok w) (h : ∀ k, ok k → k < w.heap.size → ok' k) (ho : ∀ k, ok' k → B.okA k ∨ w0.heap.size ≤ k ∨ B.L k) (hm : ∀ x k, mutAt σ E x = some k → ¬ ok' k) : Mem w0 B σ E ok' w :=
  M.go (fun k h1 h2 => ⟨rfl, h k h1 h2⟩) ho M.fr (Nat.le_refl _) fun x k hx => ⟨rfl, hm x k hx⟩

theorem boxAt_set {b b' : Nat} {l : Option (List T)} : boxAt (setBox σ b l) b' = if b = b' ∧ b < σ.bx.length then l else boxAt σ b' := by
  unfold boxAt setBox
  simp only [List.getElem?_set]
  by_cases h : b = b'
  · subst h
    by_cases hb : b < σ.bx.length <;> simp [hb]
  · simp [h]
theorem rawAt_set {i i' : Nat} {r : Option Row} : rawAt (setRow σ i r) i' = if i = i' ∧ i < σ.rw.length then r else rawAt σ i' := by
  unfold rawAt setRow
  simp only [List.getElem?_set]
  by_cases h : i = i'
  · subst h
    by_cases hb : i < σ.rw.length <;> simp [hb]
  · simp [h]
theorem rowAt_setH {i i' : Nat} {r : Option Row} : rowAt (setRow σ i r) i' = if i = i' ∧ i < σ.rw.length then here r else rowAt σ i' := by
  unfold rowAt
  rw [rawAt_set]
  split <;> rfl
theorem here_none : here none = none := rfl
theorem here_f {q : Row} (h : q.dp = .f ∨ q.dp = .d) : here (some q) = some q := by
  unfold here
  rcases h with h | h <;> simp [h]
/-- with a row that is there in whole -/
theorem rowAt_set {i i' : Nat} {r : Option Row} (h : here r = r) : rowAt (setRow σ i r) i' = if i = i' ∧ i < σ.rw.length then r else rowAt σ i' := by
  rw [rowAt_setH, h]
theorem boxAt_lt {b : Nat} {l} (h : boxAt σ b = some l) : b < σ.bx.length := by
  unfold boxAt at h
  cases hb : σ.bx[b]? with
  | none => simp [hb] at h
  | some x => exact (List.getElem?_eq_some_iff.mp hb).1
theorem rawAt_lt {i : Nat} {q} (h : rawAt σ i = some q) : i < σ.rw.length := by
  unfold rawAt at h
  cases hb : σ.rw[i]? with
  | none => simp [hb] at h
  | some x => exact (List.getElem?_eq_some_iff.mp hb).1
theorem rowAt_lt {i : Nat} {q} (h : rowAt σ i = some q) : i < σ.rw.length := rawAt_lt (row_raw h)

/-- a state with fewer things -/
theorem Mem.less (M : Mem w0 B σ E ok w) (hb : σ'.bx.length = σ.bx.length) (hr : σ'.rw.length = σ.rw.length) (h1 : ∀ b l, boxAt σ' b = some l → boxAt σ b = some l) (h2 : ∀ i q, rawAt σ' i = some q → rawAt σ i = some q) : Mem w0 B σ' E ok w := by
  have hm : ∀ x k, mutAt σ' E x = some k → mutAt σ E x = some k := by
    intro x k h
    cases x with
    | b b =>
      simp only [mutAt] at h ⊢
      cases hx : boxAt σ' b with
      | none => simp [hx] at h
      | some l => rw [h1 b l hx]; simpa [hx] using h
    | r i =>
      simp only [mutAt] at h ⊢
      cases hx : rawAt σ' i with
      | none => simp [hx] at h
      | some q => rw [h2 i q hx]; simpa [hx] using h
    | d i m =>
      simp only [mutAt] at h ⊢
      cases hx : rawAt σ' i with
      | none => simp [hx] at h
      | some q => rw [h2 i q hx]; simpa [hx] using h
  exact ⟨M.fr, M.okin, M.lb.trans hb.symm, M.lr.trans hr.symm, fun b k l h h' => M.box b k l h (h1 b l h'), fun i r q h h' => M.raw i r q h (h2 i q h'), fun x k h => M.mine x k (hm x k h), fun x y k h h' => M.dis x y k (hm x k h) (hm y k h')⟩
theorem Mem.killB (M : Mem w0 B σ E ok w) (b : Nat) : Mem w0 B (setBox σ b none) E ok w :=
  M.less (by simp [setBox]) rfl (fun b' l h => by rw [boxAt_set] at h; split at h <;> simp_all) fun _ _ h => h
theorem Mem.killR (M : Mem w0 B σ E ok w) (i : Nat) : Mem w0 B (setRow σ i none) E ok w :=
  M.less rfl (by simp [setRow]) (fun _ _ h => h) fun i' q h => by rw [rawAt_set] at h; split at h <;> simp_all
theorem Mem.ts (M : Mem w0 B σ E ok w) (ts : List T) : Mem w0 B { σ with ts } E ok w := ⟨M.fr, M.okin, M.lb, M.lr, M.box, M.raw, M.mine, M.dis⟩

/-- a box is there (again) -/
theorem Mem.setB (M : Mem w0 B σ E ok w) {b k : Nat} {l : List T} (hE : E.β[b]? = some k) (hn : boxAt σ b = none) (hb : BoxOk w ok E k l) (ho : ¬ ok k) (hh : w0.heap.size ≤ k ∨ B.L k) (hd : ∀ x, mutAt σ E x ≠ some k) : Mem w0 B (setBox σ b (some l)) E ok w := by
  have hlt : b < σ.bx.length := by rw [← M.lb]; exact (List.getElem?_eq_some_iff.mp hE).1
  have hm : ∀ x k', mutAt (setBox σ b (some l)) E x = some k' → (x = .b b ∧ k' = k) ∨ (x ≠ .b b ∧ mutAt σ E x = some k') := by
    intro x k' h
    cases x with
    | b b' =>
      simp only [mutAt, boxAt_set] at h
      by_cases hbb : b = b'
      · subst hbb; simp only [hlt, and_self, if_true] at h; rw [hE] at h; exact .inl ⟨rfl, by simpa using h.symm⟩
      · simp only [hbb, false_and, if_false] at h; exact .inr ⟨by simpa using Ne.symm hbb, h⟩
    | r i => exact .inr ⟨by simp, h⟩
    | d i m => exact .inr ⟨by simp, h⟩
  have hkl : k < w.heap.size := by obtain ⟨t, cs, h1, _⟩ := hb; exact (Array.getElem?_eq_some_iff.mp h1).1
  refine ⟨M.fr, M.okin, by simpa [setBox] using M.lb, M.lr, fun b' k' l' h h' => ?_, M.raw, fun x k' h => ?_, fun x y k' h h' => ?_⟩
  · rw [boxAt_set] at h'
    by_cases hbb : b = b'
    · subst hbb; simp only [hlt, and_self, if_true, Option.some.injEq] at h'; subst h'; rw [hE] at h; cases h; exact hb
    · simp only [hbb, false_and, if_false] at h'; exact M.box b' k' l' h h'
  · rcases hm x k' h with ⟨_, rfl⟩ | ⟨_, h⟩
    · exact ⟨ho, hh, hkl⟩
    · exact M.mine x k' h
  · rcases hm x k' h with ⟨rfl, rfl⟩ | ⟨_, h⟩ <;> rcases hm y k' h' with ⟨rfl, e⟩ | ⟨_, h'⟩
    · rfl
    · exact absurd h' (hd y)
    · subst e; exact absurd h (hd x)
    · exact M.dis x y k' h h'
/-- a row is there (again), with the blocks below it -/
theorem Mem.setRD (M : Mem w0 B σ E ok w) {i : Nat} {r : RV} {q : Row} {D : List Nat} (hE : E.ρ[i]? = some r) (hb : RowOk w ok D r q) (hd : ∀ k, q.ow = true → r.κ = some k → ¬ ok k ∧ (w0.heap.size ≤ k ∨ B.L k) ∧ k < w.heap.size ∧ ∀ x, mutAt (setRow σ i none) E x ≠ some k)
    (hD : q.ow = true → q.dp ≠ .f → D.Nodup ∧ ∀ k ∈ D, r.κ ≠ some k ∧ ¬ ok k ∧ (w0.heap.size ≤ k ∨ B.L k) ∧ k < w.heap.size ∧ ∀ x, mutAt (setRow σ i none) E x ≠ some k) : Mem w0 B (setRow σ i (some q)) ⟨E.β, E.ρ, upd E.δ i D⟩ ok w := by
  have hlt : i < σ.rw.length := by rw [← M.lr]; exact (List.getElem?_eq_some_iff.mp hE).1
  have hm : ∀ x k', mutAt (setRow σ i (some q)) ⟨E.β, E.ρ, upd E.δ i D⟩ x = some k' → (x = .r i ∧ q.ow = true ∧ r.κ = some k') ∨ (∃ m, x = .d i m ∧ q.ow = true ∧ q.dp ≠ .f ∧ D[m]? = some k') ∨ (mutAt (setRow σ i none) E x = some k' ∧ (∀ m, x ≠ .d i m) ∧ x ≠ .r i) := by
    intro x k' h
    cases x with
    | r i' =>
      simp only [mutAt, rawAt_set] at h ⊢
      by_cases hbb : i = i'
      · subst hbb; simp only [hlt, and_self, if_true] at h; rw [hE] at h
        split at h
        · rename_i ho; exact .inl ⟨rfl, ho, by simpa using h⟩
        · simp at h
      · simp only [hbb, false_and, if_false] at h ⊢; exact .inr (.inr ⟨h, by simp, by simpa using Ne.symm hbb⟩)
    | d i' m =>
      simp only [mutAt, rawAt_set, upd] at h ⊢
      by_cases hbb : i = i'
      · subst hbb; simp only [hlt, and_self, if_true] at h
        split at h
        · rename_i ho
          split at h
          · simp at h
          · rename_i hp; exact .inr (.inl ⟨m, rfl, ho, hp, h⟩)
        · simp at h
      · simp only [hbb, Ne.symm hbb, false_and, if_false] at h ⊢; exact .inr (.inr ⟨h, by simp only [ne_eq, Mt.d.injEq, not_and]; intro _ e; exact absurd e.symm hbb, by simp⟩)
    | b b => exact .inr (.inr ⟨h, by simp, by simp⟩)
  have M' := M.killR i
  refine ⟨M.fr, M.okin, M.lb, by simpa [setRow] using M.lr, M.box, fun i' r' q' h h' => ?_, fun x k' h => ?_, fun x y k' h h' => ?_⟩
  · rw [rawAt_set] at h'
    by_cases hbb : i = i'
    · subst hbb; simp only [hlt, and_self, if_true, Option.some.injEq] at h'; subst h'; rw [show E.ρ[i]? = some r' from h] at hE; cases hE; simpa [upd] using hb
    · simp only [hbb, false_and, if_false] at h'
      have := M.raw i' r' q' h h'
      simpa [upd, Ne.symm hbb] using this
  · rcases hm x k' h with ⟨_, h1, h2⟩ | ⟨m, rfl, h1, h2, h3⟩ | ⟨h, _⟩
    · exact ⟨(hd k' h1 h2).1, (hd k' h1 h2).2.1, (hd k' h1 h2).2.2.1⟩
    · have := (hD h1 h2).2 k' (List.mem_of_getElem? h3)
      exact ⟨this.2.1, this.2.2.1, this.2.2.2.1⟩
    · exact M'.mine x k' h
  · rcases hm x k' h with ⟨rfl, h1, h2⟩ | ⟨m, rfl, h1, h2, h3⟩ | ⟨h, _⟩ <;> rcases hm y k' h' with ⟨rfl, h4, h5⟩ | ⟨m', rfl, h4, h5, h6⟩ | ⟨h', _⟩
    · rfl
    · exact absurd h2 ((hD h4 h5).2 k' (List.mem_of_getElem? h6)).1
    · exact absurd h' ((hd k' h1 h2).2.2.2 y)
    · exact absurd h5 ((hD h1 h2).2 k' (List.mem_of_getElem? h3)).1
    · have hn := (hD h1 h2).1
      have l1 := (List.getElem?_eq_some_iff.mp h3).1
      have l2 := (List.getElem?_eq_some_iff.mp h6).1
      have e1 := (List.getElem?_eq_some_iff.mp h3).2
      have e2 := (List.getElem?_eq_some_iff.mp h6).2
      have : m = m' := (List.getElem_inj (h₀ := l1) (h₁ := l2) hn).1 (e1.trans e2.symm)
      rw [this]
    · exact absurd h' (((hD h1 h2).2 k' (List.mem_of_getElem? h3)).2.2.2.2 y)
    · exact absurd h ((hd k' h4 h5).2.2.2 x)
    · exact absurd h (((hD h4 h5).2 k' (List.mem_of_getElem? h6)).2.2.2.2 x)
    · exact M'.dis x y k' h h'
theorem own_lt {r : RV} {q : Row} {δ : List Nat} (hb : RowOk w ok δ r q) {k : Nat} (h1 : q.ow = true) (h2 : r.κ = some k) : k < w.heap.size := by
  obtain ⟨_, h3⟩ := hb
  rw [h1, if_pos rfl] at h3
  cases hp : q.dp with
  | f =>
    rw [hp] at h3
    obtain ⟨_, _, _, _, h4⟩ := h3
    simp only [h2] at h4
    obtain ⟨off, t, cs, _, h5, _⟩ := h4
    exact (Array.getElem?_eq_some_iff.mp h5).1
  | d => rw [hp] at h3; obtain ⟨off, t, cs, u, f, _, _, _, _, _, h6, _⟩ := h3; exact (Array.getElem?_eq_some_iff.mp (h6 k h2).2.1).1
  | p n => rw [hp] at h3; obtain ⟨off, t, cs, u, f, _, _, _, _, _, h6, _⟩ := h3; exact (Array.getElem?_eq_some_iff.mp (h6 k h2).2.1).1
theorem mut_kill_le {i : Nat} {x : Mt} {k : Nat} (h : mutAt (setRow σ i none) E x = some k) : mutAt σ E x = some k := by
  cases x with
  | b b => exact h
  | r j =>
    simp only [mutAt, rawAt_set] at h ⊢
    by_cases hij : i = j ∧ i < σ.rw.length
    · obtain ⟨rfl, hlt⟩ := hij; simp [hlt] at h
    · simp only [hij, if_false] at h; exact h
  | d j m =>
    simp only [mutAt, rawAt_set] at h ⊢
    by_cases hij : i = j ∧ i < σ.rw.length
    · obtain ⟨rfl, hlt⟩ := hij; simp [hlt] at h
    · simp only [hij, if_false] at h; exact h
/-- a flat row is there (again) -/
theorem Mem.setR (M : Mem w0 B σ E ok w) {i : Nat} {r : RV} {q : Row} (hE : E.ρ[i]? = some r) (hf : q.dp = .f) (hb : RowOk w ok [] r q) (hd : ∀ k, q.ow = true → r.κ = some k → ¬ ok k ∧ (w0.heap.size ≤ k ∨ B.L k) ∧ ∀ x, mutAt σ E x ≠ some k) : Mem w0 B (setRow σ i (some q)) E ok w := by
  have hR : ∀ δ, RowOk w ok δ r q := fun δ => by
    refine ⟨hb.1, ?_⟩
    have := hb.2
    rw [hf] at this ⊢; exact this
  have M1 := M.setRD (D := E.δ i) hE (hR _) (fun k h1 h2 => ⟨(hd k h1 h2).1, (hd k h1 h2).2.1, own_lt hb h1 h2, fun x hx => (hd k h1 h2).2.2 x (mut_kill_le hx)⟩) fun _ h => absurd hf h
  have e : upd E.δ i (E.δ i) = E.δ := by funext j; simp only [upd]; split <;> simp_all
  rw [e] at M1; exact M1
/-- room for one more box, none there yet -/
theorem Mem.roomB (M : Mem w0 B σ E ok w) (k : Nat) : Mem w0 B { σ with bx := σ.bx ++ [none] } ⟨E.β ++ [k], E.ρ, E.δ⟩ ok w ∧ E.Le ⟨E.β ++ [k], E.ρ, E.δ⟩ := by
  have hle : E.Le ⟨E.β ++ [k], E.ρ, E.δ⟩ := ⟨fun b x h => by
    have := (List.getElem?_eq_some_iff.mp h).1
    show (E.β ++ [k])[b]? = some x
    rw [List.getElem?_append_left this]; exact h, fun _ _ h => h⟩
  have hbx : ∀ b l, boxAt { σ with bx := σ.bx ++ [none] } b = some l → boxAt σ b = some l := by
    intro b l h
    unfold boxAt at h ⊢
    simp only at h
    by_cases hb : b < σ.bx.length
    · rw [List.getElem?_append_left hb] at h; exact h
    · rw [List.getElem?_append_right (by omega)] at h
      cases hx : ([none] : List (Option (List T)))[b - σ.bx.length]? with
      | none => rw [hx] at h; simp at h
      | some y =>
        rw [hx] at h
        have : b - σ.bx.length = 0 := by have := (List.getElem?_eq_some_iff.mp hx).1; simp at this; omega
        rw [this] at hx; simp at hx; subst hx; simp at h
  have hβ : ∀ b k', (E.β ++ [k])[b]? = some k' → b < σ.bx.length → E.β[b]? = some k' := by
    intro b k' h hb
    rw [List.getElem?_append_left (by rw [M.lb]; exact hb)] at h; exact h
  have hm : ∀ x k', mutAt { σ with bx := σ.bx ++ [none] } ⟨E.β ++ [k], E.ρ, E.δ⟩ x = some k' → mutAt σ E x = some k' := by
    intro x k' h
    cases x with
    | b b =>
      simp only [mutAt] at h ⊢
      cases hx : boxAt { σ with bx := σ.bx ++ [none] } b with
      | none => simp [hx] at h
      | some l => rw [hbx b l hx]; simp only [hx] at h; exact hβ b k' h (boxAt_lt (hbx b l hx))
    | r i => exact h
    | d i m => exact h
  refine ⟨⟨M.fr, M.okin, by simp [M.lb], M.lr, fun b k' l h h' => ?_, fun i r q h h' => ?_, fun x k' h => M.mine x k' (hm x k' h), fun x y k' h h' => M.dis x y k' (hm x k' h) (hm y k' h')⟩, hle⟩
  · have h2 := hbx b l h'
    exact (M.box b k' l (hβ b k' h (boxAt_lt h2)) h2).keep (fun _ h _ => ⟨rfl, h⟩) hle rfl
  · exact M.raw i r q h h'
theorem Mem.roomR (M : Mem w0 B σ E ok w) (r : RV) : Mem w0 B { σ with rw := σ.rw ++ [none] } ⟨E.β, E.ρ ++ [r], E.δ⟩ ok w ∧ E.Le ⟨E.β, E.ρ ++ [r], E.δ⟩ := by
  have hle : E.Le ⟨E.β, E.ρ ++ [r], E.δ⟩ := ⟨fun _ _ h => h, fun b x h => by
    have := (List.getElem?_eq_some_iff.mp h).1
    show (E.ρ ++ [r])[b]? = some x
    rw [List.getElem?_append_left this]; exact h⟩
  have hbx : ∀ b l, rawAt { σ with rw := σ.rw ++ [none] } b = some l → rawAt σ b = some l := by
    intro b l h
    unfold rawAt at h ⊢
    simp only at h
    by_cases hb : b < σ.rw.length
    · rw [List.getElem?_append_left hb] at h; exact h
    · rw [List.getElem?_append_right (by omega)] at h
      cases hx : ([none] : List (Option Row))[b - σ.rw.length]? with
      | none => rw [hx] at h; simp at h
      | some y =>
        rw [hx] at h
        have : b - σ.rw.length = 0 := by have := (List.getElem?_eq_some_iff.mp hx).1; simp at this; omega
        rw [this] at hx; simp at hx; subst hx; simp at h
  have hβ : ∀ b k', (E.ρ ++ [r])[b]? = some k' → b < σ.rw.length → E.ρ[b]? = some k' := by
    intro b k' h hb
    rw [List.getElem?_append_left (by rw [M.lr]; exact hb)] at h; exact h
  have hm : ∀ x k', mutAt { σ with rw := σ.rw ++ [none] } ⟨E.β, E.ρ ++ [r], E.δ⟩ x = some k' → mutAt σ E x = some k' := by
    intro x k' h
    cases x with
    | r b =>
      simp only [mutAt] at h ⊢
      cases hx : rawAt { σ with rw := σ.rw ++ [none] } b with
      | none => simp [hx] at h
      | some l =>
        have h2 := hbx b l hx
        have h3 : (E.ρ ++ [r])[b]? = E.ρ[b]? := List.getElem?_append_left (by rw [M.lr]; exact rawAt_lt h2)
        rw [h2]; simp only [hx, h3] at h; exact h
    | b i => exact h
    | d b m =>
      simp only [mutAt] at h ⊢
      cases hx : rawAt { σ with rw := σ.rw ++ [none] } b with
      | none => simp [hx] at h
      | some l => rw [hbx b l hx]; simpa [hx] using h
  refine ⟨⟨M.fr, M.okin, M.lb, by simp [M.lr], fun b k' l h h' => ?_, fun i r' q h h' => ?_, fun x k' h => M.mine x k' (hm x k' h), fun x y k' h h' => M.dis x y k' (hm x k' h) (hm y k' h')⟩, hle⟩
  · exact (M.box b k' l h h').keep (fun _ h _ => ⟨rfl, h⟩) hle rfl
  · have h2 := hbx i q h'
    exact M.raw i r' q (hβ i r' h (rawAt_lt h2)) h2
end
end Go.SX
