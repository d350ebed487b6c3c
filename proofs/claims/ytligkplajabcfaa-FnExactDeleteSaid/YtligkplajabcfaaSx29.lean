import Derived.Test.YtligkplajabcfaaSx28
import Derived.Test.YtligkplajabcfaaNt
set_option linter.unusedVariables false
set_option linter.unusedSimpArgs false
set_option linter.unusedSectionVars false
set_option linter.unusedVariables false
set_option linter.unusedSimpArgs false
namespace Go.SX
open Go.Nt
variable {P : Program} {K : Cfg} {F : Fun} {n : Nat} {ops : Array Oper}

/-! data, as the plain functions have it -/
abbrev cI (k : IntKind) (n : Int) : C := .s (.int k n)
abbrev cB (b : Bool) : C := .s (.bool b)
abbrev bs (s : Str) : ByteArray := ⟨s.toArray⟩
abbrev cS (s : Str) : C := .s (.string (bs s))
abbrev eI (n : Int) : List C := [cI .i64 n]
abbrev eU (n : Int) : List C := [cI .u8 n]
abbrev eB (b : Bool) : List C := [cB b]
abbrev eS (s : Str) : List C := [cS s]
abbrev cL {α : Type} (e : α → List C) (l : List α) : C := .r (l.map e)
abbrev eL {α : Type} (e : α → List C) (l : List α) : List C := [cL e l]
abbrev rr {α : Type} (n : Nat) (e : α → List C) (l : List α) (b : Bool) : Option Row := some ⟨n, l.map e, b, .f⟩
/-- a row all below which is ours -/
abbrev rd {α : Type} (n : Nat) (e : α → List C) (l : List α) : Option Row := some ⟨n, l.map e, true, .d⟩

/-! a state at a loop's head -/
def rnOf (fb fr : List Nat) : Rn := ⟨fun i => fb.getD i 0, fun i => fr.getD i 0, fb.length, fr.length⟩
mutual
def leT (fb fr : List Nat) : T → T → Prop
  | .no, _ => True
  | .c x, y => y = .c x
  | .nil, y => y = .nil
  | .row i, y => match fr[i]? with | some j => y = .row j | none => False
  | .sl i lo hi, y => match fr[i]? with | some j => y = .sl j lo hi | none => False
  | .bp b o, y => match fb[b]? with | some j => y = .bp j o | none => False
  | .rp i k o, y => match fr[i]? with | some j => y = .rp j k o | none => False
  | .cp l o, y => y = .cp l o
  | .ag l, .ag m => leA fb fr l m
  | .tu l, .tu m => leA fb fr l m
  | .fn g b, y => match b.mapM (fun b => fb[b]?) with | some m => y = .fn g m | none => False
  | _, _ => False
def leA (fb fr : List Nat) : List T → List T → Prop
  | [], [] => True
  | x :: l, y :: m => leT fb fr x y ∧ leA fb fr l m
  | _, _ => False
end
def leS (fb fr : List Nat) : List T → List T → Prop
  | [], _ => True
  | .no :: l, m => leS fb fr l m.tail
  | x :: l, m => leT fb fr x (gt m 0) ∧ leS fb fr l m.tail
def leR : List (Option Row) → List Nat → List (Option Row) → Prop
  | [], [], _ => True
  | r :: l, i :: fr, m => m[i]? = some r ∧ leR l fr m
  | _, _, _ => False
def leB (fb fr : List Nat) : List (Option (List T)) → List Nat → List (Option (List T)) → Prop
  | [], [], _ => True
  | none :: l, i :: g, m => m[i]? = some none ∧ leB fb fr l g m
  | some x :: l, i :: g, m => (match m[i]? with | some (some y) => leA fb fr x y | _ => False) ∧ leB fb fr l g m
  | _, _, _ => False
mutual
theorem leT_tr {fb fr : List Nat} : ∀ (x y : T), leT fb fr x y → TR (rnOf fb fr) x y
  | .no, _, _ => .no _
  | .c x, _, h => by simp only [leT] at h; subst h; exact .c x
  | .nil, _, h => by simp only [leT] at h; subst h; exact .nil
  | .row i, _, h => by
    simp only [leT] at h
    split at h
    · rename_i j h1
      subst h
      have := TR.row (f := rnOf fb fr) i (by simp only [rnOf]; exact (List.getElem?_eq_some_iff.1 h1).1)
      simpa [rnOf, h1] using this
    · exact h.elim
  | .sl i lo hi, _, h => by
    simp only [leT] at h
    split at h
    · rename_i j h1
      subst h
      have := TR.sl (f := rnOf fb fr) i lo hi (by simp only [rnOf]; exact (List.getElem?_eq_some_iff.1 h1).1)
      simpa [rnOf, h1] using this
    · exact h.elim
  | .bp b o, _, h => by
    simp only [leT] at h
    split at h
    · rename_i j h1
      subst h
      have := TR.bp (f := rnOf fb fr) b o (by simp only [rnOf]; exact (List.getElem?_eq_some_iff.1 h1).1)
      simpa [rnOf, h1] using this
    · exact h.elim
  | .rp i k o, _, h => by
    simp only [leT] at h
    split at h
    · rename_i j h1
      subst h
      have := TR.rp (f := rnOf fb fr) i k o (by simp only [rnOf]; exact (List.getElem?_eq_some_iff.1 h1).1)
      simpa [rnOf, h1] using this
    · exact h.elim
  | .cp l o, _, h => by simp only [leT] at h; subst h; exact .cp l o
  | .ag l, .ag m, h => by simp only [leT] at h; exact .ag (leA_tr l m h)
  | .tu l, .tu m, h => by simp only [leT] at h; exact .tu (leA_tr l m h)
  | .fn g b, _, h => by
    simp only [leT] at h
    split at h
    · rename_i m h1
      subst h
      have key : ∀ (b : List Nat) {m}, b.mapM (fun b => fb[b]?) = some m → m = b.map (rnOf fb fr).b ∧ ∀ c ∈ b, c < (rnOf fb fr).nb := by
        intro b
        induction b with
        | nil => intro m h; simp at h; subst h; exact ⟨rfl, by simp⟩
        | cons c b ih =>
          intro m h
          simp only [List.mapM_cons, bind, Option.bind_eq_some_iff, pure, Option.some.injEq] at h
          obtain ⟨j, h1, m', h2, rfl⟩ := h
          obtain ⟨a1, a2⟩ := ih h2
          refine ⟨by simp [a1, rnOf, h1], fun d hd => ?_⟩
          rcases List.mem_cons.1 hd with rfl | hd
          · simp only [rnOf]; exact (List.getElem?_eq_some_iff.1 h1).1
          · exact a2 d hd
      obtain ⟨rfl, a2⟩ := key b h1
      exact .fn g b a2
    · exact h.elim
  | .ag l, .no, h | .ag l, .c _, h | .ag l, .nil, h | .ag l, .row _, h | .ag l, .sl _ _ _, h | .ag l, .bp _ _, h | .ag l, .rp _ _ _, h | .ag l, .cp _ _, h | .ag l, .tu _, h | .ag l, .fn _ _, h => by simp [leT] at h
  | .tu l, .no, h | .tu l, .c _, h | .tu l, .nil, h | .tu l, .row _, h | .tu l, .sl _ _ _, h | .tu l, .bp _ _, h | .tu l, .rp _ _ _, h | .tu l, .cp _ _, h | .tu l, .ag _, h | .tu l, .fn _ _, h => by simp [leT] at h
theorem leA_tr {fb fr : List Nat} : ∀ (l m : List T), leA fb fr l m → All2 (TR (rnOf fb fr)) l m
  | [], [], _ => .nil
  | x :: l, y :: m, h => by simp only [leA] at h; exact .cons (leT_tr x y h.1) (leA_tr l m h.2)
  | [], _ :: _, h => by simp [leA] at h
  | _ :: _, [], h => by simp [leA] at h
end
theorem gt_tail (m : List T) (i : Nat) : gt m.tail i = gt m (i + 1) := by
  cases m with
  | nil => simp [gt]
  | cons a m => rfl
theorem leS_tr {fb fr : List Nat} : ∀ (l m : List T), leS fb fr l m → ∀ i, TR (rnOf fb fr) (gt l i) (gt m i)
  | [], m, _, i => by simp only [gt]; exact .no _
  | x :: l, m, h, i => by
    have two : leS fb fr l m.tail → leT fb fr x (gt m 0) → TR (rnOf fb fr) (gt (x :: l) i) (gt m i) := fun h2 h1 => by
      cases i with
      | zero => exact leT_tr _ _ h1
      | succ i => rw [← gt_tail m]; exact leS_tr l m.tail h2 i
    cases x <;> simp only [leS] at h
    case no => exact two h (by simp [leT])
    all_goals exact two h.2 h.1
theorem leR_get : ∀ (l : List (Option Row)) (fr : List Nat) (m : List (Option Row)), leR l fr m → l.length = fr.length ∧ ∀ i j : Nat, fr[i]? = some j → m[j]? = l[i]?
  | [], [], m, h => by simp
  | [], _ :: _, m, h => by simp [leR] at h
  | _ :: _, [], m, h => by simp [leR] at h
  | r :: l, k :: fr', m, h => by
    simp only [leR] at h
    obtain ⟨h1, h2⟩ := h
    obtain ⟨a, b⟩ := leR_get l fr' m h2
    refine ⟨by simp [a], fun i j hi => ?_⟩
    cases i with
    | zero => simp only [List.getElem?_cons_zero, Option.some.injEq] at hi ⊢; subst hi; exact h1
    | succ i => simp only [List.getElem?_cons_succ] at hi ⊢; exact b i j hi
theorem leB_get {fb fr : List Nat} : ∀ (l : List (Option (List T))) (g : List Nat) (m : List (Option (List T))), leB fb fr l g m → l.length = g.length ∧ (∀ i j : Nat, g[i]? = some j → j < m.length) ∧ ∀ (i j : Nat) (x : List T), g[i]? = some j → l[i]? = some (some x) → ∃ y, m[j]? = some (some y) ∧ leA fb fr x y
  | [], [], m, h => by simp
  | [], _ :: _, m, h => by simp [leB] at h
  | none :: _, [], m, h => by simp [leB] at h
  | some _ :: _, [], m, h => by simp [leB] at h
  | none :: l, k :: g', m, h => by
    simp only [leB] at h
    obtain ⟨h1, h2⟩ := h
    obtain ⟨a, c, b⟩ := leB_get l g' m h2
    refine ⟨by simp [a], fun i j hi => ?_, fun i j x hi hx => ?_⟩
    · cases i with
      | zero => simp only [List.getElem?_cons_zero, Option.some.injEq] at hi; subst hi; exact (List.getElem?_eq_some_iff.1 h1).1
      | succ i => exact c i j (by simpa using hi)
    · cases i with
      | zero => simp at hx
      | succ i => exact b i j x (by simpa using hi) (by simpa using hx)
  | some z :: l, k :: g', m, h => by
    simp only [leB] at h
    obtain ⟨h0, h3⟩ := h
    split at h0
    · rename_i y h1
      obtain ⟨a, c, b⟩ := leB_get l g' m h3
      refine ⟨by simp [a], fun i j hi => ?_, fun i j x hi hx => ?_⟩
      · cases i with
        | zero => simp only [List.getElem?_cons_zero, Option.some.injEq] at hi; subst hi; exact (List.getElem?_eq_some_iff.1 h1).1
        | succ i => exact c i j (by simpa using hi)
      · cases i with
        | zero => simp at hi hx; subst hi hx; exact ⟨y, h1, h0⟩
        | succ i => exact b i j x (by simpa using hi) (by simpa using hx)
    · exact h0.elim
theorem le_intro (fb fr : List Nat) {ls : List Lend} {σ τ : St} (hb : fb.Nodup) (hr : fr.Nodup) (hf : ls.all (fun | .b b => fb[b]? == some b | .r i => fr[i]? == some i) = true)
    (hS : leS fb fr σ.ts τ.ts) (hB : leB fb fr σ.bx fb τ.bx) (hR : leR σ.rw fr τ.rw) : Le ls σ τ := by
  obtain ⟨r1, r2⟩ := leR_get _ _ _ hR
  obtain ⟨b1, b2, b3⟩ := leB_get _ _ _ hB
  have inj : ∀ {l : List Nat}, l.Nodup → ∀ i j, i < l.length → j < l.length → l.getD i 0 = l.getD j 0 → i = j := by
    intro l hl i j hi hj e
    simp only [List.getD_eq_getElem?_getD, List.getElem?_eq_getElem hi, List.getElem?_eq_getElem hj, Option.getD_some] at e
    exact (List.getElem_inj hl).1 e
  have getr : ∀ i, i < fr.length → fr[i]? = some (fr.getD i 0) := fun i hi => by simp [List.getElem?_eq_getElem hi]
  have getb : ∀ i, i < fb.length → fb[i]? = some (fb.getD i 0) := fun i hi => by simp [List.getElem?_eq_getElem hi]
  refine ⟨rnOf fb fr, ⟨⟨b1.symm, r1.symm, inj hb, inj hr, fun i hi => b2 i _ (getb i hi), fun i hi => ?_, fun i hi => ?_, fun i l hl => ?_⟩, leS_tr _ _ hS⟩, fun x hx => ?_⟩
  · have h1 := r2 i _ (getr i hi)
    have hi' : i < σ.rw.length := by rw [r1]; exact hi
    rw [List.getElem?_eq_getElem hi'] at h1
    exact (List.getElem?_eq_some_iff.1 h1).1
  · have h1 := r2 i _ (getr i hi)
    simp only [rowAt, rawAt, rnOf, h1]
  · have hi : i < fb.length := by rw [← b1]; exact boxAt_lt hl
    have hl' : σ.bx[i]? = some (some l) := by
      have hi' : i < σ.bx.length := by rw [b1]; exact hi
      simp only [boxAt, List.getElem?_eq_getElem hi', Option.join_some] at hl
      rw [List.getElem?_eq_getElem hi', hl]
    obtain ⟨y, h1, h2⟩ := b3 i _ l (getb i hi) hl'
    exact ⟨y, by simp only [boxAt, rnOf, h1, Option.join_some], leA_tr _ _ h2⟩
  · have h1 := List.all_eq_true.1 hf x hx
    cases x with
    | b b =>
      simp only [beq_iff_eq] at h1
      exact ⟨(List.getElem?_eq_some_iff.1 h1).1, by simp [Rn.l, rnOf, h1]⟩
    | r i =>
      simp only [beq_iff_eq] at h1
      exact ⟨(List.getElem?_eq_some_iff.1 h1).1, by simp [Rn.l, rnOf, h1]⟩
theorem told3 {fn : Func} {ls : List Lend} {r : A × List (Option Cs)} {e : Ex} {σ : St} (h : endC (finish P K fn ls) (e, σ) = some r) : Told2 P K fn ls false r e σ := ⟨r, h, rfl⟩
theorem st_gt : ∀ (l : List T) (d : Nat) (x : T), gt l d = x → x ≠ .no → st l d x = l
  | [], d, x, h, hx => absurd (by rw [← h]; simp [gt]) hx
  | y :: l, 0, x, h, _ => by simp only [gt] at h; simp only [st, h]
  | y :: l, d + 1, x, h, hx => by simp only [gt] at h; simp only [st, st_gt l d x h hx]
/-- a guard's Bool, either way, told in its slot -/
theorem WO_if {o : Oper} {l : List Oper} {σ : St} {Q : St → Prop} {j : Nat} {want t : Bool} {d : Tmp} (_ : o.guard = some (j, want)) (_ : (ops[j]?).bind (·.dst) = some d) (hs : gt σ.ts d = .c (.s (.bool t))) (h1 : t = true → WO P K F n ops (o :: l) ⟨st σ.ts d (.c (.s (.bool true))), σ.bx, σ.rw⟩ Q) (h2 : t = false → WO P K F n ops (o :: l) ⟨st σ.ts d (.c (.s (.bool false))), σ.bx, σ.rw⟩ Q) : WO P K F n ops (o :: l) σ Q := by
  cases t with
  | true => have := h1 rfl; rw [st_gt _ _ _ hs (by simp)] at this; exact this
  | false => have := h2 rfl; rw [st_gt _ _ _ hs (by simp)] at this; exact this
theorem WL_if {o : Oper} {l : List Oper} {σ : St} {Q : St → Prop} {g : List Entry} {j : Nat} {want t : Bool} {d : Tmp} (_ : o.guard = some (j, want)) (_ : (ops[j]?).bind (·.dst) = some d) (hs : gt σ.ts d = .c (.s (.bool t))) (h1 : t = true → WL P K F n ops (o :: l) ⟨st σ.ts d (.c (.s (.bool true))), σ.bx, σ.rw⟩ g Q) (h2 : t = false → WL P K F n ops (o :: l) ⟨st σ.ts d (.c (.s (.bool false))), σ.bx, σ.rw⟩ g Q) : WL P K F n ops (o :: l) σ g Q := by
  cases t with
  | true => have := h1 rfl; rw [st_gt _ _ _ hs (by simp)] at this; exact this
  | false => have := h2 rfl; rw [st_gt _ _ _ hs (by simp)] at this; exact this
/-- a slot's Bool, either way -/
theorem WO_sl (d : Tmp) {l : List Oper} {σ : St} {Q : St → Prop} {t : Bool} (hs : gt σ.ts d = .c (.s (.bool t))) (h1 : t = true → WO P K F n ops l ⟨st σ.ts d (.c (.s (.bool true))), σ.bx, σ.rw⟩ Q) (h2 : t = false → WO P K F n ops l ⟨st σ.ts d (.c (.s (.bool false))), σ.bx, σ.rw⟩ Q) : WO P K F n ops l σ Q := by
  cases t with
  | true => have := h1 rfl; rw [st_gt _ _ _ hs (by simp)] at this; exact this
  | false => have := h2 rfl; rw [st_gt _ _ _ hs (by simp)] at this; exact this
theorem WL_sl (d : Tmp) {l : List Oper} {σ : St} {Q : St → Prop} {g : List Entry} {t : Bool} (hs : gt σ.ts d = .c (.s (.bool t))) (h1 : t = true → WL P K F n ops l ⟨st σ.ts d (.c (.s (.bool true))), σ.bx, σ.rw⟩ g Q) (h2 : t = false → WL P K F n ops l ⟨st σ.ts d (.c (.s (.bool false))), σ.bx, σ.rw⟩ g Q) : WL P K F n ops l σ g Q := by
  cases t with
  | true => have := h1 rfl; rw [st_gt _ _ _ hs (by simp)] at this; exact this
  | false => have := h2 rfl; rw [st_gt _ _ _ hs (by simp)] at this; exact this
end Go.SX
