import GoSem.Core.View
import GoSem.Op.String
import GoSem.Core.Utf8
set_option linter.unusedVariables false
set_option linter.unusedSimpArgs false
set_option linter.unusedSectionVars false
set_option linter.unusedVariables false
/-! words of the plain functions -/
namespace Go.Nt
abbrev Str := List UInt8
/-- an element, where there is one -/
def ix {α : Type} (l : List α) (i : Int) : Option α := if 0 ≤ i then l[i.toNat]? else none
def cut {α : Type} (l : List α) (lo hi : Nat) : List α := (l.take hi).drop lo
def slc {α : Type} (l : List α) (lo hi : Int) : Option (List α) := if 0 ≤ lo ∧ lo ≤ hi ∧ hi ≤ l.length then some (cut l lo.toNat hi.toNat) else none
/-- grown, where there is room (b bytes an element) -/
def app {α : Type} (b : Nat) (l m : List α) : Option (List α) := if (l.length + m.length) * b ≤ 2 ^ 46 then some (l ++ m) else none
def mk {α : Type} (b : Nat) (n : Int) (x : α) : Option (List α) := if 0 ≤ n ∧ b * n ≤ 2 ^ 47 then some (List.replicate n.toNat x) else none
def put {α : Type} (l : List α) (i : Int) (x : α) : Option (List α) := if 0 ≤ i ∧ i.toNat < l.length then some (l.set i.toNat x) else none
/-- where a byte stands first -/
def indexByte : Str → UInt8 → Int
  | [], _ => -1
  | b :: l, c => if b == c then 0 else if indexByte l c == -1 then -1 else indexByte l c + 1
/-- a copy -/
def clone {α : Type} (b : Nat) (l : List α) : Option (List α) := if l.length * b ≤ 2 ^ 46 then some l else none
def cat (s t : Str) : Option Str := if ((s.length + t.length : Nat) : Int) > IntKind.i64.max then none else some (s ++ t)
def quo (k : IntKind) (a b : Int) : Option Int := if b = 0 then none else some (k.wrap (a.tdiv b))
def rem (a b : Int) : Option Int := if b = 0 then none else some (a.tmod b)
def slt (s t : Str) : Bool := Op.bytesLess s t
def byte (b : UInt8) : Int := b.toNat
/-- a rune's text -/
def rune (n : Int) : Str := (Utf8.encode n).data.toList
/-- the text of bytes -/
def strOf (l : List Int) : Str := l.map fun b => UInt8.ofNat b.toNat
/-! what an argument is known to be -/
def okI (n : Int) : Prop := -9223372036854775808 ≤ n ∧ n ≤ 9223372036854775807
def okS (s : Str) : Prop := s.length ≤ 9223372036854775807
def okL {α : Type} (p : α → Prop) (l : List α) : Prop := l.length ≤ 9223372036854775807 ∧ ∀ x ∈ l, p x
/-- one text of many -/
def join (a : List Str) (s : Str) : Option Str := if a.length ≤ 2 ^ 46 ∧ (s.intercalate a).length ≤ 2 ^ 46 then some (s.intercalate a) else none
def ins {α : Type} (b : Nat) (l : List α) (i : Int) (v : List α) : Option (List α) := if 0 ≤ i ∧ i ≤ l.length ∧ 0 < v.length ∧ (l.length + v.length) * b ≤ 70368744177664 then some (l.take i.toNat ++ v ++ l.drop i.toNat) else none
/-- a part of a row, as it was at first -/
def clr {α : Type} (l : List α) (i j : Int) (x : α) : List α := l.take i.toNat ++ List.replicate (j.toNat - i.toNat) x ++ l.drop j.toNat
def uniqs (l : List Str) : List Str := ((List.range l.length).filter fun j => decide (j = 0 ∨ l[j]! ≠ l[j - 1]!)).map (l[·]!)
def uniq (l : List Str) : Option (List Str) := if l.length ≤ 70368744177664 then some (uniqs l) else none
/-- where the first yes stands -/
def firstT (m : List Bool) : Int := match m.findIdx? id with
  | some i => i
  | none => -1
open Classical in
theorem bnd {α β : Type} {e : Option α} {f : α → Option β} {r : β} (h : (e >>= f) = some r) : ∃ x, e = some x ∧ f x = some r := Option.bind_eq_some_iff.1 h
theorem tr {α : Type} {c : Bool} {a b : Option α} {r : α} (hc : c = true) (h : (if c = true then a else b) = some r) : a = some r := (if_pos hc).symm.trans h
theorem fl {α : Type} {c : Bool} {a b : Option α} {r : α} (hc : c = false) (h : (if c = true then a else b) = some r) : b = some r := (if_neg (by simp [hc])).symm.trans h
theorem ix_some {α : Type} {l : List α} {i : Int} {x : α} (h : ix l i = some x) : 0 ≤ i ∧ l[i.toNat]? = some x := by
  unfold ix at h; split at h
  · exact ⟨by assumption, h⟩
  · simp at h
theorem put_some {α : Type} {l m : List α} {i : Int} {x : α} (h : put l i x = some m) : 0 ≤ i ∧ i.toNat < l.length ∧ m = l.set i.toNat x := by
  unfold put at h; split at h
  · rename_i hc; simp only [Option.some.injEq] at h; exact ⟨hc.1, hc.2, h.symm⟩
  · simp at h
theorem app_some {α : Type} {b : Nat} {l m r : List α} (h : app b l m = some r) : (l.length + m.length) * b ≤ 2 ^ 46 ∧ r = l ++ m := by
  unfold app at h; split at h
  · rename_i hc; simp only [Option.some.injEq] at h; exact ⟨hc, h.symm⟩
  · simp at h
theorem mk_some {α : Type} {b : Nat} {n : Int} {x : α} {r : List α} (h : mk b n x = some r) : 0 ≤ n ∧ b * n ≤ 2 ^ 47 ∧ r = List.replicate n.toNat x := by
  unfold mk at h; split at h
  · rename_i hc; simp only [Option.some.injEq] at h; exact ⟨hc.1, hc.2, h.symm⟩
  · simp at h
theorem slc_some {α : Type} {l m : List α} {lo hi : Int} (h : slc l lo hi = some m) : 0 ≤ lo ∧ lo ≤ hi ∧ hi ≤ l.length ∧ m = cut l lo.toNat hi.toNat := by
  unfold slc at h; split at h
  · rename_i hc; simp only [Option.some.injEq] at h; exact ⟨hc.1, hc.2.1, hc.2.2, h.symm⟩
  · simp at h
/-- a row that lies in another, lent: where there is nothing, nothing turns -/
def lendC {β : Type} (x : List β) (k : Int) (c : Option (Int × List β)) : Option (Int × List β) := match x with
  | [] => some (k, [])
  | _ :: _ => c
def lendP {α β : Type} (c : Option (Int × List β)) (l : List α) (i : Int) (u : List β → α) : Option (Int × List α) := c.bind fun y => (put l i (u y.2)).map fun m => (y.1, m)
end Go.Nt
