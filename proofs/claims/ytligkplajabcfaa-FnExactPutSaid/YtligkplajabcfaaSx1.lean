import Derived.Still
import Derived.Laws.Sem
set_option linter.unusedVariables false
set_option linter.unusedSimpArgs false
set_option linter.unusedSectionVars false
namespace Go.SX

/-- one cell of data: a scalar, or a slice of elements (each a list of cells) -/
inductive C where
  | s (v : Value)
  | r (l : List (List C))
  deriving Inhabited

/-- what a slot holds -/
inductive T where
  | c (x : C)
  | nil
  | row (i : Nat)
  | sl (i lo hi : Nat)
  | ag (l : List T)
  | tu (l : List T)
  | bp (b o : Nat)
  | rp (i n o : Nat)
  | cp (l : List C) (o : Nat)
  | fn (g : FuncId) (bs : List Nat)
  | no
  deriving Inhabited

/-- what lies below a row of ours: seen from elsewhere too (f), all of it ours alone (d), the same, but the first elements' rows are away (p) -/
inductive Dp where
  | f
  | d
  | p (m : Nat)
  deriving Inhabited, DecidableEq
def Dp.q : Dp → Bool
  | .d => true
  | _ => false
def Dp.of (b : Bool) : Dp := if b then .d else .f
structure Row where
  sz : Nat
  l : List (List C)
  ow : Bool
  dp : Dp
  deriving Inhabited

structure St where
  ts : List T
  bx : List (Option (List T))
  rw : List (Option Row)
  deriving Inhabited

/-- the size of a row's elements (0: a row that can't hold anything); is all below it ours too? -/
abbrev Sz := Nat × Bool
instance : Coe Nat Sz := ⟨fun n => (n, false)⟩
instance (n : Nat) : OfNat Sz n := ⟨(n, false)⟩
/-- cells, each with the size of its row's elements, where the row is the receiver's own -/
abbrev Cs := List (C × Option Sz)

/-- what goes over a call's border -/
inductive A where
  | c (x : C) (o : Option Sz)
  | ag (l : Cs)
  | tu (l : List A)
  | p (l : Cs)
  | f (g : FuncId) (l : List Cs)
  deriving Inhabited

/-- of each function: of what goes in, what comes out, and what the lent boxes and rows hold then -/
abbrev Fun := FuncId → List A → Option (A × List (Option Cs))

def gt : List T → Nat → T
  | [], _ => .no
  | y :: _, 0 => y
  | _ :: l, n + 1 => gt l n
def st : List T → Nat → T → List T
  | [], 0, x => [x]
  | [], n + 1, x => .no :: st [] n x
  | _ :: l, 0, x => x :: l
  | y :: l, n + 1, x => y :: st l n x

def pureRun (P : Program) {α : Type} : Sem α → Option α
  | .pure a => some a
  | .program k => pureRun P (k P)
  | _ => none

def szOf (P : Program) (t : TypeId) : Option Nat := (P.info? t).map (·.size)
def aggQ (P : Program) (t : TypeId) : Option Bool := (P.underlying t).map fun | .struct _ | .array _ _ => true | _ => false
def elOf (P : Program) (t : TypeId) : Option TypeId := (P.underlying t).bind fun | .slice e => some e | _ => none
def fldOf (P : Program) (t : TypeId) (f : Nat) : Option Field := (P.underlying t).bind fun | .struct fs => fs[f]? | _ => none

def ofV : Value → T
  | .agg _ | .tuple _ => .no
  | .slice none 0 0 => .nil
  | v => .c (.s v)
/-- a constant or a zero value -/
def constT : Value → T
  | .agg cs => if cs.toList.all (·.oneCell') then .ag (cs.toList.map ofV) else .no
  | v => ofV v
/-- a value's cells -/
def flat : T → Option (List T)
  | .ag l => some l
  | .tu _ | .no => none
  | x => some [x]
def ev (σ : St) : Operand → T
  | .tmp t => gt σ.ts t
  | .const v => constT v
  | .global _ => .no
  | .func f => .fn f []
def rawAt (σ : St) (i : Nat) : Option Row := (σ.rw[i]?).join
def here : Option Row → Option Row
  | some r => match r.dp with
    | .p _ => none
    | _ => some r
  | none => none
/-- a row, where it is there in whole -/
def rowAt (σ : St) (i : Nat) : Option Row := here (rawAt σ i)
def boxAt (σ : St) (b : Nat) : Option (List T) := (σ.bx[b]?).join
def cut {α : Type} (l : List α) (lo hi : Nat) : List α := (l.take hi).drop lo
/-- elements of so many cells -/
def wide (n : Nat) (l : List (List C)) : Bool := l.all (·.length == n)
/-- what a slice holds -/
def elems (σ : St) : T → Option (List (List C))
  | .c (.r l) => some l
  | .nil => some []
  | .row i => (rowAt σ i).map (·.l)
  | .sl i lo hi => (rowAt σ i).map fun r => cut r.l lo hi
  | _ => none
/-- a cell, seen -/
def view (σ : St) : T → Option C
  | .c x => some x
  | x => (elems σ x).map .r
def views (σ : St) : List T → Option (List C)
  | [] => some []
  | x :: l => (view σ x).bind fun c => (views σ l).map (c :: ·)
def setRow (σ : St) (i : Nat) (r : Option Row) : St := { σ with rw := σ.rw.set i r }
def setBox (σ : St) (b : Nat) (l : Option (List T)) : St := { σ with bx := σ.bx.set b l }
/-- from here on nobody writes there -/
def demote (σ : St) : T → St
  | .row i | .sl i _ _ => match rowAt σ i with
    | some r => setRow σ i (some { r with ow := false, dp := .f })
    | none => σ
  | _ => σ
def demotes (σ : St) (l : List T) : St := l.foldl demote σ
def deepT (σ : St) : T → Bool
  | .row i | .sl i _ _ => match rowAt σ i with
    | some r => r.dp.q
    | none => false
  | _ => false
/-- what lies below a row is seen from elsewhere from here on -/
def thaw (σ : St) : T → St
  | .row i | .sl i _ _ => match rowAt σ i with
    | some r => setRow σ i (some { r with dp := .f })
    | none => σ
  | _ => σ
/-- a cell is handed over, with its row -/
def give (σ : St) : T → Option ((C × Option Sz) × St)
  | .nil => some ((.r [], some (0, false)), σ)
  | .row i => (rowAt σ i).map fun r => ((.r r.l, if r.ow then some (r.sz, r.dp.q) else none), if r.ow then setRow σ i none else σ)
  | .sl i lo hi => if deepT σ (.sl i lo hi) then none else (rowAt σ i).map fun r => ((.r (cut r.l lo hi), if r.ow then some (r.sz, false) else none), if r.ow then setRow σ i none else σ)
  | .c x => some ((x, none), σ)
  | _ => none
def gives : St → List T → Option (Cs × St)
  | σ, [] => some ([], σ)
  | σ, x :: l => (give σ x).bind fun (c, σ) => (gives σ l).map fun (cs, σ) => (c :: cs, σ)
def newRow (σ : St) (r : Row) : T × St := (.row σ.rw.length, { σ with rw := σ.rw ++ [some r] })
def newBox (σ : St) (l : List T) : T × St := (.bp σ.bx.length 0, { σ with bx := σ.bx ++ [some l] })
/-- the cells behind a pointer -/
def cells (σ : St) : T → Option (List T)
  | .bp b o => (boxAt σ b).map (·.drop o)
  | .rp i n o => (rowAt σ i).bind fun r => if r.dp.q then none else (r.l[n]?).map fun l => (l.drop o).map .c
  | .cp l o => some ((l.drop o).map .c)
  | _ => none
def splice {α : Type} (l : List α) (o : Nat) (n : List α) : Option (List α) := if o + n.length ≤ l.length then some (l.take o ++ n ++ l.drop (o + n.length)) else none
def bytesOf : List (List C) → Option (List UInt8)
  | [] => some []
  | [.s (.int .u8 b)] :: l => (bytesOf l).map (UInt8.ofNat b.toNat :: ·)
  | _ => none
/-- a cell that came over the border gets its name -/
def tell (σ : St) (c : C × Option Sz) : T × St := match c.2 with
  | none => (.c c.1, σ)
  | some s => match c.1 with
    | .r l => newRow σ ⟨s.1, l, true, .of s.2⟩
    | x => (.c x, σ)
def tells : St → Cs → List T × St
  | σ, [] => ([], σ)
  | σ, c :: l => (((tell σ c).1 :: (tells (tell σ c).2 l).1), (tells (tell σ c).2 l).2)
def tellV (σ : St) : A → T × St
  | .c x o => tell σ (x, o)
  | .ag l => (.ag (tells σ l).1, (tells σ l).2)
  | .p l => newBox (tells σ l).2 (tells σ l).1
  | .f g l => let r := l.foldl (fun (p : List Nat × St) c => (p.1 ++ [p.2.bx.length], (newBox (tells p.2 c).2 (tells p.2 c).1).2)) ([], σ); (.fn g r.1, r.2)
  | .tu _ => (.no, σ)
def tellVs : St → List A → List T × St
  | σ, [] => ([], σ)
  | σ, a :: l => (((tellV σ a).1 :: (tellVs (tellV σ a).2 l).1), (tellVs (tellV σ a).2 l).2)
def tellA (σ : St) : A → T × St
  | .tu l => (.tu (tellVs σ l).1, (tellVs σ l).2)
  | a => tellV σ a

inductive Lend where
  | b (b : Nat)
  | r (i : Nat)
  deriving DecidableEq
def agLent : List T → List Lend
  | [] => []
  | .row i :: l => .r i :: agLent l
  | _ :: l => agLent l
/-- what is lent: boxes by their addresses; own rows, where the function takes such (md) -/
def lentOf (md : Bool) : List T → List Lend
  | [] => []
  | .bp b _ :: l => .b b :: lentOf md l
  | .fn _ bs :: l => bs.map .b ++ lentOf md l
  | .row i :: l => if md then .r i :: lentOf md l else lentOf md l
  | .ag x :: l => if md then agLent x ++ lentOf md l else lentOf md l
  | _ :: l => lentOf md l
def lendAll : St → List Lend → Option (List Cs × St)
  | σ, [] => some ([], σ)
  | σ, .b b :: l => (boxAt σ b).bind fun cs => (gives (setBox σ b none) cs).bind fun (x, σ) => (lendAll σ l).map fun (xs, σ) => (x :: xs, σ)
  | σ, .r i :: l => (rowAt σ i).bind fun r => if r.ow then (lendAll (setRow σ i none) l).map fun (xs, σ) => ([(.r r.l, some (r.sz, r.dp.q))] :: xs, σ) else none
/-- a struct's cells, its own rows lent -/
def agA (σ : St) : List T → List Cs → Option (Cs × List Cs)
  | [], cs => some ([], cs)
  | .row _ :: x, cs => match cs with
    | [(c, o)] :: cs => (agA σ x cs).map fun p => ((c, o) :: p.1, p.2)
    | _ => none
  | y :: x, cs => (view σ y).bind fun c => (agA σ x cs).map fun p => ((c, none) :: p.1, p.2)
/-- the arguments as they go in -/
def argsA (md : Bool) (σ : St) : List T → List Cs → Option (List A)
  | [], [] => some []
  | .bp _ o :: l, c :: cs => if o = 0 then (argsA md σ l cs).map (.p c :: ·) else none
  | .fn g bs :: l, cs => if bs.length ≤ cs.length then (argsA md σ l (cs.drop bs.length)).map (.f g (cs.take bs.length) :: ·) else none
  | .ag x :: l, cs => if md then (agA σ x cs).bind fun p => (argsA md σ l p.2).map (.ag p.1 :: ·) else (views σ x).bind fun x => (argsA md σ l cs).map (.ag (x.map (·, none)) :: ·)
  | .row i :: l, cs => if md then (match cs with | [(x, o)] :: cs => (argsA md σ l cs).map (.c x o :: ·) | _ => none) else (view σ (.row i)).bind fun x => (argsA md σ l cs).map (.c x none :: ·)
  | x :: l, cs => (view σ x).bind fun x => (argsA md σ l cs).map (.c x none :: ·)
  | _, _ => none
def seenC (σ : St) : T → T
  | .row i => match rowAt σ i with
    | some r => if r.ow then .row i else .c (.r r.l)
    | none => .row i
  | x => x
/-- a row that isn't ours goes in as what it is seen to be -/
def seen1 (md : Bool) (σ : St) : T → T
  | .ag x => if md then .ag (x.map (seenC σ)) else .ag x
  | .row i => match rowAt σ i with
    | some r => if md && !r.ow then .c (.r r.l) else .row i
    | none => .row i
  | x => x
/-- lent things come back -/
def takeAll : St → List Lend → List (Option Cs) → Option St
  | σ, [], [] => some σ
  | σ, .b b :: l, some c :: cs => takeAll (setBox (tells σ c).2 b (some (tells σ c).1)) l cs
  | σ, .r i :: l, some [(.r x, some s)] :: cs => takeAll (setRow σ i (some ⟨s.1, x, true, .of s.2⟩)) l cs
  | σ, .r _ :: l, none :: cs => takeAll σ l cs
  | _, _, _ => none
def rowC : C → Bool
  | .r _ => true
  | _ => false
/-- elements without rows of their own -/
def flatRow (l : List (List C)) : Bool := l.all fun el => el.all fun c => !rowC c
def flatC : C × Option Sz → Bool
  | (.s _, _) => true
  | (.r l, some s) => s.2 || flatRow l
  | (.r _, none) => false
def flatV : A → Bool
  | .c x o => flatC (x, o)
  | .ag l | .p l => l.all flatC
  | .f _ l => l.all (·.all flatC)
  | .tu _ => false
def flatA : A → Bool
  | .tu l => l.all flatV
  | a => flatV a
def seenRows : List T → List T
  | [] => []
  | .ag x :: l => x ++ seenRows l
  | x :: l => x :: seenRows l

/-- of each function: does it take rows to write in (md)? may what comes back bear rows that are not its own to the bottom (nest)? is it let alone whose what comes back is (wk)? Of which types (dp) are rows made so that all below them is ours too? Of whose results (fo) is it let alone whose they are? -/
structure Cfg where
  md : FuncId → Bool
  nest : FuncId → Bool
  wk : FuncId → Bool
  dp : TypeId → Bool
  fo : FuncId → Bool
/-- whose it is, forgotten -/
def fgtQ : A → Bool
  | .c .. | .ag _ => true
  | _ => false
def fgt1 : A → A
  | .c x _ => .c x none
  | .ag l => .ag (l.map fun c => (c.1, none))
  | a => a
def fgtA : A → A
  | .tu l => if l.all fgtQ then .tu (l.map fgt1) else .tu l
  | a => fgt1 a
def fgt (w : Bool) (p : A × List (Option Cs)) : A × List (Option Cs) := if w then (fgtA p.1, p.2) else p
/-- the call -/
def apply (K : Cfg) (F : Fun) (σ : St) : T → List T → Option (T × St)
  | .fn g bs, args0 =>
    let args := args0.map (seen1 (K.md g) σ) ++ bs.map (.bp · 0)
    let ls := lentOf (K.md g) args
    if ls.Nodup then
      (lendAll σ ls).bind fun (cs, σ1) =>
      (argsA (K.md g) σ1 args cs).bind fun xs =>
      ((F g xs).map (fgt (K.fo g))).bind fun (r, back) =>
      if K.nest g || (flatA r && back.all fun c => c.all (·.all flatC)) then
        let σ2 := if K.nest g then demotes σ1 (seenRows args) else σ1
        (takeAll (tellA σ2 r).2 ls back).map fun σ3 => ((tellA σ2 r).1, σ3)
      else none
    else none
  | _, _ => none

def eqFs (P : Program) (g : TypeId → List T → List T → Option Bool) (l m : List T) : List Field → Option Bool
  | [] => some true
  | f :: fs => if f.name = "_" then none else
    (aggQ P f.type).bind fun a => (if a then (szOf P f.type).bind fun n => g f.type ((l.drop f.offset).take n) ((m.drop f.offset).take n)
      else (l[f.offset]?).bind fun x => (m[f.offset]?).bind fun y => g f.type [x] [y]).bind fun r => (eqFs P g l m fs).map (r && ·)
/-- are they the same: whole numbers, strings, bools, and structs of such -/
def eqT (P : Program) : Nat → TypeId → List T → List T → Option Bool
  | 0, _, _, _ => none
  | d + 1, t, l, m => match P.underlying t with
    | some (.int _) => match l, m with
      | [.c (.s (.int k a))], [.c (.s (.int k' b))] => if k = k' then some (a == b) else none
      | _, _ => none
    | some .string => match l, m with
      | [.c (.s (.string a))], [.c (.s (.string b))] => some (a == b)
      | _, _ => none
    | some .bool => match l, m with
      | [.c (.s (.bool a))], [.c (.s (.bool b))] => some (a == b)
      | _, _ => none
    | some (.struct fs) => if P.stoodInHeld t then none else eqFs P (eqT P d) l m fs.toList
    | _ => none

def bound (ρ : Operand → T) (x : Option Operand) (d : Nat) : Option Nat := match x with
  | none => some d
  | some x => match ρ x with
    | .c (.s (.int _ n)) => if 0 ≤ n then some n.toNat else none
    | _ => none
def intT (n : Int) : T := .c (.s (.int .i64 n))

/-- parts laid into cells -/
def fillT (place : Nat → Option (Nat × Nat)) (cs : List T) : List (Nat × T) → Option (List T)
  | [] => some cs
  | (i, x) :: l => (place i).bind fun (off, size) => (flat x).bind fun x => if x.length = size then (splice cs off x).bind fun cs => fillT place cs l else none
def chunk {α : Type} (n : Nat) : Nat → List α → List (List α)
  | 0, _ => []
  | k + 1, l => l.take n :: chunk n k (l.drop n)

def opAlloc (P : Program) (σ : St) (t : TypeId) : Option (T × St) :=
  (P.info? t).bind fun i => i.zero.bind fun z => (flat (constT z)).map fun l => newBox σ l
def opBox (P : Program) (σ : St) (t : TypeId) (x : T) : Option (T × St) :=
  (flat x).bind fun l => if szOf P t = some l.length then some (newBox σ l) else none
def placesOf (P : Program) (t : TypeId) : Option (List (Nat × Nat)) := (P.underlying t).bind fun
  | .struct fs => fs.toList.mapM fun f => (P.info? f.type).map fun i => (f.offset, i.size)
  | _ => none
def opBuild (P : Program) (σ : St) (t : TypeId) (parts : List (Nat × T)) : Option (T × St) :=
  (P.info? t).bind fun i => i.zero.bind fun z => match constT z with
    | .ag cs => (placesOf P t).bind fun ps => (fillT (fun i => ps.toArray[i]?) cs parts).map fun l => (.ag l, σ)
    | _ => none
/-- a cell goes below a row of ours, with all that it bears -/
def dig (σ : St) : T → Option (C × St)
  | .c (.s v) => some (.s v, σ)
  | .nil => some (.r [], σ)
  | .row j => (rowAt σ j).bind fun r => if r.ow && (r.dp.q || flatRow r.l) then some (.r r.l, setRow σ j none) else none
  | _ => none
def digs : St → List T → Option (List C × St)
  | σ, [] => some ([], σ)
  | σ, x :: l => (dig σ x).bind fun p => (digs p.2 l).map fun q => (p.1 :: q.1, q.2)
/-- in elements of so many cells: for elements of how many cells an empty row in that cell must have room (0: no matter) -/
def colZ : Nat → Nat → Nat
  | 5, 4 => 5
  | _, _ => 0
def colQ (σ : St) (z : Nat) : T → Bool
  | .row j => Nat.beq z 0 || (match rawAt σ j with
    | some r => Nat.beq r.sz 0 || Nat.beq r.sz z
    | none => false)
  | _ => true
def colsQ (σ : St) (z : Nat) : Nat → List T → Bool
  | _, [] => true
  | o, x :: l => colQ σ (colZ z (o % z)) x && colsQ σ z (o + 1) l
def seenQ : T → Bool
  | .no => false
  | .ag l => l.all fun x => match x with | .no => false | _ => true
  | _ => true
def opBuildSlice (P : Program) (dp : Bool) (σ : St) (t : TypeId) (len : Nat) (parts : List (Nat × T)) : Option (T × St) :=
  (elOf P t).bind fun e => (P.info? e).bind fun i => i.zero.bind fun z => (flat (constT z)).bind fun z =>
  if 0 < i.size ∧ z.length = i.size ∧ len * i.size ≤ 2 ^ 24 ∧ (parts.all fun p => seenQ p.2) = true then
    (fillT (fun j => some (j * i.size, i.size)) ((List.replicate len z).flatten) parts).bind fun l =>
    if dp then (if colsQ σ i.size 0 l = true then (digs σ l).map fun q => newRow q.2 ⟨i.size, chunk i.size len q.1, true, .d⟩ else none)
    else (views σ l).map fun cs => newRow (demotes σ l) ⟨i.size, chunk i.size len cs, true, .f⟩
  else none
def zcell : T → Bool
  | .c (.s _) | .nil => true
  | _ => false
def opMake (P : Program) (dp : Bool) (σ : St) (t : TypeId) (len cap : T) : Option (T × St) :=
  (elOf P t).bind fun e => (P.info? e).bind fun i => i.zero.bind fun z => (flat (constT z)).bind fun z => (views σ z).bind fun cs =>
  match len, cap with
  | .c (.s (.int .i64 n)), .c (.s (.int .i64 m)) => if cs.length = i.size ∧ 0 < i.size ∧ 0 < i.bytes ∧ 0 ≤ n ∧ n ≤ m ∧ i.bytes * m ≤ 2 ^ 47 ∧ (!dp || z.all zcell) = true then some (newRow (demotes σ z) ⟨i.size, List.replicate n.toNat cs, true, .of dp⟩) else none
  | _, _ => none
def opLoad (P : Program) (σ : St) (t : TypeId) (a : T) : Option (T × St) :=
  (cells σ a).bind fun cs => (szOf P t).bind fun n => (aggQ P t).bind fun g =>
    if g then (if n ≤ cs.length then some (.ag (cs.take n), σ) else none) else (cs.head?).map (·, σ)
def opStore (P : Program) (σ : St) (t : TypeId) (a x : T) : Option (T × St) :=
  (flat x).bind fun l => if szOf P t = some l.length then
    match a with
    | .bp b o => (boxAt σ b).bind fun cs => (splice cs o l).map fun cs => (.no, setBox σ b (some cs))
    | .rp i n o => if deepT σ (.row i) then (digs σ l).bind fun p => (rowAt p.2 i).bind fun r => if r.ow ∧ r.dp = .d ∧ colsQ σ r.sz o l = true then (r.l[n]?).bind fun el => (splice el o p.1).map fun el => (.no, setRow p.2 i (some { r with l := r.l.set n el })) else none
      else (views σ l).bind fun vs => (rowAt (demotes σ l) i).bind fun r => if r.ow then (r.l[n]?).bind fun el => (splice el o vs).map fun el => (.no, setRow (demotes σ l) i (some { r with l := r.l.set n el })) else none
    | _ => none
  else none
def opFieldAddr (P : Program) (σ : St) (s : TypeId) (x : T) (f : Nat) : Option (T × St) :=
  (fldOf P s f).bind fun fd => (szOf P fd.type).bind fun n => if n = 0 then none else
    match x with
    | .bp b o => some (.bp b (o + fd.offset), σ)
    | .rp i n o => some (.rp i n (o + fd.offset), σ)
    | .cp l o => some (.cp l (o + fd.offset), σ)
    | _ => none
def opField (P : Program) (σ : St) (s : TypeId) (x : T) (f : Nat) : Option (T × St) :=
  (fldOf P s f).bind fun fd => (szOf P fd.type).bind fun n => (aggQ P fd.type).bind fun g =>
    match x with
    | .ag l => if fd.offset + n ≤ l.length then (if g then some (.ag ((l.drop fd.offset).take n), σ) else (l[fd.offset]?).map (·, σ)) else none
    | _ => none
/-- a slice's element, by the slice itself -/
def rawIx (n : Nat) (i : Int) : Value → Option T
  | .slice (some ⟨b, off, none⟩) m _ => if 0 ≤ i ∧ i.toNat < m then some (.c (.s (.pointer (some ⟨b, off + i.toNat * n, none⟩)))) else none
  | _ => none
def rawLen : Value → Option T
  | .slice _ m _ => some (intT m)
  | _ => none
def opIndexAddr (P : Program) (σ : St) (t : TypeId) (x ix : T) : Option (T × St) :=
  (elOf P t).bind fun e => (szOf P e).bind fun n => if n = 0 then none else
    match ix, x with
    | .c (.s (.int _ i)), .c (.r l) => if 0 ≤ i then (l[i.toNat]?).bind fun el => if el.length = n then some (.cp el 0, σ) else none else none
    | .c (.s (.int _ i)), .c (.s v) => (rawIx n i v).map (·, σ)
    | .c (.s (.int _ i)), .row j => (rowAt σ j).bind fun r => if 0 ≤ i ∧ i.toNat < r.l.length ∧ r.sz = n then some (.rp j i.toNat 0, σ) else none
    | .c (.s (.int _ i)), .sl j lo hi => (rowAt σ j).bind fun r => if 0 ≤ i ∧ lo + i.toNat < hi ∧ r.sz = n then some (.rp j (lo + i.toNat) 0, σ) else none
    | _, _ => none
/-- how many elements a slice has -/
def spanT (σ : St) : T → Option Nat
  | .row i => (rawAt σ i).map (·.l.length)
  | .sl i lo hi => (rawAt σ i).map fun r => (cut r.l lo hi).length
  | y => (elems σ y).map (·.length)
def opSlice (P : Program) (ρ : Operand → T) (σ : St) (t : TypeId) (x : T) (lo hi : Option Operand) : Option (T × St) :=
  match x with
  | .c (.s v) =>
    (match lo with | none => some none | some y => (match ρ y with | .c (.s v) => some (some v) | _ => none)).bind fun lo =>
    (match hi with | none => some none | some y => (match ρ y with | .c (.s v) => some (some v) | _ => none)).bind fun hi =>
    (pureRun P (Instr.slice t v lo hi none)).map fun v => (ofV v, σ)
  | y => (elOf P t).bind fun e => (szOf P e).bind fun n => (spanT σ y).bind fun k => (bound ρ hi k).bind fun h => (bound ρ lo 0).bind fun lo =>
    if lo ≤ h ∧ h ≤ k then (match y with
      | .c (.r xs) => if wide n xs then some (.c (.r (cut xs lo h)), σ) else none
      | .nil => some (.nil, σ)
      | .row i => (rawAt σ i).bind fun r => if r.sz = n then some (.sl i lo h, σ) else none
      | .sl i a _ => (rawAt σ i).bind fun r => if r.sz = n then some (.sl i (a + lo) (a + h), σ) else none
      | _ => none)
    else none
def opAppend0 (P : Program) (σ : St) (t : TypeId) (s x : T) : Option (T × St) :=
  (elOf P t).bind fun e => (P.info? e).bind fun i => i.zero.bind fun z => (elems σ x).bind fun xs => (elems σ s).bind fun old =>
  if z.cells.size = i.size ∧ wide i.size xs ∧ wide i.size old ∧ 0 < i.size ∧ 0 < i.bytes ∧ (old.length + xs.length) * i.bytes ≤ 2 ^ 46 then
    match s with
    | .nil => some (newRow σ ⟨i.size, xs, true, .f⟩)
    | .row j | .sl j _ _ => (rowAt σ j).bind fun r => if r.ow ∧ (r.sz = 0 ∨ r.sz = i.size) then some (newRow (setRow σ j none) ⟨i.size, old ++ xs, true, .f⟩) else none
    | _ => none
  else none
/-- elements all below which is ours, laid behind a row -/
def appTo (σ : St) (i : TypeInfo) (s : T) (lx : List (List C)) : Option (T × St) := match s with
  | .nil => if lx.length * i.bytes ≤ 2 ^ 46 then some (newRow σ ⟨i.size, lx, true, .d⟩) else none
  | .row j => (rowAt σ j).bind fun q => if q.ow ∧ q.dp = .d ∧ q.sz = i.size ∧ wide i.size q.l ∧ (q.l.length + lx.length) * i.bytes ≤ 2 ^ 46 then some (newRow (setRow σ j none) ⟨i.size, q.l ++ lx, true, .d⟩) else none
  | _ => none
/-- both whole rows, all below them ours -/
def opAppendD (P : Program) (σ : St) (t : TypeId) (s : T) (jx : Nat) : Option (T × St) :=
  (elOf P t).bind fun e => (P.info? e).bind fun i => i.zero.bind fun z => (rowAt σ jx).bind fun qx =>
  if z.cells.size = i.size ∧ wide i.size qx.l ∧ 0 < i.size ∧ 0 < i.bytes ∧ qx.ow ∧ qx.dp = .d ∧ qx.sz = i.size then appTo (setRow σ jx none) i s qx.l else none
/-- of a row all below which is ours, may the elements from here on be taken? -/
def Dp.from : Dp → Nat → Bool
  | .f, _ => false
  | .d, _ => true
  | .p m, lo => decide (m ≤ lo)
/-- a part of a row is moved behind another -/
def opAppendP (P : Program) (σ : St) (t : TypeId) (s : T) (jx lo hi : Nat) : Option (T × St) :=
  (elOf P t).bind fun e => (P.info? e).bind fun i => i.zero.bind fun z => (rawAt σ jx).bind fun qx =>
  if z.cells.size = i.size ∧ wide i.size qx.l ∧ 0 < i.size ∧ 0 < i.bytes ∧ qx.ow ∧ qx.dp.from lo ∧ qx.sz = i.size ∧ lo ≤ hi ∧ hi ≤ qx.l.length then
    (appTo (setRow σ jx none) i s (cut qx.l lo hi)).map fun p => (p.1, setRow p.2 jx (some { qx with dp := .p hi }))
  else none
/-- a part that moves when it is appended -/
def movQ (σ : St) : T → Bool
  | .sl i lo _ => match rawAt σ i with
    | some r => r.ow && r.dp.from lo
    | none => false
  | _ => false
/-- a part of a row that is not flat -/
def partQ (σ : St) : T → Bool
  | .sl i _ _ => match rawAt σ i with
    | some r => match r.dp with
      | .f => false
      | _ => true
    | none => false
  | _ => false
def isPart : T → Option (Nat × Nat × Nat)
  | .sl j lo hi => some (j, lo, hi)
  | _ => none
def meltS (σ : St) (s : T) : St := if deepT σ s then thaw σ s else σ
def meltX (σ : St) (x : T) : St := if deepT σ x then demote σ x else σ
def isWhole : T → Option Nat
  | .row j => some j
  | _ => none
def isNil : T → Bool
  | .nil => true
  | _ => false
def opAppend (P : Program) (σ : St) (t : TypeId) (s x : T) : Option (T × St) :=
  match (if movQ σ x && (deepT σ s || isNil s) then isPart x else none) with
  | some p => opAppendP P σ t s p.1 p.2.1 p.2.2
  | none => match (if deepT σ x && (deepT σ s || isNil s) then isWhole x else none) with
    | some jx => opAppendD P σ t s jx
    | none => opAppend0 P (meltX (meltS σ s) x) t s x
/-- cleared: a part of a row of ours -/
def opClear (P : Program) (σ : St) (t : TypeId) (x : T) : Option (T × St) :=
  (elOf P t).bind fun e => (P.info? e).bind fun i => i.zero.bind fun z => (flat (constT z)).bind fun zl => (views σ zl).bind fun cs =>
  if cs.length = i.size ∧ z.cells.size = i.size ∧ 0 < i.size then match x with
    | .sl j lo hi => (rowAt (demotes σ zl) j).bind fun r => if r.ow ∧ r.dp = .f ∧ r.sz = i.size ∧ lo ≤ hi ∧ hi ≤ r.l.length then
        some (.tu [], setRow (demotes σ zl) j (some { r with l := r.l.take lo ++ List.replicate (hi - lo) cs ++ r.l.drop hi })) else none
    | _ => none
  else none
def opConv (P : Program) (σ : St) (src dst : TypeId) (x : T) : Option (T × St) :=
  match x with
  | .c (.s a) => (pureRun P (convert src dst a)).map fun v => (ofV v, σ)
  | y => if deepT σ y then none else match P.underlying dst, (elOf P src).bind (P.underlying ·) with
    | some .string, some (.int .u8) => (elems σ y).bind fun l => (bytesOf l).map fun b => (.c (.s (.string ⟨b.toArray⟩)), σ)
    | _, _ => none
def opEq (P : Program) (σ : St) (op : BinOp) (t : TypeId) (l m : List T) : Option (T × St) :=
  if aggQ P t = some true ∧ P.eqGuardType P.depth t = false then match op with
    | .eql => (eqT P 8 t l m).map fun b => (.c (.s (.bool b)), σ)
    | .neq => (eqT P 8 t l m).map fun b => (.c (.s (.bool !b)), σ)
    | _ => none
  else none
def isBuiltin2 : Builtin → Bool
  | .min | .max => true
  | _ => false
def scals (ρ : Operand → T) : List Operand → Option (List Value)
  | [] => some []
  | x :: l => match ρ x with
    | .c (.s v) => (scals ρ l).map (v :: ·)
    | _ => none

def bp0 : T → Option Nat
  | .bp b 0 => some b
  | _ => none
def evOp (P : Program) (K : Cfg) (F : Fun) (ρ : Operand → T) (σ : St) (o : Oper) : Option (T × St) :=
  match o.op with
  | .move x | .assign x => some (ρ x, σ)
  | .pick c a b => match ρ c with
    | .c (.s (.bool t)) => some (if t then ρ a else ρ b, σ)
    | _ => none
  | .alloc t => opAlloc P σ t
  | .box t x => opBox P σ t (ρ x)
  | .build t parts => opBuild P σ t (parts.toList.map fun (i, x) => (i, ρ x))
  | .buildSlice t len parts => opBuildSlice P (K.dp t) σ t len (parts.toList.map fun (i, x) => (i, ρ x))
  | .makeSlice t l c => opMake P (K.dp t) σ t (ρ l) (ρ c)
  | .load t a => opLoad P σ t (ρ a)
  | .store t a x => opStore P σ t (ρ a) (ρ x)
  | .nilCheck x => match ρ x with
    | .bp b o => some (.bp b o, σ)
    | .rp i n o => some (.rp i n o, σ)
    | .cp l o => some (.cp l o, σ)
    | .fn g bs => some (.fn g bs, σ)
    | _ => none
  | .binOp op t x y _ => match ρ x, ρ y with
    | .ag l, .ag m => opEq P σ op t l m
    | .c (.s a), .c (.s b) => (pureRun P (do eqGuard op t x y a b; binOp op t a b)).map fun v => (ofV v, σ)
    | _, _ => none
  | .unOp op _ x => match ρ x with
    | .c (.s a) => (pureRun P (Op.unary op a)).map fun v => (ofV v, σ)
    | _ => none
  | .convert src dst x => opConv P σ src dst (ρ x)
  | .slice t x lo hi mx => if mx.isNone then opSlice P ρ σ t (ρ x) lo hi else none
  | .fieldAddr s x f => opFieldAddr P σ s (ρ x) f
  | .field s x f => opField P σ s (ρ x) f
  | .indexAddr t x ix => opIndexAddr P σ t (ρ x) (ρ ix)
  | .index t x ix => match ρ x, ρ ix with
    | .c (.s a), .c (.s b) => (pureRun P (Instr.index t a b)).map fun v => (ofV v, σ)
    | _, _ => none
  | .extract x i => match ρ x with
    | .tu l => (l[i]?).map (·, σ)
    | _ => none
  | .makeFunc (.func f) first cap => if first.isEmpty then (cap.toList.mapM fun x => bp0 (ρ x)).map fun bs => (.fn f bs, σ) else none
  | .call c => match c.callee with
    | .value f => apply K F σ (ρ f) (c.args.toList.map ρ)
    | .builtin .append => match c.args.toList, c.argTypes.toList with
      | [s, x], [t, u] => if elOf P u = elOf P t ∨ elOf P u ≠ none then opAppend P σ t (ρ s) (ρ x) else none
      | _, _ => none
    | .builtin .len => match c.args.toList, c.argTypes.toList with
      | [x], [t] => match ρ x with
        | .c (.s (.string s)) => if (match P.underlying t with | some .string => true | _ => false) then some (intT s.size, σ) else none
        | .c (.s v) => (elOf P t).bind fun _ => (rawLen v).map (·, σ)
        | y => (elOf P t).bind fun _ => (elems σ y).map fun l => (intT l.length, σ)
      | _, _ => none
    | .builtin .clear => match c.args.toList, c.argTypes.toList with
      | [x], [t] => opClear P σ t (ρ x)
      | _, _ => none
    | .builtin b => if isBuiltin2 b then (scals ρ c.args.toList).bind fun vs => (pureRun P (match b with | .min => Builtin.min_ c.argTypes o.type vs.toArray | _ => Builtin.max_ c.argTypes o.type vs.toArray)).map fun v => (ofV v, σ) else none
    | _ => none
  | _ => none

/-- nothing: what a passed operation leaves -/
def noneT : T := .tu []
def wantedT (ops : Array Oper) (σ : St) (o : Oper) : Option Bool :=
  match o.guard with
  | none => some true
  | some (j, want) => match (ops[j]?).bind (·.dst) with
    | some d => match gt σ.ts d with
      | .c (.s (.bool b)) => some (b == want)
      | .tu [] => some false
      | _ => none
    | none => none

/-- the slots as they were, one of them set; all else as it is now -/
def putT (ts : List T) (τ : St) (d : Option Tmp) (x : T) : St := ⟨match d with | some d => st ts d x | none => ts, τ.bx, τ.rw⟩
def dstQ (n : Nat) : Option Tmp → Bool
  | some d => decide (d < n)
  | none => true
/-- all but the slots -/
def hp (σ : St) : St := ⟨[], σ.bx, σ.rw⟩
def evOps (P : Program) (K : Cfg) (F : Fun) (n : Nat) (ops : Array Oper) : List Oper → St → Option St
  | [], σ => some σ
  | o :: l, σ => if dstQ n o.dst then (wantedT ops σ o).bind fun
      | true => (evOp P K F (ev σ) (hp σ) o).bind fun (x, τ) => evOps P K F n ops l (putT σ.ts τ o.dst x)
      | false => evOps P K F n ops l (putT σ.ts σ o.dst noneT)
    else none

/-! a row that lies in a row all below which is ours, lent from there for a while -/
def lendN : List Oper → Nat
  | [] => 0
  | o :: l => match o.op with
    | .call _ => 1
    | _ => lendN l + 1
def cellAt (σ : St) : T → Option (Nat × Nat × Nat × Row × List C × List (List C))
  | .rp j i c => (rowAt σ j).bind fun q => if q.ow = true ∧ q.dp = .d then (q.l[i]?).bind fun el => match el[c]? with
    | some (.r x) => some (j, i, c, q, el, x)
    | _ => none else none
  | _ => none
/-- it lies there again -/
def joinS (q : Row) (el : List C) (j i c k d : Nat) (σ : St) : Option St :=
  (rowAt σ k).bind fun r => if (r.ow && (r.dp.q || flatRow r.l)) = true then some ⟨st σ.ts d .no, σ.bx, (setRow (setRow σ k none) j (some { q with l := q.l.set i (el.set c (.r r.l)) })).rw⟩ else none
def evNest (P : Program) (K : Cfg) (F : Fun) (n : Nat) (ops : Array Oper) (o : Oper) (m : List Oper) (σ : St) : Option St :=
  match o.op, o.guard, o.dst with
  | .load t a, none, some d => (cellAt σ (ev σ a)).bind fun (j, i, c, q, el, x) => ((elOf P t).bind (szOf P)).bind fun s =>
    if d < n ∧ wide s x = true ∧ aggQ P t = some false ∧ (szOf P t).isSome = true ∧ (Nat.beq (colZ q.sz c) 0 || Nat.beq (colZ q.sz c) s) = true then match x with
      | [] => (evOps P K F n ops m ⟨st σ.ts d (.c (.r [])), σ.bx, σ.rw ++ [none]⟩).map fun τ => ⟨st τ.ts d .no, τ.bx, τ.rw⟩
      | _ :: _ => if (K.dp t || flatRow x) = true then (evOps P K F n ops m ⟨st σ.ts d (.row σ.rw.length), σ.bx, (setRow σ j none).rw ++ [some ⟨s, x, true, .of (K.dp t)⟩]⟩).bind (joinS q el j i c σ.rw.length d) else none
    else none
  | _, _, _ => none
/-- operations in their order, at most one such row lent -/
def evSeq (P : Program) (K : Cfg) (F : Fun) (n : Nat) (ops : Array Oper) : List Oper → St → Option St
  | [], σ => some σ
  | o :: l, σ => match evOps P K F n ops [o] σ with
    | some τ => evSeq P K F n ops l τ
    | none => (evNest P K F n ops o (l.take (lendN l)) σ).bind (evOps P K F n ops (l.drop (lendN l)))

/-! what an operation's answer hangs on besides its operands; what it turns -/
def refs : T → List Lend
  | .bp b _ => [.b b]
  | .rp i _ _ | .row i | .sl i _ _ => [.r i]
  | _ => []
def rdOf (ρ : Operand → T) (o : Oper) : List Lend := o.op.operands.toList.flatMap fun x => refs (ρ x)
def inBox (σ : St) : Lend → List Lend
  | .b b => .b b :: ((boxAt σ b).getD []).flatMap refs
  | x => [x]
/-- rows in a struct -/
def rowRefs : T → List Lend
  | .row i | .sl i _ _ => [.r i]
  | _ => []
def agR (l : List T) : List Lend := l.flatMap rowRefs
def argRefs : T → List Lend
  | .fn _ bs => bs.map .b
  | .ag l => agR l
  | x => refs x
def refsW : T → List Lend
  | .ag l => agR l
  | x => refs x
/-- the operands that a call may turn -/
def turns (ρ : Operand → T) (σ : St) (c : Call) : List Operand := match c.callee, c.args.toList with
  | .builtin .append, [s, x] => if deepT σ (ρ x) || partQ σ (ρ x) then [s, x] else [s]
  | _, _ => (Op.call c).operands.toList
def wrOf (ρ : Operand → T) (σ : St) (o : Oper) : List Lend := match o.op with
  | .call c => ((turns ρ σ c).flatMap fun x => argRefs (ρ x)).flatMap (inBox σ)
  | .buildSlice .. => o.op.operands.toList.flatMap fun x => refsW (ρ x)
  | .store _ a x => refs (ρ a) ++ (match ρ a with | .rp _ _ _ => refsW (ρ x) | _ => refs (ρ x))
  | _ => o.op.operands.toList.flatMap fun x => refs (ρ x)
/-- does it leave the world as it is? -/
def still : Op → Bool
  | .move _ | .assign _ | .pick .. | .build .. | .load .. | .nilCheck _ | .binOp .. | .unOp .. | .convert .. | .slice .. | .fieldAddr .. | .field .. | .indexAddr .. | .index .. | .extract .. | .makeFunc .. => true
  | .call { callee := .builtin b, .. } => match b with | .len | .min | .max => true | _ => false
  | _ => false
def hangs : Op → Bool
  | .load .. | .convert .. | .slice .. | .indexAddr .. => true
  | .call { callee := .builtin .len, .. } => true
  | _ => false
/-- is the one told to come after the other? -/
def ordQ (b : List Nat) (j i : Nat) : Bool := (b.getD j 0).testBit i
def opAt (ops : Array Oper) (i : Nat) : Oper := (ops[i]?).getD default
/-- pairs of which no order is told, one of which reads and one of which acts -/
def unord (ops : Array Oper) : List (Nat × Nat) :=
  let b := (Region.before ops).toList
  (List.range ops.size).flatMap fun j => (List.range j).filterMap fun i =>
    if ordQ b j i then none else if (hangs (opAt ops i).op && !still (opAt ops j).op) || (!still (opAt ops i).op && hangs (opAt ops j).op) then some (i, j) else none
def spined (ops : Array Oper) : Bool :=
  let b := (Region.before ops).toList
  (List.range ops.size).all fun j => (List.range j).all fun i => still (opAt ops i).op || still (opAt ops j).op || ordQ b j i
def certQ (ops : Array Oper) : Bool :=
  let b := (Region.before ops).toList
  (List.range ops.size).all fun j => (List.range ops.size).all fun i => !ordQ b j i || (opAt ops j).after.any fun e => Region.binds .any e && (e.on == i || ordQ b e.on i)
def drawQ (ops : Array Oper) : Bool := spined ops && certQ ops && Region.lexB .any ops
/-- of an operation that was carried out: what it read, what it turned, how many boxes and rows there were -/
abbrev Entry := Option (List Lend × List Lend × Nat × Nat)
def entry (σ : St) (o : Oper) : Entry := some (rdOf (ev σ) o, wrOf (ev σ) (hp σ) o, σ.bx.length, σ.rw.length)
def evLog (P : Program) (K : Cfg) (F : Fun) (n : Nat) (ops : Array Oper) : List Oper → St → List Entry → Option (List Entry × St)
  | [], σ, g => some (g, σ)
  | o :: l, σ, g => if dstQ n o.dst then (wantedT ops σ o).bind fun
      | true => (evOp P K F (ev σ) (hp σ) o).bind fun (x, τ) => evLog P K F n ops l (putT σ.ts τ o.dst x) (g ++ [entry σ o])
      | false => evLog P K F n ops l (putT σ.ts σ o.dst noneT) (g ++ [none])
    else none
def inRange : Lend → Nat → Nat → Bool
  | .b b, n, _ => decide (b < n)
  | .r i, _, n => decide (i < n)
def clearQ : Entry → Entry → Bool
  | some x, some y => x.1.all fun r => !y.2.1.contains r && inRange r y.2.2.1 y.2.2.2
  | _, _ => true
def apartQ (ops : Array Oper) (g : List Entry) (p : Nat × Nat) : Bool :=
  if still (opAt ops p.1).op then clearQ (g.getD p.1 none) (g.getD p.2 none) else clearQ (g.getD p.2 none) (g.getD p.1 none)

inductive Ex where
  | normal | exit (id : Nat) | ret
  deriving Inhabited

def thenC (f : St → Option (Ex × St)) : Ex × St → Option (Ex × St)
  | (.normal, σ) => f σ
  | r => some r
def outOf (id : Nat) : Ex × St → Ex × St
  | (.exit i, σ) => if i = id then (.normal, σ) else (.exit i, σ)
  | r => r
/-- room that may be taken at any time -/
def constQ : Operand → Bool
  | .const _ => true
  | _ => false
def roomQ (o : Oper) : Bool := match o.op, o.guard, o.dst with
  | .alloc .., none, some _ => true
  | .buildSlice _ _ parts, none, some _ => parts.toList.all fun p => constQ p.2
  | _, _, _ => false
/-- what a room is to wait for, so that it is taken last -/
def waits (ops : Array Oper) (j : Nat) : List Nat := let b := (Region.before ops).toList; (List.range j).filter fun i => !still (opAt ops i).op && !ordQ b j i
def lateOp (ops : Array Oper) (j : Nat) (o : Oper) : Oper := if roomQ o then { o with after := o.after ++ ((waits ops j).map fun i => (⟨i, .phase⟩ : Edge)).toArray } else o
def late (ops : Array Oper) : Array Oper := (ops.toList.mapIdx (lateOp ops)).toArray
def lateQ (ops : Array Oper) : Bool :=
  let b := (Region.before ops).toList
  certQ ops && (List.range ops.size).all fun j =>
    ((opAt ops j).after.all fun e => !Region.binds .any e || (decide (e.on < j) && (!roomQ (opAt ops e.on) || ordQ b j e.on))) &&
    (!roomQ (opAt ops j) ||
      (((List.range ops.size).all fun k => k == j || (opAt ops k).dst != (opAt ops j).dst) &&
       ((opAt ops j).after.all fun e => !Region.binds .any e || !roomQ (opAt ops e.on)) &&
       ((List.range ops.size).all fun x => !ordQ b x j || (waits ops j).all fun i => ordQ b x i)))
/-- a slice of constants -/
def constSlice (P : Program) (t : TypeId) (len : Nat) (parts : List (Nat × T)) : Option Row :=
  (elOf P t).bind fun e => (P.info? e).bind fun i => i.zero.bind fun z => (flat (constT z)).bind fun z =>
  if 0 < i.size ∧ z.length = i.size ∧ len * i.size ≤ 2 ^ 24 ∧ (parts.all fun p => seenQ p.2) = true then
    (fillT (fun j => some (j * i.size, i.size)) ((List.replicate len z).flatten) parts).bind fun l =>
    if l.all zcell then (views ⟨[], [], []⟩ l).map fun cs => ⟨i.size, chunk i.size len cs, true, .f⟩ else none
  else none
def roomVal (P : Program) (K : Cfg) (o : Oper) : Option (List T ⊕ Row) := match o.op with
  | .alloc t => (P.info? t).bind fun i => i.zero.bind fun z => (flat (constT z)).map .inl
  | .buildSlice t len parts => if K.dp t then none else (constSlice P t len (parts.toList.map fun (i, x) => (i, ev ⟨[], [], []⟩ x))).map .inr
  | _ => none
def roomsOk (P : Program) (K : Cfg) (n : Nat) (ops : Array Oper) : Bool := ops.toList.all fun o => !roomQ o || (dstQ n o.dst && (roomVal P K o).isSome)
def roomDs (ops : Array Oper) : List Tmp := ops.toList.filterMap fun o => if roomQ o then o.dst else none
def clr (ds : List Tmp) (σ : St) : St := ⟨ds.foldl (fun ts d => st ts d .no) σ.ts, σ.bx, σ.rw⟩
def lateOk (P : Program) (K : Cfg) (n : Nat) (ops : Array Oper) : Bool := !drawQ ops && lateQ ops && roomsOk P K n ops && drawQ (late ops)
/-- the same operations, told in another order -/
def renO (p : List Nat) (o : Oper) : Oper := { o with after := o.after.map fun e => { e with on := p.idxOf e.on }, guard := o.guard.map fun g => (p.idxOf g.1, g.2) }
def hoist (p : List Nat) (ops : Array Oper) : Array Oper := (p.map fun i => renO p (opAt ops i)).toArray
def permQ (p : List Nat) (n : Nat) : Bool := Nat.beq p.length n && decide p.Nodup && p.all (fun i => decide (i < n)) && (List.range n).all fun i => p.contains i
def placeR (b : List Nat) : List Nat → List Nat → List Nat
  | rooms, [] => rooms
  | rooms, x :: xs => rooms.filter (ordQ b x ·) ++ x :: placeR b (rooms.filter fun j => !ordQ b x j) xs
/-- rooms last -/
def hoistP (ops : Array Oper) : List Nat := placeR (Region.before ops).toList ((List.range ops.size).filter fun j => roomQ (opAt ops j)) ((List.range ops.size).filter fun j => !roomQ (opAt ops j))
def hoistOk (P : Program) (K : Cfg) (n : Nat) (ops : Array Oper) : Bool := !drawQ ops && permQ (hoistP ops) ops.size && lateOk P K n (hoist (hoistP ops) ops)
def evDraw0 (P : Program) (K : Cfg) (F : Fun) (n : Nat) (ops : Array Oper) (σ : St) : Option St :=
  if drawQ ops then (if unord ops = [] then evOps P K F n ops ops.toList σ else
    (evLog P K F n ops ops.toList σ []).bind fun (g, σ') => if (unord ops).all (apartQ ops g) then some σ' else none) else none
def evDraw (P : Program) (K : Cfg) (F : Fun) (n : Nat) (ops : Array Oper) (σ : St) : Option St :=
  if lateOk P K n ops then evDraw0 P K F n (late ops) (clr (roomDs ops) σ) else if hoistOk P K n ops then evDraw0 P K F n (late (hoist (hoistP ops) ops)) (clr (roomDs (hoist (hoistP ops) ops)) σ) else evDraw0 P K F n ops σ
def evC (P : Program) (K : Cfg) (F : Fun) (n : Nat) : Nat → Code → St → Option (Ex × St)
  | 0, _, _ => none
  | k + 1, c, σ => match c with
    | .skip => some (.normal, σ)
    | .region _ ops d => (if d then evDraw P K F n ops σ else evSeq P K F n ops ops.toList σ).map (Ex.normal, ·)
    | .seq a b => (evC P K F n k a σ).bind (thenC fun σ => evC P K F n k b σ)
    | .cond x a b => match ev σ x with
      | .c (.s (.bool t)) => if t then evC P K F n k a σ else evC P K F n k b σ
      | _ => none
    | .block id b => (evC P K F n k b σ).map (outOf id)
    | .loop b => (evC P K F n k b σ).bind (thenC fun σ => evC P K F n k (.loop b) σ)
    | .exit i => some (.exit i, σ)
    | .ret => some (.ret, σ)
    | _ => none

def resVar (P : Program) (σ : St) : ResultVar → Option T
  | .tmp t => some (gt σ.ts t)
  | .cell a t => (cells σ (gt σ.ts a)).bind fun cs => (szOf P t).bind fun n => (aggQ P t).bind fun g => if g then (if n ≤ cs.length then some (.ag (cs.take n)) else none) else cs.head?
def resVars (P : Program) (σ : St) : List ResultVar → Option (List T)
  | [] => some []
  | r :: l => (resVar P σ r).bind fun x => (resVars P σ l).map (x :: ·)
/-- of each cell of a type the size of its row's elements (0: no row) -/
def sizes (P : Program) (K : Cfg) : Nat → TypeId → List Sz
  | 0, _ => []
  | d + 1, t => match P.underlying t with
    | some (.slice e) => [((szOf P e).getD 0, K.dp t)]
    | some (.struct fs) => fs.toList.flatMap fun f => sizes P K d f.type
    | _ => [(0, false)]
def fit : Cs → List Sz → Cs
  | (.r [], some (0, false)) :: l, s :: ss => (.r [], some s) :: fit l ss
  | x :: l, _ :: ss => x :: fit l ss
  | l, _ => l
def fitA : A → List Sz → A
  | .c x o, ss => match fit [(x, o)] ss with
    | [(x, o)] => .c x o
    | _ => .c x o
  | .ag l, ss => .ag (fit l ss)
  | a, _ => a
def fitAs (P : Program) (K : Cfg) : List A → List TypeId → List A
  | a :: l, t :: ts => fitA a (sizes P K 8 t) :: fitAs P K l ts
  | l, _ => l
/-- a result, as it goes out -/
def resV (σ : St) : T → Option (A × St)
  | .ag l => (gives σ l).map fun (l, σ) => (.ag l, σ)
  | .bp b o => if o = 0 then (boxAt σ b).bind fun cs => (gives (setBox σ b none) cs).map fun (l, σ) => (.p l, σ) else none
  | .fn _ _ | .rp _ _ _ | .cp _ _ | .tu _ | .no => none
  | x => (give σ x).map fun (c, σ) => (.c c.1 c.2, σ)
def resVs : St → List T → Option (List A × St)
  | σ, [] => some ([], σ)
  | σ, x :: l => (resV σ x).bind fun (a, σ) => (resVs σ l).map fun (l, σ) => (a :: l, σ)
/-- lent things go back -/
def backs : St → List Lend → Option (List (Option Cs) × St)
  | σ, [] => some ([], σ)
  | σ, .b b :: l => (boxAt σ b).bind fun cs => (gives (setBox σ b none) cs).bind fun (x, σ) => (backs σ l).map fun (xs, σ) => (some x :: xs, σ)
  | σ, .r i :: l => match rowAt σ i with
    | some r => if r.ow then (backs (setRow σ i none) l).map fun (xs, σ) => (some [(.r r.l, some (r.sz, r.dp.q))] :: xs, σ) else none
    | none => (backs σ l).map fun (xs, σ) => (none :: xs, σ)
def outA : List A → A
  | [a] => a
  | l => .tu l
def st0 : St := ⟨[], [], []⟩
def finish (P : Program) (K : Cfg) (fn : Func) (ls : List Lend) (σ : St) : Option (A × List (Option Cs)) :=
  (resVars P σ fn.results.toList).bind fun rs => (resVs σ rs).bind fun (rs, σ) => (backs σ ls).map fun (xs, _) => (outA (fitAs P K rs fn.resultTypes.toList), xs)
/-- all slots, the later ones empty -/
def padT (n : Nat) (l : List T) : List T := l ++ List.replicate (n - l.length) .no
def endC {α : Type} (f : St → Option α) : Ex × St → Option α
  | (.exit _, _) => none
  | (_, σ) => f σ
def evF (P : Program) (K : FuncId → Cfg) (ok : FuncId → Bool) (pr : FuncId → Option (Fun → List A → Option (A × List (Option Cs)))) : Nat → Fun
  | 0, _, _ => none
  | k + 1, f, xs => match pr f with
    | some g => g (evF P K ok pr k) xs
    | none => if ok f then
      (P.funcs[f]?).bind fun fn => fn.body.bind fun body =>
      if (fn.name == "runtime.NumGoroutine") = false ∧ xs.length ≤ fn.ntmps then
      ((evC P (K f) (evF P K ok pr k) fn.ntmps k body { (tellVs st0 xs).2 with ts := padT fn.ntmps (tellVs st0 xs).1 }).bind (endC (finish P (K f) fn (lentOf true (tellVs st0 xs).1)))).map (fgt ((K f).wk f))
      else none
      else none

end Go.SX
