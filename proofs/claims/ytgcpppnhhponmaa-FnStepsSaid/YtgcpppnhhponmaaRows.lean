/-
  No cell of these rows narrows 'for every input' (looked for: loops, veiled, ifaces, maps, wideKeys, modest, calm, conditions, laid).
  DERIVED. THE GIVEN ROWS OF THIS SEAT. 9 by the template 'for every input the law returns true; each argument reads behind the call as it read before'; 0 by the template 'total and deterministic' (their statements: YtgcpppnhhponmaaTotals.lean).
  GIVEN WITH THE SEED: the statements are not yours to turn. If you find one false, say at which input.
  Laid BY PROGRAM, IN A SANDBOX (cutbox-rows.mjs): the forced cells as the released guide's own fill.sh prints them over the translation 67c7adef0e388817… (all of the seat's roots in one cut). By AI agents, Wed Nov 11 2026. No macro, syntax, notation, axiom, sorry.
-/
import Derived.Test.YtgcpppnhhponmaaChecked
import GoSem.Claim
import GoSem.ClaimJoined
import GoSem.ClaimMapViews
import Derived.JoinedTies
import Derived.KernelRfl
namespace Go.Proofs.Ytgcpppnhhponmaa
/- THE CELL 'sum', in the pinned program and in every row, IS THE sha256 OF THE DUMP (.gsa) THAT YtgcpppnhhponmaaProg.lean LOADS. Nothing in Lean hashes anything: it is a label: what it is worth is what the hold of that sum in a sandbox is worth. -/
noncomputable def Try.pinned : Pinned := { name := "ytgcpppnhhponmaa", sum := "67c7adef0e388817a78c67fc4df2efbdd49c4c4b23a90359361d2843f0d0f39e", checked := Try.checked }
namespace Rows
def none {H : Type} : Left H := { results := [], args := [] }

/-- 'laws.FnExactByAll': WHATEVER THE INPUT: true; the input reads as it did. -/
def fnExactByAllSpec : ChangeSpec := { name := "fnExactByAll", fn := fun _ => fun
  | [d1, d2, d3] => { results := [.lit (.bool true)], args := [d1, d2, d3] }
  | _ => none }
def fnExactByAllRow : OpenClaim := { program := "ytgcpppnhhponmaa", sum := "67c7adef0e388817a78c67fc4df2efbdd49c4c4b23a90359361d2843f0d0f39e", func := "loop.example/g00465/laws.FnExactByAll", spec := "fnExactByAll", inPlace := ["internal/bytealg.IndexByteString"], apart := false }
def FnExactByAllSaid : Prop := fnExactByAllRow.holds Try.pinned (OpenSpec.ofChange fnExactByAllSpec)

/-- ITS FALSE NEIGHBOUR: 'it returns false'. Refute it at one input. -/
def fnExactByAllWrong : ChangeSpec := { name := "fnExactByAll", fn := fun _ => fun
  | [d1, d2, d3] => { results := [.lit (.bool false)], args := [d1, d2, d3] }
  | _ => none }
def FnExactByAllWrongFalsely : Prop := fnExactByAllRow.holds Try.pinned (OpenSpec.ofChange fnExactByAllWrong)

/-- 'laws.FnGreatest': WHATEVER THE INPUT: true; the input reads as it did. -/
def fnGreatestSpec : ChangeSpec := { name := "fnGreatest", fn := fun _ => fun
  | [d] => { results := [.lit (.bool true)], args := [d] }
  | _ => none }
def fnGreatestRow : OpenClaim := { program := "ytgcpppnhhponmaa", sum := "67c7adef0e388817a78c67fc4df2efbdd49c4c4b23a90359361d2843f0d0f39e", func := "loop.example/g00465/laws.FnGreatest", spec := "fnGreatest", inPlace := ["internal/bytealg.IndexByteString"], apart := false }
def FnGreatestSaid : Prop := fnGreatestRow.holds Try.pinned (OpenSpec.ofChange fnGreatestSpec)

/-- ITS FALSE NEIGHBOUR: 'it returns false'. Refute it at one input. -/
def fnGreatestWrong : ChangeSpec := { name := "fnGreatest", fn := fun _ => fun
  | [d] => { results := [.lit (.bool false)], args := [d] }
  | _ => none }
def FnGreatestWrongFalsely : Prop := fnGreatestRow.holds Try.pinned (OpenSpec.ofChange fnGreatestWrong)

/-- 'laws.FnWants': WHATEVER THE INPUT: true; the input reads as it did. -/
def fnWantsSpec : ChangeSpec := { name := "fnWants", fn := fun _ => fun
  | [d] => { results := [.lit (.bool true)], args := [d] }
  | _ => none }
def fnWantsRow : OpenClaim := { program := "ytgcpppnhhponmaa", sum := "67c7adef0e388817a78c67fc4df2efbdd49c4c4b23a90359361d2843f0d0f39e", func := "loop.example/g00465/laws.FnWants", spec := "fnWants", inPlace := ["internal/bytealg.IndexByteString"], apart := false }
def FnWantsSaid : Prop := fnWantsRow.holds Try.pinned (OpenSpec.ofChange fnWantsSpec)

/-- ITS FALSE NEIGHBOUR: 'it returns false'. Refute it at one input. -/
def fnWantsWrong : ChangeSpec := { name := "fnWants", fn := fun _ => fun
  | [d] => { results := [.lit (.bool false)], args := [d] }
  | _ => none }
def FnWantsWrongFalsely : Prop := fnWantsRow.holds Try.pinned (OpenSpec.ofChange fnWantsWrong)

/-- 'laws.FnStays': WHATEVER THE INPUT: true; the input reads as it did. -/
def fnStaysSpec : ChangeSpec := { name := "fnStays", fn := fun _ => fun
  | [d] => { results := [.lit (.bool true)], args := [d] }
  | _ => none }
def fnStaysRow : OpenClaim := { program := "ytgcpppnhhponmaa", sum := "67c7adef0e388817a78c67fc4df2efbdd49c4c4b23a90359361d2843f0d0f39e", func := "loop.example/g00465/laws.FnStays", spec := "fnStays", inPlace := ["internal/bytealg.IndexByteString"], apart := false }
def FnStaysSaid : Prop := fnStaysRow.holds Try.pinned (OpenSpec.ofChange fnStaysSpec)

/-- ITS FALSE NEIGHBOUR: 'it returns false'. Refute it at one input. -/
def fnStaysWrong : ChangeSpec := { name := "fnStays", fn := fun _ => fun
  | [d] => { results := [.lit (.bool false)], args := [d] }
  | _ => none }
def FnStaysWrongFalsely : Prop := fnStaysRow.holds Try.pinned (OpenSpec.ofChange fnStaysWrong)

/-- 'laws.FnSteps': WHATEVER THE INPUT: true; the input reads as it did. -/
def fnStepsSpec : ChangeSpec := { name := "fnSteps", fn := fun _ => fun
  | [d] => { results := [.lit (.bool true)], args := [d] }
  | _ => none }
def fnStepsRow : OpenClaim := { program := "ytgcpppnhhponmaa", sum := "67c7adef0e388817a78c67fc4df2efbdd49c4c4b23a90359361d2843f0d0f39e", func := "loop.example/g00465/laws.FnSteps", spec := "fnSteps", inPlace := ["internal/bytealg.IndexByteString"], apart := false }
def FnStepsSaid : Prop := fnStepsRow.holds Try.pinned (OpenSpec.ofChange fnStepsSpec)

/-- ITS FALSE NEIGHBOUR: 'it returns false'. Refute it at one input. -/
def fnStepsWrong : ChangeSpec := { name := "fnSteps", fn := fun _ => fun
  | [d] => { results := [.lit (.bool false)], args := [d] }
  | _ => none }
def FnStepsWrongFalsely : Prop := fnStepsRow.holds Try.pinned (OpenSpec.ofChange fnStepsWrong)

/-- 'laws.FnSettles': WHATEVER THE INPUT: true; the input reads as it did. -/
def fnSettlesSpec : ChangeSpec := { name := "fnSettles", fn := fun _ => fun
  | [d] => { results := [.lit (.bool true)], args := [d] }
  | _ => none }
def fnSettlesRow : OpenClaim := { program := "ytgcpppnhhponmaa", sum := "67c7adef0e388817a78c67fc4df2efbdd49c4c4b23a90359361d2843f0d0f39e", func := "loop.example/g00465/laws.FnSettles", spec := "fnSettles", inPlace := ["internal/bytealg.IndexByteString"], apart := false }
def FnSettlesSaid : Prop := fnSettlesRow.holds Try.pinned (OpenSpec.ofChange fnSettlesSpec)

/-- ITS FALSE NEIGHBOUR: 'it returns false'. Refute it at one input. -/
def fnSettlesWrong : ChangeSpec := { name := "fnSettles", fn := fun _ => fun
  | [d] => { results := [.lit (.bool false)], args := [d] }
  | _ => none }
def FnSettlesWrongFalsely : Prop := fnSettlesRow.holds Try.pinned (OpenSpec.ofChange fnSettlesWrong)

/-- 'laws.FnExactStoreOk': WHATEVER THE INPUT: true; the input reads as it did. -/
def fnExactStoreOkSpec : ChangeSpec := { name := "fnExactStoreOk", fn := fun _ => fun
  | [d] => { results := [.lit (.bool true)], args := [d] }
  | _ => none }
def fnExactStoreOkRow : OpenClaim := { program := "ytgcpppnhhponmaa", sum := "67c7adef0e388817a78c67fc4df2efbdd49c4c4b23a90359361d2843f0d0f39e", func := "loop.example/g00465/laws.FnExactStoreOk", spec := "fnExactStoreOk", inPlace := ["internal/bytealg.IndexByteString"], unfollowed := true, recurses := true, apart := false }
def FnExactStoreOkSaid : Prop := fnExactStoreOkRow.holds Try.pinned (OpenSpec.ofChange fnExactStoreOkSpec)

/-- ITS FALSE NEIGHBOUR: 'it returns false'. Refute it at one input. -/
def fnExactStoreOkWrong : ChangeSpec := { name := "fnExactStoreOk", fn := fun _ => fun
  | [d] => { results := [.lit (.bool false)], args := [d] }
  | _ => none }
def FnExactStoreOkWrongFalsely : Prop := fnExactStoreOkRow.holds Try.pinned (OpenSpec.ofChange fnExactStoreOkWrong)

/-- 'laws.FnExactWorldOk': WHATEVER THE INPUT: true; the input reads as it did. -/
def fnExactWorldOkSpec : ChangeSpec := { name := "fnExactWorldOk", fn := fun _ => fun
  | [d] => { results := [.lit (.bool true)], args := [d] }
  | _ => none }
def fnExactWorldOkRow : OpenClaim := { program := "ytgcpppnhhponmaa", sum := "67c7adef0e388817a78c67fc4df2efbdd49c4c4b23a90359361d2843f0d0f39e", func := "loop.example/g00465/laws.FnExactWorldOk", spec := "fnExactWorldOk", inPlace := ["internal/bytealg.IndexByteString"], unfollowed := true, recurses := true, apart := false }
def FnExactWorldOkSaid : Prop := fnExactWorldOkRow.holds Try.pinned (OpenSpec.ofChange fnExactWorldOkSpec)

/-- ITS FALSE NEIGHBOUR: 'it returns false'. Refute it at one input. -/
def fnExactWorldOkWrong : ChangeSpec := { name := "fnExactWorldOk", fn := fun _ => fun
  | [d] => { results := [.lit (.bool false)], args := [d] }
  | _ => none }
def FnExactWorldOkWrongFalsely : Prop := fnExactWorldOkRow.holds Try.pinned (OpenSpec.ofChange fnExactWorldOkWrong)

/-- 'laws.FnExactWorldNew': WHATEVER THE INPUT: true; the input reads as it did. -/
def fnExactWorldNewSpec : ChangeSpec := { name := "fnExactWorldNew", fn := fun _ => fun
  | [] => { results := [.lit (.bool true)], args := [] }
  | _ => none }
def fnExactWorldNewRow : OpenClaim := { program := "ytgcpppnhhponmaa", sum := "67c7adef0e388817a78c67fc4df2efbdd49c4c4b23a90359361d2843f0d0f39e", func := "loop.example/g00465/laws.FnExactWorldNew", spec := "fnExactWorldNew", apart := false }
def FnExactWorldNewSaid : Prop := fnExactWorldNewRow.holds Try.pinned (OpenSpec.ofChange fnExactWorldNewSpec)

/-- ITS FALSE NEIGHBOUR: 'it returns false'. Refute it at one input. -/
def fnExactWorldNewWrong : ChangeSpec := { name := "fnExactWorldNew", fn := fun _ => fun
  | [] => { results := [.lit (.bool false)], args := [] }
  | _ => none }
def FnExactWorldNewWrongFalsely : Prop := fnExactWorldNewRow.holds Try.pinned (OpenSpec.ofChange fnExactWorldNewWrong)

/- THE SECOND FORM. 'bulk': how many values and letters a reading holds, each counted each time it is reached (what is shared counts as often as it is met; a slice's spare places count too). A statement '..UptoSaid' is the law's where the arguments, and the package variables that the reading takes, are together of bulk at most 1048576: NARROWER than '..Said'. Prove '..Said' where nothing that the law and all that it calls make is longer than what came in: it says more and counts as full. Else prove '..UptoSaid'. A law counts once. -/
mutual
def uptoBulk {H : Type} : DataW H → Nat
  | .lit (.string bytes) => bytes.length + 1
  | .lit _ => 1
  | .nil => 1
  | .ptr d => uptoBulk d + 1
  | .slice elems spare => uptoBulkAll elems + uptoBulkAll spare + 1
  | .agg parts => uptoBulkAll parts + 1
  | .iface _ d => uptoBulk d + 1
  | .map entries => uptoBulkEntries entries + 1
  | .held _ => 1
def uptoBulkAll {H : Type} : List (DataW H) → Nat
  | [] => 0
  | d :: r => uptoBulk d + uptoBulkAll r
def uptoBulkEntries {H : Type} : List (Lit × DataW H) → Nat
  | [] => 0
  | x :: r => uptoBulkEntry x + uptoBulkEntries r
def uptoBulkEntry {H : Type} : Lit × DataW H → Nat
  | (.string bytes, d) => bytes.length + uptoBulk d + 1
  | (_, d) => uptoBulk d + 1
 end
def uptoSmall : (H : Type) → List (DataW H) → Bool := fun _ ds => decide (uptoBulkAll ds ≤ 1048576)
def OpenSpec.upto (s : _root_.Go.ChangeSpec) : _root_.Go.OpenSpec := { _root_.Go.OpenSpec.ofChange s with cond := some uptoSmall }

/-- 'laws.FnExactByAll', WHERE WHAT IT READS IS OF BULK AT MOST 1048576: true; the input reads as it did. -/
def fnExactByAllUptoRow : OpenClaim := { program := "ytgcpppnhhponmaa", sum := "67c7adef0e388817a78c67fc4df2efbdd49c4c4b23a90359361d2843f0d0f39e", func := "loop.example/g00465/laws.FnExactByAll", spec := "fnExactByAll", inPlace := ["internal/bytealg.IndexByteString"], apart := false, narrowed := true }
def FnExactByAllUptoSaid : Prop := fnExactByAllUptoRow.holds Try.pinned (OpenSpec.upto fnExactByAllSpec)

/-- 'laws.FnGreatest', WHERE WHAT IT READS IS OF BULK AT MOST 1048576: true; the input reads as it did. -/
def fnGreatestUptoRow : OpenClaim := { program := "ytgcpppnhhponmaa", sum := "67c7adef0e388817a78c67fc4df2efbdd49c4c4b23a90359361d2843f0d0f39e", func := "loop.example/g00465/laws.FnGreatest", spec := "fnGreatest", inPlace := ["internal/bytealg.IndexByteString"], apart := false, narrowed := true }
def FnGreatestUptoSaid : Prop := fnGreatestUptoRow.holds Try.pinned (OpenSpec.upto fnGreatestSpec)

/-- 'laws.FnWants', WHERE WHAT IT READS IS OF BULK AT MOST 1048576: true; the input reads as it did. -/
def fnWantsUptoRow : OpenClaim := { program := "ytgcpppnhhponmaa", sum := "67c7adef0e388817a78c67fc4df2efbdd49c4c4b23a90359361d2843f0d0f39e", func := "loop.example/g00465/laws.FnWants", spec := "fnWants", inPlace := ["internal/bytealg.IndexByteString"], apart := false, narrowed := true }
def FnWantsUptoSaid : Prop := fnWantsUptoRow.holds Try.pinned (OpenSpec.upto fnWantsSpec)

/-- 'laws.FnStays', WHERE WHAT IT READS IS OF BULK AT MOST 1048576: true; the input reads as it did. -/
def fnStaysUptoRow : OpenClaim := { program := "ytgcpppnhhponmaa", sum := "67c7adef0e388817a78c67fc4df2efbdd49c4c4b23a90359361d2843f0d0f39e", func := "loop.example/g00465/laws.FnStays", spec := "fnStays", inPlace := ["internal/bytealg.IndexByteString"], apart := false, narrowed := true }
def FnStaysUptoSaid : Prop := fnStaysUptoRow.holds Try.pinned (OpenSpec.upto fnStaysSpec)

/-- 'laws.FnSteps', WHERE WHAT IT READS IS OF BULK AT MOST 1048576: true; the input reads as it did. -/
def fnStepsUptoRow : OpenClaim := { program := "ytgcpppnhhponmaa", sum := "67c7adef0e388817a78c67fc4df2efbdd49c4c4b23a90359361d2843f0d0f39e", func := "loop.example/g00465/laws.FnSteps", spec := "fnSteps", inPlace := ["internal/bytealg.IndexByteString"], apart := false, narrowed := true }
def FnStepsUptoSaid : Prop := fnStepsUptoRow.holds Try.pinned (OpenSpec.upto fnStepsSpec)

/-- 'laws.FnSettles', WHERE WHAT IT READS IS OF BULK AT MOST 1048576: true; the input reads as it did. -/
def fnSettlesUptoRow : OpenClaim := { program := "ytgcpppnhhponmaa", sum := "67c7adef0e388817a78c67fc4df2efbdd49c4c4b23a90359361d2843f0d0f39e", func := "loop.example/g00465/laws.FnSettles", spec := "fnSettles", inPlace := ["internal/bytealg.IndexByteString"], apart := false, narrowed := true }
def FnSettlesUptoSaid : Prop := fnSettlesUptoRow.holds Try.pinned (OpenSpec.upto fnSettlesSpec)

/-- 'laws.FnExactStoreOk', WHERE WHAT IT READS IS OF BULK AT MOST 1048576: true; the input reads as it did. -/
def fnExactStoreOkUptoRow : OpenClaim := { program := "ytgcpppnhhponmaa", sum := "67c7adef0e388817a78c67fc4df2efbdd49c4c4b23a90359361d2843f0d0f39e", func := "loop.example/g00465/laws.FnExactStoreOk", spec := "fnExactStoreOk", inPlace := ["internal/bytealg.IndexByteString"], unfollowed := true, recurses := true, apart := false, narrowed := true }
def FnExactStoreOkUptoSaid : Prop := fnExactStoreOkUptoRow.holds Try.pinned (OpenSpec.upto fnExactStoreOkSpec)

/-- 'laws.FnExactWorldOk', WHERE WHAT IT READS IS OF BULK AT MOST 1048576: true; the input reads as it did. -/
def fnExactWorldOkUptoRow : OpenClaim := { program := "ytgcpppnhhponmaa", sum := "67c7adef0e388817a78c67fc4df2efbdd49c4c4b23a90359361d2843f0d0f39e", func := "loop.example/g00465/laws.FnExactWorldOk", spec := "fnExactWorldOk", inPlace := ["internal/bytealg.IndexByteString"], unfollowed := true, recurses := true, apart := false, narrowed := true }
def FnExactWorldOkUptoSaid : Prop := fnExactWorldOkUptoRow.holds Try.pinned (OpenSpec.upto fnExactWorldOkSpec)

/-- 'laws.FnExactWorldNew', WHERE WHAT IT READS IS OF BULK AT MOST 1048576: true; the input reads as it did. -/
def fnExactWorldNewUptoRow : OpenClaim := { program := "ytgcpppnhhponmaa", sum := "67c7adef0e388817a78c67fc4df2efbdd49c4c4b23a90359361d2843f0d0f39e", func := "loop.example/g00465/laws.FnExactWorldNew", spec := "fnExactWorldNew", apart := false, narrowed := true }
def FnExactWorldNewUptoSaid : Prop := fnExactWorldNewUptoRow.holds Try.pinned (OpenSpec.upto fnExactWorldNewSpec)

end Rows
end Go.Proofs.Ytgcpppnhhponmaa
