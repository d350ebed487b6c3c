/-
  No cell of these rows narrows 'for every input' (looked for: loops, veiled, ifaces, maps, wideKeys, modest, calm, conditions, laid).
  DERIVED. THE GIVEN ROWS OF THIS SEAT. 12 by the template 'for every input the law returns true; each argument reads behind the call as it read before'; 0 by the template 'total and deterministic' (their statements: YtgeingpadegppaaTotals.lean).
  GIVEN WITH THE SEED: the statements are not yours to turn. If you find one false, say at which input.
  Laid BY PROGRAM, IN A SANDBOX (cutbox-rows.mjs): the forced cells as the released guide's own fill.sh prints them over the translation 6341d7784387278d… (all of the seat's roots in one cut). By AI agents, Wed Nov 11 2026. No macro, syntax, notation, axiom, sorry.
-/
import Derived.Test.YtgeingpadegppaaChecked
import GoSem.Claim
import GoSem.ClaimJoined
import GoSem.ClaimMapViews
import Derived.JoinedTies
import Derived.KernelRfl
namespace Go.Proofs.Ytgeingpadegppaa
/- THE CELL 'sum', in the pinned program and in every row, IS THE sha256 OF THE DUMP (.gsa) THAT YtgeingpadegppaaProg.lean LOADS. Nothing in Lean hashes anything: it is a label: what it is worth is what the hold of that sum in a sandbox is worth. -/
noncomputable def Try.pinned : Pinned := { name := "ytgeingpadegppaa", sum := "6341d7784387278dd0bf68ac224cc6ba61eb2119b5dc7482d785644e23d2cf66", checked := Try.checked }
namespace Rows
def none {H : Type} : Left H := { results := [], args := [] }

/-- 'laws.FnExactRecsOk': WHATEVER THE INPUT: true; the input reads as it did. -/
def fnExactRecsOkSpec : ChangeSpec := { name := "fnExactRecsOk", fn := fun _ => fun
  | [d] => { results := [.lit (.bool true)], args := [d] }
  | _ => none }
def fnExactRecsOkRow : OpenClaim := { program := "ytgeingpadegppaa", sum := "6341d7784387278dd0bf68ac224cc6ba61eb2119b5dc7482d785644e23d2cf66", func := "loop.example/g00465/laws.FnExactRecsOk", spec := "fnExactRecsOk", apart := false }
def FnExactRecsOkSaid : Prop := fnExactRecsOkRow.holds Try.pinned (OpenSpec.ofChange fnExactRecsOkSpec)

/-- ITS FALSE NEIGHBOUR: 'it returns false'. Refute it at one input. -/
def fnExactRecsOkWrong : ChangeSpec := { name := "fnExactRecsOk", fn := fun _ => fun
  | [d] => { results := [.lit (.bool false)], args := [d] }
  | _ => none }
def FnExactRecsOkWrongFalsely : Prop := fnExactRecsOkRow.holds Try.pinned (OpenSpec.ofChange fnExactRecsOkWrong)

/-- 'laws.FnExactSampleOf': WHATEVER THE INPUT: true; the input reads as it did. -/
def fnExactSampleOfSpec : ChangeSpec := { name := "fnExactSampleOf", fn := fun _ => fun
  | [d1, d2] => { results := [.lit (.bool true)], args := [d1, d2] }
  | _ => none }
def fnExactSampleOfRow : OpenClaim := { program := "ytgeingpadegppaa", sum := "6341d7784387278dd0bf68ac224cc6ba61eb2119b5dc7482d785644e23d2cf66", func := "loop.example/g00465/laws.FnExactSampleOf", spec := "fnExactSampleOf", apart := false }
def FnExactSampleOfSaid : Prop := fnExactSampleOfRow.holds Try.pinned (OpenSpec.ofChange fnExactSampleOfSpec)

/-- ITS FALSE NEIGHBOUR: 'it returns false'. Refute it at one input. -/
def fnExactSampleOfWrong : ChangeSpec := { name := "fnExactSampleOf", fn := fun _ => fun
  | [d1, d2] => { results := [.lit (.bool false)], args := [d1, d2] }
  | _ => none }
def FnExactSampleOfWrongFalsely : Prop := fnExactSampleOfRow.holds Try.pinned (OpenSpec.ofChange fnExactSampleOfWrong)

/-- 'laws.FnSlow': WHATEVER THE INPUT: true; the input reads as it did. -/
def fnSlowSpec : ChangeSpec := { name := "fnSlow", fn := fun _ => fun
  | [d] => { results := [.lit (.bool true)], args := [d] }
  | _ => none }
def fnSlowRow : OpenClaim := { program := "ytgeingpadegppaa", sum := "6341d7784387278dd0bf68ac224cc6ba61eb2119b5dc7482d785644e23d2cf66", func := "loop.example/g00465/laws.FnSlow", spec := "fnSlow", apart := false }
def FnSlowSaid : Prop := fnSlowRow.holds Try.pinned (OpenSpec.ofChange fnSlowSpec)

/-- ITS FALSE NEIGHBOUR: 'it returns false'. Refute it at one input. -/
def fnSlowWrong : ChangeSpec := { name := "fnSlow", fn := fun _ => fun
  | [d] => { results := [.lit (.bool false)], args := [d] }
  | _ => none }
def FnSlowWrongFalsely : Prop := fnSlowRow.holds Try.pinned (OpenSpec.ofChange fnSlowWrong)

/-- 'laws.FnExactByOne': WHATEVER THE INPUT: true; the input reads as it did. -/
def fnExactByOneSpec : ChangeSpec := { name := "fnExactByOne", fn := fun _ => fun
  | [d1, d2, d3] => { results := [.lit (.bool true)], args := [d1, d2, d3] }
  | _ => none }
def fnExactByOneRow : OpenClaim := { program := "ytgeingpadegppaa", sum := "6341d7784387278dd0bf68ac224cc6ba61eb2119b5dc7482d785644e23d2cf66", func := "loop.example/g00465/laws.FnExactByOne", spec := "fnExactByOne", apart := false }
def FnExactByOneSaid : Prop := fnExactByOneRow.holds Try.pinned (OpenSpec.ofChange fnExactByOneSpec)

/-- ITS FALSE NEIGHBOUR: 'it returns false'. Refute it at one input. -/
def fnExactByOneWrong : ChangeSpec := { name := "fnExactByOne", fn := fun _ => fun
  | [d1, d2, d3] => { results := [.lit (.bool false)], args := [d1, d2, d3] }
  | _ => none }
def FnExactByOneWrongFalsely : Prop := fnExactByOneRow.holds Try.pinned (OpenSpec.ofChange fnExactByOneWrong)

/-- 'laws.FnExactSamplesOk': WHATEVER THE INPUT: true; the input reads as it did. -/
def fnExactSamplesOkSpec : ChangeSpec := { name := "fnExactSamplesOk", fn := fun _ => fun
  | [d] => { results := [.lit (.bool true)], args := [d] }
  | _ => none }
def fnExactSamplesOkRow : OpenClaim := { program := "ytgeingpadegppaa", sum := "6341d7784387278dd0bf68ac224cc6ba61eb2119b5dc7482d785644e23d2cf66", func := "loop.example/g00465/laws.FnExactSamplesOk", spec := "fnExactSamplesOk", apart := false }
def FnExactSamplesOkSaid : Prop := fnExactSamplesOkRow.holds Try.pinned (OpenSpec.ofChange fnExactSamplesOkSpec)

/-- ITS FALSE NEIGHBOUR: 'it returns false'. Refute it at one input. -/
def fnExactSamplesOkWrong : ChangeSpec := { name := "fnExactSamplesOk", fn := fun _ => fun
  | [d] => { results := [.lit (.bool false)], args := [d] }
  | _ => none }
def FnExactSamplesOkWrongFalsely : Prop := fnExactSamplesOkRow.holds Try.pinned (OpenSpec.ofChange fnExactSamplesOkWrong)

/-- 'laws.FnExactLately': WHATEVER THE INPUT: true; the input reads as it did. -/
def fnExactLatelySpec : ChangeSpec := { name := "fnExactLately", fn := fun _ => fun
  | [d1, d2, d3] => { results := [.lit (.bool true)], args := [d1, d2, d3] }
  | _ => none }
def fnExactLatelyRow : OpenClaim := { program := "ytgeingpadegppaa", sum := "6341d7784387278dd0bf68ac224cc6ba61eb2119b5dc7482d785644e23d2cf66", func := "loop.example/g00465/laws.FnExactLately", spec := "fnExactLately", apart := false }
def FnExactLatelySaid : Prop := fnExactLatelyRow.holds Try.pinned (OpenSpec.ofChange fnExactLatelySpec)

/-- ITS FALSE NEIGHBOUR: 'it returns false'. Refute it at one input. -/
def fnExactLatelyWrong : ChangeSpec := { name := "fnExactLately", fn := fun _ => fun
  | [d1, d2, d3] => { results := [.lit (.bool false)], args := [d1, d2, d3] }
  | _ => none }
def FnExactLatelyWrongFalsely : Prop := fnExactLatelyRow.holds Try.pinned (OpenSpec.ofChange fnExactLatelyWrong)

/-- 'laws.FnExactRecAdd': WHATEVER THE INPUT: true; the input reads as it did. -/
def fnExactRecAddSpec : ChangeSpec := { name := "fnExactRecAdd", fn := fun _ => fun
  | [d1, d2, d3] => { results := [.lit (.bool true)], args := [d1, d2, d3] }
  | _ => none }
def fnExactRecAddRow : OpenClaim := { program := "ytgeingpadegppaa", sum := "6341d7784387278dd0bf68ac224cc6ba61eb2119b5dc7482d785644e23d2cf66", func := "loop.example/g00465/laws.FnExactRecAdd", spec := "fnExactRecAdd", apart := false }
def FnExactRecAddSaid : Prop := fnExactRecAddRow.holds Try.pinned (OpenSpec.ofChange fnExactRecAddSpec)

/-- ITS FALSE NEIGHBOUR: 'it returns false'. Refute it at one input. -/
def fnExactRecAddWrong : ChangeSpec := { name := "fnExactRecAdd", fn := fun _ => fun
  | [d1, d2, d3] => { results := [.lit (.bool false)], args := [d1, d2, d3] }
  | _ => none }
def FnExactRecAddWrongFalsely : Prop := fnExactRecAddRow.holds Try.pinned (OpenSpec.ofChange fnExactRecAddWrong)

/-- 'laws.FnExactScaleOk': WHATEVER THE INPUT: true; the input reads as it did. -/
def fnExactScaleOkSpec : ChangeSpec := { name := "fnExactScaleOk", fn := fun _ => fun
  | [d] => { results := [.lit (.bool true)], args := [d] }
  | _ => none }
def fnExactScaleOkRow : OpenClaim := { program := "ytgeingpadegppaa", sum := "6341d7784387278dd0bf68ac224cc6ba61eb2119b5dc7482d785644e23d2cf66", func := "loop.example/g00465/laws.FnExactScaleOk", spec := "fnExactScaleOk", apart := false }
def FnExactScaleOkSaid : Prop := fnExactScaleOkRow.holds Try.pinned (OpenSpec.ofChange fnExactScaleOkSpec)

/-- ITS FALSE NEIGHBOUR: 'it returns false'. Refute it at one input. -/
def fnExactScaleOkWrong : ChangeSpec := { name := "fnExactScaleOk", fn := fun _ => fun
  | [d] => { results := [.lit (.bool false)], args := [d] }
  | _ => none }
def FnExactScaleOkWrongFalsely : Prop := fnExactScaleOkRow.holds Try.pinned (OpenSpec.ofChange fnExactScaleOkWrong)

/-- 'laws.FnExactSteady': WHATEVER THE INPUT: true; the input reads as it did. -/
def fnExactSteadySpec : ChangeSpec := { name := "fnExactSteady", fn := fun _ => fun
  | [d1, d2, d3, d4, d5] => { results := [.lit (.bool true)], args := [d1, d2, d3, d4, d5] }
  | _ => none }
def fnExactSteadyRow : OpenClaim := { program := "ytgeingpadegppaa", sum := "6341d7784387278dd0bf68ac224cc6ba61eb2119b5dc7482d785644e23d2cf66", func := "loop.example/g00465/laws.FnExactSteady", spec := "fnExactSteady", apart := false }
def FnExactSteadySaid : Prop := fnExactSteadyRow.holds Try.pinned (OpenSpec.ofChange fnExactSteadySpec)

/-- ITS FALSE NEIGHBOUR: 'it returns false'. Refute it at one input. -/
def fnExactSteadyWrong : ChangeSpec := { name := "fnExactSteady", fn := fun _ => fun
  | [d1, d2, d3, d4, d5] => { results := [.lit (.bool false)], args := [d1, d2, d3, d4, d5] }
  | _ => none }
def FnExactSteadyWrongFalsely : Prop := fnExactSteadyRow.holds Try.pinned (OpenSpec.ofChange fnExactSteadyWrong)

/-- 'laws.FnRecs': WHATEVER THE INPUT: true; the input reads as it did. -/
def fnRecsSpec : ChangeSpec := { name := "fnRecs", fn := fun _ => fun
  | [d] => { results := [.lit (.bool true)], args := [d] }
  | _ => none }
def fnRecsRow : OpenClaim := { program := "ytgeingpadegppaa", sum := "6341d7784387278dd0bf68ac224cc6ba61eb2119b5dc7482d785644e23d2cf66", func := "loop.example/g00465/laws.FnRecs", spec := "fnRecs", apart := false }
def FnRecsSaid : Prop := fnRecsRow.holds Try.pinned (OpenSpec.ofChange fnRecsSpec)

/-- ITS FALSE NEIGHBOUR: 'it returns false'. Refute it at one input. -/
def fnRecsWrong : ChangeSpec := { name := "fnRecs", fn := fun _ => fun
  | [d] => { results := [.lit (.bool false)], args := [d] }
  | _ => none }
def FnRecsWrongFalsely : Prop := fnRecsRow.holds Try.pinned (OpenSpec.ofChange fnRecsWrong)

/-- 'laws.FnSteady': WHATEVER THE INPUT: true; the input reads as it did. -/
def fnSteadySpec : ChangeSpec := { name := "fnSteady", fn := fun _ => fun
  | [d] => { results := [.lit (.bool true)], args := [d] }
  | _ => none }
def fnSteadyRow : OpenClaim := { program := "ytgeingpadegppaa", sum := "6341d7784387278dd0bf68ac224cc6ba61eb2119b5dc7482d785644e23d2cf66", func := "loop.example/g00465/laws.FnSteady", spec := "fnSteady", apart := false }
def FnSteadySaid : Prop := fnSteadyRow.holds Try.pinned (OpenSpec.ofChange fnSteadySpec)

/-- ITS FALSE NEIGHBOUR: 'it returns false'. Refute it at one input. -/
def fnSteadyWrong : ChangeSpec := { name := "fnSteady", fn := fun _ => fun
  | [d] => { results := [.lit (.bool false)], args := [d] }
  | _ => none }
def FnSteadyWrongFalsely : Prop := fnSteadyRow.holds Try.pinned (OpenSpec.ofChange fnSteadyWrong)

/-- 'laws.FnExactStoreNew': WHATEVER THE INPUT: true; the input reads as it did. -/
def fnExactStoreNewSpec : ChangeSpec := { name := "fnExactStoreNew", fn := fun _ => fun
  | [] => { results := [.lit (.bool true)], args := [] }
  | _ => none }
def fnExactStoreNewRow : OpenClaim := { program := "ytgeingpadegppaa", sum := "6341d7784387278dd0bf68ac224cc6ba61eb2119b5dc7482d785644e23d2cf66", func := "loop.example/g00465/laws.FnExactStoreNew", spec := "fnExactStoreNew", apart := false }
def FnExactStoreNewSaid : Prop := fnExactStoreNewRow.holds Try.pinned (OpenSpec.ofChange fnExactStoreNewSpec)

/-- ITS FALSE NEIGHBOUR: 'it returns false'. Refute it at one input. -/
def fnExactStoreNewWrong : ChangeSpec := { name := "fnExactStoreNew", fn := fun _ => fun
  | [] => { results := [.lit (.bool false)], args := [] }
  | _ => none }
def FnExactStoreNewWrongFalsely : Prop := fnExactStoreNewRow.holds Try.pinned (OpenSpec.ofChange fnExactStoreNewWrong)

/- THE SECOND FORM. 'bulk': how many values and letters a reading holds, each counted each time it is reached (what is shared counts as often as it is met; a slice's spare places count too). A statement '..UptoSaid' is the law's where the arguments, and the package variables that the reading takes, are together of bulk at most 1048576: NARROWER than '..Said'. Prove '..Said' where nothing that the law and all that it calls make is longer than what came in: it says more and counts as full. Else prove '..UptoSaid'. A law counts once. -/
mutual
def uptoBulk {H : Type} : DataW H → Nat
  | .lit (.string bytes) => bytes.length + 1
  | .lit _ => 1
  | .nil => 1
  | .ptr d => uptoBulk d + 1
  | .slice elems spare => uptoBulkAll elems + uptoBulkAll spare + 1
  | .agg parts => uptoBulkAll parts + 1
  | .iface _ d => uptoBulk d + 1
  | .map entries => uptoBulkEntries entries + 1
  | .held _ => 1
def uptoBulkAll {H : Type} : List (DataW H) → Nat
  | [] => 0
  | d :: r => uptoBulk d + uptoBulkAll r
def uptoBulkEntries {H : Type} : List (Lit × DataW H) → Nat
  | [] => 0
  | x :: r => uptoBulkEntry x + uptoBulkEntries r
def uptoBulkEntry {H : Type} : Lit × DataW H → Nat
  | (.string bytes, d) => bytes.length + uptoBulk d + 1
  | (_, d) => uptoBulk d + 1
 end
def uptoSmall : (H : Type) → List (DataW H) → Bool := fun _ ds => decide (uptoBulkAll ds ≤ 1048576)
def OpenSpec.upto (s : _root_.Go.ChangeSpec) : _root_.Go.OpenSpec := { _root_.Go.OpenSpec.ofChange s with cond := some uptoSmall }

/-- 'laws.FnExactRecsOk', WHERE WHAT IT READS IS OF BULK AT MOST 1048576: true; the input reads as it did. -/
def fnExactRecsOkUptoRow : OpenClaim := { program := "ytgeingpadegppaa", sum := "6341d7784387278dd0bf68ac224cc6ba61eb2119b5dc7482d785644e23d2cf66", func := "loop.example/g00465/laws.FnExactRecsOk", spec := "fnExactRecsOk", apart := false, narrowed := true }
def FnExactRecsOkUptoSaid : Prop := fnExactRecsOkUptoRow.holds Try.pinned (OpenSpec.upto fnExactRecsOkSpec)

/-- 'laws.FnExactSampleOf', WHERE WHAT IT READS IS OF BULK AT MOST 1048576: true; the input reads as it did. -/
def fnExactSampleOfUptoRow : OpenClaim := { program := "ytgeingpadegppaa", sum := "6341d7784387278dd0bf68ac224cc6ba61eb2119b5dc7482d785644e23d2cf66", func := "loop.example/g00465/laws.FnExactSampleOf", spec := "fnExactSampleOf", apart := false, narrowed := true }
def FnExactSampleOfUptoSaid : Prop := fnExactSampleOfUptoRow.holds Try.pinned (OpenSpec.upto fnExactSampleOfSpec)

/-- 'laws.FnSlow', WHERE WHAT IT READS IS OF BULK AT MOST 1048576: true; the input reads as it did. -/
def fnSlowUptoRow : OpenClaim := { program := "ytgeingpadegppaa", sum := "6341d7784387278dd0bf68ac224cc6ba61eb2119b5dc7482d785644e23d2cf66", func := "loop.example/g00465/laws.FnSlow", spec := "fnSlow", apart := false, narrowed := true }
def FnSlowUptoSaid : Prop := fnSlowUptoRow.holds Try.pinned (OpenSpec.upto fnSlowSpec)

/-- 'laws.FnExactByOne', WHERE WHAT IT READS IS OF BULK AT MOST 1048576: true; the input reads as it did. -/
def fnExactByOneUptoRow : OpenClaim := { program := "ytgeingpadegppaa", sum := "6341d7784387278dd0bf68ac224cc6ba61eb2119b5dc7482d785644e23d2cf66", func := "loop.example/g00465/laws.FnExactByOne", spec := "fnExactByOne", apart := false, narrowed := true }
def FnExactByOneUptoSaid : Prop := fnExactByOneUptoRow.holds Try.pinned (OpenSpec.upto fnExactByOneSpec)

/-- 'laws.FnExactSamplesOk', WHERE WHAT IT READS IS OF BULK AT MOST 1048576: true; the input reads as it did. -/
def fnExactSamplesOkUptoRow : OpenClaim := { program := "ytgeingpadegppaa", sum := "6341d7784387278dd0bf68ac224cc6ba61eb2119b5dc7482d785644e23d2cf66", func := "loop.example/g00465/laws.FnExactSamplesOk", spec := "fnExactSamplesOk", apart := false, narrowed := true }
def FnExactSamplesOkUptoSaid : Prop := fnExactSamplesOkUptoRow.holds Try.pinned (OpenSpec.upto fnExactSamplesOkSpec)

/-- 'laws.FnExactLately', WHERE WHAT IT READS IS OF BULK AT MOST 1048576: true; the input reads as it did. -/
def fnExactLatelyUptoRow : OpenClaim := { program := "ytgeingpadegppaa", sum := "6341d7784387278dd0bf68ac224cc6ba61eb2119b5dc7482d785644e23d2cf66", func := "loop.example/g00465/laws.FnExactLately", spec := "fnExactLately", apart := false, narrowed := true }
def FnExactLatelyUptoSaid : Prop := fnExactLatelyUptoRow.holds Try.pinned (OpenSpec.upto fnExactLatelySpec)

/-- 'laws.FnExactRecAdd', WHERE WHAT IT READS IS OF BULK AT MOST 1048576: true; the input reads as it did. -/
def fnExactRecAddUptoRow : OpenClaim := { program := "ytgeingpadegppaa", sum := "6341d7784387278dd0bf68ac224cc6ba61eb2119b5dc7482d785644e23d2cf66", func := "loop.example/g00465/laws.FnExactRecAdd", spec := "fnExactRecAdd", apart := false, narrowed := true }
def FnExactRecAddUptoSaid : Prop := fnExactRecAddUptoRow.holds Try.pinned (OpenSpec.upto fnExactRecAddSpec)

/-- 'laws.FnExactScaleOk', WHERE WHAT IT READS IS OF BULK AT MOST 1048576: true; the input reads as it did. -/
def fnExactScaleOkUptoRow : OpenClaim := { program := "ytgeingpadegppaa", sum := "6341d7784387278dd0bf68ac224cc6ba61eb2119b5dc7482d785644e23d2cf66", func := "loop.example/g00465/laws.FnExactScaleOk", spec := "fnExactScaleOk", apart := false, narrowed := true }
def FnExactScaleOkUptoSaid : Prop := fnExactScaleOkUptoRow.holds Try.pinned (OpenSpec.upto fnExactScaleOkSpec)

/-- 'laws.FnExactSteady', WHERE WHAT IT READS IS OF BULK AT MOST 1048576: true; the input reads as it did. -/
def fnExactSteadyUptoRow : OpenClaim := { program := "ytgeingpadegppaa", sum := "6341d7784387278dd0bf68ac224cc6ba61eb2119b5dc7482d785644e23d2cf66", func := "loop.example/g00465/laws.FnExactSteady", spec := "fnExactSteady", apart := false, narrowed := true }
def FnExactSteadyUptoSaid : Prop := fnExactSteadyUptoRow.holds Try.pinned (OpenSpec.upto fnExactSteadySpec)

/-- 'laws.FnRecs', WHERE WHAT IT READS IS OF BULK AT MOST 1048576: true; the input reads as it did. -/
def fnRecsUptoRow : OpenClaim := { program := "ytgeingpadegppaa", sum := "6341d7784387278dd0bf68ac224cc6ba61eb2119b5dc7482d785644e23d2cf66", func := "loop.example/g00465/laws.FnRecs", spec := "fnRecs", apart := false, narrowed := true }
def FnRecsUptoSaid : Prop := fnRecsUptoRow.holds Try.pinned (OpenSpec.upto fnRecsSpec)

/-- 'laws.FnSteady', WHERE WHAT IT READS IS OF BULK AT MOST 1048576: true; the input reads as it did. -/
def fnSteadyUptoRow : OpenClaim := { program := "ytgeingpadegppaa", sum := "6341d7784387278dd0bf68ac224cc6ba61eb2119b5dc7482d785644e23d2cf66", func := "loop.example/g00465/laws.FnSteady", spec := "fnSteady", apart := false, narrowed := true }
def FnSteadyUptoSaid : Prop := fnSteadyUptoRow.holds Try.pinned (OpenSpec.upto fnSteadySpec)

/-- 'laws.FnExactStoreNew', WHERE WHAT IT READS IS OF BULK AT MOST 1048576: true; the input reads as it did. -/
def fnExactStoreNewUptoRow : OpenClaim := { program := "ytgeingpadegppaa", sum := "6341d7784387278dd0bf68ac224cc6ba61eb2119b5dc7482d785644e23d2cf66", func := "loop.example/g00465/laws.FnExactStoreNew", spec := "fnExactStoreNew", apart := false, narrowed := true }
def FnExactStoreNewUptoSaid : Prop := fnExactStoreNewUptoRow.holds Try.pinned (OpenSpec.upto fnExactStoreNewSpec)

end Rows
end Go.Proofs.Ytgeingpadegppaa
