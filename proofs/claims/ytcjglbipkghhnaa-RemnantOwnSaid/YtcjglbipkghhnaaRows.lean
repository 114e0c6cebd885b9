/-
  No cell of these rows narrows 'for every input' (looked for: loops, veiled, ifaces, maps, wideKeys, modest, calm, conditions, laid).
  DERIVED. THE GIVEN ROWS OF THIS SEAT. 13 by the template 'for every input the law returns true; each argument reads behind the call as it read before'; 0 by the template 'total and deterministic' (their statements: YtcjglbipkghhnaaTotals.lean).
  GIVEN WITH THE SEED: the statements are not yours to turn. If you find one false, say at which input.
  Laid BY PROGRAM, IN A SANDBOX (cutbox-rows.mjs): the forced cells as the released guide's own fill.sh prints them over the translation 16bab72d7a4d3031… (all of the seat's roots in one cut). By AI agents, Wed Nov 11 2026. No macro, syntax, notation, axiom, sorry.
-/
import Derived.Test.YtcjglbipkghhnaaChecked
import GoSem.Claim
import GoSem.ClaimJoined
import GoSem.ClaimMapViews
import Derived.JoinedTies
import Derived.KernelRfl
namespace Go.Proofs.Ytcjglbipkghhnaa
/- THE CELL 'sum', in the pinned program and in every row, IS THE sha256 OF THE DUMP (.gsa) THAT YtcjglbipkghhnaaProg.lean LOADS. Nothing in Lean hashes anything: it is a label: what it is worth is what the hold of that sum in a sandbox is worth. -/
noncomputable def Try.pinned : Pinned := { name := "ytcjglbipkghhnaa", sum := "16bab72d7a4d303148d29a194d55c6feef56b9a42615ccf449ba0ad13cafce0a", checked := Try.checked }
namespace Rows
def none {H : Type} : Left H := { results := [], args := [] }

/-- 'galloonlaw09.RemnantWeighs': WHATEVER THE INPUT: true; the input reads as it did. -/
def remnantWeighsSpec : ChangeSpec := { name := "remnantWeighs", fn := fun _ => fun
  | [d1, d2, d3] => { results := [.lit (.bool true)], args := [d1, d2, d3] }
  | _ => none }
def remnantWeighsRow : OpenClaim := { program := "ytcjglbipkghhnaa", sum := "16bab72d7a4d303148d29a194d55c6feef56b9a42615ccf449ba0ad13cafce0a", func := "galloon/galloonlaw09.RemnantWeighs", spec := "remnantWeighs", unfollowed := true, recurses := true, apart := false }
def RemnantWeighsSaid : Prop := remnantWeighsRow.holds Try.pinned (OpenSpec.ofChange remnantWeighsSpec)

/-- ITS FALSE NEIGHBOUR: 'it returns false'. Refute it at one input. -/
def remnantWeighsWrong : ChangeSpec := { name := "remnantWeighs", fn := fun _ => fun
  | [d1, d2, d3] => { results := [.lit (.bool false)], args := [d1, d2, d3] }
  | _ => none }
def RemnantWeighsWrongFalsely : Prop := remnantWeighsRow.holds Try.pinned (OpenSpec.ofChange remnantWeighsWrong)

/-- 'galloonlaw09.RemnantSplits': WHATEVER THE INPUT: true; the input reads as it did. -/
def remnantSplitsSpec : ChangeSpec := { name := "remnantSplits", fn := fun _ => fun
  | [d1, d2] => { results := [.lit (.bool true)], args := [d1, d2] }
  | _ => none }
def remnantSplitsRow : OpenClaim := { program := "ytcjglbipkghhnaa", sum := "16bab72d7a4d303148d29a194d55c6feef56b9a42615ccf449ba0ad13cafce0a", func := "galloon/galloonlaw09.RemnantSplits", spec := "remnantSplits", unfollowed := true, recurses := true, apart := false }
def RemnantSplitsSaid : Prop := remnantSplitsRow.holds Try.pinned (OpenSpec.ofChange remnantSplitsSpec)

/-- ITS FALSE NEIGHBOUR: 'it returns false'. Refute it at one input. -/
def remnantSplitsWrong : ChangeSpec := { name := "remnantSplits", fn := fun _ => fun
  | [d1, d2] => { results := [.lit (.bool false)], args := [d1, d2] }
  | _ => none }
def RemnantSplitsWrongFalsely : Prop := remnantSplitsRow.holds Try.pinned (OpenSpec.ofChange remnantSplitsWrong)

/-- 'galloonlaw09.RemnantDivided': WHATEVER THE INPUT: true; the input reads as it did. -/
def remnantDividedSpec : ChangeSpec := { name := "remnantDivided", fn := fun _ => fun
  | [d1, d2, d3] => { results := [.lit (.bool true)], args := [d1, d2, d3] }
  | _ => none }
def remnantDividedRow : OpenClaim := { program := "ytcjglbipkghhnaa", sum := "16bab72d7a4d303148d29a194d55c6feef56b9a42615ccf449ba0ad13cafce0a", func := "galloon/galloonlaw09.RemnantDivided", spec := "remnantDivided", unfollowed := true, recurses := true, apart := false }
def RemnantDividedSaid : Prop := remnantDividedRow.holds Try.pinned (OpenSpec.ofChange remnantDividedSpec)

/-- ITS FALSE NEIGHBOUR: 'it returns false'. Refute it at one input. -/
def remnantDividedWrong : ChangeSpec := { name := "remnantDivided", fn := fun _ => fun
  | [d1, d2, d3] => { results := [.lit (.bool false)], args := [d1, d2, d3] }
  | _ => none }
def RemnantDividedWrongFalsely : Prop := remnantDividedRow.holds Try.pinned (OpenSpec.ofChange remnantDividedWrong)

/-- 'galloonlaw09.RemnantFills': WHATEVER THE INPUT: true; the input reads as it did. -/
def remnantFillsSpec : ChangeSpec := { name := "remnantFills", fn := fun _ => fun
  | [d1, d2, d3] => { results := [.lit (.bool true)], args := [d1, d2, d3] }
  | _ => none }
def remnantFillsRow : OpenClaim := { program := "ytcjglbipkghhnaa", sum := "16bab72d7a4d303148d29a194d55c6feef56b9a42615ccf449ba0ad13cafce0a", func := "galloon/galloonlaw09.RemnantFills", spec := "remnantFills", unfollowed := true, recurses := true, apart := false }
def RemnantFillsSaid : Prop := remnantFillsRow.holds Try.pinned (OpenSpec.ofChange remnantFillsSpec)

/-- ITS FALSE NEIGHBOUR: 'it returns false'. Refute it at one input. -/
def remnantFillsWrong : ChangeSpec := { name := "remnantFills", fn := fun _ => fun
  | [d1, d2, d3] => { results := [.lit (.bool false)], args := [d1, d2, d3] }
  | _ => none }
def RemnantFillsWrongFalsely : Prop := remnantFillsRow.holds Try.pinned (OpenSpec.ofChange remnantFillsWrong)

/-- 'galloonlaw09.RemnantBounds': WHATEVER THE INPUT: true; the input reads as it did. -/
def remnantBoundsSpec : ChangeSpec := { name := "remnantBounds", fn := fun _ => fun
  | [d1, d2, d3] => { results := [.lit (.bool true)], args := [d1, d2, d3] }
  | _ => none }
def remnantBoundsRow : OpenClaim := { program := "ytcjglbipkghhnaa", sum := "16bab72d7a4d303148d29a194d55c6feef56b9a42615ccf449ba0ad13cafce0a", func := "galloon/galloonlaw09.RemnantBounds", spec := "remnantBounds", unfollowed := true, recurses := true, apart := false }
def RemnantBoundsSaid : Prop := remnantBoundsRow.holds Try.pinned (OpenSpec.ofChange remnantBoundsSpec)

/-- ITS FALSE NEIGHBOUR: 'it returns false'. Refute it at one input. -/
def remnantBoundsWrong : ChangeSpec := { name := "remnantBounds", fn := fun _ => fun
  | [d1, d2, d3] => { results := [.lit (.bool false)], args := [d1, d2, d3] }
  | _ => none }
def RemnantBoundsWrongFalsely : Prop := remnantBoundsRow.holds Try.pinned (OpenSpec.ofChange remnantBoundsWrong)

/-- 'galloonlaw09.RemnantChecks': WHATEVER THE INPUT: true; the input reads as it did. -/
def remnantChecksSpec : ChangeSpec := { name := "remnantChecks", fn := fun _ => fun
  | [d1, d2, d3] => { results := [.lit (.bool true)], args := [d1, d2, d3] }
  | _ => none }
def remnantChecksRow : OpenClaim := { program := "ytcjglbipkghhnaa", sum := "16bab72d7a4d303148d29a194d55c6feef56b9a42615ccf449ba0ad13cafce0a", func := "galloon/galloonlaw09.RemnantChecks", spec := "remnantChecks", unfollowed := true, recurses := true, apart := false }
def RemnantChecksSaid : Prop := remnantChecksRow.holds Try.pinned (OpenSpec.ofChange remnantChecksSpec)

/-- ITS FALSE NEIGHBOUR: 'it returns false'. Refute it at one input. -/
def remnantChecksWrong : ChangeSpec := { name := "remnantChecks", fn := fun _ => fun
  | [d1, d2, d3] => { results := [.lit (.bool false)], args := [d1, d2, d3] }
  | _ => none }
def RemnantChecksWrongFalsely : Prop := remnantChecksRow.holds Try.pinned (OpenSpec.ofChange remnantChecksWrong)

/-- 'galloonlaw09.RemnantMore': WHATEVER THE INPUT: true; the input reads as it did. -/
def remnantMoreSpec : ChangeSpec := { name := "remnantMore", fn := fun _ => fun
  | [d1, d2, d3] => { results := [.lit (.bool true)], args := [d1, d2, d3] }
  | _ => none }
def remnantMoreRow : OpenClaim := { program := "ytcjglbipkghhnaa", sum := "16bab72d7a4d303148d29a194d55c6feef56b9a42615ccf449ba0ad13cafce0a", func := "galloon/galloonlaw09.RemnantMore", spec := "remnantMore", unfollowed := true, recurses := true, apart := false }
def RemnantMoreSaid : Prop := remnantMoreRow.holds Try.pinned (OpenSpec.ofChange remnantMoreSpec)

/-- ITS FALSE NEIGHBOUR: 'it returns false'. Refute it at one input. -/
def remnantMoreWrong : ChangeSpec := { name := "remnantMore", fn := fun _ => fun
  | [d1, d2, d3] => { results := [.lit (.bool false)], args := [d1, d2, d3] }
  | _ => none }
def RemnantMoreWrongFalsely : Prop := remnantMoreRow.holds Try.pinned (OpenSpec.ofChange remnantMoreWrong)

/-- 'galloonlaw09.RemnantBests': WHATEVER THE INPUT: true; the input reads as it did. -/
def remnantBestsSpec : ChangeSpec := { name := "remnantBests", fn := fun _ => fun
  | [d1, d2] => { results := [.lit (.bool true)], args := [d1, d2] }
  | _ => none }
def remnantBestsRow : OpenClaim := { program := "ytcjglbipkghhnaa", sum := "16bab72d7a4d303148d29a194d55c6feef56b9a42615ccf449ba0ad13cafce0a", func := "galloon/galloonlaw09.RemnantBests", spec := "remnantBests", unfollowed := true, recurses := true, apart := false }
def RemnantBestsSaid : Prop := remnantBestsRow.holds Try.pinned (OpenSpec.ofChange remnantBestsSpec)

/-- ITS FALSE NEIGHBOUR: 'it returns false'. Refute it at one input. -/
def remnantBestsWrong : ChangeSpec := { name := "remnantBests", fn := fun _ => fun
  | [d1, d2] => { results := [.lit (.bool false)], args := [d1, d2] }
  | _ => none }
def RemnantBestsWrongFalsely : Prop := remnantBestsRow.holds Try.pinned (OpenSpec.ofChange remnantBestsWrong)

/-- 'galloonlaw09.RemnantFits': WHATEVER THE INPUT: true; the input reads as it did. -/
def remnantFitsSpec : ChangeSpec := { name := "remnantFits", fn := fun _ => fun
  | [d1, d2] => { results := [.lit (.bool true)], args := [d1, d2] }
  | _ => none }
def remnantFitsRow : OpenClaim := { program := "ytcjglbipkghhnaa", sum := "16bab72d7a4d303148d29a194d55c6feef56b9a42615ccf449ba0ad13cafce0a", func := "galloon/galloonlaw09.RemnantFits", spec := "remnantFits", unfollowed := true, recurses := true, apart := false }
def RemnantFitsSaid : Prop := remnantFitsRow.holds Try.pinned (OpenSpec.ofChange remnantFitsSpec)

/-- ITS FALSE NEIGHBOUR: 'it returns false'. Refute it at one input. -/
def remnantFitsWrong : ChangeSpec := { name := "remnantFits", fn := fun _ => fun
  | [d1, d2] => { results := [.lit (.bool false)], args := [d1, d2] }
  | _ => none }
def RemnantFitsWrongFalsely : Prop := remnantFitsRow.holds Try.pinned (OpenSpec.ofChange remnantFitsWrong)

/-- 'galloonlaw09.RemnantHalf': WHATEVER THE INPUT: true; the input reads as it did. -/
def remnantHalfSpec : ChangeSpec := { name := "remnantHalf", fn := fun _ => fun
  | [d1, d2] => { results := [.lit (.bool true)], args := [d1, d2] }
  | _ => none }
def remnantHalfRow : OpenClaim := { program := "ytcjglbipkghhnaa", sum := "16bab72d7a4d303148d29a194d55c6feef56b9a42615ccf449ba0ad13cafce0a", func := "galloon/galloonlaw09.RemnantHalf", spec := "remnantHalf", unfollowed := true, recurses := true, apart := false }
def RemnantHalfSaid : Prop := remnantHalfRow.holds Try.pinned (OpenSpec.ofChange remnantHalfSpec)

/-- ITS FALSE NEIGHBOUR: 'it returns false'. Refute it at one input. -/
def remnantHalfWrong : ChangeSpec := { name := "remnantHalf", fn := fun _ => fun
  | [d1, d2] => { results := [.lit (.bool false)], args := [d1, d2] }
  | _ => none }
def RemnantHalfWrongFalsely : Prop := remnantHalfRow.holds Try.pinned (OpenSpec.ofChange remnantHalfWrong)

/-- 'galloonlaw09.RemnantMixed': WHATEVER THE INPUT: true; the input reads as it did. -/
def remnantMixedSpec : ChangeSpec := { name := "remnantMixed", fn := fun _ => fun
  | [d1, d2, d3] => { results := [.lit (.bool true)], args := [d1, d2, d3] }
  | _ => none }
def remnantMixedRow : OpenClaim := { program := "ytcjglbipkghhnaa", sum := "16bab72d7a4d303148d29a194d55c6feef56b9a42615ccf449ba0ad13cafce0a", func := "galloon/galloonlaw09.RemnantMixed", spec := "remnantMixed", unfollowed := true, recurses := true, apart := false }
def RemnantMixedSaid : Prop := remnantMixedRow.holds Try.pinned (OpenSpec.ofChange remnantMixedSpec)

/-- ITS FALSE NEIGHBOUR: 'it returns false'. Refute it at one input. -/
def remnantMixedWrong : ChangeSpec := { name := "remnantMixed", fn := fun _ => fun
  | [d1, d2, d3] => { results := [.lit (.bool false)], args := [d1, d2, d3] }
  | _ => none }
def RemnantMixedWrongFalsely : Prop := remnantMixedRow.holds Try.pinned (OpenSpec.ofChange remnantMixedWrong)

/-- 'galloonlaw09.RemnantScaled': WHATEVER THE INPUT: true; the input reads as it did. -/
def remnantScaledSpec : ChangeSpec := { name := "remnantScaled", fn := fun _ => fun
  | [d1, d2] => { results := [.lit (.bool true)], args := [d1, d2] }
  | _ => none }
def remnantScaledRow : OpenClaim := { program := "ytcjglbipkghhnaa", sum := "16bab72d7a4d303148d29a194d55c6feef56b9a42615ccf449ba0ad13cafce0a", func := "galloon/galloonlaw09.RemnantScaled", spec := "remnantScaled", unfollowed := true, recurses := true, apart := false }
def RemnantScaledSaid : Prop := remnantScaledRow.holds Try.pinned (OpenSpec.ofChange remnantScaledSpec)

/-- ITS FALSE NEIGHBOUR: 'it returns false'. Refute it at one input. -/
def remnantScaledWrong : ChangeSpec := { name := "remnantScaled", fn := fun _ => fun
  | [d1, d2] => { results := [.lit (.bool false)], args := [d1, d2] }
  | _ => none }
def RemnantScaledWrongFalsely : Prop := remnantScaledRow.holds Try.pinned (OpenSpec.ofChange remnantScaledWrong)

/-- 'galloonlaw09.RemnantOwn': WHATEVER THE INPUT: true; the input reads as it did. -/
def remnantOwnSpec : ChangeSpec := { name := "remnantOwn", fn := fun _ => fun
  | [d1, d2] => { results := [.lit (.bool true)], args := [d1, d2] }
  | _ => none }
def remnantOwnRow : OpenClaim := { program := "ytcjglbipkghhnaa", sum := "16bab72d7a4d303148d29a194d55c6feef56b9a42615ccf449ba0ad13cafce0a", func := "galloon/galloonlaw09.RemnantOwn", spec := "remnantOwn", unfollowed := true, recurses := true, apart := false }
def RemnantOwnSaid : Prop := remnantOwnRow.holds Try.pinned (OpenSpec.ofChange remnantOwnSpec)

/-- ITS FALSE NEIGHBOUR: 'it returns false'. Refute it at one input. -/
def remnantOwnWrong : ChangeSpec := { name := "remnantOwn", fn := fun _ => fun
  | [d1, d2] => { results := [.lit (.bool false)], args := [d1, d2] }
  | _ => none }
def RemnantOwnWrongFalsely : Prop := remnantOwnRow.holds Try.pinned (OpenSpec.ofChange remnantOwnWrong)

/- THE SECOND FORM. 'bulk': how many values and letters a reading holds, each counted each time it is reached (what is shared counts as often as it is met; a slice's spare places count too). A statement '..UptoSaid' is the law's where the arguments, and the package variables that the reading takes, are together of bulk at most 1048576: NARROWER than '..Said'. Prove '..Said' where nothing that the law and all that it calls make is longer than what came in: it says more and counts as full. Else prove '..UptoSaid'. A law counts once. -/
mutual
def uptoBulk {H : Type} : DataW H → Nat
  | .lit (.string bytes) => bytes.length + 1
  | .lit _ => 1
  | .nil => 1
  | .ptr d => uptoBulk d + 1
  | .slice elems spare => uptoBulkAll elems + uptoBulkAll spare + 1
  | .agg parts => uptoBulkAll parts + 1
  | .iface _ d => uptoBulk d + 1
  | .map entries => uptoBulkEntries entries + 1
  | .held _ => 1
def uptoBulkAll {H : Type} : List (DataW H) → Nat
  | [] => 0
  | d :: r => uptoBulk d + uptoBulkAll r
def uptoBulkEntries {H : Type} : List (Lit × DataW H) → Nat
  | [] => 0
  | x :: r => uptoBulkEntry x + uptoBulkEntries r
def uptoBulkEntry {H : Type} : Lit × DataW H → Nat
  | (.string bytes, d) => bytes.length + uptoBulk d + 1
  | (_, d) => uptoBulk d + 1
 end
def uptoSmall : (H : Type) → List (DataW H) → Bool := fun _ ds => decide (uptoBulkAll ds ≤ 1048576)
def OpenSpec.upto (s : _root_.Go.ChangeSpec) : _root_.Go.OpenSpec := { _root_.Go.OpenSpec.ofChange s with cond := some uptoSmall }

/-- 'galloonlaw09.RemnantWeighs', WHERE WHAT IT READS IS OF BULK AT MOST 1048576: true; the input reads as it did. -/
def remnantWeighsUptoRow : OpenClaim := { program := "ytcjglbipkghhnaa", sum := "16bab72d7a4d303148d29a194d55c6feef56b9a42615ccf449ba0ad13cafce0a", func := "galloon/galloonlaw09.RemnantWeighs", spec := "remnantWeighs", unfollowed := true, recurses := true, apart := false, narrowed := true }
def RemnantWeighsUptoSaid : Prop := remnantWeighsUptoRow.holds Try.pinned (OpenSpec.upto remnantWeighsSpec)

/-- 'galloonlaw09.RemnantSplits', WHERE WHAT IT READS IS OF BULK AT MOST 1048576: true; the input reads as it did. -/
def remnantSplitsUptoRow : OpenClaim := { program := "ytcjglbipkghhnaa", sum := "16bab72d7a4d303148d29a194d55c6feef56b9a42615ccf449ba0ad13cafce0a", func := "galloon/galloonlaw09.RemnantSplits", spec := "remnantSplits", unfollowed := true, recurses := true, apart := false, narrowed := true }
def RemnantSplitsUptoSaid : Prop := remnantSplitsUptoRow.holds Try.pinned (OpenSpec.upto remnantSplitsSpec)

/-- 'galloonlaw09.RemnantDivided', WHERE WHAT IT READS IS OF BULK AT MOST 1048576: true; the input reads as it did. -/
def remnantDividedUptoRow : OpenClaim := { program := "ytcjglbipkghhnaa", sum := "16bab72d7a4d303148d29a194d55c6feef56b9a42615ccf449ba0ad13cafce0a", func := "galloon/galloonlaw09.RemnantDivided", spec := "remnantDivided", unfollowed := true, recurses := true, apart := false, narrowed := true }
def RemnantDividedUptoSaid : Prop := remnantDividedUptoRow.holds Try.pinned (OpenSpec.upto remnantDividedSpec)

/-- 'galloonlaw09.RemnantFills', WHERE WHAT IT READS IS OF BULK AT MOST 1048576: true; the input reads as it did. -/
def remnantFillsUptoRow : OpenClaim := { program := "ytcjglbipkghhnaa", sum := "16bab72d7a4d303148d29a194d55c6feef56b9a42615ccf449ba0ad13cafce0a", func := "galloon/galloonlaw09.RemnantFills", spec := "remnantFills", unfollowed := true, recurses := true, apart := false, narrowed := true }
def RemnantFillsUptoSaid : Prop := remnantFillsUptoRow.holds Try.pinned (OpenSpec.upto remnantFillsSpec)

/-- 'galloonlaw09.RemnantBounds', WHERE WHAT IT READS IS OF BULK AT MOST 1048576: true; the input reads as it did. -/
def remnantBoundsUptoRow : OpenClaim := { program := "ytcjglbipkghhnaa", sum := "16bab72d7a4d303148d29a194d55c6feef56b9a42615ccf449ba0ad13cafce0a", func := "galloon/galloonlaw09.RemnantBounds", spec := "remnantBounds", unfollowed := true, recurses := true, apart := false, narrowed := true }
def RemnantBoundsUptoSaid : Prop := remnantBoundsUptoRow.holds Try.pinned (OpenSpec.upto remnantBoundsSpec)

/-- 'galloonlaw09.RemnantChecks', WHERE WHAT IT READS IS OF BULK AT MOST 1048576: true; the input reads as it did. -/
def remnantChecksUptoRow : OpenClaim := { program := "ytcjglbipkghhnaa", sum := "16bab72d7a4d303148d29a194d55c6feef56b9a42615ccf449ba0ad13cafce0a", func := "galloon/galloonlaw09.RemnantChecks", spec := "remnantChecks", unfollowed := true, recurses := true, apart := false, narrowed := true }
def RemnantChecksUptoSaid : Prop := remnantChecksUptoRow.holds Try.pinned (OpenSpec.upto remnantChecksSpec)

/-- 'galloonlaw09.RemnantMore', WHERE WHAT IT READS IS OF BULK AT MOST 1048576: true; the input reads as it did. -/
def remnantMoreUptoRow : OpenClaim := { program := "ytcjglbipkghhnaa", sum := "16bab72d7a4d303148d29a194d55c6feef56b9a42615ccf449ba0ad13cafce0a", func := "galloon/galloonlaw09.RemnantMore", spec := "remnantMore", unfollowed := true, recurses := true, apart := false, narrowed := true }
def RemnantMoreUptoSaid : Prop := remnantMoreUptoRow.holds Try.pinned (OpenSpec.upto remnantMoreSpec)

/-- 'galloonlaw09.RemnantBests', WHERE WHAT IT READS IS OF BULK AT MOST 1048576: true; the input reads as it did. -/
def remnantBestsUptoRow : OpenClaim := { program := "ytcjglbipkghhnaa", sum := "16bab72d7a4d303148d29a194d55c6feef56b9a42615ccf449ba0ad13cafce0a", func := "galloon/galloonlaw09.RemnantBests", spec := "remnantBests", unfollowed := true, recurses := true, apart := false, narrowed := true }
def RemnantBestsUptoSaid : Prop := remnantBestsUptoRow.holds Try.pinned (OpenSpec.upto remnantBestsSpec)

/-- 'galloonlaw09.RemnantFits', WHERE WHAT IT READS IS OF BULK AT MOST 1048576: true; the input reads as it did. -/
def remnantFitsUptoRow : OpenClaim := { program := "ytcjglbipkghhnaa", sum := "16bab72d7a4d303148d29a194d55c6feef56b9a42615ccf449ba0ad13cafce0a", func := "galloon/galloonlaw09.RemnantFits", spec := "remnantFits", unfollowed := true, recurses := true, apart := false, narrowed := true }
def RemnantFitsUptoSaid : Prop := remnantFitsUptoRow.holds Try.pinned (OpenSpec.upto remnantFitsSpec)

/-- 'galloonlaw09.RemnantHalf', WHERE WHAT IT READS IS OF BULK AT MOST 1048576: true; the input reads as it did. -/
def remnantHalfUptoRow : OpenClaim := { program := "ytcjglbipkghhnaa", sum := "16bab72d7a4d303148d29a194d55c6feef56b9a42615ccf449ba0ad13cafce0a", func := "galloon/galloonlaw09.RemnantHalf", spec := "remnantHalf", unfollowed := true, recurses := true, apart := false, narrowed := true }
def RemnantHalfUptoSaid : Prop := remnantHalfUptoRow.holds Try.pinned (OpenSpec.upto remnantHalfSpec)

/-- 'galloonlaw09.RemnantMixed', WHERE WHAT IT READS IS OF BULK AT MOST 1048576: true; the input reads as it did. -/
def remnantMixedUptoRow : OpenClaim := { program := "ytcjglbipkghhnaa", sum := "16bab72d7a4d303148d29a194d55c6feef56b9a42615ccf449ba0ad13cafce0a", func := "galloon/galloonlaw09.RemnantMixed", spec := "remnantMixed", unfollowed := true, recurses := true, apart := false, narrowed := true }
def RemnantMixedUptoSaid : Prop := remnantMixedUptoRow.holds Try.pinned (OpenSpec.upto remnantMixedSpec)

/-- 'galloonlaw09.RemnantScaled', WHERE WHAT IT READS IS OF BULK AT MOST 1048576: true; the input reads as it did. -/
def remnantScaledUptoRow : OpenClaim := { program := "ytcjglbipkghhnaa", sum := "16bab72d7a4d303148d29a194d55c6feef56b9a42615ccf449ba0ad13cafce0a", func := "galloon/galloonlaw09.RemnantScaled", spec := "remnantScaled", unfollowed := true, recurses := true, apart := false, narrowed := true }
def RemnantScaledUptoSaid : Prop := remnantScaledUptoRow.holds Try.pinned (OpenSpec.upto remnantScaledSpec)

/-- 'galloonlaw09.RemnantOwn', WHERE WHAT IT READS IS OF BULK AT MOST 1048576: true; the input reads as it did. -/
def remnantOwnUptoRow : OpenClaim := { program := "ytcjglbipkghhnaa", sum := "16bab72d7a4d303148d29a194d55c6feef56b9a42615ccf449ba0ad13cafce0a", func := "galloon/galloonlaw09.RemnantOwn", spec := "remnantOwn", unfollowed := true, recurses := true, apart := false, narrowed := true }
def RemnantOwnUptoSaid : Prop := remnantOwnUptoRow.holds Try.pinned (OpenSpec.upto remnantOwnSpec)

end Rows
end Go.Proofs.Ytcjglbipkghhnaa
