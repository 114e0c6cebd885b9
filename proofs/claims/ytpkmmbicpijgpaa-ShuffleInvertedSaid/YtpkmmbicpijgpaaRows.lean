/-
  No cell of these rows narrows 'for every input' (looked for: loops, veiled, ifaces, maps, wideKeys, modest, calm, conditions, laid).
  DERIVED. THE GIVEN ROWS OF THIS SEAT. 3 by the template 'for every input the law returns true; each argument reads behind the call as it read before'; 0 by the template 'total and deterministic' (their statements: YtpkmmbicpijgpaaTotals.lean).
  GIVEN WITH THE SEED: the statements are not yours to turn. If you find one false, say at which input.
  Laid BY PROGRAM, IN A SANDBOX (cutbox-rows.mjs): the forced cells as the released guide's own fill.sh prints them over the translation 3dce99d8e9eb3206… (all of the seat's roots in one cut). By AI agents, Wed Nov 11 2026. No macro, syntax, notation, axiom, sorry.
-/
import Derived.Test.YtpkmmbicpijgpaaChecked
import GoSem.Claim
import GoSem.ClaimJoined
import GoSem.ClaimMapViews
import Derived.JoinedTies
import Derived.KernelRfl
namespace Go.Proofs.Ytpkmmbicpijgpaa
/- THE CELL 'sum', in the pinned program and in every row, IS THE sha256 OF THE DUMP (.gsa) THAT YtpkmmbicpijgpaaProg.lean LOADS. Nothing in Lean hashes anything: it is a label: what it is worth is what the hold of that sum in a sandbox is worth. -/
noncomputable def Try.pinned : Pinned := { name := "ytpkmmbicpijgpaa", sum := "3dce99d8e9eb3206545eaa8236a4edd47f1bf7daab9dfdb126995eff282e43bd", checked := Try.checked }
namespace Rows
def none {H : Type} : Left H := { results := [], args := [] }

/-- 'galloonlaw06.ShuffleOwn': WHATEVER THE INPUT: true; the input reads as it did. -/
def shuffleOwnSpec : ChangeSpec := { name := "shuffleOwn", fn := fun _ => fun
  | [d1, d2] => { results := [.lit (.bool true)], args := [d1, d2] }
  | _ => none }
def shuffleOwnRow : OpenClaim := { program := "ytpkmmbicpijgpaa", sum := "3dce99d8e9eb3206545eaa8236a4edd47f1bf7daab9dfdb126995eff282e43bd", func := "galloon/galloonlaw06.ShuffleOwn", spec := "shuffleOwn", unfollowed := true, recurses := true, apart := false }
def ShuffleOwnSaid : Prop := shuffleOwnRow.holds Try.pinned (OpenSpec.ofChange shuffleOwnSpec)

/-- ITS FALSE NEIGHBOUR: 'it returns false'. Refute it at one input. -/
def shuffleOwnWrong : ChangeSpec := { name := "shuffleOwn", fn := fun _ => fun
  | [d1, d2] => { results := [.lit (.bool false)], args := [d1, d2] }
  | _ => none }
def ShuffleOwnWrongFalsely : Prop := shuffleOwnRow.holds Try.pinned (OpenSpec.ofChange shuffleOwnWrong)

/-- 'galloonlaw06.ShuffleForms': WHATEVER THE INPUT: true; the input reads as it did. -/
def shuffleFormsSpec : ChangeSpec := { name := "shuffleForms", fn := fun _ => fun
  | [d1, d2] => { results := [.lit (.bool true)], args := [d1, d2] }
  | _ => none }
def shuffleFormsRow : OpenClaim := { program := "ytpkmmbicpijgpaa", sum := "3dce99d8e9eb3206545eaa8236a4edd47f1bf7daab9dfdb126995eff282e43bd", func := "galloon/galloonlaw06.ShuffleForms", spec := "shuffleForms", unfollowed := true, recurses := true, apart := false }
def ShuffleFormsSaid : Prop := shuffleFormsRow.holds Try.pinned (OpenSpec.ofChange shuffleFormsSpec)

/-- ITS FALSE NEIGHBOUR: 'it returns false'. Refute it at one input. -/
def shuffleFormsWrong : ChangeSpec := { name := "shuffleForms", fn := fun _ => fun
  | [d1, d2] => { results := [.lit (.bool false)], args := [d1, d2] }
  | _ => none }
def ShuffleFormsWrongFalsely : Prop := shuffleFormsRow.holds Try.pinned (OpenSpec.ofChange shuffleFormsWrong)

/-- 'galloonlaw06.ShuffleInverted': WHATEVER THE INPUT: true; the input reads as it did. -/
def shuffleInvertedSpec : ChangeSpec := { name := "shuffleInverted", fn := fun _ => fun
  | [d1, d2] => { results := [.lit (.bool true)], args := [d1, d2] }
  | _ => none }
def shuffleInvertedRow : OpenClaim := { program := "ytpkmmbicpijgpaa", sum := "3dce99d8e9eb3206545eaa8236a4edd47f1bf7daab9dfdb126995eff282e43bd", func := "galloon/galloonlaw06.ShuffleInverted", spec := "shuffleInverted", unfollowed := true, recurses := true, apart := false }
def ShuffleInvertedSaid : Prop := shuffleInvertedRow.holds Try.pinned (OpenSpec.ofChange shuffleInvertedSpec)

/-- ITS FALSE NEIGHBOUR: 'it returns false'. Refute it at one input. -/
def shuffleInvertedWrong : ChangeSpec := { name := "shuffleInverted", fn := fun _ => fun
  | [d1, d2] => { results := [.lit (.bool false)], args := [d1, d2] }
  | _ => none }
def ShuffleInvertedWrongFalsely : Prop := shuffleInvertedRow.holds Try.pinned (OpenSpec.ofChange shuffleInvertedWrong)

/- THE SECOND FORM. 'bulk': how many values and letters a reading holds, each counted each time it is reached (what is shared counts as often as it is met; a slice's spare places count too). A statement '..UptoSaid' is the law's where the arguments, and the package variables that the reading takes, are together of bulk at most 1048576: NARROWER than '..Said'. Prove '..Said' where nothing that the law and all that it calls make is longer than what came in: it says more and counts as full. Else prove '..UptoSaid'. A law counts once. -/
mutual
def uptoBulk {H : Type} : DataW H → Nat
  | .lit (.string bytes) => bytes.length + 1
  | .lit _ => 1
  | .nil => 1
  | .ptr d => uptoBulk d + 1
  | .slice elems spare => uptoBulkAll elems + uptoBulkAll spare + 1
  | .agg parts => uptoBulkAll parts + 1
  | .iface _ d => uptoBulk d + 1
  | .map entries => uptoBulkEntries entries + 1
  | .held _ => 1
def uptoBulkAll {H : Type} : List (DataW H) → Nat
  | [] => 0
  | d :: r => uptoBulk d + uptoBulkAll r
def uptoBulkEntries {H : Type} : List (Lit × DataW H) → Nat
  | [] => 0
  | x :: r => uptoBulkEntry x + uptoBulkEntries r
def uptoBulkEntry {H : Type} : Lit × DataW H → Nat
  | (.string bytes, d) => bytes.length + uptoBulk d + 1
  | (_, d) => uptoBulk d + 1
 end
def uptoSmall : (H : Type) → List (DataW H) → Bool := fun _ ds => decide (uptoBulkAll ds ≤ 1048576)
def OpenSpec.upto (s : _root_.Go.ChangeSpec) : _root_.Go.OpenSpec := { _root_.Go.OpenSpec.ofChange s with cond := some uptoSmall }

/-- 'galloonlaw06.ShuffleOwn', WHERE WHAT IT READS IS OF BULK AT MOST 1048576: true; the input reads as it did. -/
def shuffleOwnUptoRow : OpenClaim := { program := "ytpkmmbicpijgpaa", sum := "3dce99d8e9eb3206545eaa8236a4edd47f1bf7daab9dfdb126995eff282e43bd", func := "galloon/galloonlaw06.ShuffleOwn", spec := "shuffleOwn", unfollowed := true, recurses := true, apart := false, narrowed := true }
def ShuffleOwnUptoSaid : Prop := shuffleOwnUptoRow.holds Try.pinned (OpenSpec.upto shuffleOwnSpec)

/-- 'galloonlaw06.ShuffleForms', WHERE WHAT IT READS IS OF BULK AT MOST 1048576: true; the input reads as it did. -/
def shuffleFormsUptoRow : OpenClaim := { program := "ytpkmmbicpijgpaa", sum := "3dce99d8e9eb3206545eaa8236a4edd47f1bf7daab9dfdb126995eff282e43bd", func := "galloon/galloonlaw06.ShuffleForms", spec := "shuffleForms", unfollowed := true, recurses := true, apart := false, narrowed := true }
def ShuffleFormsUptoSaid : Prop := shuffleFormsUptoRow.holds Try.pinned (OpenSpec.upto shuffleFormsSpec)

/-- 'galloonlaw06.ShuffleInverted', WHERE WHAT IT READS IS OF BULK AT MOST 1048576: true; the input reads as it did. -/
def shuffleInvertedUptoRow : OpenClaim := { program := "ytpkmmbicpijgpaa", sum := "3dce99d8e9eb3206545eaa8236a4edd47f1bf7daab9dfdb126995eff282e43bd", func := "galloon/galloonlaw06.ShuffleInverted", spec := "shuffleInverted", unfollowed := true, recurses := true, apart := false, narrowed := true }
def ShuffleInvertedUptoSaid : Prop := shuffleInvertedUptoRow.holds Try.pinned (OpenSpec.upto shuffleInvertedSpec)

end Rows
end Go.Proofs.Ytpkmmbicpijgpaa
