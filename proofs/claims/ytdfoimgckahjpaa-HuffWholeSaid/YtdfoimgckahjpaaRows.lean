/-
  No cell of these rows narrows 'for every input' (looked for: loops, veiled, ifaces, maps, wideKeys, modest, calm, conditions, laid).
  DERIVED. THE GIVEN ROWS OF THIS SEAT. 12 by the template 'for every input the law returns true; each argument reads behind the call as it read before'; 0 by the template 'total and deterministic' (their statements: YtdfoimgckahjpaaTotals.lean).
  GIVEN WITH THE SEED: the statements are not yours to turn. If you find one false, say at which input.
  Laid BY PROGRAM, IN A SANDBOX (cutbox-rows.mjs): the forced cells as the released guide's own fill.sh prints them over the translation 49234e0b709873ae… (all of the seat's roots in one cut). By AI agents, Wed Nov 11 2026. No macro, syntax, notation, axiom, sorry.
-/
import Derived.Test.YtdfoimgckahjpaaChecked
import GoSem.Claim
import GoSem.ClaimJoined
import GoSem.ClaimMapViews
import Derived.JoinedTies
import Derived.KernelRfl
namespace Go.Proofs.Ytdfoimgckahjpaa
/- THE CELL 'sum', in the pinned program and in every row, IS THE sha256 OF THE DUMP (.gsa) THAT YtdfoimgckahjpaaProg.lean LOADS. Nothing in Lean hashes anything: it is a label: what it is worth is what the hold of that sum in a sandbox is worth. -/
noncomputable def Try.pinned : Pinned := { name := "ytdfoimgckahjpaa", sum := "49234e0b709873aeff386402b088d033a5a87d49a3181c0add03d00dd4931d87", checked := Try.checked }
namespace Rows
def none {H : Type} : Left H := { results := [], args := [] }

/-- 'fairleadlaw1.BitsTurned': WHATEVER THE INPUT: true; the input reads as it did. -/
def bitsTurnedSpec : ChangeSpec := { name := "bitsTurned", fn := fun _ => fun
  | [d] => { results := [.lit (.bool true)], args := [d] }
  | _ => none }
def bitsTurnedRow : OpenClaim := { program := "ytdfoimgckahjpaa", sum := "49234e0b709873aeff386402b088d033a5a87d49a3181c0add03d00dd4931d87", func := "fairlead/fairleadlaw1.BitsTurned", spec := "bitsTurned", unfollowed := true, recurses := true, apart := false }
def BitsTurnedSaid : Prop := bitsTurnedRow.holds Try.pinned (OpenSpec.ofChange bitsTurnedSpec)

/-- ITS FALSE NEIGHBOUR: 'it returns false'. Refute it at one input. -/
def bitsTurnedWrong : ChangeSpec := { name := "bitsTurned", fn := fun _ => fun
  | [d] => { results := [.lit (.bool false)], args := [d] }
  | _ => none }
def BitsTurnedWrongFalsely : Prop := bitsTurnedRow.holds Try.pinned (OpenSpec.ofChange bitsTurnedWrong)

/-- 'fairleadlaw17.HuffKnown': WHATEVER THE INPUT: true; the input reads as it did. -/
def huffKnownSpec : ChangeSpec := { name := "huffKnown", fn := fun _ => fun
  | [] => { results := [.lit (.bool true)], args := [] }
  | _ => none }
def huffKnownRow : OpenClaim := { program := "ytdfoimgckahjpaa", sum := "49234e0b709873aeff386402b088d033a5a87d49a3181c0add03d00dd4931d87", func := "fairlead/fairleadlaw17.HuffKnown", spec := "huffKnown", unfollowed := true, recurses := true, apart := false }
def HuffKnownSaid : Prop := huffKnownRow.holds Try.pinned (OpenSpec.ofChange huffKnownSpec)

/-- ITS FALSE NEIGHBOUR: 'it returns false'. Refute it at one input. -/
def huffKnownWrong : ChangeSpec := { name := "huffKnown", fn := fun _ => fun
  | [] => { results := [.lit (.bool false)], args := [] }
  | _ => none }
def HuffKnownWrongFalsely : Prop := huffKnownRow.holds Try.pinned (OpenSpec.ofChange huffKnownWrong)

/-- 'fairleadlaw1.BitsKnown': WHATEVER THE INPUT: true; the input reads as it did. -/
def bitsKnownSpec : ChangeSpec := { name := "bitsKnown", fn := fun _ => fun
  | [] => { results := [.lit (.bool true)], args := [] }
  | _ => none }
def bitsKnownRow : OpenClaim := { program := "ytdfoimgckahjpaa", sum := "49234e0b709873aeff386402b088d033a5a87d49a3181c0add03d00dd4931d87", func := "fairlead/fairleadlaw1.BitsKnown", spec := "bitsKnown", unfollowed := true, recurses := true, apart := false }
def BitsKnownSaid : Prop := bitsKnownRow.holds Try.pinned (OpenSpec.ofChange bitsKnownSpec)

/-- ITS FALSE NEIGHBOUR: 'it returns false'. Refute it at one input. -/
def bitsKnownWrong : ChangeSpec := { name := "bitsKnown", fn := fun _ => fun
  | [] => { results := [.lit (.bool false)], args := [] }
  | _ => none }
def BitsKnownWrongFalsely : Prop := bitsKnownRow.holds Try.pinned (OpenSpec.ofChange bitsKnownWrong)

/-- 'fairleadlaw1.BitsParts': WHATEVER THE INPUT: true; the input reads as it did. -/
def bitsPartsSpec : ChangeSpec := { name := "bitsParts", fn := fun _ => fun
  | [d1, d2, d3] => { results := [.lit (.bool true)], args := [d1, d2, d3] }
  | _ => none }
def bitsPartsRow : OpenClaim := { program := "ytdfoimgckahjpaa", sum := "49234e0b709873aeff386402b088d033a5a87d49a3181c0add03d00dd4931d87", func := "fairlead/fairleadlaw1.BitsParts", spec := "bitsParts", unfollowed := true, recurses := true, apart := false }
def BitsPartsSaid : Prop := bitsPartsRow.holds Try.pinned (OpenSpec.ofChange bitsPartsSpec)

/-- ITS FALSE NEIGHBOUR: 'it returns false'. Refute it at one input. -/
def bitsPartsWrong : ChangeSpec := { name := "bitsParts", fn := fun _ => fun
  | [d1, d2, d3] => { results := [.lit (.bool false)], args := [d1, d2, d3] }
  | _ => none }
def BitsPartsWrongFalsely : Prop := bitsPartsRow.holds Try.pinned (OpenSpec.ofChange bitsPartsWrong)

/-- 'fairleadlaw1.BitsBack': WHATEVER THE INPUT: true; the input reads as it did. -/
def bitsBackSpec : ChangeSpec := { name := "bitsBack", fn := fun _ => fun
  | [d1, d2] => { results := [.lit (.bool true)], args := [d1, d2] }
  | _ => none }
def bitsBackRow : OpenClaim := { program := "ytdfoimgckahjpaa", sum := "49234e0b709873aeff386402b088d033a5a87d49a3181c0add03d00dd4931d87", func := "fairlead/fairleadlaw1.BitsBack", spec := "bitsBack", unfollowed := true, recurses := true, apart := false }
def BitsBackSaid : Prop := bitsBackRow.holds Try.pinned (OpenSpec.ofChange bitsBackSpec)

/-- ITS FALSE NEIGHBOUR: 'it returns false'. Refute it at one input. -/
def bitsBackWrong : ChangeSpec := { name := "bitsBack", fn := fun _ => fun
  | [d1, d2] => { results := [.lit (.bool false)], args := [d1, d2] }
  | _ => none }
def BitsBackWrongFalsely : Prop := bitsBackRow.holds Try.pinned (OpenSpec.ofChange bitsBackWrong)

/-- 'fairleadlaw1.BitsWrites': WHATEVER THE INPUT: true; the input reads as it did. -/
def bitsWritesSpec : ChangeSpec := { name := "bitsWrites", fn := fun _ => fun
  | [d1, d2] => { results := [.lit (.bool true)], args := [d1, d2] }
  | _ => none }
def bitsWritesRow : OpenClaim := { program := "ytdfoimgckahjpaa", sum := "49234e0b709873aeff386402b088d033a5a87d49a3181c0add03d00dd4931d87", func := "fairlead/fairleadlaw1.BitsWrites", spec := "bitsWrites", unfollowed := true, recurses := true, apart := false }
def BitsWritesSaid : Prop := bitsWritesRow.holds Try.pinned (OpenSpec.ofChange bitsWritesSpec)

/-- ITS FALSE NEIGHBOUR: 'it returns false'. Refute it at one input. -/
def bitsWritesWrong : ChangeSpec := { name := "bitsWrites", fn := fun _ => fun
  | [d1, d2] => { results := [.lit (.bool false)], args := [d1, d2] }
  | _ => none }
def BitsWritesWrongFalsely : Prop := bitsWritesRow.holds Try.pinned (OpenSpec.ofChange bitsWritesWrong)

/-- 'fairleadlaw1.BitsReads': WHATEVER THE INPUT: true; the input reads as it did. -/
def bitsReadsSpec : ChangeSpec := { name := "bitsReads", fn := fun _ => fun
  | [d1, d2, d3] => { results := [.lit (.bool true)], args := [d1, d2, d3] }
  | _ => none }
def bitsReadsRow : OpenClaim := { program := "ytdfoimgckahjpaa", sum := "49234e0b709873aeff386402b088d033a5a87d49a3181c0add03d00dd4931d87", func := "fairlead/fairleadlaw1.BitsReads", spec := "bitsReads", unfollowed := true, recurses := true, apart := false }
def BitsReadsSaid : Prop := bitsReadsRow.holds Try.pinned (OpenSpec.ofChange bitsReadsSpec)

/-- ITS FALSE NEIGHBOUR: 'it returns false'. Refute it at one input. -/
def bitsReadsWrong : ChangeSpec := { name := "bitsReads", fn := fun _ => fun
  | [d1, d2, d3] => { results := [.lit (.bool false)], args := [d1, d2, d3] }
  | _ => none }
def BitsReadsWrongFalsely : Prop := bitsReadsRow.holds Try.pinned (OpenSpec.ofChange bitsReadsWrong)

/-- 'fairleadlaw1.BitsAligns': WHATEVER THE INPUT: true; the input reads as it did. -/
def bitsAlignsSpec : ChangeSpec := { name := "bitsAligns", fn := fun _ => fun
  | [d1, d2, d3] => { results := [.lit (.bool true)], args := [d1, d2, d3] }
  | _ => none }
def bitsAlignsRow : OpenClaim := { program := "ytdfoimgckahjpaa", sum := "49234e0b709873aeff386402b088d033a5a87d49a3181c0add03d00dd4931d87", func := "fairlead/fairleadlaw1.BitsAligns", spec := "bitsAligns", unfollowed := true, recurses := true, apart := false }
def BitsAlignsSaid : Prop := bitsAlignsRow.holds Try.pinned (OpenSpec.ofChange bitsAlignsSpec)

/-- ITS FALSE NEIGHBOUR: 'it returns false'. Refute it at one input. -/
def bitsAlignsWrong : ChangeSpec := { name := "bitsAligns", fn := fun _ => fun
  | [d1, d2, d3] => { results := [.lit (.bool false)], args := [d1, d2, d3] }
  | _ => none }
def BitsAlignsWrongFalsely : Prop := bitsAlignsRow.holds Try.pinned (OpenSpec.ofChange bitsAlignsWrong)

/-- 'fairleadlaw17.HuffCodes': WHATEVER THE INPUT: true; the input reads as it did. -/
def huffCodesSpec : ChangeSpec := { name := "huffCodes", fn := fun _ => fun
  | [d1, d2] => { results := [.lit (.bool true)], args := [d1, d2] }
  | _ => none }
def huffCodesRow : OpenClaim := { program := "ytdfoimgckahjpaa", sum := "49234e0b709873aeff386402b088d033a5a87d49a3181c0add03d00dd4931d87", func := "fairlead/fairleadlaw17.HuffCodes", spec := "huffCodes", unfollowed := true, recurses := true, apart := false }
def HuffCodesSaid : Prop := huffCodesRow.holds Try.pinned (OpenSpec.ofChange huffCodesSpec)

/-- ITS FALSE NEIGHBOUR: 'it returns false'. Refute it at one input. -/
def huffCodesWrong : ChangeSpec := { name := "huffCodes", fn := fun _ => fun
  | [d1, d2] => { results := [.lit (.bool false)], args := [d1, d2] }
  | _ => none }
def HuffCodesWrongFalsely : Prop := huffCodesRow.holds Try.pinned (OpenSpec.ofChange huffCodesWrong)

/-- 'fairleadlaw17.HuffBack': WHATEVER THE INPUT: true; the input reads as it did. -/
def huffBackSpec : ChangeSpec := { name := "huffBack", fn := fun _ => fun
  | [d1, d2] => { results := [.lit (.bool true)], args := [d1, d2] }
  | _ => none }
def huffBackRow : OpenClaim := { program := "ytdfoimgckahjpaa", sum := "49234e0b709873aeff386402b088d033a5a87d49a3181c0add03d00dd4931d87", func := "fairlead/fairleadlaw17.HuffBack", spec := "huffBack", unfollowed := true, recurses := true, apart := false }
def HuffBackSaid : Prop := huffBackRow.holds Try.pinned (OpenSpec.ofChange huffBackSpec)

/-- ITS FALSE NEIGHBOUR: 'it returns false'. Refute it at one input. -/
def huffBackWrong : ChangeSpec := { name := "huffBack", fn := fun _ => fun
  | [d1, d2] => { results := [.lit (.bool false)], args := [d1, d2] }
  | _ => none }
def HuffBackWrongFalsely : Prop := huffBackRow.holds Try.pinned (OpenSpec.ofChange huffBackWrong)

/-- 'fairleadlaw17.HuffLengths': WHATEVER THE INPUT: true; the input reads as it did. -/
def huffLengthsSpec : ChangeSpec := { name := "huffLengths", fn := fun _ => fun
  | [d1, d2] => { results := [.lit (.bool true)], args := [d1, d2] }
  | _ => none }
def huffLengthsRow : OpenClaim := { program := "ytdfoimgckahjpaa", sum := "49234e0b709873aeff386402b088d033a5a87d49a3181c0add03d00dd4931d87", func := "fairlead/fairleadlaw17.HuffLengths", spec := "huffLengths", inPlace := ["slices.overlaps[fairlead/huff.node]"], unfollowed := true, recurses := true, apart := false }
def HuffLengthsSaid : Prop := huffLengthsRow.holds Try.pinned (OpenSpec.ofChange huffLengthsSpec)

/-- ITS FALSE NEIGHBOUR: 'it returns false'. Refute it at one input. -/
def huffLengthsWrong : ChangeSpec := { name := "huffLengths", fn := fun _ => fun
  | [d1, d2] => { results := [.lit (.bool false)], args := [d1, d2] }
  | _ => none }
def HuffLengthsWrongFalsely : Prop := huffLengthsRow.holds Try.pinned (OpenSpec.ofChange huffLengthsWrong)

/-- 'fairleadlaw17.HuffWhole': WHATEVER THE INPUT: true; the input reads as it did. -/
def huffWholeSpec : ChangeSpec := { name := "huffWhole", fn := fun _ => fun
  | [d] => { results := [.lit (.bool true)], args := [d] }
  | _ => none }
def huffWholeRow : OpenClaim := { program := "ytdfoimgckahjpaa", sum := "49234e0b709873aeff386402b088d033a5a87d49a3181c0add03d00dd4931d87", func := "fairlead/fairleadlaw17.HuffWhole", spec := "huffWhole", inPlace := ["slices.overlaps[fairlead/huff.node]"], unfollowed := true, recurses := true, apart := false }
def HuffWholeSaid : Prop := huffWholeRow.holds Try.pinned (OpenSpec.ofChange huffWholeSpec)

/-- ITS FALSE NEIGHBOUR: 'it returns false'. Refute it at one input. -/
def huffWholeWrong : ChangeSpec := { name := "huffWhole", fn := fun _ => fun
  | [d] => { results := [.lit (.bool false)], args := [d] }
  | _ => none }
def HuffWholeWrongFalsely : Prop := huffWholeRow.holds Try.pinned (OpenSpec.ofChange huffWholeWrong)

/- THE SECOND FORM. 'bulk': how many values and letters a reading holds, each counted each time it is reached (what is shared counts as often as it is met; a slice's spare places count too). A statement '..UptoSaid' is the law's where the arguments, and the package variables that the reading takes, are together of bulk at most 1048576: NARROWER than '..Said'. Prove '..Said' where nothing that the law and all that it calls make is longer than what came in: it says more and counts as full. Else prove '..UptoSaid'. A law counts once. -/
mutual
def uptoBulk {H : Type} : DataW H → Nat
  | .lit (.string bytes) => bytes.length + 1
  | .lit _ => 1
  | .nil => 1
  | .ptr d => uptoBulk d + 1
  | .slice elems spare => uptoBulkAll elems + uptoBulkAll spare + 1
  | .agg parts => uptoBulkAll parts + 1
  | .iface _ d => uptoBulk d + 1
  | .map entries => uptoBulkEntries entries + 1
  | .held _ => 1
def uptoBulkAll {H : Type} : List (DataW H) → Nat
  | [] => 0
  | d :: r => uptoBulk d + uptoBulkAll r
def uptoBulkEntries {H : Type} : List (Lit × DataW H) → Nat
  | [] => 0
  | x :: r => uptoBulkEntry x + uptoBulkEntries r
def uptoBulkEntry {H : Type} : Lit × DataW H → Nat
  | (.string bytes, d) => bytes.length + uptoBulk d + 1
  | (_, d) => uptoBulk d + 1
 end
def uptoSmall : (H : Type) → List (DataW H) → Bool := fun _ ds => decide (uptoBulkAll ds ≤ 1048576)
def OpenSpec.upto (s : _root_.Go.ChangeSpec) : _root_.Go.OpenSpec := { _root_.Go.OpenSpec.ofChange s with cond := some uptoSmall }

/-- 'fairleadlaw1.BitsTurned', WHERE WHAT IT READS IS OF BULK AT MOST 1048576: true; the input reads as it did. -/
def bitsTurnedUptoRow : OpenClaim := { program := "ytdfoimgckahjpaa", sum := "49234e0b709873aeff386402b088d033a5a87d49a3181c0add03d00dd4931d87", func := "fairlead/fairleadlaw1.BitsTurned", spec := "bitsTurned", unfollowed := true, recurses := true, apart := false, narrowed := true }
def BitsTurnedUptoSaid : Prop := bitsTurnedUptoRow.holds Try.pinned (OpenSpec.upto bitsTurnedSpec)

/-- 'fairleadlaw17.HuffKnown', WHERE WHAT IT READS IS OF BULK AT MOST 1048576: true; the input reads as it did. -/
def huffKnownUptoRow : OpenClaim := { program := "ytdfoimgckahjpaa", sum := "49234e0b709873aeff386402b088d033a5a87d49a3181c0add03d00dd4931d87", func := "fairlead/fairleadlaw17.HuffKnown", spec := "huffKnown", unfollowed := true, recurses := true, apart := false, narrowed := true }
def HuffKnownUptoSaid : Prop := huffKnownUptoRow.holds Try.pinned (OpenSpec.upto huffKnownSpec)

/-- 'fairleadlaw1.BitsKnown', WHERE WHAT IT READS IS OF BULK AT MOST 1048576: true; the input reads as it did. -/
def bitsKnownUptoRow : OpenClaim := { program := "ytdfoimgckahjpaa", sum := "49234e0b709873aeff386402b088d033a5a87d49a3181c0add03d00dd4931d87", func := "fairlead/fairleadlaw1.BitsKnown", spec := "bitsKnown", unfollowed := true, recurses := true, apart := false, narrowed := true }
def BitsKnownUptoSaid : Prop := bitsKnownUptoRow.holds Try.pinned (OpenSpec.upto bitsKnownSpec)

/-- 'fairleadlaw1.BitsParts', WHERE WHAT IT READS IS OF BULK AT MOST 1048576: true; the input reads as it did. -/
def bitsPartsUptoRow : OpenClaim := { program := "ytdfoimgckahjpaa", sum := "49234e0b709873aeff386402b088d033a5a87d49a3181c0add03d00dd4931d87", func := "fairlead/fairleadlaw1.BitsParts", spec := "bitsParts", unfollowed := true, recurses := true, apart := false, narrowed := true }
def BitsPartsUptoSaid : Prop := bitsPartsUptoRow.holds Try.pinned (OpenSpec.upto bitsPartsSpec)

/-- 'fairleadlaw1.BitsBack', WHERE WHAT IT READS IS OF BULK AT MOST 1048576: true; the input reads as it did. -/
def bitsBackUptoRow : OpenClaim := { program := "ytdfoimgckahjpaa", sum := "49234e0b709873aeff386402b088d033a5a87d49a3181c0add03d00dd4931d87", func := "fairlead/fairleadlaw1.BitsBack", spec := "bitsBack", unfollowed := true, recurses := true, apart := false, narrowed := true }
def BitsBackUptoSaid : Prop := bitsBackUptoRow.holds Try.pinned (OpenSpec.upto bitsBackSpec)

/-- 'fairleadlaw1.BitsWrites', WHERE WHAT IT READS IS OF BULK AT MOST 1048576: true; the input reads as it did. -/
def bitsWritesUptoRow : OpenClaim := { program := "ytdfoimgckahjpaa", sum := "49234e0b709873aeff386402b088d033a5a87d49a3181c0add03d00dd4931d87", func := "fairlead/fairleadlaw1.BitsWrites", spec := "bitsWrites", unfollowed := true, recurses := true, apart := false, narrowed := true }
def BitsWritesUptoSaid : Prop := bitsWritesUptoRow.holds Try.pinned (OpenSpec.upto bitsWritesSpec)

/-- 'fairleadlaw1.BitsReads', WHERE WHAT IT READS IS OF BULK AT MOST 1048576: true; the input reads as it did. -/
def bitsReadsUptoRow : OpenClaim := { program := "ytdfoimgckahjpaa", sum := "49234e0b709873aeff386402b088d033a5a87d49a3181c0add03d00dd4931d87", func := "fairlead/fairleadlaw1.BitsReads", spec := "bitsReads", unfollowed := true, recurses := true, apart := false, narrowed := true }
def BitsReadsUptoSaid : Prop := bitsReadsUptoRow.holds Try.pinned (OpenSpec.upto bitsReadsSpec)

/-- 'fairleadlaw1.BitsAligns', WHERE WHAT IT READS IS OF BULK AT MOST 1048576: true; the input reads as it did. -/
def bitsAlignsUptoRow : OpenClaim := { program := "ytdfoimgckahjpaa", sum := "49234e0b709873aeff386402b088d033a5a87d49a3181c0add03d00dd4931d87", func := "fairlead/fairleadlaw1.BitsAligns", spec := "bitsAligns", unfollowed := true, recurses := true, apart := false, narrowed := true }
def BitsAlignsUptoSaid : Prop := bitsAlignsUptoRow.holds Try.pinned (OpenSpec.upto bitsAlignsSpec)

/-- 'fairleadlaw17.HuffCodes', WHERE WHAT IT READS IS OF BULK AT MOST 1048576: true; the input reads as it did. -/
def huffCodesUptoRow : OpenClaim := { program := "ytdfoimgckahjpaa", sum := "49234e0b709873aeff386402b088d033a5a87d49a3181c0add03d00dd4931d87", func := "fairlead/fairleadlaw17.HuffCodes", spec := "huffCodes", unfollowed := true, recurses := true, apart := false, narrowed := true }
def HuffCodesUptoSaid : Prop := huffCodesUptoRow.holds Try.pinned (OpenSpec.upto huffCodesSpec)

/-- 'fairleadlaw17.HuffBack', WHERE WHAT IT READS IS OF BULK AT MOST 1048576: true; the input reads as it did. -/
def huffBackUptoRow : OpenClaim := { program := "ytdfoimgckahjpaa", sum := "49234e0b709873aeff386402b088d033a5a87d49a3181c0add03d00dd4931d87", func := "fairlead/fairleadlaw17.HuffBack", spec := "huffBack", unfollowed := true, recurses := true, apart := false, narrowed := true }
def HuffBackUptoSaid : Prop := huffBackUptoRow.holds Try.pinned (OpenSpec.upto huffBackSpec)

/-- 'fairleadlaw17.HuffLengths', WHERE WHAT IT READS IS OF BULK AT MOST 1048576: true; the input reads as it did. -/
def huffLengthsUptoRow : OpenClaim := { program := "ytdfoimgckahjpaa", sum := "49234e0b709873aeff386402b088d033a5a87d49a3181c0add03d00dd4931d87", func := "fairlead/fairleadlaw17.HuffLengths", spec := "huffLengths", inPlace := ["slices.overlaps[fairlead/huff.node]"], unfollowed := true, recurses := true, apart := false, narrowed := true }
def HuffLengthsUptoSaid : Prop := huffLengthsUptoRow.holds Try.pinned (OpenSpec.upto huffLengthsSpec)

/-- 'fairleadlaw17.HuffWhole', WHERE WHAT IT READS IS OF BULK AT MOST 1048576: true; the input reads as it did. -/
def huffWholeUptoRow : OpenClaim := { program := "ytdfoimgckahjpaa", sum := "49234e0b709873aeff386402b088d033a5a87d49a3181c0add03d00dd4931d87", func := "fairlead/fairleadlaw17.HuffWhole", spec := "huffWhole", inPlace := ["slices.overlaps[fairlead/huff.node]"], unfollowed := true, recurses := true, apart := false, narrowed := true }
def HuffWholeUptoSaid : Prop := huffWholeUptoRow.holds Try.pinned (OpenSpec.upto huffWholeSpec)

end Rows
end Go.Proofs.Ytdfoimgckahjpaa
