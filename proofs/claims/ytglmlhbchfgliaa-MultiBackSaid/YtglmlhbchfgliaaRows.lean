/-
  No cell of these rows narrows 'for every input' (looked for: loops, veiled, ifaces, maps, wideKeys, modest, calm, conditions, laid).
  DERIVED. THE GIVEN ROWS OF THIS SEAT. 9 by the template 'for every input the law returns true; each argument reads behind the call as it read before'; 0 by the template 'total and deterministic' (their statements: YtglmlhbchfgliaaTotals.lean).
  GIVEN WITH THE SEED: the statements are not yours to turn. If you find one false, say at which input.
  Laid BY PROGRAM, IN A SANDBOX (cutbox-rows.mjs): the forced cells as the released guide's own fill.sh prints them over the translation 9b03fc9eb904018b… (all of the seat's roots in one cut). By AI agents, Wed Nov 11 2026. No macro, syntax, notation, axiom, sorry.
-/
import Derived.Test.YtglmlhbchfgliaaChecked
import GoSem.Claim
import GoSem.ClaimJoined
import GoSem.ClaimMapViews
import Derived.JoinedTies
import Derived.KernelRfl
namespace Go.Proofs.Ytglmlhbchfgliaa
/- THE CELL 'sum', in the pinned program and in every row, IS THE sha256 OF THE DUMP (.gsa) THAT YtglmlhbchfgliaaProg.lean LOADS. Nothing in Lean hashes anything: it is a label: what it is worth is what the hold of that sum in a sandbox is worth. -/
noncomputable def Try.pinned : Pinned := { name := "ytglmlhbchfgliaa", sum := "9b03fc9eb904018bab3b98d40d10286e2ca9cbadffefced3febaeba83346fe7d", checked := Try.checked }
namespace Rows
def none {H : Type} : Left H := { results := [], args := [] }

/-- 'fairleadlaw23.MultiKnown': WHATEVER THE INPUT: true; the input reads as it did. -/
def multiKnownSpec : ChangeSpec := { name := "multiKnown", fn := fun _ => fun
  | [] => { results := [.lit (.bool true)], args := [] }
  | _ => none }
def multiKnownRow : OpenClaim := { program := "ytglmlhbchfgliaa", sum := "9b03fc9eb904018bab3b98d40d10286e2ca9cbadffefced3febaeba83346fe7d", func := "fairlead/fairleadlaw23.MultiKnown", spec := "multiKnown", unfollowed := true, recurses := true, apart := false }
def MultiKnownSaid : Prop := multiKnownRow.holds Try.pinned (OpenSpec.ofChange multiKnownSpec)

/-- ITS FALSE NEIGHBOUR: 'it returns false'. Refute it at one input. -/
def multiKnownWrong : ChangeSpec := { name := "multiKnown", fn := fun _ => fun
  | [] => { results := [.lit (.bool false)], args := [] }
  | _ => none }
def MultiKnownWrongFalsely : Prop := multiKnownRow.holds Try.pinned (OpenSpec.ofChange multiKnownWrong)

/-- 'fairleadlaw23.MultiCuts': WHATEVER THE INPUT: true; the input reads as it did. -/
def multiCutsSpec : ChangeSpec := { name := "multiCuts", fn := fun _ => fun
  | [d1, d2, d3] => { results := [.lit (.bool true)], args := [d1, d2, d3] }
  | _ => none }
def multiCutsRow : OpenClaim := { program := "ytglmlhbchfgliaa", sum := "9b03fc9eb904018bab3b98d40d10286e2ca9cbadffefced3febaeba83346fe7d", func := "fairlead/fairleadlaw23.MultiCuts", spec := "multiCuts", unfollowed := true, recurses := true, apart := false }
def MultiCutsSaid : Prop := multiCutsRow.holds Try.pinned (OpenSpec.ofChange multiCutsSpec)

/-- ITS FALSE NEIGHBOUR: 'it returns false'. Refute it at one input. -/
def multiCutsWrong : ChangeSpec := { name := "multiCuts", fn := fun _ => fun
  | [d1, d2, d3] => { results := [.lit (.bool false)], args := [d1, d2, d3] }
  | _ => none }
def MultiCutsWrongFalsely : Prop := multiCutsRow.holds Try.pinned (OpenSpec.ofChange multiCutsWrong)

/-- 'fairleadlaw23.MultiLost': WHATEVER THE INPUT: true; the input reads as it did. -/
def multiLostSpec : ChangeSpec := { name := "multiLost", fn := fun _ => fun
  | [d1, d2, d3] => { results := [.lit (.bool true)], args := [d1, d2, d3] }
  | _ => none }
def multiLostRow : OpenClaim := { program := "ytglmlhbchfgliaa", sum := "9b03fc9eb904018bab3b98d40d10286e2ca9cbadffefced3febaeba83346fe7d", func := "fairlead/fairleadlaw23.MultiLost", spec := "multiLost", unfollowed := true, recurses := true, apart := false }
def MultiLostSaid : Prop := multiLostRow.holds Try.pinned (OpenSpec.ofChange multiLostSpec)

/-- ITS FALSE NEIGHBOUR: 'it returns false'. Refute it at one input. -/
def multiLostWrong : ChangeSpec := { name := "multiLost", fn := fun _ => fun
  | [d1, d2, d3] => { results := [.lit (.bool false)], args := [d1, d2, d3] }
  | _ => none }
def MultiLostWrongFalsely : Prop := multiLostRow.holds Try.pinned (OpenSpec.ofChange multiLostWrong)

/-- 'fairleadlaw23.MultiSame': WHATEVER THE INPUT: true; the input reads as it did. -/
def multiSameSpec : ChangeSpec := { name := "multiSame", fn := fun _ => fun
  | [d1, d2, d3] => { results := [.lit (.bool true)], args := [d1, d2, d3] }
  | _ => none }
def multiSameRow : OpenClaim := { program := "ytglmlhbchfgliaa", sum := "9b03fc9eb904018bab3b98d40d10286e2ca9cbadffefced3febaeba83346fe7d", func := "fairlead/fairleadlaw23.MultiSame", spec := "multiSame", unfollowed := true, recurses := true, apart := false }
def MultiSameSaid : Prop := multiSameRow.holds Try.pinned (OpenSpec.ofChange multiSameSpec)

/-- ITS FALSE NEIGHBOUR: 'it returns false'. Refute it at one input. -/
def multiSameWrong : ChangeSpec := { name := "multiSame", fn := fun _ => fun
  | [d1, d2, d3] => { results := [.lit (.bool false)], args := [d1, d2, d3] }
  | _ => none }
def MultiSameWrongFalsely : Prop := multiSameRow.holds Try.pinned (OpenSpec.ofChange multiSameWrong)

/-- 'fairleadlaw23.MultiBack': WHATEVER THE INPUT: true; the input reads as it did. -/
def multiBackSpec : ChangeSpec := { name := "multiBack", fn := fun _ => fun
  | [d1, d2, d3] => { results := [.lit (.bool true)], args := [d1, d2, d3] }
  | _ => none }
def multiBackRow : OpenClaim := { program := "ytglmlhbchfgliaa", sum := "9b03fc9eb904018bab3b98d40d10286e2ca9cbadffefced3febaeba83346fe7d", func := "fairlead/fairleadlaw23.MultiBack", spec := "multiBack", unfollowed := true, recurses := true, apart := false }
def MultiBackSaid : Prop := multiBackRow.holds Try.pinned (OpenSpec.ofChange multiBackSpec)

/-- ITS FALSE NEIGHBOUR: 'it returns false'. Refute it at one input. -/
def multiBackWrong : ChangeSpec := { name := "multiBack", fn := fun _ => fun
  | [d1, d2, d3] => { results := [.lit (.bool false)], args := [d1, d2, d3] }
  | _ => none }
def MultiBackWrongFalsely : Prop := multiBackRow.holds Try.pinned (OpenSpec.ofChange multiBackWrong)

/-- 'fairleadlaw23.MultiOver': WHATEVER THE INPUT: true; the input reads as it did. -/
def multiOverSpec : ChangeSpec := { name := "multiOver", fn := fun _ => fun
  | [d1, d2] => { results := [.lit (.bool true)], args := [d1, d2] }
  | _ => none }
def multiOverRow : OpenClaim := { program := "ytglmlhbchfgliaa", sum := "9b03fc9eb904018bab3b98d40d10286e2ca9cbadffefced3febaeba83346fe7d", func := "fairlead/fairleadlaw23.MultiOver", spec := "multiOver", unfollowed := true, recurses := true, apart := false }
def MultiOverSaid : Prop := multiOverRow.holds Try.pinned (OpenSpec.ofChange multiOverSpec)

/-- ITS FALSE NEIGHBOUR: 'it returns false'. Refute it at one input. -/
def multiOverWrong : ChangeSpec := { name := "multiOver", fn := fun _ => fun
  | [d1, d2] => { results := [.lit (.bool false)], args := [d1, d2] }
  | _ => none }
def MultiOverWrongFalsely : Prop := multiOverRow.holds Try.pinned (OpenSpec.ofChange multiOverWrong)

/-- 'fairleadlaw23.MultiJoins': WHATEVER THE INPUT: true; the input reads as it did. -/
def multiJoinsSpec : ChangeSpec := { name := "multiJoins", fn := fun _ => fun
  | [d1, d2, d3] => { results := [.lit (.bool true)], args := [d1, d2, d3] }
  | _ => none }
def multiJoinsRow : OpenClaim := { program := "ytglmlhbchfgliaa", sum := "9b03fc9eb904018bab3b98d40d10286e2ca9cbadffefced3febaeba83346fe7d", func := "fairlead/fairleadlaw23.MultiJoins", spec := "multiJoins", unfollowed := true, recurses := true, apart := false }
def MultiJoinsSaid : Prop := multiJoinsRow.holds Try.pinned (OpenSpec.ofChange multiJoinsSpec)

/-- ITS FALSE NEIGHBOUR: 'it returns false'. Refute it at one input. -/
def multiJoinsWrong : ChangeSpec := { name := "multiJoins", fn := fun _ => fun
  | [d1, d2, d3] => { results := [.lit (.bool false)], args := [d1, d2, d3] }
  | _ => none }
def MultiJoinsWrongFalsely : Prop := multiJoinsRow.holds Try.pinned (OpenSpec.ofChange multiJoinsWrong)

/-- 'fairleadlaw23.MultiRound': WHATEVER THE INPUT: true; the input reads as it did. -/
def multiRoundSpec : ChangeSpec := { name := "multiRound", fn := fun _ => fun
  | [d1, d2] => { results := [.lit (.bool true)], args := [d1, d2] }
  | _ => none }
def multiRoundRow : OpenClaim := { program := "ytglmlhbchfgliaa", sum := "9b03fc9eb904018bab3b98d40d10286e2ca9cbadffefced3febaeba83346fe7d", func := "fairlead/fairleadlaw23.MultiRound", spec := "multiRound", unfollowed := true, recurses := true, apart := false }
def MultiRoundSaid : Prop := multiRoundRow.holds Try.pinned (OpenSpec.ofChange multiRoundSpec)

/-- ITS FALSE NEIGHBOUR: 'it returns false'. Refute it at one input. -/
def multiRoundWrong : ChangeSpec := { name := "multiRound", fn := fun _ => fun
  | [d1, d2] => { results := [.lit (.bool false)], args := [d1, d2] }
  | _ => none }
def MultiRoundWrongFalsely : Prop := multiRoundRow.holds Try.pinned (OpenSpec.ofChange multiRoundWrong)

/-- 'fairleadlaw23.MultiTwins': WHATEVER THE INPUT: true; the input reads as it did. -/
def multiTwinsSpec : ChangeSpec := { name := "multiTwins", fn := fun _ => fun
  | [d1, d2, d3] => { results := [.lit (.bool true)], args := [d1, d2, d3] }
  | _ => none }
def multiTwinsRow : OpenClaim := { program := "ytglmlhbchfgliaa", sum := "9b03fc9eb904018bab3b98d40d10286e2ca9cbadffefced3febaeba83346fe7d", func := "fairlead/fairleadlaw23.MultiTwins", spec := "multiTwins", unfollowed := true, recurses := true, apart := false }
def MultiTwinsSaid : Prop := multiTwinsRow.holds Try.pinned (OpenSpec.ofChange multiTwinsSpec)

/-- ITS FALSE NEIGHBOUR: 'it returns false'. Refute it at one input. -/
def multiTwinsWrong : ChangeSpec := { name := "multiTwins", fn := fun _ => fun
  | [d1, d2, d3] => { results := [.lit (.bool false)], args := [d1, d2, d3] }
  | _ => none }
def MultiTwinsWrongFalsely : Prop := multiTwinsRow.holds Try.pinned (OpenSpec.ofChange multiTwinsWrong)

/- THE SECOND FORM. 'bulk': how many values and letters a reading holds, each counted each time it is reached (what is shared counts as often as it is met; a slice's spare places count too). A statement '..UptoSaid' is the law's where the arguments, and the package variables that the reading takes, are together of bulk at most 1048576: NARROWER than '..Said'. Prove '..Said' where nothing that the law and all that it calls make is longer than what came in: it says more and counts as full. Else prove '..UptoSaid'. A law counts once. -/
mutual
def uptoBulk {H : Type} : DataW H → Nat
  | .lit (.string bytes) => bytes.length + 1
  | .lit _ => 1
  | .nil => 1
  | .ptr d => uptoBulk d + 1
  | .slice elems spare => uptoBulkAll elems + uptoBulkAll spare + 1
  | .agg parts => uptoBulkAll parts + 1
  | .iface _ d => uptoBulk d + 1
  | .map entries => uptoBulkEntries entries + 1
  | .held _ => 1
def uptoBulkAll {H : Type} : List (DataW H) → Nat
  | [] => 0
  | d :: r => uptoBulk d + uptoBulkAll r
def uptoBulkEntries {H : Type} : List (Lit × DataW H) → Nat
  | [] => 0
  | x :: r => uptoBulkEntry x + uptoBulkEntries r
def uptoBulkEntry {H : Type} : Lit × DataW H → Nat
  | (.string bytes, d) => bytes.length + uptoBulk d + 1
  | (_, d) => uptoBulk d + 1
 end
def uptoSmall : (H : Type) → List (DataW H) → Bool := fun _ ds => decide (uptoBulkAll ds ≤ 1048576)
def OpenSpec.upto (s : _root_.Go.ChangeSpec) : _root_.Go.OpenSpec := { _root_.Go.OpenSpec.ofChange s with cond := some uptoSmall }

/-- 'fairleadlaw23.MultiKnown', WHERE WHAT IT READS IS OF BULK AT MOST 1048576: true; the input reads as it did. -/
def multiKnownUptoRow : OpenClaim := { program := "ytglmlhbchfgliaa", sum := "9b03fc9eb904018bab3b98d40d10286e2ca9cbadffefced3febaeba83346fe7d", func := "fairlead/fairleadlaw23.MultiKnown", spec := "multiKnown", unfollowed := true, recurses := true, apart := false, narrowed := true }
def MultiKnownUptoSaid : Prop := multiKnownUptoRow.holds Try.pinned (OpenSpec.upto multiKnownSpec)

/-- 'fairleadlaw23.MultiCuts', WHERE WHAT IT READS IS OF BULK AT MOST 1048576: true; the input reads as it did. -/
def multiCutsUptoRow : OpenClaim := { program := "ytglmlhbchfgliaa", sum := "9b03fc9eb904018bab3b98d40d10286e2ca9cbadffefced3febaeba83346fe7d", func := "fairlead/fairleadlaw23.MultiCuts", spec := "multiCuts", unfollowed := true, recurses := true, apart := false, narrowed := true }
def MultiCutsUptoSaid : Prop := multiCutsUptoRow.holds Try.pinned (OpenSpec.upto multiCutsSpec)

/-- 'fairleadlaw23.MultiLost', WHERE WHAT IT READS IS OF BULK AT MOST 1048576: true; the input reads as it did. -/
def multiLostUptoRow : OpenClaim := { program := "ytglmlhbchfgliaa", sum := "9b03fc9eb904018bab3b98d40d10286e2ca9cbadffefced3febaeba83346fe7d", func := "fairlead/fairleadlaw23.MultiLost", spec := "multiLost", unfollowed := true, recurses := true, apart := false, narrowed := true }
def MultiLostUptoSaid : Prop := multiLostUptoRow.holds Try.pinned (OpenSpec.upto multiLostSpec)

/-- 'fairleadlaw23.MultiSame', WHERE WHAT IT READS IS OF BULK AT MOST 1048576: true; the input reads as it did. -/
def multiSameUptoRow : OpenClaim := { program := "ytglmlhbchfgliaa", sum := "9b03fc9eb904018bab3b98d40d10286e2ca9cbadffefced3febaeba83346fe7d", func := "fairlead/fairleadlaw23.MultiSame", spec := "multiSame", unfollowed := true, recurses := true, apart := false, narrowed := true }
def MultiSameUptoSaid : Prop := multiSameUptoRow.holds Try.pinned (OpenSpec.upto multiSameSpec)

/-- 'fairleadlaw23.MultiBack', WHERE WHAT IT READS IS OF BULK AT MOST 1048576: true; the input reads as it did. -/
def multiBackUptoRow : OpenClaim := { program := "ytglmlhbchfgliaa", sum := "9b03fc9eb904018bab3b98d40d10286e2ca9cbadffefced3febaeba83346fe7d", func := "fairlead/fairleadlaw23.MultiBack", spec := "multiBack", unfollowed := true, recurses := true, apart := false, narrowed := true }
def MultiBackUptoSaid : Prop := multiBackUptoRow.holds Try.pinned (OpenSpec.upto multiBackSpec)

/-- 'fairleadlaw23.MultiOver', WHERE WHAT IT READS IS OF BULK AT MOST 1048576: true; the input reads as it did. -/
def multiOverUptoRow : OpenClaim := { program := "ytglmlhbchfgliaa", sum := "9b03fc9eb904018bab3b98d40d10286e2ca9cbadffefced3febaeba83346fe7d", func := "fairlead/fairleadlaw23.MultiOver", spec := "multiOver", unfollowed := true, recurses := true, apart := false, narrowed := true }
def MultiOverUptoSaid : Prop := multiOverUptoRow.holds Try.pinned (OpenSpec.upto multiOverSpec)

/-- 'fairleadlaw23.MultiJoins', WHERE WHAT IT READS IS OF BULK AT MOST 1048576: true; the input reads as it did. -/
def multiJoinsUptoRow : OpenClaim := { program := "ytglmlhbchfgliaa", sum := "9b03fc9eb904018bab3b98d40d10286e2ca9cbadffefced3febaeba83346fe7d", func := "fairlead/fairleadlaw23.MultiJoins", spec := "multiJoins", unfollowed := true, recurses := true, apart := false, narrowed := true }
def MultiJoinsUptoSaid : Prop := multiJoinsUptoRow.holds Try.pinned (OpenSpec.upto multiJoinsSpec)

/-- 'fairleadlaw23.MultiRound', WHERE WHAT IT READS IS OF BULK AT MOST 1048576: true; the input reads as it did. -/
def multiRoundUptoRow : OpenClaim := { program := "ytglmlhbchfgliaa", sum := "9b03fc9eb904018bab3b98d40d10286e2ca9cbadffefced3febaeba83346fe7d", func := "fairlead/fairleadlaw23.MultiRound", spec := "multiRound", unfollowed := true, recurses := true, apart := false, narrowed := true }
def MultiRoundUptoSaid : Prop := multiRoundUptoRow.holds Try.pinned (OpenSpec.upto multiRoundSpec)

/-- 'fairleadlaw23.MultiTwins', WHERE WHAT IT READS IS OF BULK AT MOST 1048576: true; the input reads as it did. -/
def multiTwinsUptoRow : OpenClaim := { program := "ytglmlhbchfgliaa", sum := "9b03fc9eb904018bab3b98d40d10286e2ca9cbadffefced3febaeba83346fe7d", func := "fairlead/fairleadlaw23.MultiTwins", spec := "multiTwins", unfollowed := true, recurses := true, apart := false, narrowed := true }
def MultiTwinsUptoSaid : Prop := multiTwinsUptoRow.holds Try.pinned (OpenSpec.upto multiTwinsSpec)

end Rows
end Go.Proofs.Ytglmlhbchfgliaa
