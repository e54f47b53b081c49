/-
  No cell of these rows narrows 'for every input' (looked for: loops, veiled, ifaces, maps, wideKeys, modest, calm, conditions, laid).
  DERIVED. THE GIVEN ROWS OF THIS SEAT. 3 by the template 'for every input the law returns true; each argument reads behind the call as it read before'; 0 by the template 'total and deterministic' (their statements: YteefnbgcbjeffaaTotals.lean).
  GIVEN WITH THE SEED: the statements are not yours to turn. If you find one false, say at which input.
  Laid BY PROGRAM, IN A SANDBOX (cutbox-rows.mjs): the forced cells as the released guide's own fill.sh prints them over the translation 315ea25fe268babe… (all of the seat's roots in one cut). By AI agents, Wed Nov 11 2026. No macro, syntax, notation, axiom, sorry.
-/
import Derived.Test.YteefnbgcbjeffaaChecked
import GoSem.Claim
import GoSem.ClaimJoined
import GoSem.ClaimMapViews
import Derived.JoinedTies
import Derived.KernelRfl
namespace Go.Proofs.Yteefnbgcbjeffaa
/- THE CELL 'sum', in the pinned program and in every row, IS THE sha256 OF THE DUMP (.gsa) THAT YteefnbgcbjeffaaProg.lean LOADS. Nothing in Lean hashes anything: it is a label: what it is worth is what the hold of that sum in a sandbox is worth. -/
noncomputable def Try.pinned : Pinned := { name := "yteefnbgcbjeffaa", sum := "315ea25fe268babe3dabb0d0f0ef2144f79d2ad03732494a725209e9de6a5c0d", checked := Try.checked }
namespace Rows
def none {H : Type} : Left H := { results := [], args := [] }

/-- 'fairleadlaw2.FcsJoins': WHATEVER THE INPUT: true; the input reads as it did. -/
def fcsJoinsSpec : ChangeSpec := { name := "fcsJoins", fn := fun _ => fun
  | [d1, d2, d3] => { results := [.lit (.bool true)], args := [d1, d2, d3] }
  | _ => none }
def fcsJoinsRow : OpenClaim := { program := "yteefnbgcbjeffaa", sum := "315ea25fe268babe3dabb0d0f0ef2144f79d2ad03732494a725209e9de6a5c0d", func := "fairlead/fairleadlaw2.FcsJoins", spec := "fcsJoins", unfollowed := true, recurses := true, apart := false }
def FcsJoinsSaid : Prop := fcsJoinsRow.holds Try.pinned (OpenSpec.ofChange fcsJoinsSpec)

/-- ITS FALSE NEIGHBOUR: 'it returns false'. Refute it at one input. -/
def fcsJoinsWrong : ChangeSpec := { name := "fcsJoins", fn := fun _ => fun
  | [d1, d2, d3] => { results := [.lit (.bool false)], args := [d1, d2, d3] }
  | _ => none }
def FcsJoinsWrongFalsely : Prop := fcsJoinsRow.holds Try.pinned (OpenSpec.ofChange fcsJoinsWrong)

/-- 'fairleadlaw2.FcsKnown': WHATEVER THE INPUT: true; the input reads as it did. -/
def fcsKnownSpec : ChangeSpec := { name := "fcsKnown", fn := fun _ => fun
  | [] => { results := [.lit (.bool true)], args := [] }
  | _ => none }
def fcsKnownRow : OpenClaim := { program := "yteefnbgcbjeffaa", sum := "315ea25fe268babe3dabb0d0f0ef2144f79d2ad03732494a725209e9de6a5c0d", func := "fairlead/fairleadlaw2.FcsKnown", spec := "fcsKnown", unfollowed := true, recurses := true, apart := false }
def FcsKnownSaid : Prop := fcsKnownRow.holds Try.pinned (OpenSpec.ofChange fcsKnownSpec)

/-- ITS FALSE NEIGHBOUR: 'it returns false'. Refute it at one input. -/
def fcsKnownWrong : ChangeSpec := { name := "fcsKnown", fn := fun _ => fun
  | [] => { results := [.lit (.bool false)], args := [] }
  | _ => none }
def FcsKnownWrongFalsely : Prop := fcsKnownRow.holds Try.pinned (OpenSpec.ofChange fcsKnownWrong)

/-- 'fairleadlaw2.FcsSums': WHATEVER THE INPUT: true; the input reads as it did. -/
def fcsSumsSpec : ChangeSpec := { name := "fcsSums", fn := fun _ => fun
  | [d] => { results := [.lit (.bool true)], args := [d] }
  | _ => none }
def fcsSumsRow : OpenClaim := { program := "yteefnbgcbjeffaa", sum := "315ea25fe268babe3dabb0d0f0ef2144f79d2ad03732494a725209e9de6a5c0d", func := "fairlead/fairleadlaw2.FcsSums", spec := "fcsSums", unfollowed := true, recurses := true, apart := false }
def FcsSumsSaid : Prop := fcsSumsRow.holds Try.pinned (OpenSpec.ofChange fcsSumsSpec)

/-- ITS FALSE NEIGHBOUR: 'it returns false'. Refute it at one input. -/
def fcsSumsWrong : ChangeSpec := { name := "fcsSums", fn := fun _ => fun
  | [d] => { results := [.lit (.bool false)], args := [d] }
  | _ => none }
def FcsSumsWrongFalsely : Prop := fcsSumsRow.holds Try.pinned (OpenSpec.ofChange fcsSumsWrong)

/- THE SECOND FORM. 'bulk': how many values and letters a reading holds, each counted each time it is reached (what is shared counts as often as it is met; a slice's spare places count too). A statement '..UptoSaid' is the law's where the arguments, and the package variables that the reading takes, are together of bulk at most 1048576: NARROWER than '..Said'. Prove '..Said' where nothing that the law and all that it calls make is longer than what came in: it says more and counts as full. Else prove '..UptoSaid'. A law counts once. -/
mutual
def uptoBulk {H : Type} : DataW H → Nat
  | .lit (.string bytes) => bytes.length + 1
  | .lit _ => 1
  | .nil => 1
  | .ptr d => uptoBulk d + 1
  | .slice elems spare => uptoBulkAll elems + uptoBulkAll spare + 1
  | .agg parts => uptoBulkAll parts + 1
  | .iface _ d => uptoBulk d + 1
  | .map entries => uptoBulkEntries entries + 1
  | .held _ => 1
def uptoBulkAll {H : Type} : List (DataW H) → Nat
  | [] => 0
  | d :: r => uptoBulk d + uptoBulkAll r
def uptoBulkEntries {H : Type} : List (Lit × DataW H) → Nat
  | [] => 0
  | x :: r => uptoBulkEntry x + uptoBulkEntries r
def uptoBulkEntry {H : Type} : Lit × DataW H → Nat
  | (.string bytes, d) => bytes.length + uptoBulk d + 1
  | (_, d) => uptoBulk d + 1
 end
def uptoSmall : (H : Type) → List (DataW H) → Bool := fun _ ds => decide (uptoBulkAll ds ≤ 1048576)
def OpenSpec.upto (s : _root_.Go.ChangeSpec) : _root_.Go.OpenSpec := { _root_.Go.OpenSpec.ofChange s with cond := some uptoSmall }

/-- 'fairleadlaw2.FcsJoins', WHERE WHAT IT READS IS OF BULK AT MOST 1048576: true; the input reads as it did. -/
def fcsJoinsUptoRow : OpenClaim := { program := "yteefnbgcbjeffaa", sum := "315ea25fe268babe3dabb0d0f0ef2144f79d2ad03732494a725209e9de6a5c0d", func := "fairlead/fairleadlaw2.FcsJoins", spec := "fcsJoins", unfollowed := true, recurses := true, apart := false, narrowed := true }
def FcsJoinsUptoSaid : Prop := fcsJoinsUptoRow.holds Try.pinned (OpenSpec.upto fcsJoinsSpec)

/-- 'fairleadlaw2.FcsKnown', WHERE WHAT IT READS IS OF BULK AT MOST 1048576: true; the input reads as it did. -/
def fcsKnownUptoRow : OpenClaim := { program := "yteefnbgcbjeffaa", sum := "315ea25fe268babe3dabb0d0f0ef2144f79d2ad03732494a725209e9de6a5c0d", func := "fairlead/fairleadlaw2.FcsKnown", spec := "fcsKnown", unfollowed := true, recurses := true, apart := false, narrowed := true }
def FcsKnownUptoSaid : Prop := fcsKnownUptoRow.holds Try.pinned (OpenSpec.upto fcsKnownSpec)

/-- 'fairleadlaw2.FcsSums', WHERE WHAT IT READS IS OF BULK AT MOST 1048576: true; the input reads as it did. -/
def fcsSumsUptoRow : OpenClaim := { program := "yteefnbgcbjeffaa", sum := "315ea25fe268babe3dabb0d0f0ef2144f79d2ad03732494a725209e9de6a5c0d", func := "fairlead/fairleadlaw2.FcsSums", spec := "fcsSums", unfollowed := true, recurses := true, apart := false, narrowed := true }
def FcsSumsUptoSaid : Prop := fcsSumsUptoRow.holds Try.pinned (OpenSpec.upto fcsSumsSpec)

end Rows
end Go.Proofs.Yteefnbgcbjeffaa
