/-
  No cell of these rows narrows 'for every input' (looked for: loops, veiled, ifaces, maps, wideKeys, modest, calm, conditions, laid).
  DERIVED. THE GIVEN ROWS OF THIS SEAT. 6 by the template 'for every input the law returns true; each argument reads behind the call as it read before'; 0 by the template 'total and deterministic' (their statements: YtokfophpjkglmaaTotals.lean).
  GIVEN WITH THE SEED: the statements are not yours to turn. If you find one false, say at which input.
  Laid BY PROGRAM, IN A SANDBOX (cutbox-rows.mjs): the forced cells as the released guide's own fill.sh prints them over the translation fabe36656805ad36… (all of the seat's roots in one cut). By AI agents, Wed Nov 11 2026. No macro, syntax, notation, axiom, sorry.
-/
import Derived.Test.YtokfophpjkglmaaChecked
import GoSem.Claim
import GoSem.ClaimJoined
import GoSem.ClaimMapViews
import Derived.JoinedTies
import Derived.KernelRfl
namespace Go.Proofs.Ytokfophpjkglmaa
/- THE CELL 'sum', in the pinned program and in every row, IS THE sha256 OF THE DUMP (.gsa) THAT YtokfophpjkglmaaProg.lean LOADS. Nothing in Lean hashes anything: it is a label: what it is worth is what the hold of that sum in a sandbox is worth. -/
noncomputable def Try.pinned : Pinned := { name := "ytokfophpjkglmaa", sum := "fabe36656805ad3640e0c2b597c91c51706e58f12f08276ff4426f6728da6b22", checked := Try.checked }
namespace Rows
def none {H : Type} : Left H := { results := [], args := [] }

/-- 'fairleadlaw5.Rc4Back': WHATEVER THE INPUT: true; the input reads as it did. -/
def rc4BackSpec : ChangeSpec := { name := "rc4Back", fn := fun _ => fun
  | [d1, d2, d3] => { results := [.lit (.bool true)], args := [d1, d2, d3] }
  | _ => none }
def rc4BackRow : OpenClaim := { program := "ytokfophpjkglmaa", sum := "fabe36656805ad3640e0c2b597c91c51706e58f12f08276ff4426f6728da6b22", func := "fairlead/fairleadlaw5.Rc4Back", spec := "rc4Back", unfollowed := true, recurses := true, apart := false }
def Rc4BackSaid : Prop := rc4BackRow.holds Try.pinned (OpenSpec.ofChange rc4BackSpec)

/-- ITS FALSE NEIGHBOUR: 'it returns false'. Refute it at one input. -/
def rc4BackWrong : ChangeSpec := { name := "rc4Back", fn := fun _ => fun
  | [d1, d2, d3] => { results := [.lit (.bool false)], args := [d1, d2, d3] }
  | _ => none }
def Rc4BackWrongFalsely : Prop := rc4BackRow.holds Try.pinned (OpenSpec.ofChange rc4BackWrong)

/-- 'fairleadlaw5.Rc4Again': WHATEVER THE INPUT: true; the input reads as it did. -/
def rc4AgainSpec : ChangeSpec := { name := "rc4Again", fn := fun _ => fun
  | [d1, d2] => { results := [.lit (.bool true)], args := [d1, d2] }
  | _ => none }
def rc4AgainRow : OpenClaim := { program := "ytokfophpjkglmaa", sum := "fabe36656805ad3640e0c2b597c91c51706e58f12f08276ff4426f6728da6b22", func := "fairlead/fairleadlaw5.Rc4Again", spec := "rc4Again", unfollowed := true, recurses := true, apart := false }
def Rc4AgainSaid : Prop := rc4AgainRow.holds Try.pinned (OpenSpec.ofChange rc4AgainSpec)

/-- ITS FALSE NEIGHBOUR: 'it returns false'. Refute it at one input. -/
def rc4AgainWrong : ChangeSpec := { name := "rc4Again", fn := fun _ => fun
  | [d1, d2] => { results := [.lit (.bool false)], args := [d1, d2] }
  | _ => none }
def Rc4AgainWrongFalsely : Prop := rc4AgainRow.holds Try.pinned (OpenSpec.ofChange rc4AgainWrong)

/-- 'fairleadlaw5.Rc4Known': WHATEVER THE INPUT: true; the input reads as it did. -/
def rc4KnownSpec : ChangeSpec := { name := "rc4Known", fn := fun _ => fun
  | [] => { results := [.lit (.bool true)], args := [] }
  | _ => none }
def rc4KnownRow : OpenClaim := { program := "ytokfophpjkglmaa", sum := "fabe36656805ad3640e0c2b597c91c51706e58f12f08276ff4426f6728da6b22", func := "fairlead/fairleadlaw5.Rc4Known", spec := "rc4Known", unfollowed := true, recurses := true, apart := false }
def Rc4KnownSaid : Prop := rc4KnownRow.holds Try.pinned (OpenSpec.ofChange rc4KnownSpec)

/-- ITS FALSE NEIGHBOUR: 'it returns false'. Refute it at one input. -/
def rc4KnownWrong : ChangeSpec := { name := "rc4Known", fn := fun _ => fun
  | [] => { results := [.lit (.bool false)], args := [] }
  | _ => none }
def Rc4KnownWrongFalsely : Prop := rc4KnownRow.holds Try.pinned (OpenSpec.ofChange rc4KnownWrong)

/-- 'fairleadlaw5.Rc4Terms': WHATEVER THE INPUT: true; the input reads as it did. -/
def rc4TermsSpec : ChangeSpec := { name := "rc4Terms", fn := fun _ => fun
  | [d1, d2, d3] => { results := [.lit (.bool true)], args := [d1, d2, d3] }
  | _ => none }
def rc4TermsRow : OpenClaim := { program := "ytokfophpjkglmaa", sum := "fabe36656805ad3640e0c2b597c91c51706e58f12f08276ff4426f6728da6b22", func := "fairlead/fairleadlaw5.Rc4Terms", spec := "rc4Terms", unfollowed := true, recurses := true, apart := false }
def Rc4TermsSaid : Prop := rc4TermsRow.holds Try.pinned (OpenSpec.ofChange rc4TermsSpec)

/-- ITS FALSE NEIGHBOUR: 'it returns false'. Refute it at one input. -/
def rc4TermsWrong : ChangeSpec := { name := "rc4Terms", fn := fun _ => fun
  | [d1, d2, d3] => { results := [.lit (.bool false)], args := [d1, d2, d3] }
  | _ => none }
def Rc4TermsWrongFalsely : Prop := rc4TermsRow.holds Try.pinned (OpenSpec.ofChange rc4TermsWrong)

/-- 'fairleadlaw5.Rc4Streams': WHATEVER THE INPUT: true; the input reads as it did. -/
def rc4StreamsSpec : ChangeSpec := { name := "rc4Streams", fn := fun _ => fun
  | [d1, d2, d3] => { results := [.lit (.bool true)], args := [d1, d2, d3] }
  | _ => none }
def rc4StreamsRow : OpenClaim := { program := "ytokfophpjkglmaa", sum := "fabe36656805ad3640e0c2b597c91c51706e58f12f08276ff4426f6728da6b22", func := "fairlead/fairleadlaw5.Rc4Streams", spec := "rc4Streams", unfollowed := true, recurses := true, apart := false }
def Rc4StreamsSaid : Prop := rc4StreamsRow.holds Try.pinned (OpenSpec.ofChange rc4StreamsSpec)

/-- ITS FALSE NEIGHBOUR: 'it returns false'. Refute it at one input. -/
def rc4StreamsWrong : ChangeSpec := { name := "rc4Streams", fn := fun _ => fun
  | [d1, d2, d3] => { results := [.lit (.bool false)], args := [d1, d2, d3] }
  | _ => none }
def Rc4StreamsWrongFalsely : Prop := rc4StreamsRow.holds Try.pinned (OpenSpec.ofChange rc4StreamsWrong)

/-- 'fairleadlaw5.Rc4Clones': WHATEVER THE INPUT: true; the input reads as it did. -/
def rc4ClonesSpec : ChangeSpec := { name := "rc4Clones", fn := fun _ => fun
  | [d1, d2, d3] => { results := [.lit (.bool true)], args := [d1, d2, d3] }
  | _ => none }
def rc4ClonesRow : OpenClaim := { program := "ytokfophpjkglmaa", sum := "fabe36656805ad3640e0c2b597c91c51706e58f12f08276ff4426f6728da6b22", func := "fairlead/fairleadlaw5.Rc4Clones", spec := "rc4Clones", unfollowed := true, recurses := true, apart := false }
def Rc4ClonesSaid : Prop := rc4ClonesRow.holds Try.pinned (OpenSpec.ofChange rc4ClonesSpec)

/-- ITS FALSE NEIGHBOUR: 'it returns false'. Refute it at one input. -/
def rc4ClonesWrong : ChangeSpec := { name := "rc4Clones", fn := fun _ => fun
  | [d1, d2, d3] => { results := [.lit (.bool false)], args := [d1, d2, d3] }
  | _ => none }
def Rc4ClonesWrongFalsely : Prop := rc4ClonesRow.holds Try.pinned (OpenSpec.ofChange rc4ClonesWrong)

/- THE SECOND FORM. 'bulk': how many values and letters a reading holds, each counted each time it is reached (what is shared counts as often as it is met; a slice's spare places count too). A statement '..UptoSaid' is the law's where the arguments, and the package variables that the reading takes, are together of bulk at most 1048576: NARROWER than '..Said'. Prove '..Said' where nothing that the law and all that it calls make is longer than what came in: it says more and counts as full. Else prove '..UptoSaid'. A law counts once. -/
mutual
def uptoBulk {H : Type} : DataW H → Nat
  | .lit (.string bytes) => bytes.length + 1
  | .lit _ => 1
  | .nil => 1
  | .ptr d => uptoBulk d + 1
  | .slice elems spare => uptoBulkAll elems + uptoBulkAll spare + 1
  | .agg parts => uptoBulkAll parts + 1
  | .iface _ d => uptoBulk d + 1
  | .map entries => uptoBulkEntries entries + 1
  | .held _ => 1
def uptoBulkAll {H : Type} : List (DataW H) → Nat
  | [] => 0
  | d :: r => uptoBulk d + uptoBulkAll r
def uptoBulkEntries {H : Type} : List (Lit × DataW H) → Nat
  | [] => 0
  | x :: r => uptoBulkEntry x + uptoBulkEntries r
def uptoBulkEntry {H : Type} : Lit × DataW H → Nat
  | (.string bytes, d) => bytes.length + uptoBulk d + 1
  | (_, d) => uptoBulk d + 1
 end
def uptoSmall : (H : Type) → List (DataW H) → Bool := fun _ ds => decide (uptoBulkAll ds ≤ 1048576)
def OpenSpec.upto (s : _root_.Go.ChangeSpec) : _root_.Go.OpenSpec := { _root_.Go.OpenSpec.ofChange s with cond := some uptoSmall }

/-- 'fairleadlaw5.Rc4Back', WHERE WHAT IT READS IS OF BULK AT MOST 1048576: true; the input reads as it did. -/
def rc4BackUptoRow : OpenClaim := { program := "ytokfophpjkglmaa", sum := "fabe36656805ad3640e0c2b597c91c51706e58f12f08276ff4426f6728da6b22", func := "fairlead/fairleadlaw5.Rc4Back", spec := "rc4Back", unfollowed := true, recurses := true, apart := false, narrowed := true }
def Rc4BackUptoSaid : Prop := rc4BackUptoRow.holds Try.pinned (OpenSpec.upto rc4BackSpec)

/-- 'fairleadlaw5.Rc4Again', WHERE WHAT IT READS IS OF BULK AT MOST 1048576: true; the input reads as it did. -/
def rc4AgainUptoRow : OpenClaim := { program := "ytokfophpjkglmaa", sum := "fabe36656805ad3640e0c2b597c91c51706e58f12f08276ff4426f6728da6b22", func := "fairlead/fairleadlaw5.Rc4Again", spec := "rc4Again", unfollowed := true, recurses := true, apart := false, narrowed := true }
def Rc4AgainUptoSaid : Prop := rc4AgainUptoRow.holds Try.pinned (OpenSpec.upto rc4AgainSpec)

/-- 'fairleadlaw5.Rc4Known', WHERE WHAT IT READS IS OF BULK AT MOST 1048576: true; the input reads as it did. -/
def rc4KnownUptoRow : OpenClaim := { program := "ytokfophpjkglmaa", sum := "fabe36656805ad3640e0c2b597c91c51706e58f12f08276ff4426f6728da6b22", func := "fairlead/fairleadlaw5.Rc4Known", spec := "rc4Known", unfollowed := true, recurses := true, apart := false, narrowed := true }
def Rc4KnownUptoSaid : Prop := rc4KnownUptoRow.holds Try.pinned (OpenSpec.upto rc4KnownSpec)

/-- 'fairleadlaw5.Rc4Terms', WHERE WHAT IT READS IS OF BULK AT MOST 1048576: true; the input reads as it did. -/
def rc4TermsUptoRow : OpenClaim := { program := "ytokfophpjkglmaa", sum := "fabe36656805ad3640e0c2b597c91c51706e58f12f08276ff4426f6728da6b22", func := "fairlead/fairleadlaw5.Rc4Terms", spec := "rc4Terms", unfollowed := true, recurses := true, apart := false, narrowed := true }
def Rc4TermsUptoSaid : Prop := rc4TermsUptoRow.holds Try.pinned (OpenSpec.upto rc4TermsSpec)

/-- 'fairleadlaw5.Rc4Streams', WHERE WHAT IT READS IS OF BULK AT MOST 1048576: true; the input reads as it did. -/
def rc4StreamsUptoRow : OpenClaim := { program := "ytokfophpjkglmaa", sum := "fabe36656805ad3640e0c2b597c91c51706e58f12f08276ff4426f6728da6b22", func := "fairlead/fairleadlaw5.Rc4Streams", spec := "rc4Streams", unfollowed := true, recurses := true, apart := false, narrowed := true }
def Rc4StreamsUptoSaid : Prop := rc4StreamsUptoRow.holds Try.pinned (OpenSpec.upto rc4StreamsSpec)

/-- 'fairleadlaw5.Rc4Clones', WHERE WHAT IT READS IS OF BULK AT MOST 1048576: true; the input reads as it did. -/
def rc4ClonesUptoRow : OpenClaim := { program := "ytokfophpjkglmaa", sum := "fabe36656805ad3640e0c2b597c91c51706e58f12f08276ff4426f6728da6b22", func := "fairlead/fairleadlaw5.Rc4Clones", spec := "rc4Clones", unfollowed := true, recurses := true, apart := false, narrowed := true }
def Rc4ClonesUptoSaid : Prop := rc4ClonesUptoRow.holds Try.pinned (OpenSpec.upto rc4ClonesSpec)

end Rows
end Go.Proofs.Ytokfophpjkglmaa
