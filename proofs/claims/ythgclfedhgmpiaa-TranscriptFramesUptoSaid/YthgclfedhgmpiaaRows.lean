/-
  No cell of these rows narrows 'for every input' (looked for: loops, veiled, ifaces, maps, wideKeys, modest, calm, conditions, laid).
  DERIVED. THE GIVEN ROWS OF THIS SEAT. 2 by the template 'for every input the law returns true; each argument reads behind the call as it read before'; 0 by the template 'total and deterministic' (their statements: YthgclfedhgmpiaaTotals.lean).
  GIVEN WITH THE SEED: the statements are not yours to turn. If you find one false, say at which input.
  Laid BY PROGRAM, IN A SANDBOX (cutbox-rows.mjs): the forced cells as the released guide's own fill.sh prints them over the translation a7978927c416e8af… (all of the seat's roots in one cut). By AI agents, Wed Nov 11 2026. No macro, syntax, notation, axiom, sorry.
-/
import Derived.Test.YthgclfedhgmpiaaChecked
import GoSem.Claim
import GoSem.ClaimJoined
import GoSem.ClaimMapViews
import Derived.JoinedTies
import Derived.KernelRfl
namespace Go.Proofs.Ythgclfedhgmpiaa
/- THE CELL 'sum', in the pinned program and in every row, IS THE sha256 OF THE DUMP (.gsa) THAT YthgclfedhgmpiaaProg.lean LOADS. Nothing in Lean hashes anything: it is a label: what it is worth is what the hold of that sum in a sandbox is worth. -/
noncomputable def Try.pinned : Pinned := { name := "ythgclfedhgmpiaa", sum := "a7978927c416e8af69a37ad2c26fc3a915dfb6442b2b2cbf8b13c413d6e4b676", checked := Try.checked }
namespace Rows
def none {H : Type} : Left H := { results := [], args := [] }

/-- 'veillaw08.TranscriptFrames': WHATEVER THE INPUT: true; the input reads as it did. -/
def transcriptFramesSpec : ChangeSpec := { name := "transcriptFrames", fn := fun _ => fun
  | [d1, d2] => { results := [.lit (.bool true)], args := [d1, d2] }
  | _ => none }
def transcriptFramesRow : OpenClaim := { program := "ythgclfedhgmpiaa", sum := "a7978927c416e8af69a37ad2c26fc3a915dfb6442b2b2cbf8b13c413d6e4b676", func := "veil/veillaw08.TranscriptFrames", spec := "transcriptFrames", apart := false }
def TranscriptFramesSaid : Prop := transcriptFramesRow.holds Try.pinned (OpenSpec.ofChange transcriptFramesSpec)

/-- ITS FALSE NEIGHBOUR: 'it returns false'. Refute it at one input. -/
def transcriptFramesWrong : ChangeSpec := { name := "transcriptFrames", fn := fun _ => fun
  | [d1, d2] => { results := [.lit (.bool false)], args := [d1, d2] }
  | _ => none }
def TranscriptFramesWrongFalsely : Prop := transcriptFramesRow.holds Try.pinned (OpenSpec.ofChange transcriptFramesWrong)

/-- 'veillaw08.TranscriptApart': WHATEVER THE INPUT: true; the input reads as it did. -/
def transcriptApartSpec : ChangeSpec := { name := "transcriptApart", fn := fun _ => fun
  | [d1, d2, d3, d4] => { results := [.lit (.bool true)], args := [d1, d2, d3, d4] }
  | _ => none }
def transcriptApartRow : OpenClaim := { program := "ythgclfedhgmpiaa", sum := "a7978927c416e8af69a37ad2c26fc3a915dfb6442b2b2cbf8b13c413d6e4b676", func := "veil/veillaw08.TranscriptApart", spec := "transcriptApart", apart := false }
def TranscriptApartSaid : Prop := transcriptApartRow.holds Try.pinned (OpenSpec.ofChange transcriptApartSpec)

/-- ITS FALSE NEIGHBOUR: 'it returns false'. Refute it at one input. -/
def transcriptApartWrong : ChangeSpec := { name := "transcriptApart", fn := fun _ => fun
  | [d1, d2, d3, d4] => { results := [.lit (.bool false)], args := [d1, d2, d3, d4] }
  | _ => none }
def TranscriptApartWrongFalsely : Prop := transcriptApartRow.holds Try.pinned (OpenSpec.ofChange transcriptApartWrong)

/- THE SECOND FORM. 'bulk': how many values and letters a reading holds, each counted each time it is reached (what is shared counts as often as it is met; a slice's spare places count too). A statement '..UptoSaid' is the law's where the arguments, and the package variables that the reading takes, are together of bulk at most 1048576: NARROWER than '..Said'. Prove '..Said' where nothing that the law and all that it calls make is longer than what came in: it says more and counts as full. Else prove '..UptoSaid'. A law counts once. -/
mutual
def uptoBulk {H : Type} : DataW H → Nat
  | .lit (.string bytes) => bytes.length + 1
  | .lit _ => 1
  | .nil => 1
  | .ptr d => uptoBulk d + 1
  | .slice elems spare => uptoBulkAll elems + uptoBulkAll spare + 1
  | .agg parts => uptoBulkAll parts + 1
  | .iface _ d => uptoBulk d + 1
  | .map entries => uptoBulkEntries entries + 1
  | .held _ => 1
def uptoBulkAll {H : Type} : List (DataW H) → Nat
  | [] => 0
  | d :: r => uptoBulk d + uptoBulkAll r
def uptoBulkEntries {H : Type} : List (Lit × DataW H) → Nat
  | [] => 0
  | x :: r => uptoBulkEntry x + uptoBulkEntries r
def uptoBulkEntry {H : Type} : Lit × DataW H → Nat
  | (.string bytes, d) => bytes.length + uptoBulk d + 1
  | (_, d) => uptoBulk d + 1
 end
def uptoSmall : (H : Type) → List (DataW H) → Bool := fun _ ds => decide (uptoBulkAll ds ≤ 1048576)
def OpenSpec.upto (s : _root_.Go.ChangeSpec) : _root_.Go.OpenSpec := { _root_.Go.OpenSpec.ofChange s with cond := some uptoSmall }

/-- 'veillaw08.TranscriptFrames', WHERE WHAT IT READS IS OF BULK AT MOST 1048576: true; the input reads as it did. -/
def transcriptFramesUptoRow : OpenClaim := { program := "ythgclfedhgmpiaa", sum := "a7978927c416e8af69a37ad2c26fc3a915dfb6442b2b2cbf8b13c413d6e4b676", func := "veil/veillaw08.TranscriptFrames", spec := "transcriptFrames", apart := false, narrowed := true }
def TranscriptFramesUptoSaid : Prop := transcriptFramesUptoRow.holds Try.pinned (OpenSpec.upto transcriptFramesSpec)

/-- 'veillaw08.TranscriptApart', WHERE WHAT IT READS IS OF BULK AT MOST 1048576: true; the input reads as it did. -/
def transcriptApartUptoRow : OpenClaim := { program := "ythgclfedhgmpiaa", sum := "a7978927c416e8af69a37ad2c26fc3a915dfb6442b2b2cbf8b13c413d6e4b676", func := "veil/veillaw08.TranscriptApart", spec := "transcriptApart", apart := false, narrowed := true }
def TranscriptApartUptoSaid : Prop := transcriptApartUptoRow.holds Try.pinned (OpenSpec.upto transcriptApartSpec)

end Rows
end Go.Proofs.Ythgclfedhgmpiaa
