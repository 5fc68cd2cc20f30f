/-
  No cell of these rows narrows 'for every input' (looked for: loops, veiled, ifaces, maps, wideKeys, modest, calm, conditions, laid).
  DERIVED. THE GIVEN ROWS OF THIS SEAT. 7 by the template 'for every input the law returns true; each argument reads behind the call as it read before'; 0 by the template 'total and deterministic' (their statements: YtofnggfpegcllaaTotals.lean).
  GIVEN WITH THE SEED: the statements are not yours to turn. If you find one false, say at which input.
  Laid BY PROGRAM, IN A SANDBOX (cutbox-rows.mjs): the forced cells as the released guide's own fill.sh prints them over the translation 5f0b64b6848b37f6… (all of the seat's roots in one cut). By AI agents, Wed Nov 11 2026. No macro, syntax, notation, axiom, sorry.
-/
import Derived.Test.YtofnggfpegcllaaChecked
import GoSem.Claim
import GoSem.ClaimJoined
import GoSem.ClaimMapViews
import Derived.JoinedTies
import Derived.KernelRfl
namespace Go.Proofs.Ytofnggfpegcllaa
/- THE CELL 'sum', in the pinned program and in every row, IS THE sha256 OF THE DUMP (.gsa) THAT YtofnggfpegcllaaProg.lean LOADS. Nothing in Lean hashes anything: it is a label: what it is worth is what the hold of that sum in a sandbox is worth. -/
noncomputable def Try.pinned : Pinned := { name := "ytofnggfpegcllaa", sum := "5f0b64b6848b37f6260969ed82b1df10168e87024dc85aa3a024dfeecede1bad", checked := Try.checked }
namespace Rows
def none {H : Type} : Left H := { results := [], args := [] }

/-- 'bogielaw14.LinkMatchesReference': WHATEVER THE INPUT: true; the input reads as it did. -/
def linkMatchesReferenceSpec : ChangeSpec := { name := "linkMatchesReference", fn := fun _ => fun
  | [d1, d2] => { results := [.lit (.bool true)], args := [d1, d2] }
  | _ => none }
def linkMatchesReferenceRow : OpenClaim := { program := "ytofnggfpegcllaa", sum := "5f0b64b6848b37f6260969ed82b1df10168e87024dc85aa3a024dfeecede1bad", func := "bogie/bogielaw14.LinkMatchesReference", spec := "linkMatchesReference", inPlace := ["internal/bytealg.IndexByteString"], unfollowed := true, recurses := true, plainKeys := false, apart := false }
def LinkMatchesReferenceSaid : Prop := linkMatchesReferenceRow.holds Try.pinned (OpenSpec.ofChange linkMatchesReferenceSpec)

/-- ITS FALSE NEIGHBOUR: 'it returns false'. Refute it at one input. -/
def linkMatchesReferenceWrong : ChangeSpec := { name := "linkMatchesReference", fn := fun _ => fun
  | [d1, d2] => { results := [.lit (.bool false)], args := [d1, d2] }
  | _ => none }
def LinkMatchesReferenceWrongFalsely : Prop := linkMatchesReferenceRow.holds Try.pinned (OpenSpec.ofChange linkMatchesReferenceWrong)

/-- 'bogielaw14.LinkDivides': WHATEVER THE INPUT: true; the input reads as it did. -/
def linkDividesSpec : ChangeSpec := { name := "linkDivides", fn := fun _ => fun
  | [d] => { results := [.lit (.bool true)], args := [d] }
  | _ => none }
def linkDividesRow : OpenClaim := { program := "ytofnggfpegcllaa", sum := "5f0b64b6848b37f6260969ed82b1df10168e87024dc85aa3a024dfeecede1bad", func := "bogie/bogielaw14.LinkDivides", spec := "linkDivides", inPlace := ["internal/bytealg.IndexByteString"], unfollowed := true, recurses := true, plainKeys := false, apart := false }
def LinkDividesSaid : Prop := linkDividesRow.holds Try.pinned (OpenSpec.ofChange linkDividesSpec)

/-- ITS FALSE NEIGHBOUR: 'it returns false'. Refute it at one input. -/
def linkDividesWrong : ChangeSpec := { name := "linkDivides", fn := fun _ => fun
  | [d] => { results := [.lit (.bool false)], args := [d] }
  | _ => none }
def LinkDividesWrongFalsely : Prop := linkDividesRow.holds Try.pinned (OpenSpec.ofChange linkDividesWrong)

/-- 'bogielaw14.LinkConnects': WHATEVER THE INPUT: true; the input reads as it did. -/
def linkConnectsSpec : ChangeSpec := { name := "linkConnects", fn := fun _ => fun
  | [d] => { results := [.lit (.bool true)], args := [d] }
  | _ => none }
def linkConnectsRow : OpenClaim := { program := "ytofnggfpegcllaa", sum := "5f0b64b6848b37f6260969ed82b1df10168e87024dc85aa3a024dfeecede1bad", func := "bogie/bogielaw14.LinkConnects", spec := "linkConnects", inPlace := ["internal/bytealg.IndexByteString"], unfollowed := true, recurses := true, plainKeys := false, apart := false }
def LinkConnectsSaid : Prop := linkConnectsRow.holds Try.pinned (OpenSpec.ofChange linkConnectsSpec)

/-- ITS FALSE NEIGHBOUR: 'it returns false'. Refute it at one input. -/
def linkConnectsWrong : ChangeSpec := { name := "linkConnects", fn := fun _ => fun
  | [d] => { results := [.lit (.bool false)], args := [d] }
  | _ => none }
def LinkConnectsWrongFalsely : Prop := linkConnectsRow.holds Try.pinned (OpenSpec.ofChange linkConnectsWrong)

/-- 'bogielaw14.LinkOf': WHATEVER THE INPUT: true; the input reads as it did. -/
def linkOfSpec : ChangeSpec := { name := "linkOf", fn := fun _ => fun
  | [d1, d2] => { results := [.lit (.bool true)], args := [d1, d2] }
  | _ => none }
def linkOfRow : OpenClaim := { program := "ytofnggfpegcllaa", sum := "5f0b64b6848b37f6260969ed82b1df10168e87024dc85aa3a024dfeecede1bad", func := "bogie/bogielaw14.LinkOf", spec := "linkOf", inPlace := ["internal/bytealg.IndexByteString"], unfollowed := true, recurses := true, plainKeys := false, apart := false }
def LinkOfSaid : Prop := linkOfRow.holds Try.pinned (OpenSpec.ofChange linkOfSpec)

/-- ITS FALSE NEIGHBOUR: 'it returns false'. Refute it at one input. -/
def linkOfWrong : ChangeSpec := { name := "linkOf", fn := fun _ => fun
  | [d1, d2] => { results := [.lit (.bool false)], args := [d1, d2] }
  | _ => none }
def LinkOfWrongFalsely : Prop := linkOfRow.holds Try.pinned (OpenSpec.ofChange linkOfWrong)

/-- 'bogielaw14.LinkTurns': WHATEVER THE INPUT: true; the input reads as it did. -/
def linkTurnsSpec : ChangeSpec := { name := "linkTurns", fn := fun _ => fun
  | [d] => { results := [.lit (.bool true)], args := [d] }
  | _ => none }
def linkTurnsRow : OpenClaim := { program := "ytofnggfpegcllaa", sum := "5f0b64b6848b37f6260969ed82b1df10168e87024dc85aa3a024dfeecede1bad", func := "bogie/bogielaw14.LinkTurns", spec := "linkTurns", inPlace := ["internal/bytealg.IndexByteString"], unfollowed := true, recurses := true, plainKeys := false, apart := false }
def LinkTurnsSaid : Prop := linkTurnsRow.holds Try.pinned (OpenSpec.ofChange linkTurnsSpec)

/-- ITS FALSE NEIGHBOUR: 'it returns false'. Refute it at one input. -/
def linkTurnsWrong : ChangeSpec := { name := "linkTurns", fn := fun _ => fun
  | [d] => { results := [.lit (.bool false)], args := [d] }
  | _ => none }
def LinkTurnsWrongFalsely : Prop := linkTurnsRow.holds Try.pinned (OpenSpec.ofChange linkTurnsWrong)

/-- 'bogielaw14.LinkFurther': WHATEVER THE INPUT: true; the input reads as it did. -/
def linkFurtherSpec : ChangeSpec := { name := "linkFurther", fn := fun _ => fun
  | [d1, d2] => { results := [.lit (.bool true)], args := [d1, d2] }
  | _ => none }
def linkFurtherRow : OpenClaim := { program := "ytofnggfpegcllaa", sum := "5f0b64b6848b37f6260969ed82b1df10168e87024dc85aa3a024dfeecede1bad", func := "bogie/bogielaw14.LinkFurther", spec := "linkFurther", inPlace := ["internal/bytealg.IndexByteString"], unfollowed := true, recurses := true, plainKeys := false, apart := false }
def LinkFurtherSaid : Prop := linkFurtherRow.holds Try.pinned (OpenSpec.ofChange linkFurtherSpec)

/-- ITS FALSE NEIGHBOUR: 'it returns false'. Refute it at one input. -/
def linkFurtherWrong : ChangeSpec := { name := "linkFurther", fn := fun _ => fun
  | [d1, d2] => { results := [.lit (.bool false)], args := [d1, d2] }
  | _ => none }
def LinkFurtherWrongFalsely : Prop := linkFurtherRow.holds Try.pinned (OpenSpec.ofChange linkFurtherWrong)

/-- 'bogielaw14.LinkDoubts': WHATEVER THE INPUT: true; the input reads as it did. -/
def linkDoubtsSpec : ChangeSpec := { name := "linkDoubts", fn := fun _ => fun
  | [d] => { results := [.lit (.bool true)], args := [d] }
  | _ => none }
def linkDoubtsRow : OpenClaim := { program := "ytofnggfpegcllaa", sum := "5f0b64b6848b37f6260969ed82b1df10168e87024dc85aa3a024dfeecede1bad", func := "bogie/bogielaw14.LinkDoubts", spec := "linkDoubts", inPlace := ["internal/bytealg.IndexByteString"], unfollowed := true, recurses := true, plainKeys := false, apart := false }
def LinkDoubtsSaid : Prop := linkDoubtsRow.holds Try.pinned (OpenSpec.ofChange linkDoubtsSpec)

/-- ITS FALSE NEIGHBOUR: 'it returns false'. Refute it at one input. -/
def linkDoubtsWrong : ChangeSpec := { name := "linkDoubts", fn := fun _ => fun
  | [d] => { results := [.lit (.bool false)], args := [d] }
  | _ => none }
def LinkDoubtsWrongFalsely : Prop := linkDoubtsRow.holds Try.pinned (OpenSpec.ofChange linkDoubtsWrong)

/- THE SECOND FORM. 'bulk': how many values and letters a reading holds, each counted each time it is reached (what is shared counts as often as it is met; a slice's spare places count too). A statement '..UptoSaid' is the law's where the arguments, and the package variables that the reading takes, are together of bulk at most 1048576: NARROWER than '..Said'. Prove '..Said' where nothing that the law and all that it calls make is longer than what came in: it says more and counts as full. Else prove '..UptoSaid'. A law counts once. -/
mutual
def uptoBulk {H : Type} : DataW H → Nat
  | .lit (.string bytes) => bytes.length + 1
  | .lit _ => 1
  | .nil => 1
  | .ptr d => uptoBulk d + 1
  | .slice elems spare => uptoBulkAll elems + uptoBulkAll spare + 1
  | .agg parts => uptoBulkAll parts + 1
  | .iface _ d => uptoBulk d + 1
  | .map entries => uptoBulkEntries entries + 1
  | .held _ => 1
def uptoBulkAll {H : Type} : List (DataW H) → Nat
  | [] => 0
  | d :: r => uptoBulk d + uptoBulkAll r
def uptoBulkEntries {H : Type} : List (Lit × DataW H) → Nat
  | [] => 0
  | x :: r => uptoBulkEntry x + uptoBulkEntries r
def uptoBulkEntry {H : Type} : Lit × DataW H → Nat
  | (.string bytes, d) => bytes.length + uptoBulk d + 1
  | (_, d) => uptoBulk d + 1
 end
def uptoSmall : (H : Type) → List (DataW H) → Bool := fun _ ds => decide (uptoBulkAll ds ≤ 1048576)
def OpenSpec.upto (s : _root_.Go.ChangeSpec) : _root_.Go.OpenSpec := { _root_.Go.OpenSpec.ofChange s with cond := some uptoSmall }

/-- 'bogielaw14.LinkMatchesReference', WHERE WHAT IT READS IS OF BULK AT MOST 1048576: true; the input reads as it did. -/
def linkMatchesReferenceUptoRow : OpenClaim := { program := "ytofnggfpegcllaa", sum := "5f0b64b6848b37f6260969ed82b1df10168e87024dc85aa3a024dfeecede1bad", func := "bogie/bogielaw14.LinkMatchesReference", spec := "linkMatchesReference", inPlace := ["internal/bytealg.IndexByteString"], unfollowed := true, recurses := true, plainKeys := false, apart := false, narrowed := true }
def LinkMatchesReferenceUptoSaid : Prop := linkMatchesReferenceUptoRow.holds Try.pinned (OpenSpec.upto linkMatchesReferenceSpec)

/-- 'bogielaw14.LinkDivides', WHERE WHAT IT READS IS OF BULK AT MOST 1048576: true; the input reads as it did. -/
def linkDividesUptoRow : OpenClaim := { program := "ytofnggfpegcllaa", sum := "5f0b64b6848b37f6260969ed82b1df10168e87024dc85aa3a024dfeecede1bad", func := "bogie/bogielaw14.LinkDivides", spec := "linkDivides", inPlace := ["internal/bytealg.IndexByteString"], unfollowed := true, recurses := true, plainKeys := false, apart := false, narrowed := true }
def LinkDividesUptoSaid : Prop := linkDividesUptoRow.holds Try.pinned (OpenSpec.upto linkDividesSpec)

/-- 'bogielaw14.LinkConnects', WHERE WHAT IT READS IS OF BULK AT MOST 1048576: true; the input reads as it did. -/
def linkConnectsUptoRow : OpenClaim := { program := "ytofnggfpegcllaa", sum := "5f0b64b6848b37f6260969ed82b1df10168e87024dc85aa3a024dfeecede1bad", func := "bogie/bogielaw14.LinkConnects", spec := "linkConnects", inPlace := ["internal/bytealg.IndexByteString"], unfollowed := true, recurses := true, plainKeys := false, apart := false, narrowed := true }
def LinkConnectsUptoSaid : Prop := linkConnectsUptoRow.holds Try.pinned (OpenSpec.upto linkConnectsSpec)

/-- 'bogielaw14.LinkOf', WHERE WHAT IT READS IS OF BULK AT MOST 1048576: true; the input reads as it did. -/
def linkOfUptoRow : OpenClaim := { program := "ytofnggfpegcllaa", sum := "5f0b64b6848b37f6260969ed82b1df10168e87024dc85aa3a024dfeecede1bad", func := "bogie/bogielaw14.LinkOf", spec := "linkOf", inPlace := ["internal/bytealg.IndexByteString"], unfollowed := true, recurses := true, plainKeys := false, apart := false, narrowed := true }
def LinkOfUptoSaid : Prop := linkOfUptoRow.holds Try.pinned (OpenSpec.upto linkOfSpec)

/-- 'bogielaw14.LinkTurns', WHERE WHAT IT READS IS OF BULK AT MOST 1048576: true; the input reads as it did. -/
def linkTurnsUptoRow : OpenClaim := { program := "ytofnggfpegcllaa", sum := "5f0b64b6848b37f6260969ed82b1df10168e87024dc85aa3a024dfeecede1bad", func := "bogie/bogielaw14.LinkTurns", spec := "linkTurns", inPlace := ["internal/bytealg.IndexByteString"], unfollowed := true, recurses := true, plainKeys := false, apart := false, narrowed := true }
def LinkTurnsUptoSaid : Prop := linkTurnsUptoRow.holds Try.pinned (OpenSpec.upto linkTurnsSpec)

/-- 'bogielaw14.LinkFurther', WHERE WHAT IT READS IS OF BULK AT MOST 1048576: true; the input reads as it did. -/
def linkFurtherUptoRow : OpenClaim := { program := "ytofnggfpegcllaa", sum := "5f0b64b6848b37f6260969ed82b1df10168e87024dc85aa3a024dfeecede1bad", func := "bogie/bogielaw14.LinkFurther", spec := "linkFurther", inPlace := ["internal/bytealg.IndexByteString"], unfollowed := true, recurses := true, plainKeys := false, apart := false, narrowed := true }
def LinkFurtherUptoSaid : Prop := linkFurtherUptoRow.holds Try.pinned (OpenSpec.upto linkFurtherSpec)

/-- 'bogielaw14.LinkDoubts', WHERE WHAT IT READS IS OF BULK AT MOST 1048576: true; the input reads as it did. -/
def linkDoubtsUptoRow : OpenClaim := { program := "ytofnggfpegcllaa", sum := "5f0b64b6848b37f6260969ed82b1df10168e87024dc85aa3a024dfeecede1bad", func := "bogie/bogielaw14.LinkDoubts", spec := "linkDoubts", inPlace := ["internal/bytealg.IndexByteString"], unfollowed := true, recurses := true, plainKeys := false, apart := false, narrowed := true }
def LinkDoubtsUptoSaid : Prop := linkDoubtsUptoRow.holds Try.pinned (OpenSpec.upto linkDoubtsSpec)

end Rows
end Go.Proofs.Ytofnggfpegcllaa
