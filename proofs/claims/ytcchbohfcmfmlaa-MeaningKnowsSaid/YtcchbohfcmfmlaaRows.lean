/-
  NARROWER THAN 'FOR EVERY INPUT', by the rows' own cells (each row's printed sentence says how): MeaningLogic: loops · MeaningInside: loops · MeaningKnows: loops · MeaningExact: loops.
  DERIVED. THE GIVEN ROWS OF THIS SEAT. 5 by the template 'for every input the law returns true; each argument reads behind the call as it read before'; 0 by the template 'total and deterministic' (their statements: YtcchbohfcmfmlaaTotals.lean).
  GIVEN WITH THE SEED: the statements are not yours to turn. If you find one false, say at which input.
  Laid BY PROGRAM, IN A SANDBOX (cutbox-rows.mjs): the forced cells as the released guide's own fill.sh prints them over the translation 29c8fc5d6a4385fc… (all of the seat's roots in one cut). By AI agents, Wed Nov 11 2026. No macro, syntax, notation, axiom, sorry.
-/
import Derived.Test.YtcchbohfcmfmlaaChecked
import GoSem.Claim
import GoSem.ClaimJoined
import GoSem.ClaimMapViews
import Derived.JoinedTies
import Derived.KernelRfl
namespace Go.Proofs.Ytcchbohfcmfmlaa
/- THE CELL 'sum', in the pinned program and in every row, IS THE sha256 OF THE DUMP (.gsa) THAT YtcchbohfcmfmlaaProg.lean LOADS. Nothing in Lean hashes anything: it is a label: what it is worth is what the hold of that sum in a sandbox is worth. -/
noncomputable def Try.pinned : Pinned := { name := "ytcchbohfcmfmlaa", sum := "29c8fc5d6a4385fc94f86f0c5c7286d271654078c08a03cd8513f612ca1496e2", checked := Try.checked }
namespace Rows
def none {H : Type} : Left H := { results := [], args := [] }

/-- 'bogielaw22.MeaningLogic': WHATEVER THE INPUT: true; the input reads as it did. -/
def meaningLogicSpec : ChangeSpec := { name := "meaningLogic", fn := fun _ => fun
  | [d1, d2, d3, d4, d5] => { results := [.lit (.bool true)], args := [d1, d2, d3, d4, d5] }
  | _ => none }
def meaningLogicRow : OpenClaim := { program := "ytcchbohfcmfmlaa", sum := "29c8fc5d6a4385fc94f86f0c5c7286d271654078c08a03cd8513f612ca1496e2", func := "bogie/bogielaw22.MeaningLogic", spec := "meaningLogic", inPlace := ["internal/bytealg.IndexByteString"], unfollowed := true, recurses := true, loops := true, apart := false }
def MeaningLogicSaid : Prop := meaningLogicRow.holds Try.pinned (OpenSpec.ofChange meaningLogicSpec)

/-- ITS FALSE NEIGHBOUR: 'it returns false'. Refute it at one input. -/
def meaningLogicWrong : ChangeSpec := { name := "meaningLogic", fn := fun _ => fun
  | [d1, d2, d3, d4, d5] => { results := [.lit (.bool false)], args := [d1, d2, d3, d4, d5] }
  | _ => none }
def MeaningLogicWrongFalsely : Prop := meaningLogicRow.holds Try.pinned (OpenSpec.ofChange meaningLogicWrong)

/-- 'bogielaw22.MeaningLimits': WHATEVER THE INPUT: true; the input reads as it did. -/
def meaningLimitsSpec : ChangeSpec := { name := "meaningLimits", fn := fun _ => fun
  | [d1, d2, d3, d4, d5, d6, d7] => { results := [.lit (.bool true)], args := [d1, d2, d3, d4, d5, d6, d7] }
  | _ => none }
def meaningLimitsRow : OpenClaim := { program := "ytcchbohfcmfmlaa", sum := "29c8fc5d6a4385fc94f86f0c5c7286d271654078c08a03cd8513f612ca1496e2", func := "bogie/bogielaw22.MeaningLimits", spec := "meaningLimits", inPlace := ["internal/bytealg.IndexByteString"], unfollowed := true, recurses := true, apart := false }
def MeaningLimitsSaid : Prop := meaningLimitsRow.holds Try.pinned (OpenSpec.ofChange meaningLimitsSpec)

/-- ITS FALSE NEIGHBOUR: 'it returns false'. Refute it at one input. -/
def meaningLimitsWrong : ChangeSpec := { name := "meaningLimits", fn := fun _ => fun
  | [d1, d2, d3, d4, d5, d6, d7] => { results := [.lit (.bool false)], args := [d1, d2, d3, d4, d5, d6, d7] }
  | _ => none }
def MeaningLimitsWrongFalsely : Prop := meaningLimitsRow.holds Try.pinned (OpenSpec.ofChange meaningLimitsWrong)

/-- 'bogielaw22.MeaningInside': WHATEVER THE INPUT: true; the input reads as it did. -/
def meaningInsideSpec : ChangeSpec := { name := "meaningInside", fn := fun _ => fun
  | [d1, d2, d3, d4, d5] => { results := [.lit (.bool true)], args := [d1, d2, d3, d4, d5] }
  | _ => none }
def meaningInsideRow : OpenClaim := { program := "ytcchbohfcmfmlaa", sum := "29c8fc5d6a4385fc94f86f0c5c7286d271654078c08a03cd8513f612ca1496e2", func := "bogie/bogielaw22.MeaningInside", spec := "meaningInside", inPlace := ["internal/bytealg.IndexByteString"], unfollowed := true, recurses := true, loops := true, apart := false }
def MeaningInsideSaid : Prop := meaningInsideRow.holds Try.pinned (OpenSpec.ofChange meaningInsideSpec)

/-- ITS FALSE NEIGHBOUR: 'it returns false'. Refute it at one input. -/
def meaningInsideWrong : ChangeSpec := { name := "meaningInside", fn := fun _ => fun
  | [d1, d2, d3, d4, d5] => { results := [.lit (.bool false)], args := [d1, d2, d3, d4, d5] }
  | _ => none }
def MeaningInsideWrongFalsely : Prop := meaningInsideRow.holds Try.pinned (OpenSpec.ofChange meaningInsideWrong)

/-- 'bogielaw22.MeaningKnows': WHATEVER THE INPUT: true; the input reads as it did. -/
def meaningKnowsSpec : ChangeSpec := { name := "meaningKnows", fn := fun _ => fun
  | [d1, d2, d3, d4, d5] => { results := [.lit (.bool true)], args := [d1, d2, d3, d4, d5] }
  | _ => none }
def meaningKnowsRow : OpenClaim := { program := "ytcchbohfcmfmlaa", sum := "29c8fc5d6a4385fc94f86f0c5c7286d271654078c08a03cd8513f612ca1496e2", func := "bogie/bogielaw22.MeaningKnows", spec := "meaningKnows", inPlace := ["internal/bytealg.IndexByteString"], unfollowed := true, recurses := true, loops := true, apart := false }
def MeaningKnowsSaid : Prop := meaningKnowsRow.holds Try.pinned (OpenSpec.ofChange meaningKnowsSpec)

/-- ITS FALSE NEIGHBOUR: 'it returns false'. Refute it at one input. -/
def meaningKnowsWrong : ChangeSpec := { name := "meaningKnows", fn := fun _ => fun
  | [d1, d2, d3, d4, d5] => { results := [.lit (.bool false)], args := [d1, d2, d3, d4, d5] }
  | _ => none }
def MeaningKnowsWrongFalsely : Prop := meaningKnowsRow.holds Try.pinned (OpenSpec.ofChange meaningKnowsWrong)

/-- 'bogielaw22.MeaningExact': WHATEVER THE INPUT: true; the input reads as it did. -/
def meaningExactSpec : ChangeSpec := { name := "meaningExact", fn := fun _ => fun
  | [d1, d2, d3, d4] => { results := [.lit (.bool true)], args := [d1, d2, d3, d4] }
  | _ => none }
def meaningExactRow : OpenClaim := { program := "ytcchbohfcmfmlaa", sum := "29c8fc5d6a4385fc94f86f0c5c7286d271654078c08a03cd8513f612ca1496e2", func := "bogie/bogielaw22.MeaningExact", spec := "meaningExact", inPlace := ["internal/bytealg.IndexByteString"], unfollowed := true, recurses := true, loops := true, apart := false }
def MeaningExactSaid : Prop := meaningExactRow.holds Try.pinned (OpenSpec.ofChange meaningExactSpec)

/-- ITS FALSE NEIGHBOUR: 'it returns false'. Refute it at one input. -/
def meaningExactWrong : ChangeSpec := { name := "meaningExact", fn := fun _ => fun
  | [d1, d2, d3, d4] => { results := [.lit (.bool false)], args := [d1, d2, d3, d4] }
  | _ => none }
def MeaningExactWrongFalsely : Prop := meaningExactRow.holds Try.pinned (OpenSpec.ofChange meaningExactWrong)

/- THE SECOND FORM. 'bulk': how many values and letters a reading holds, each counted each time it is reached (what is shared counts as often as it is met; a slice's spare places count too). A statement '..UptoSaid' is the law's where the arguments, and the package variables that the reading takes, are together of bulk at most 1048576: NARROWER than '..Said'. Prove '..Said' where nothing that the law and all that it calls make is longer than what came in: it says more and counts as full. Else prove '..UptoSaid'. A law counts once. -/
mutual
def uptoBulk {H : Type} : DataW H → Nat
  | .lit (.string bytes) => bytes.length + 1
  | .lit _ => 1
  | .nil => 1
  | .ptr d => uptoBulk d + 1
  | .slice elems spare => uptoBulkAll elems + uptoBulkAll spare + 1
  | .agg parts => uptoBulkAll parts + 1
  | .iface _ d => uptoBulk d + 1
  | .map entries => uptoBulkEntries entries + 1
  | .held _ => 1
def uptoBulkAll {H : Type} : List (DataW H) → Nat
  | [] => 0
  | d :: r => uptoBulk d + uptoBulkAll r
def uptoBulkEntries {H : Type} : List (Lit × DataW H) → Nat
  | [] => 0
  | x :: r => uptoBulkEntry x + uptoBulkEntries r
def uptoBulkEntry {H : Type} : Lit × DataW H → Nat
  | (.string bytes, d) => bytes.length + uptoBulk d + 1
  | (_, d) => uptoBulk d + 1
 end
def uptoSmall : (H : Type) → List (DataW H) → Bool := fun _ ds => decide (uptoBulkAll ds ≤ 1048576)
def OpenSpec.upto (s : _root_.Go.ChangeSpec) : _root_.Go.OpenSpec := { _root_.Go.OpenSpec.ofChange s with cond := some uptoSmall }

/-- 'bogielaw22.MeaningLogic', WHERE WHAT IT READS IS OF BULK AT MOST 1048576: true; the input reads as it did. -/
def meaningLogicUptoRow : OpenClaim := { program := "ytcchbohfcmfmlaa", sum := "29c8fc5d6a4385fc94f86f0c5c7286d271654078c08a03cd8513f612ca1496e2", func := "bogie/bogielaw22.MeaningLogic", spec := "meaningLogic", inPlace := ["internal/bytealg.IndexByteString"], unfollowed := true, recurses := true, loops := true, apart := false, narrowed := true }
def MeaningLogicUptoSaid : Prop := meaningLogicUptoRow.holds Try.pinned (OpenSpec.upto meaningLogicSpec)

/-- 'bogielaw22.MeaningLimits', WHERE WHAT IT READS IS OF BULK AT MOST 1048576: true; the input reads as it did. -/
def meaningLimitsUptoRow : OpenClaim := { program := "ytcchbohfcmfmlaa", sum := "29c8fc5d6a4385fc94f86f0c5c7286d271654078c08a03cd8513f612ca1496e2", func := "bogie/bogielaw22.MeaningLimits", spec := "meaningLimits", inPlace := ["internal/bytealg.IndexByteString"], unfollowed := true, recurses := true, apart := false, narrowed := true }
def MeaningLimitsUptoSaid : Prop := meaningLimitsUptoRow.holds Try.pinned (OpenSpec.upto meaningLimitsSpec)

/-- 'bogielaw22.MeaningInside', WHERE WHAT IT READS IS OF BULK AT MOST 1048576: true; the input reads as it did. -/
def meaningInsideUptoRow : OpenClaim := { program := "ytcchbohfcmfmlaa", sum := "29c8fc5d6a4385fc94f86f0c5c7286d271654078c08a03cd8513f612ca1496e2", func := "bogie/bogielaw22.MeaningInside", spec := "meaningInside", inPlace := ["internal/bytealg.IndexByteString"], unfollowed := true, recurses := true, loops := true, apart := false, narrowed := true }
def MeaningInsideUptoSaid : Prop := meaningInsideUptoRow.holds Try.pinned (OpenSpec.upto meaningInsideSpec)

/-- 'bogielaw22.MeaningKnows', WHERE WHAT IT READS IS OF BULK AT MOST 1048576: true; the input reads as it did. -/
def meaningKnowsUptoRow : OpenClaim := { program := "ytcchbohfcmfmlaa", sum := "29c8fc5d6a4385fc94f86f0c5c7286d271654078c08a03cd8513f612ca1496e2", func := "bogie/bogielaw22.MeaningKnows", spec := "meaningKnows", inPlace := ["internal/bytealg.IndexByteString"], unfollowed := true, recurses := true, loops := true, apart := false, narrowed := true }
def MeaningKnowsUptoSaid : Prop := meaningKnowsUptoRow.holds Try.pinned (OpenSpec.upto meaningKnowsSpec)

/-- 'bogielaw22.MeaningExact', WHERE WHAT IT READS IS OF BULK AT MOST 1048576: true; the input reads as it did. -/
def meaningExactUptoRow : OpenClaim := { program := "ytcchbohfcmfmlaa", sum := "29c8fc5d6a4385fc94f86f0c5c7286d271654078c08a03cd8513f612ca1496e2", func := "bogie/bogielaw22.MeaningExact", spec := "meaningExact", inPlace := ["internal/bytealg.IndexByteString"], unfollowed := true, recurses := true, loops := true, apart := false, narrowed := true }
def MeaningExactUptoSaid : Prop := meaningExactUptoRow.holds Try.pinned (OpenSpec.upto meaningExactSpec)

end Rows
end Go.Proofs.Ytcchbohfcmfmlaa
