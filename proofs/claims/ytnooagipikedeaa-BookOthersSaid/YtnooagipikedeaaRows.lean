/-
  NARROWER THAN 'FOR EVERY INPUT', by the rows' own cells (each row's printed sentence says how): BookMatchesReference: loops · BookNames: loops · BookDays: loops · BookOrders: loops · BookLater: loops · BookOthers: loops.
  DERIVED. THE GIVEN ROWS OF THIS SEAT. 6 by the template 'for every input the law returns true; each argument reads behind the call as it read before'; 0 by the template 'total and deterministic' (their statements: YtnooagipikedeaaTotals.lean).
  GIVEN WITH THE SEED: the statements are not yours to turn. If you find one false, say at which input.
  Laid BY PROGRAM, IN A SANDBOX (cutbox-rows.mjs): the forced cells as the released guide's own fill.sh prints them over the translation 2b807b9399c46df2… (all of the seat's roots in one cut). By AI agents, Wed Nov 11 2026. No macro, syntax, notation, axiom, sorry.
-/
import Derived.Test.YtnooagipikedeaaChecked
import GoSem.Claim
import GoSem.ClaimJoined
import GoSem.ClaimMapViews
import Derived.JoinedTies
import Derived.KernelRfl
namespace Go.Proofs.Ytnooagipikedeaa
/- THE CELL 'sum', in the pinned program and in every row, IS THE sha256 OF THE DUMP (.gsa) THAT YtnooagipikedeaaProg.lean LOADS. Nothing in Lean hashes anything: it is a label: what it is worth is what the hold of that sum in a sandbox is worth. -/
noncomputable def Try.pinned : Pinned := { name := "ytnooagipikedeaa", sum := "2b807b9399c46df25dea902d0587cce6bb8986724112d3e001525c1804601f6d", checked := Try.checked }
namespace Rows
def none {H : Type} : Left H := { results := [], args := [] }

/-- 'bogielaw23.BookMatchesReference': WHATEVER THE INPUT: true; the input reads as it did. -/
def bookMatchesReferenceSpec : ChangeSpec := { name := "bookMatchesReference", fn := fun _ => fun
  | [d1, d2, d3] => { results := [.lit (.bool true)], args := [d1, d2, d3] }
  | _ => none }
def bookMatchesReferenceRow : OpenClaim := { program := "ytnooagipikedeaa", sum := "2b807b9399c46df25dea902d0587cce6bb8986724112d3e001525c1804601f6d", func := "bogie/bogielaw23.BookMatchesReference", spec := "bookMatchesReference", inPlace := ["internal/bytealg.IndexByteString"], unfollowed := true, recurses := true, loops := true, apart := false }
def BookMatchesReferenceSaid : Prop := bookMatchesReferenceRow.holds Try.pinned (OpenSpec.ofChange bookMatchesReferenceSpec)

/-- ITS FALSE NEIGHBOUR: 'it returns false'. Refute it at one input. -/
def bookMatchesReferenceWrong : ChangeSpec := { name := "bookMatchesReference", fn := fun _ => fun
  | [d1, d2, d3] => { results := [.lit (.bool false)], args := [d1, d2, d3] }
  | _ => none }
def BookMatchesReferenceWrongFalsely : Prop := bookMatchesReferenceRow.holds Try.pinned (OpenSpec.ofChange bookMatchesReferenceWrong)

/-- 'bogielaw23.BookNames': WHATEVER THE INPUT: true; the input reads as it did. -/
def bookNamesSpec : ChangeSpec := { name := "bookNames", fn := fun _ => fun
  | [d1, d2, d3] => { results := [.lit (.bool true)], args := [d1, d2, d3] }
  | _ => none }
def bookNamesRow : OpenClaim := { program := "ytnooagipikedeaa", sum := "2b807b9399c46df25dea902d0587cce6bb8986724112d3e001525c1804601f6d", func := "bogie/bogielaw23.BookNames", spec := "bookNames", inPlace := ["internal/bytealg.IndexByteString"], unfollowed := true, recurses := true, loops := true, apart := false }
def BookNamesSaid : Prop := bookNamesRow.holds Try.pinned (OpenSpec.ofChange bookNamesSpec)

/-- ITS FALSE NEIGHBOUR: 'it returns false'. Refute it at one input. -/
def bookNamesWrong : ChangeSpec := { name := "bookNames", fn := fun _ => fun
  | [d1, d2, d3] => { results := [.lit (.bool false)], args := [d1, d2, d3] }
  | _ => none }
def BookNamesWrongFalsely : Prop := bookNamesRow.holds Try.pinned (OpenSpec.ofChange bookNamesWrong)

/-- 'bogielaw23.BookDays': WHATEVER THE INPUT: true; the input reads as it did. -/
def bookDaysSpec : ChangeSpec := { name := "bookDays", fn := fun _ => fun
  | [d1, d2, d3] => { results := [.lit (.bool true)], args := [d1, d2, d3] }
  | _ => none }
def bookDaysRow : OpenClaim := { program := "ytnooagipikedeaa", sum := "2b807b9399c46df25dea902d0587cce6bb8986724112d3e001525c1804601f6d", func := "bogie/bogielaw23.BookDays", spec := "bookDays", inPlace := ["internal/bytealg.IndexByteString"], unfollowed := true, recurses := true, loops := true, apart := false }
def BookDaysSaid : Prop := bookDaysRow.holds Try.pinned (OpenSpec.ofChange bookDaysSpec)

/-- ITS FALSE NEIGHBOUR: 'it returns false'. Refute it at one input. -/
def bookDaysWrong : ChangeSpec := { name := "bookDays", fn := fun _ => fun
  | [d1, d2, d3] => { results := [.lit (.bool false)], args := [d1, d2, d3] }
  | _ => none }
def BookDaysWrongFalsely : Prop := bookDaysRow.holds Try.pinned (OpenSpec.ofChange bookDaysWrong)

/-- 'bogielaw23.BookOrders': WHATEVER THE INPUT: true; the input reads as it did. -/
def bookOrdersSpec : ChangeSpec := { name := "bookOrders", fn := fun _ => fun
  | [d1, d2, d3] => { results := [.lit (.bool true)], args := [d1, d2, d3] }
  | _ => none }
def bookOrdersRow : OpenClaim := { program := "ytnooagipikedeaa", sum := "2b807b9399c46df25dea902d0587cce6bb8986724112d3e001525c1804601f6d", func := "bogie/bogielaw23.BookOrders", spec := "bookOrders", inPlace := ["internal/bytealg.IndexByteString"], unfollowed := true, recurses := true, loops := true, apart := false }
def BookOrdersSaid : Prop := bookOrdersRow.holds Try.pinned (OpenSpec.ofChange bookOrdersSpec)

/-- ITS FALSE NEIGHBOUR: 'it returns false'. Refute it at one input. -/
def bookOrdersWrong : ChangeSpec := { name := "bookOrders", fn := fun _ => fun
  | [d1, d2, d3] => { results := [.lit (.bool false)], args := [d1, d2, d3] }
  | _ => none }
def BookOrdersWrongFalsely : Prop := bookOrdersRow.holds Try.pinned (OpenSpec.ofChange bookOrdersWrong)

/-- 'bogielaw23.BookLater': WHATEVER THE INPUT: true; the input reads as it did. -/
def bookLaterSpec : ChangeSpec := { name := "bookLater", fn := fun _ => fun
  | [d1, d2, d3, d4] => { results := [.lit (.bool true)], args := [d1, d2, d3, d4] }
  | _ => none }
def bookLaterRow : OpenClaim := { program := "ytnooagipikedeaa", sum := "2b807b9399c46df25dea902d0587cce6bb8986724112d3e001525c1804601f6d", func := "bogie/bogielaw23.BookLater", spec := "bookLater", inPlace := ["internal/bytealg.IndexByteString"], unfollowed := true, recurses := true, loops := true, apart := false }
def BookLaterSaid : Prop := bookLaterRow.holds Try.pinned (OpenSpec.ofChange bookLaterSpec)

/-- ITS FALSE NEIGHBOUR: 'it returns false'. Refute it at one input. -/
def bookLaterWrong : ChangeSpec := { name := "bookLater", fn := fun _ => fun
  | [d1, d2, d3, d4] => { results := [.lit (.bool false)], args := [d1, d2, d3, d4] }
  | _ => none }
def BookLaterWrongFalsely : Prop := bookLaterRow.holds Try.pinned (OpenSpec.ofChange bookLaterWrong)

/-- 'bogielaw23.BookOthers': WHATEVER THE INPUT: true; the input reads as it did. -/
def bookOthersSpec : ChangeSpec := { name := "bookOthers", fn := fun _ => fun
  | [d1, d2, d3, d4, d5] => { results := [.lit (.bool true)], args := [d1, d2, d3, d4, d5] }
  | _ => none }
def bookOthersRow : OpenClaim := { program := "ytnooagipikedeaa", sum := "2b807b9399c46df25dea902d0587cce6bb8986724112d3e001525c1804601f6d", func := "bogie/bogielaw23.BookOthers", spec := "bookOthers", inPlace := ["internal/bytealg.IndexByteString"], unfollowed := true, recurses := true, loops := true, apart := false }
def BookOthersSaid : Prop := bookOthersRow.holds Try.pinned (OpenSpec.ofChange bookOthersSpec)

/-- ITS FALSE NEIGHBOUR: 'it returns false'. Refute it at one input. -/
def bookOthersWrong : ChangeSpec := { name := "bookOthers", fn := fun _ => fun
  | [d1, d2, d3, d4, d5] => { results := [.lit (.bool false)], args := [d1, d2, d3, d4, d5] }
  | _ => none }
def BookOthersWrongFalsely : Prop := bookOthersRow.holds Try.pinned (OpenSpec.ofChange bookOthersWrong)

/- THE SECOND FORM. 'bulk': how many values and letters a reading holds, each counted each time it is reached (what is shared counts as often as it is met; a slice's spare places count too). A statement '..UptoSaid' is the law's where the arguments, and the package variables that the reading takes, are together of bulk at most 1048576: NARROWER than '..Said'. Prove '..Said' where nothing that the law and all that it calls make is longer than what came in: it says more and counts as full. Else prove '..UptoSaid'. A law counts once. -/
mutual
def uptoBulk {H : Type} : DataW H → Nat
  | .lit (.string bytes) => bytes.length + 1
  | .lit _ => 1
  | .nil => 1
  | .ptr d => uptoBulk d + 1
  | .slice elems spare => uptoBulkAll elems + uptoBulkAll spare + 1
  | .agg parts => uptoBulkAll parts + 1
  | .iface _ d => uptoBulk d + 1
  | .map entries => uptoBulkEntries entries + 1
  | .held _ => 1
def uptoBulkAll {H : Type} : List (DataW H) → Nat
  | [] => 0
  | d :: r => uptoBulk d + uptoBulkAll r
def uptoBulkEntries {H : Type} : List (Lit × DataW H) → Nat
  | [] => 0
  | x :: r => uptoBulkEntry x + uptoBulkEntries r
def uptoBulkEntry {H : Type} : Lit × DataW H → Nat
  | (.string bytes, d) => bytes.length + uptoBulk d + 1
  | (_, d) => uptoBulk d + 1
 end
def uptoSmall : (H : Type) → List (DataW H) → Bool := fun _ ds => decide (uptoBulkAll ds ≤ 1048576)
def OpenSpec.upto (s : _root_.Go.ChangeSpec) : _root_.Go.OpenSpec := { _root_.Go.OpenSpec.ofChange s with cond := some uptoSmall }

/-- 'bogielaw23.BookMatchesReference', WHERE WHAT IT READS IS OF BULK AT MOST 1048576: true; the input reads as it did. -/
def bookMatchesReferenceUptoRow : OpenClaim := { program := "ytnooagipikedeaa", sum := "2b807b9399c46df25dea902d0587cce6bb8986724112d3e001525c1804601f6d", func := "bogie/bogielaw23.BookMatchesReference", spec := "bookMatchesReference", inPlace := ["internal/bytealg.IndexByteString"], unfollowed := true, recurses := true, loops := true, apart := false, narrowed := true }
def BookMatchesReferenceUptoSaid : Prop := bookMatchesReferenceUptoRow.holds Try.pinned (OpenSpec.upto bookMatchesReferenceSpec)

/-- 'bogielaw23.BookNames', WHERE WHAT IT READS IS OF BULK AT MOST 1048576: true; the input reads as it did. -/
def bookNamesUptoRow : OpenClaim := { program := "ytnooagipikedeaa", sum := "2b807b9399c46df25dea902d0587cce6bb8986724112d3e001525c1804601f6d", func := "bogie/bogielaw23.BookNames", spec := "bookNames", inPlace := ["internal/bytealg.IndexByteString"], unfollowed := true, recurses := true, loops := true, apart := false, narrowed := true }
def BookNamesUptoSaid : Prop := bookNamesUptoRow.holds Try.pinned (OpenSpec.upto bookNamesSpec)

/-- 'bogielaw23.BookDays', WHERE WHAT IT READS IS OF BULK AT MOST 1048576: true; the input reads as it did. -/
def bookDaysUptoRow : OpenClaim := { program := "ytnooagipikedeaa", sum := "2b807b9399c46df25dea902d0587cce6bb8986724112d3e001525c1804601f6d", func := "bogie/bogielaw23.BookDays", spec := "bookDays", inPlace := ["internal/bytealg.IndexByteString"], unfollowed := true, recurses := true, loops := true, apart := false, narrowed := true }
def BookDaysUptoSaid : Prop := bookDaysUptoRow.holds Try.pinned (OpenSpec.upto bookDaysSpec)

/-- 'bogielaw23.BookOrders', WHERE WHAT IT READS IS OF BULK AT MOST 1048576: true; the input reads as it did. -/
def bookOrdersUptoRow : OpenClaim := { program := "ytnooagipikedeaa", sum := "2b807b9399c46df25dea902d0587cce6bb8986724112d3e001525c1804601f6d", func := "bogie/bogielaw23.BookOrders", spec := "bookOrders", inPlace := ["internal/bytealg.IndexByteString"], unfollowed := true, recurses := true, loops := true, apart := false, narrowed := true }
def BookOrdersUptoSaid : Prop := bookOrdersUptoRow.holds Try.pinned (OpenSpec.upto bookOrdersSpec)

/-- 'bogielaw23.BookLater', WHERE WHAT IT READS IS OF BULK AT MOST 1048576: true; the input reads as it did. -/
def bookLaterUptoRow : OpenClaim := { program := "ytnooagipikedeaa", sum := "2b807b9399c46df25dea902d0587cce6bb8986724112d3e001525c1804601f6d", func := "bogie/bogielaw23.BookLater", spec := "bookLater", inPlace := ["internal/bytealg.IndexByteString"], unfollowed := true, recurses := true, loops := true, apart := false, narrowed := true }
def BookLaterUptoSaid : Prop := bookLaterUptoRow.holds Try.pinned (OpenSpec.upto bookLaterSpec)

/-- 'bogielaw23.BookOthers', WHERE WHAT IT READS IS OF BULK AT MOST 1048576: true; the input reads as it did. -/
def bookOthersUptoRow : OpenClaim := { program := "ytnooagipikedeaa", sum := "2b807b9399c46df25dea902d0587cce6bb8986724112d3e001525c1804601f6d", func := "bogie/bogielaw23.BookOthers", spec := "bookOthers", inPlace := ["internal/bytealg.IndexByteString"], unfollowed := true, recurses := true, loops := true, apart := false, narrowed := true }
def BookOthersUptoSaid : Prop := bookOthersUptoRow.holds Try.pinned (OpenSpec.upto bookOthersSpec)

end Rows
end Go.Proofs.Ytnooagipikedeaa
