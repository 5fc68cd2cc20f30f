/-
  DERIVED. GIVEN WITH THE SEED: THE CARDS: each row of YtgjkhlnpplajjaaDoorRows.lean that lists a variable, with what it lists TIED to the program's text (the seventh form; the later family's looks); each row that meets fmt, with fmt's text TOLD by the authors' own Lean function (tested against real Go, not proved from fmt's source: count such statements apart). THE CARD IS WHAT COUNTS. Prove the row's statement (the work); the ties are given (YtgjkhlnpplajjaaDoorTie.lean); close each card by the builder's one call (the guide's Derived/Test/ToyasCard.lean, 'card_holds'). Laid BY PROGRAM, IN A SANDBOX (cutbox-door.mjs). By AI agents, Wed Nov 11 2026. No macro, syntax, notation, axiom, sorry.
-/
import Derived.Test.YtgjkhlnpplajjaaDoorRows
import GoSem.ClaimSeven
namespace Go.Proofs.YtgjkhlnpplajjaaDoor
namespace Rows

/-- THE TIED CARD OF 'bogielaw02.SignMatchesReference'. -/
def signMatchesReferenceCard : Claim7 := { stood := { row := signMatchesReferenceRow, standIns := [], harness := (true, "6bafe0f26a25eca22c5a463e34e239ca0ca3e1f5eb820aba303e1aca645b64f9"), looks := false }, kinds := [], alts := [], laidByText := true, laidKinds := [.data, .data, .data, .data, .pinned], laidTests := true, laidLooks := .later }
def SignMatchesReferenceCardSaid : Prop := Claim7.holds Tryd.pinned (.plain (OpenSpec.ofChange signMatchesReferenceSpec)) signMatchesReferenceCard

/-- THE TIED CARD OF 'bogielaw02.SignVerifies'. -/
def signVerifiesCard : Claim7 := { stood := { row := signVerifiesRow, standIns := [], harness := (true, "6bafe0f26a25eca22c5a463e34e239ca0ca3e1f5eb820aba303e1aca645b64f9"), looks := false }, kinds := [], alts := [], laidByText := true, laidKinds := [.data, .data, .data, .data, .pinned], laidTests := true, laidLooks := .later }
def SignVerifiesCardSaid : Prop := Claim7.holds Tryd.pinned (.plain (OpenSpec.ofChange signVerifiesSpec)) signVerifiesCard

/-- THE TIED CARD OF 'bogielaw02.SignSound'. -/
def signSoundCard : Claim7 := { stood := { row := signSoundRow, standIns := [], harness := (true, "6bafe0f26a25eca22c5a463e34e239ca0ca3e1f5eb820aba303e1aca645b64f9"), looks := false }, kinds := [], alts := [], laidByText := true, laidKinds := [.data, .data, .data, .data, .pinned], laidTests := true, laidLooks := .later }
def SignSoundCardSaid : Prop := Claim7.holds Tryd.pinned (.plain (OpenSpec.ofChange signSoundSpec)) signSoundCard

/-- THE TIED CARD OF 'bogielaw02.SignBinds'. -/
def signBindsCard : Claim7 := { stood := { row := signBindsRow, standIns := [], harness := (true, "6bafe0f26a25eca22c5a463e34e239ca0ca3e1f5eb820aba303e1aca645b64f9"), looks := false }, kinds := [], alts := [], laidByText := true, laidKinds := [.data, .data, .data, .data, .pinned], laidTests := true, laidLooks := .later }
def SignBindsCardSaid : Prop := Claim7.holds Tryd.pinned (.plain (OpenSpec.ofChange signBindsSpec)) signBindsCard

/-- THE TIED CARD OF 'bogielaw02.SignChanges'. -/
def signChangesCard : Claim7 := { stood := { row := signChangesRow, standIns := [], harness := (true, "6bafe0f26a25eca22c5a463e34e239ca0ca3e1f5eb820aba303e1aca645b64f9"), looks := false }, kinds := [], alts := [], laidByText := true, laidKinds := [.data, .data, .data, .data, .pinned], laidTests := true, laidLooks := .later }
def SignChangesCardSaid : Prop := Claim7.holds Tryd.pinned (.plain (OpenSpec.ofChange signChangesSpec)) signChangesCard

/-- THE TIED CARD OF 'bogielaw02.SignSecrets'. -/
def signSecretsCard : Claim7 := { stood := { row := signSecretsRow, standIns := [], harness := (true, "6bafe0f26a25eca22c5a463e34e239ca0ca3e1f5eb820aba303e1aca645b64f9"), looks := false }, kinds := [], alts := [], laidByText := true, laidKinds := [.data, .data, .data, .data, .pinned], laidTests := true, laidLooks := .later }
def SignSecretsCardSaid : Prop := Claim7.holds Tryd.pinned (.plain (OpenSpec.ofChange signSecretsSpec)) signSecretsCard

/-- THE TIED CARD OF 'bogielaw02.SignForm'. -/
def signFormCard : Claim7 := { stood := { row := signFormRow, standIns := [], harness := (true, "6bafe0f26a25eca22c5a463e34e239ca0ca3e1f5eb820aba303e1aca645b64f9"), looks := false }, kinds := [], alts := [], laidByText := true, laidKinds := [.data, .data, .data, .data, .pinned], laidTests := true, laidLooks := .later }
def SignFormCardSaid : Prop := Claim7.holds Tryd.pinned (.plain (OpenSpec.ofChange signFormSpec)) signFormCard

/-- THE SECOND FORM's CARD OF 'bogielaw02.SignMatchesReference'. -/
def signMatchesReferenceUptoCard : Claim7 := { stood := { row := signMatchesReferenceUptoRow, standIns := [], harness := (true, "6bafe0f26a25eca22c5a463e34e239ca0ca3e1f5eb820aba303e1aca645b64f9"), looks := false }, kinds := [], alts := [], laidByText := true, laidKinds := [.data, .data, .data, .data, .pinned], laidTests := true, laidLooks := .later }
def SignMatchesReferenceUptoCardSaid : Prop := Claim7.holds Tryd.pinned (.plain (OpenSpec.upto signMatchesReferenceSpec)) signMatchesReferenceUptoCard

/-- THE SECOND FORM's CARD OF 'bogielaw02.SignVerifies'. -/
def signVerifiesUptoCard : Claim7 := { stood := { row := signVerifiesUptoRow, standIns := [], harness := (true, "6bafe0f26a25eca22c5a463e34e239ca0ca3e1f5eb820aba303e1aca645b64f9"), looks := false }, kinds := [], alts := [], laidByText := true, laidKinds := [.data, .data, .data, .data, .pinned], laidTests := true, laidLooks := .later }
def SignVerifiesUptoCardSaid : Prop := Claim7.holds Tryd.pinned (.plain (OpenSpec.upto signVerifiesSpec)) signVerifiesUptoCard

/-- THE SECOND FORM's CARD OF 'bogielaw02.SignSound'. -/
def signSoundUptoCard : Claim7 := { stood := { row := signSoundUptoRow, standIns := [], harness := (true, "6bafe0f26a25eca22c5a463e34e239ca0ca3e1f5eb820aba303e1aca645b64f9"), looks := false }, kinds := [], alts := [], laidByText := true, laidKinds := [.data, .data, .data, .data, .pinned], laidTests := true, laidLooks := .later }
def SignSoundUptoCardSaid : Prop := Claim7.holds Tryd.pinned (.plain (OpenSpec.upto signSoundSpec)) signSoundUptoCard

/-- THE SECOND FORM's CARD OF 'bogielaw02.SignBinds'. -/
def signBindsUptoCard : Claim7 := { stood := { row := signBindsUptoRow, standIns := [], harness := (true, "6bafe0f26a25eca22c5a463e34e239ca0ca3e1f5eb820aba303e1aca645b64f9"), looks := false }, kinds := [], alts := [], laidByText := true, laidKinds := [.data, .data, .data, .data, .pinned], laidTests := true, laidLooks := .later }
def SignBindsUptoCardSaid : Prop := Claim7.holds Tryd.pinned (.plain (OpenSpec.upto signBindsSpec)) signBindsUptoCard

/-- THE SECOND FORM's CARD OF 'bogielaw02.SignChanges'. -/
def signChangesUptoCard : Claim7 := { stood := { row := signChangesUptoRow, standIns := [], harness := (true, "6bafe0f26a25eca22c5a463e34e239ca0ca3e1f5eb820aba303e1aca645b64f9"), looks := false }, kinds := [], alts := [], laidByText := true, laidKinds := [.data, .data, .data, .data, .pinned], laidTests := true, laidLooks := .later }
def SignChangesUptoCardSaid : Prop := Claim7.holds Tryd.pinned (.plain (OpenSpec.upto signChangesSpec)) signChangesUptoCard

/-- THE SECOND FORM's CARD OF 'bogielaw02.SignSecrets'. -/
def signSecretsUptoCard : Claim7 := { stood := { row := signSecretsUptoRow, standIns := [], harness := (true, "6bafe0f26a25eca22c5a463e34e239ca0ca3e1f5eb820aba303e1aca645b64f9"), looks := false }, kinds := [], alts := [], laidByText := true, laidKinds := [.data, .data, .data, .data, .pinned], laidTests := true, laidLooks := .later }
def SignSecretsUptoCardSaid : Prop := Claim7.holds Tryd.pinned (.plain (OpenSpec.upto signSecretsSpec)) signSecretsUptoCard

/-- THE SECOND FORM's CARD OF 'bogielaw02.SignForm'. -/
def signFormUptoCard : Claim7 := { stood := { row := signFormUptoRow, standIns := [], harness := (true, "6bafe0f26a25eca22c5a463e34e239ca0ca3e1f5eb820aba303e1aca645b64f9"), looks := false }, kinds := [], alts := [], laidByText := true, laidKinds := [.data, .data, .data, .data, .pinned], laidTests := true, laidLooks := .later }
def SignFormUptoCardSaid : Prop := Claim7.holds Tryd.pinned (.plain (OpenSpec.upto signFormSpec)) signFormUptoCard
end Rows
end Go.Proofs.YtgjkhlnpplajjaaDoor
