/-
  DERIVED. GIVEN WITH THE SEED: THE CARDS: each row of YtaakpcmflladaaaDoorRows.lean that lists a variable, with what it lists TIED to the program's text (the seventh form; the later family's looks); each row that meets fmt, with fmt's text TOLD by the authors' own Lean function (tested against real Go, not proved from fmt's source: count such statements apart). THE CARD IS WHAT COUNTS. Prove the row's statement (the work); the ties are given (YtaakpcmflladaaaDoorTie.lean); close each card by the builder's one call (the guide's Derived/Test/ToyasCard.lean, 'card_holds'). Laid BY PROGRAM, IN A SANDBOX (cutbox-door.mjs). By AI agents, Wed Nov 11 2026. No macro, syntax, notation, axiom, sorry.
-/
import Derived.Test.YtaakpcmflladaaaDoorRows
import GoSem.ClaimSeven
namespace Go.Proofs.YtaakpcmflladaaaDoor
namespace Rows

/-- THE TIED CARD OF 'canvasslaw8.CodeAgreementIsSymmetric'. -/
def codeAgreementIsSymmetricCard : Claim7 := { stood := { row := codeAgreementIsSymmetricRow, standIns := [], harness := (true, "7d7c1909ef93fcdc12b56351e37a5ef8f73ac68a6a57977bd1bd8e5a254cf02c"), looks := false }, kinds := [], alts := [], laidByText := true, laidKinds := [.data, .data, .data, .data, .pinned], laidTests := true, laidLooks := .later }
def CodeAgreementIsSymmetricCardSaid : Prop := Claim7.holds Tryd.pinned (.plain (OpenSpec.ofChange codeAgreementIsSymmetricSpec)) codeAgreementIsSymmetricCard

/-- THE TIED CARD OF 'canvasslaw8.CodeTextsComeBack'. -/
def codeTextsComeBackCard : Claim7 := { stood := { row := codeTextsComeBackRow, standIns := [], harness := (true, "7d7c1909ef93fcdc12b56351e37a5ef8f73ac68a6a57977bd1bd8e5a254cf02c"), looks := false }, kinds := [], alts := [], laidByText := true, laidKinds := [.data, .data, .data, .data, .pinned], laidTests := true, laidLooks := .later }
def CodeTextsComeBackCardSaid : Prop := Claim7.holds Tryd.pinned (.plain (OpenSpec.ofChange codeTextsComeBackSpec)) codeTextsComeBackCard

/-- THE SECOND FORM's CARD OF 'canvasslaw8.CodeAgreementIsSymmetric'. -/
def codeAgreementIsSymmetricUptoCard : Claim7 := { stood := { row := codeAgreementIsSymmetricUptoRow, standIns := [], harness := (true, "7d7c1909ef93fcdc12b56351e37a5ef8f73ac68a6a57977bd1bd8e5a254cf02c"), looks := false }, kinds := [], alts := [], laidByText := true, laidKinds := [.data, .data, .data, .data, .pinned], laidTests := true, laidLooks := .later }
def CodeAgreementIsSymmetricUptoCardSaid : Prop := Claim7.holds Tryd.pinned (.plain (OpenSpec.upto codeAgreementIsSymmetricSpec)) codeAgreementIsSymmetricUptoCard

/-- THE SECOND FORM's CARD OF 'canvasslaw8.CodeTextsComeBack'. -/
def codeTextsComeBackUptoCard : Claim7 := { stood := { row := codeTextsComeBackUptoRow, standIns := [], harness := (true, "7d7c1909ef93fcdc12b56351e37a5ef8f73ac68a6a57977bd1bd8e5a254cf02c"), looks := false }, kinds := [], alts := [], laidByText := true, laidKinds := [.data, .data, .data, .data, .pinned], laidTests := true, laidLooks := .later }
def CodeTextsComeBackUptoCardSaid : Prop := Claim7.holds Tryd.pinned (.plain (OpenSpec.upto codeTextsComeBackSpec)) codeTextsComeBackUptoCard
end Rows
end Go.Proofs.YtaakpcmflladaaaDoor
