/-
  DERIVED. GIVEN WITH THE SEED: THE CARDS: each row of YtfggmdgegfadkaaDoorRows.lean that lists a variable, with what it lists TIED to the program's text (the seventh form; the later family's looks); each row that meets fmt, with fmt's text TOLD by the authors' own Lean function (tested against real Go, not proved from fmt's source: count such statements apart). THE CARD IS WHAT COUNTS. Prove the row's statement (the work); the ties are given (YtfggmdgegfadkaaDoorTie.lean); close each card by the builder's one call (the guide's Derived/Test/ToyasCard.lean, 'card_holds'). Laid BY PROGRAM, IN A SANDBOX (cutbox-door.mjs). By AI agents, Wed Nov 11 2026. No macro, syntax, notation, axiom, sorry.
-/
import Derived.Test.YtfggmdgegfadkaaDoorRows
import GoSem.ClaimSeven
namespace Go.Proofs.YtfggmdgegfadkaaDoor
namespace Rows

/-- THE TIED CARD OF 'dauberlaw01.TallyForms'. -/
def tallyFormsCard : Claim7 := { stood := { row := tallyFormsRow, standIns := [], harness := (true, "8384db3fa446dc3fb578893ac18b351a70eeaea79e15a5736c2aca376449c5a8"), looks := true }, kinds := [], alts := [], laidByText := true, laidKinds := [.data, .data, .data], laidTests := true, laidLooks := .later }
def TallyFormsCardSaid : Prop := Claim7.holds Tryd.pinned (.plain (OpenSpec.ofChange tallyFormsSpec)) tallyFormsCard

/-- THE SECOND FORM's CARD OF 'dauberlaw01.TallyForms'. -/
def tallyFormsUptoCard : Claim7 := { stood := { row := tallyFormsUptoRow, standIns := [], harness := (true, "8384db3fa446dc3fb578893ac18b351a70eeaea79e15a5736c2aca376449c5a8"), looks := true }, kinds := [], alts := [], laidByText := true, laidKinds := [.data, .data, .data], laidTests := true, laidLooks := .later }
def TallyFormsUptoCardSaid : Prop := Claim7.holds Tryd.pinned (.plain (OpenSpec.upto tallyFormsSpec)) tallyFormsUptoCard
end Rows
end Go.Proofs.YtfggmdgegfadkaaDoor
