/-
  DERIVED. GIVEN WITH THE SEED: THE CARDS: each row of YtfggmdgegfadkaaGreatDoorRows.lean that lists a variable, with what it lists TIED to the program's text (the seventh form; the later family's looks); each row that meets fmt, with fmt's text TOLD by the authors' own Lean function (tested against real Go, not proved from fmt's source: count such statements apart). THE CARD IS WHAT COUNTS. Prove the row's statement (the work); the ties are given (YtfggmdgegfadkaaGreatDoorTie.lean); close each card by the builder's one call (the guide's Derived/Test/ToyasCard.lean, 'card_holds'). Laid BY PROGRAM, IN A SANDBOX (cutbox-door.mjs). By AI agents, Wed Nov 11 2026. No macro, syntax, notation, axiom, sorry.
-/
import Derived.Test.YtfggmdgegfadkaaGreatDoorRows
import GoSem.ClaimSeven
namespace Go.Proofs.YtfggmdgegfadkaaGreatDoor
namespace Rows

/-- THE TIED CARD OF 'dauberlaw01.TallyDivides'. -/
def tallyDividesCard : Claim7 := { stood := { row := tallyDividesRow, standIns := [], harness := (true, "4b8fd48233468cd57c05a869ed4dbff07b79dfd370e54f17f0e0d45440103459"), looks := true }, kinds := [], alts := [], laidByText := true, laidKinds := [.data, .data, .data], laidTests := true, laidLooks := .later }
def TallyDividesCardSaid : Prop := Claim7.holds Tryz.pinned (.plain (OpenSpec.ofChange tallyDividesSpec)) tallyDividesCard

/-- THE TIED CARD OF 'dauberlaw01.TallyMakes'. -/
def tallyMakesCard : Claim7 := { stood := { row := tallyMakesRow, standIns := [], harness := (true, "4b8fd48233468cd57c05a869ed4dbff07b79dfd370e54f17f0e0d45440103459"), looks := true }, kinds := [], alts := [], laidByText := true, laidKinds := [.data, .data, .data], laidTests := true, laidLooks := .later }
def TallyMakesCardSaid : Prop := Claim7.holds Tryz.pinned (.plain (OpenSpec.ofChange tallyMakesSpec)) tallyMakesCard

/-- THE TIED CARD OF 'dauberlaw01.TallySums'. -/
def tallySumsCard : Claim7 := { stood := { row := tallySumsRow, standIns := [], harness := (true, "4b8fd48233468cd57c05a869ed4dbff07b79dfd370e54f17f0e0d45440103459"), looks := true }, kinds := [], alts := [], laidByText := true, laidKinds := [.data, .data, .data], laidTests := true, laidLooks := .later }
def TallySumsCardSaid : Prop := Claim7.holds Tryz.pinned (.plain (OpenSpec.ofChange tallySumsSpec)) tallySumsCard

/-- THE TIED CARD OF 'dauberlaw01.TallyFracs'. -/
def tallyFracsCard : Claim7 := { stood := { row := tallyFracsRow, standIns := [], harness := (true, "4b8fd48233468cd57c05a869ed4dbff07b79dfd370e54f17f0e0d45440103459"), looks := true }, kinds := [], alts := [], laidByText := true, laidKinds := [.data, .data, .data], laidTests := true, laidLooks := .later }
def TallyFracsCardSaid : Prop := Claim7.holds Tryz.pinned (.plain (OpenSpec.ofChange tallyFracsSpec)) tallyFracsCard

/-- THE TIED CARD OF 'dauberlaw01.TallyParses'. -/
def tallyParsesCard : Claim7 := { stood := { row := tallyParsesRow, standIns := [], harness := (true, "4b8fd48233468cd57c05a869ed4dbff07b79dfd370e54f17f0e0d45440103459"), looks := true }, kinds := [], alts := [], laidByText := true, laidKinds := [.data, .data, .data], laidTests := true, laidLooks := .later }
def TallyParsesCardSaid : Prop := Claim7.holds Tryz.pinned (.plain (OpenSpec.ofChange tallyParsesSpec)) tallyParsesCard

/-- THE TIED CARD OF 'dauberlaw01.TallyOrders'. -/
def tallyOrdersCard : Claim7 := { stood := { row := tallyOrdersRow, standIns := [], harness := (true, "4b8fd48233468cd57c05a869ed4dbff07b79dfd370e54f17f0e0d45440103459"), looks := true }, kinds := [], alts := [], laidByText := true, laidKinds := [.data, .data, .data], laidTests := true, laidLooks := .later }
def TallyOrdersCardSaid : Prop := Claim7.holds Tryz.pinned (.plain (OpenSpec.ofChange tallyOrdersSpec)) tallyOrdersCard

/-- THE TIED CARD OF 'dauberlaw01.TallyRing'. -/
def tallyRingCard : Claim7 := { stood := { row := tallyRingRow, standIns := [], harness := (true, "4b8fd48233468cd57c05a869ed4dbff07b79dfd370e54f17f0e0d45440103459"), looks := true }, kinds := [], alts := [], laidByText := true, laidKinds := [.data, .data, .data], laidTests := true, laidLooks := .later }
def TallyRingCardSaid : Prop := Claim7.holds Tryz.pinned (.plain (OpenSpec.ofChange tallyRingSpec)) tallyRingCard

/-- THE TIED CARD OF 'dauberlaw01.TallyPowers'. -/
def tallyPowersCard : Claim7 := { stood := { row := tallyPowersRow, standIns := [], harness := (true, "4b8fd48233468cd57c05a869ed4dbff07b79dfd370e54f17f0e0d45440103459"), looks := true }, kinds := [], alts := [], laidByText := true, laidKinds := [.data, .data, .data], laidTests := true, laidLooks := .later }
def TallyPowersCardSaid : Prop := Claim7.holds Tryz.pinned (.plain (OpenSpec.ofChange tallyPowersSpec)) tallyPowersCard

/-- THE TIED CARD OF 'dauberlaw01.TallyCounts'. -/
def tallyCountsCard : Claim7 := { stood := { row := tallyCountsRow, standIns := [], harness := (true, "4b8fd48233468cd57c05a869ed4dbff07b79dfd370e54f17f0e0d45440103459"), looks := true }, kinds := [], alts := [], laidByText := true, laidKinds := [.data, .data, .data], laidTests := true, laidLooks := .later }
def TallyCountsCardSaid : Prop := Claim7.holds Tryz.pinned (.plain (OpenSpec.ofChange tallyCountsSpec)) tallyCountsCard

/-- THE TIED CARD OF 'dauberlaw01.TallyField'. -/
def tallyFieldCard : Claim7 := { stood := { row := tallyFieldRow, standIns := [], harness := (true, "4b8fd48233468cd57c05a869ed4dbff07b79dfd370e54f17f0e0d45440103459"), looks := true }, kinds := [], alts := [], laidByText := true, laidKinds := [.data, .data, .data], laidTests := true, laidLooks := .later }
def TallyFieldCardSaid : Prop := Claim7.holds Tryz.pinned (.plain (OpenSpec.ofChange tallyFieldSpec)) tallyFieldCard

/-- THE TIED CARD OF 'dauberlaw01.TallyRoots'. -/
def tallyRootsCard : Claim7 := { stood := { row := tallyRootsRow, standIns := [], harness := (true, "4b8fd48233468cd57c05a869ed4dbff07b79dfd370e54f17f0e0d45440103459"), looks := true }, kinds := [], alts := [], laidByText := true, laidKinds := [.data, .data, .data], laidTests := true, laidLooks := .later }
def TallyRootsCardSaid : Prop := Claim7.holds Tryz.pinned (.plain (OpenSpec.ofChange tallyRootsSpec)) tallyRootsCard

/-- THE TIED CARD OF 'dauberlaw01.TallyFields'. -/
def tallyFieldsCard : Claim7 := { stood := { row := tallyFieldsRow, standIns := [], harness := (true, "4b8fd48233468cd57c05a869ed4dbff07b79dfd370e54f17f0e0d45440103459"), looks := true }, kinds := [], alts := [], laidByText := true, laidKinds := [.data, .data, .data], laidTests := true, laidLooks := .later }
def TallyFieldsCardSaid : Prop := Claim7.holds Tryz.pinned (.plain (OpenSpec.ofChange tallyFieldsSpec)) tallyFieldsCard

/-- THE TIED CARD OF 'dauberlaw01.TallySizes'. -/
def tallySizesCard : Claim7 := { stood := { row := tallySizesRow, standIns := [], harness := (true, "4b8fd48233468cd57c05a869ed4dbff07b79dfd370e54f17f0e0d45440103459"), looks := true }, kinds := [], alts := [], laidByText := true, laidKinds := [.data, .data, .data], laidTests := true, laidLooks := .later }
def TallySizesCardSaid : Prop := Claim7.holds Tryz.pinned (.plain (OpenSpec.ofChange tallySizesSpec)) tallySizesCard

/-- THE TIED CARD OF 'dauberlaw01.TallyPascal'. -/
def tallyPascalCard : Claim7 := { stood := { row := tallyPascalRow, standIns := [], harness := (true, "4b8fd48233468cd57c05a869ed4dbff07b79dfd370e54f17f0e0d45440103459"), looks := true }, kinds := [], alts := [], laidByText := true, laidKinds := [.data, .data, .data], laidTests := true, laidLooks := .later }
def TallyPascalCardSaid : Prop := Claim7.holds Tryz.pinned (.plain (OpenSpec.ofChange tallyPascalSpec)) tallyPascalCard

/-- THE SECOND FORM's CARD OF 'dauberlaw01.TallyDivides'. -/
def tallyDividesUptoCard : Claim7 := { stood := { row := tallyDividesUptoRow, standIns := [], harness := (true, "4b8fd48233468cd57c05a869ed4dbff07b79dfd370e54f17f0e0d45440103459"), looks := true }, kinds := [], alts := [], laidByText := true, laidKinds := [.data, .data, .data], laidTests := true, laidLooks := .later }
def TallyDividesUptoCardSaid : Prop := Claim7.holds Tryz.pinned (.plain (OpenSpec.upto tallyDividesSpec)) tallyDividesUptoCard

/-- THE SECOND FORM's CARD OF 'dauberlaw01.TallyMakes'. -/
def tallyMakesUptoCard : Claim7 := { stood := { row := tallyMakesUptoRow, standIns := [], harness := (true, "4b8fd48233468cd57c05a869ed4dbff07b79dfd370e54f17f0e0d45440103459"), looks := true }, kinds := [], alts := [], laidByText := true, laidKinds := [.data, .data, .data], laidTests := true, laidLooks := .later }
def TallyMakesUptoCardSaid : Prop := Claim7.holds Tryz.pinned (.plain (OpenSpec.upto tallyMakesSpec)) tallyMakesUptoCard

/-- THE SECOND FORM's CARD OF 'dauberlaw01.TallySums'. -/
def tallySumsUptoCard : Claim7 := { stood := { row := tallySumsUptoRow, standIns := [], harness := (true, "4b8fd48233468cd57c05a869ed4dbff07b79dfd370e54f17f0e0d45440103459"), looks := true }, kinds := [], alts := [], laidByText := true, laidKinds := [.data, .data, .data], laidTests := true, laidLooks := .later }
def TallySumsUptoCardSaid : Prop := Claim7.holds Tryz.pinned (.plain (OpenSpec.upto tallySumsSpec)) tallySumsUptoCard

/-- THE SECOND FORM's CARD OF 'dauberlaw01.TallyFracs'. -/
def tallyFracsUptoCard : Claim7 := { stood := { row := tallyFracsUptoRow, standIns := [], harness := (true, "4b8fd48233468cd57c05a869ed4dbff07b79dfd370e54f17f0e0d45440103459"), looks := true }, kinds := [], alts := [], laidByText := true, laidKinds := [.data, .data, .data], laidTests := true, laidLooks := .later }
def TallyFracsUptoCardSaid : Prop := Claim7.holds Tryz.pinned (.plain (OpenSpec.upto tallyFracsSpec)) tallyFracsUptoCard

/-- THE SECOND FORM's CARD OF 'dauberlaw01.TallyParses'. -/
def tallyParsesUptoCard : Claim7 := { stood := { row := tallyParsesUptoRow, standIns := [], harness := (true, "4b8fd48233468cd57c05a869ed4dbff07b79dfd370e54f17f0e0d45440103459"), looks := true }, kinds := [], alts := [], laidByText := true, laidKinds := [.data, .data, .data], laidTests := true, laidLooks := .later }
def TallyParsesUptoCardSaid : Prop := Claim7.holds Tryz.pinned (.plain (OpenSpec.upto tallyParsesSpec)) tallyParsesUptoCard

/-- THE SECOND FORM's CARD OF 'dauberlaw01.TallyOrders'. -/
def tallyOrdersUptoCard : Claim7 := { stood := { row := tallyOrdersUptoRow, standIns := [], harness := (true, "4b8fd48233468cd57c05a869ed4dbff07b79dfd370e54f17f0e0d45440103459"), looks := true }, kinds := [], alts := [], laidByText := true, laidKinds := [.data, .data, .data], laidTests := true, laidLooks := .later }
def TallyOrdersUptoCardSaid : Prop := Claim7.holds Tryz.pinned (.plain (OpenSpec.upto tallyOrdersSpec)) tallyOrdersUptoCard

/-- THE SECOND FORM's CARD OF 'dauberlaw01.TallyRing'. -/
def tallyRingUptoCard : Claim7 := { stood := { row := tallyRingUptoRow, standIns := [], harness := (true, "4b8fd48233468cd57c05a869ed4dbff07b79dfd370e54f17f0e0d45440103459"), looks := true }, kinds := [], alts := [], laidByText := true, laidKinds := [.data, .data, .data], laidTests := true, laidLooks := .later }
def TallyRingUptoCardSaid : Prop := Claim7.holds Tryz.pinned (.plain (OpenSpec.upto tallyRingSpec)) tallyRingUptoCard

/-- THE SECOND FORM's CARD OF 'dauberlaw01.TallyPowers'. -/
def tallyPowersUptoCard : Claim7 := { stood := { row := tallyPowersUptoRow, standIns := [], harness := (true, "4b8fd48233468cd57c05a869ed4dbff07b79dfd370e54f17f0e0d45440103459"), looks := true }, kinds := [], alts := [], laidByText := true, laidKinds := [.data, .data, .data], laidTests := true, laidLooks := .later }
def TallyPowersUptoCardSaid : Prop := Claim7.holds Tryz.pinned (.plain (OpenSpec.upto tallyPowersSpec)) tallyPowersUptoCard

/-- THE SECOND FORM's CARD OF 'dauberlaw01.TallyCounts'. -/
def tallyCountsUptoCard : Claim7 := { stood := { row := tallyCountsUptoRow, standIns := [], harness := (true, "4b8fd48233468cd57c05a869ed4dbff07b79dfd370e54f17f0e0d45440103459"), looks := true }, kinds := [], alts := [], laidByText := true, laidKinds := [.data, .data, .data], laidTests := true, laidLooks := .later }
def TallyCountsUptoCardSaid : Prop := Claim7.holds Tryz.pinned (.plain (OpenSpec.upto tallyCountsSpec)) tallyCountsUptoCard

/-- THE SECOND FORM's CARD OF 'dauberlaw01.TallyField'. -/
def tallyFieldUptoCard : Claim7 := { stood := { row := tallyFieldUptoRow, standIns := [], harness := (true, "4b8fd48233468cd57c05a869ed4dbff07b79dfd370e54f17f0e0d45440103459"), looks := true }, kinds := [], alts := [], laidByText := true, laidKinds := [.data, .data, .data], laidTests := true, laidLooks := .later }
def TallyFieldUptoCardSaid : Prop := Claim7.holds Tryz.pinned (.plain (OpenSpec.upto tallyFieldSpec)) tallyFieldUptoCard

/-- THE SECOND FORM's CARD OF 'dauberlaw01.TallyRoots'. -/
def tallyRootsUptoCard : Claim7 := { stood := { row := tallyRootsUptoRow, standIns := [], harness := (true, "4b8fd48233468cd57c05a869ed4dbff07b79dfd370e54f17f0e0d45440103459"), looks := true }, kinds := [], alts := [], laidByText := true, laidKinds := [.data, .data, .data], laidTests := true, laidLooks := .later }
def TallyRootsUptoCardSaid : Prop := Claim7.holds Tryz.pinned (.plain (OpenSpec.upto tallyRootsSpec)) tallyRootsUptoCard

/-- THE SECOND FORM's CARD OF 'dauberlaw01.TallyFields'. -/
def tallyFieldsUptoCard : Claim7 := { stood := { row := tallyFieldsUptoRow, standIns := [], harness := (true, "4b8fd48233468cd57c05a869ed4dbff07b79dfd370e54f17f0e0d45440103459"), looks := true }, kinds := [], alts := [], laidByText := true, laidKinds := [.data, .data, .data], laidTests := true, laidLooks := .later }
def TallyFieldsUptoCardSaid : Prop := Claim7.holds Tryz.pinned (.plain (OpenSpec.upto tallyFieldsSpec)) tallyFieldsUptoCard

/-- THE SECOND FORM's CARD OF 'dauberlaw01.TallySizes'. -/
def tallySizesUptoCard : Claim7 := { stood := { row := tallySizesUptoRow, standIns := [], harness := (true, "4b8fd48233468cd57c05a869ed4dbff07b79dfd370e54f17f0e0d45440103459"), looks := true }, kinds := [], alts := [], laidByText := true, laidKinds := [.data, .data, .data], laidTests := true, laidLooks := .later }
def TallySizesUptoCardSaid : Prop := Claim7.holds Tryz.pinned (.plain (OpenSpec.upto tallySizesSpec)) tallySizesUptoCard

/-- THE SECOND FORM's CARD OF 'dauberlaw01.TallyPascal'. -/
def tallyPascalUptoCard : Claim7 := { stood := { row := tallyPascalUptoRow, standIns := [], harness := (true, "4b8fd48233468cd57c05a869ed4dbff07b79dfd370e54f17f0e0d45440103459"), looks := true }, kinds := [], alts := [], laidByText := true, laidKinds := [.data, .data, .data], laidTests := true, laidLooks := .later }
def TallyPascalUptoCardSaid : Prop := Claim7.holds Tryz.pinned (.plain (OpenSpec.upto tallyPascalSpec)) tallyPascalUptoCard
end Rows
end Go.Proofs.YtfggmdgegfadkaaGreatDoor
