/-
  DERIVED. GIVEN WITH THE SEED: THE CARDS: each row of YtnfceboppdcfdaaDoorRows.lean that lists a variable, with what it lists TIED to the program's text (the seventh form; the later family's looks); each row that meets fmt, with fmt's text TOLD by the authors' own Lean function (tested against real Go, not proved from fmt's source: count such statements apart). THE CARD IS WHAT COUNTS. Prove the row's statement (the work); the ties are given (YtnfceboppdcfdaaDoorTie.lean); close each card by the builder's one call (the guide's Derived/Test/ToyasCard.lean, 'card_holds'). Laid BY PROGRAM, IN A SANDBOX (cutbox-door.mjs). By AI agents, Wed Nov 11 2026. No macro, syntax, notation, axiom, sorry.
-/
import Derived.Test.YtnfceboppdcfdaaDoorRows
import GoSem.ClaimSeven
namespace Go.Proofs.YtnfceboppdcfdaaDoor
namespace Rows

/-- THE TIED CARD OF 'pointsmanlaw4.TableEntry'. -/
def tableEntryCard : Claim7 := { stood := { row := tableEntryRow, standIns := [], harness := (true, "c9343980f9cc4298e13bf51bec6d89531373e39cc3f9c6d53b82c24352bfbad4"), looks := true }, kinds := [], alts := [], laidByText := true, laidKinds := [.data, .pinned], laidTests := true, laidLooks := .later }
def TableEntryCardSaid : Prop := Claim7.holds Tryd.pinned (.plain (OpenSpec.ofChange tableEntrySpec)) tableEntryCard

/-- THE TIED CARD OF 'pointsmanlaw6.FieldTrains'. -/
def fieldTrainsCard : Claim7 := { stood := { row := fieldTrainsRow, standIns := [], harness := (true, "c9343980f9cc4298e13bf51bec6d89531373e39cc3f9c6d53b82c24352bfbad4"), looks := true }, kinds := [], alts := [], laidByText := true, laidKinds := [.data, .pinned], laidTests := true, laidLooks := .later }
def FieldTrainsCardSaid : Prop := Claim7.holds Tryd.pinned (.plain (OpenSpec.ofChange fieldTrainsSpec)) fieldTrainsCard

/-- THE TIED CARD OF 'pointsmanlaw6.FieldPlays'. -/
def fieldPlaysCard : Claim7 := { stood := { row := fieldPlaysRow, standIns := [], harness := (true, "c9343980f9cc4298e13bf51bec6d89531373e39cc3f9c6d53b82c24352bfbad4"), looks := true }, kinds := [], alts := [], laidByText := true, laidKinds := [.data, .pinned], laidTests := true, laidLooks := .later }
def FieldPlaysCardSaid : Prop := Claim7.holds Tryd.pinned (.plain (OpenSpec.ofChange fieldPlaysSpec)) fieldPlaysCard

/-- THE TIED CARD OF 'pointsmanlaw5.LockTells'. -/
def lockTellsCard : Claim7 := { stood := { row := lockTellsRow, standIns := [], harness := (true, "c9343980f9cc4298e13bf51bec6d89531373e39cc3f9c6d53b82c24352bfbad4"), looks := true }, kinds := [], alts := [], laidByText := true, laidKinds := [.data, .pinned], laidTests := true, laidLooks := .later }
def LockTellsCardSaid : Prop := Claim7.holds Tryd.pinned (.plain (OpenSpec.ofChange lockTellsSpec)) lockTellsCard

/-- THE TIED CARD OF 'pointsmanlaw5.LockErrs'. -/
def lockErrsCard : Claim7 := { stood := { row := lockErrsRow, standIns := [], harness := (true, "c9343980f9cc4298e13bf51bec6d89531373e39cc3f9c6d53b82c24352bfbad4"), looks := true }, kinds := [], alts := [], laidByText := true, laidKinds := [.data, .pinned], laidTests := true, laidLooks := .later }
def LockErrsCardSaid : Prop := Claim7.holds Tryd.pinned (.plain (OpenSpec.ofChange lockErrsSpec)) lockErrsCard

/-- THE TIED CARD OF 'pointsmanlaw5.LockBusy'. -/
def lockBusyCard : Claim7 := { stood := { row := lockBusyRow, standIns := [], harness := (true, "c9343980f9cc4298e13bf51bec6d89531373e39cc3f9c6d53b82c24352bfbad4"), looks := true }, kinds := [], alts := [], laidByText := true, laidKinds := [.data, .pinned], laidTests := true, laidLooks := .later }
def LockBusyCardSaid : Prop := Claim7.holds Tryd.pinned (.plain (OpenSpec.ofChange lockBusySpec)) lockBusyCard

/-- THE TIED CARD OF 'pointsmanlaw5.LockDanger'. -/
def lockDangerCard : Claim7 := { stood := { row := lockDangerRow, standIns := [], harness := (true, "c9343980f9cc4298e13bf51bec6d89531373e39cc3f9c6d53b82c24352bfbad4"), looks := true }, kinds := [], alts := [], laidByText := true, laidKinds := [.data, .pinned], laidTests := true, laidLooks := .later }
def LockDangerCardSaid : Prop := Claim7.holds Tryd.pinned (.plain (OpenSpec.ofChange lockDangerSpec)) lockDangerCard

/-- THE TIED CARD OF 'pointsmanlaw5.LockIn'. -/
def lockInCard : Claim7 := { stood := { row := lockInRow, standIns := [], harness := (true, "c9343980f9cc4298e13bf51bec6d89531373e39cc3f9c6d53b82c24352bfbad4"), looks := true }, kinds := [], alts := [], laidByText := true, laidKinds := [.data, .pinned], laidTests := true, laidLooks := .later }
def LockInCardSaid : Prop := Claim7.holds Tryd.pinned (.plain (OpenSpec.ofChange lockInSpec)) lockInCard

/-- THE TIED CARD OF 'pointsmanlaw5.LockApart'. -/
def lockApartCard : Claim7 := { stood := { row := lockApartRow, standIns := [], harness := (true, "c9343980f9cc4298e13bf51bec6d89531373e39cc3f9c6d53b82c24352bfbad4"), looks := true }, kinds := [], alts := [], laidByText := true, laidKinds := [.data, .pinned], laidTests := true, laidLooks := .later }
def LockApartCardSaid : Prop := Claim7.holds Tryd.pinned (.plain (OpenSpec.ofChange lockApartSpec)) lockApartCard

/-- THE TIED CARD OF 'pointsmanlaw5.LockSetsBack'. -/
def lockSetsBackCard : Claim7 := { stood := { row := lockSetsBackRow, standIns := [], harness := (true, "c9343980f9cc4298e13bf51bec6d89531373e39cc3f9c6d53b82c24352bfbad4"), looks := true }, kinds := [], alts := [], laidByText := true, laidKinds := [.data, .pinned], laidTests := true, laidLooks := .later }
def LockSetsBackCardSaid : Prop := Claim7.holds Tryd.pinned (.plain (OpenSpec.ofChange lockSetsBackSpec)) lockSetsBackCard

/-- THE TIED CARD OF 'pointsmanlaw12.UnitHears'. -/
def unitHearsCard : Claim7 := { stood := { row := unitHearsRow, standIns := [], harness := (true, "c9343980f9cc4298e13bf51bec6d89531373e39cc3f9c6d53b82c24352bfbad4"), looks := true }, kinds := [], alts := [], laidByText := true, laidKinds := [.data, .pinned], laidTests := true, laidLooks := .later }
def UnitHearsCardSaid : Prop := Claim7.holds Tryd.pinned (.plain (OpenSpec.ofChange unitHearsSpec)) unitHearsCard

/-- THE SECOND FORM's CARD OF 'pointsmanlaw4.TableEntry'. -/
def tableEntryUptoCard : Claim7 := { stood := { row := tableEntryUptoRow, standIns := [], harness := (true, "c9343980f9cc4298e13bf51bec6d89531373e39cc3f9c6d53b82c24352bfbad4"), looks := true }, kinds := [], alts := [], laidByText := true, laidKinds := [.data, .pinned], laidTests := true, laidLooks := .later }
def TableEntryUptoCardSaid : Prop := Claim7.holds Tryd.pinned (.plain (OpenSpec.upto tableEntrySpec)) tableEntryUptoCard

/-- THE SECOND FORM's CARD OF 'pointsmanlaw6.FieldTrains'. -/
def fieldTrainsUptoCard : Claim7 := { stood := { row := fieldTrainsUptoRow, standIns := [], harness := (true, "c9343980f9cc4298e13bf51bec6d89531373e39cc3f9c6d53b82c24352bfbad4"), looks := true }, kinds := [], alts := [], laidByText := true, laidKinds := [.data, .pinned], laidTests := true, laidLooks := .later }
def FieldTrainsUptoCardSaid : Prop := Claim7.holds Tryd.pinned (.plain (OpenSpec.upto fieldTrainsSpec)) fieldTrainsUptoCard

/-- THE SECOND FORM's CARD OF 'pointsmanlaw6.FieldPlays'. -/
def fieldPlaysUptoCard : Claim7 := { stood := { row := fieldPlaysUptoRow, standIns := [], harness := (true, "c9343980f9cc4298e13bf51bec6d89531373e39cc3f9c6d53b82c24352bfbad4"), looks := true }, kinds := [], alts := [], laidByText := true, laidKinds := [.data, .pinned], laidTests := true, laidLooks := .later }
def FieldPlaysUptoCardSaid : Prop := Claim7.holds Tryd.pinned (.plain (OpenSpec.upto fieldPlaysSpec)) fieldPlaysUptoCard

/-- THE SECOND FORM's CARD OF 'pointsmanlaw5.LockTells'. -/
def lockTellsUptoCard : Claim7 := { stood := { row := lockTellsUptoRow, standIns := [], harness := (true, "c9343980f9cc4298e13bf51bec6d89531373e39cc3f9c6d53b82c24352bfbad4"), looks := true }, kinds := [], alts := [], laidByText := true, laidKinds := [.data, .pinned], laidTests := true, laidLooks := .later }
def LockTellsUptoCardSaid : Prop := Claim7.holds Tryd.pinned (.plain (OpenSpec.upto lockTellsSpec)) lockTellsUptoCard

/-- THE SECOND FORM's CARD OF 'pointsmanlaw5.LockErrs'. -/
def lockErrsUptoCard : Claim7 := { stood := { row := lockErrsUptoRow, standIns := [], harness := (true, "c9343980f9cc4298e13bf51bec6d89531373e39cc3f9c6d53b82c24352bfbad4"), looks := true }, kinds := [], alts := [], laidByText := true, laidKinds := [.data, .pinned], laidTests := true, laidLooks := .later }
def LockErrsUptoCardSaid : Prop := Claim7.holds Tryd.pinned (.plain (OpenSpec.upto lockErrsSpec)) lockErrsUptoCard

/-- THE SECOND FORM's CARD OF 'pointsmanlaw5.LockBusy'. -/
def lockBusyUptoCard : Claim7 := { stood := { row := lockBusyUptoRow, standIns := [], harness := (true, "c9343980f9cc4298e13bf51bec6d89531373e39cc3f9c6d53b82c24352bfbad4"), looks := true }, kinds := [], alts := [], laidByText := true, laidKinds := [.data, .pinned], laidTests := true, laidLooks := .later }
def LockBusyUptoCardSaid : Prop := Claim7.holds Tryd.pinned (.plain (OpenSpec.upto lockBusySpec)) lockBusyUptoCard

/-- THE SECOND FORM's CARD OF 'pointsmanlaw5.LockDanger'. -/
def lockDangerUptoCard : Claim7 := { stood := { row := lockDangerUptoRow, standIns := [], harness := (true, "c9343980f9cc4298e13bf51bec6d89531373e39cc3f9c6d53b82c24352bfbad4"), looks := true }, kinds := [], alts := [], laidByText := true, laidKinds := [.data, .pinned], laidTests := true, laidLooks := .later }
def LockDangerUptoCardSaid : Prop := Claim7.holds Tryd.pinned (.plain (OpenSpec.upto lockDangerSpec)) lockDangerUptoCard

/-- THE SECOND FORM's CARD OF 'pointsmanlaw5.LockIn'. -/
def lockInUptoCard : Claim7 := { stood := { row := lockInUptoRow, standIns := [], harness := (true, "c9343980f9cc4298e13bf51bec6d89531373e39cc3f9c6d53b82c24352bfbad4"), looks := true }, kinds := [], alts := [], laidByText := true, laidKinds := [.data, .pinned], laidTests := true, laidLooks := .later }
def LockInUptoCardSaid : Prop := Claim7.holds Tryd.pinned (.plain (OpenSpec.upto lockInSpec)) lockInUptoCard

/-- THE SECOND FORM's CARD OF 'pointsmanlaw5.LockApart'. -/
def lockApartUptoCard : Claim7 := { stood := { row := lockApartUptoRow, standIns := [], harness := (true, "c9343980f9cc4298e13bf51bec6d89531373e39cc3f9c6d53b82c24352bfbad4"), looks := true }, kinds := [], alts := [], laidByText := true, laidKinds := [.data, .pinned], laidTests := true, laidLooks := .later }
def LockApartUptoCardSaid : Prop := Claim7.holds Tryd.pinned (.plain (OpenSpec.upto lockApartSpec)) lockApartUptoCard

/-- THE SECOND FORM's CARD OF 'pointsmanlaw5.LockSetsBack'. -/
def lockSetsBackUptoCard : Claim7 := { stood := { row := lockSetsBackUptoRow, standIns := [], harness := (true, "c9343980f9cc4298e13bf51bec6d89531373e39cc3f9c6d53b82c24352bfbad4"), looks := true }, kinds := [], alts := [], laidByText := true, laidKinds := [.data, .pinned], laidTests := true, laidLooks := .later }
def LockSetsBackUptoCardSaid : Prop := Claim7.holds Tryd.pinned (.plain (OpenSpec.upto lockSetsBackSpec)) lockSetsBackUptoCard

/-- THE SECOND FORM's CARD OF 'pointsmanlaw12.UnitHears'. -/
def unitHearsUptoCard : Claim7 := { stood := { row := unitHearsUptoRow, standIns := [], harness := (true, "c9343980f9cc4298e13bf51bec6d89531373e39cc3f9c6d53b82c24352bfbad4"), looks := true }, kinds := [], alts := [], laidByText := true, laidKinds := [.data, .pinned], laidTests := true, laidLooks := .later }
def UnitHearsUptoCardSaid : Prop := Claim7.holds Tryd.pinned (.plain (OpenSpec.upto unitHearsSpec)) unitHearsUptoCard
end Rows
end Go.Proofs.YtnfceboppdcfdaaDoor
