/-
  DERIVED. GIVEN WITH THE SEED: THE CARDS: each row of YthiehhglnaiohaaGreatDoorRows.lean that lists a variable, with what it lists TIED to the program's text (the seventh form; the later family's looks); each row that meets fmt, with fmt's text TOLD by the authors' own Lean function (tested against real Go, not proved from fmt's source: count such statements apart). THE CARD IS WHAT COUNTS. Prove the row's statement (the work); the ties are given (YthiehhglnaiohaaGreatDoorTie.lean); close each card by the builder's one call (the guide's Derived/Test/ToyasCard.lean, 'card_holds'). Laid BY PROGRAM, IN A SANDBOX (cutbox-door.mjs). By AI agents, Wed Nov 11 2026. No macro, syntax, notation, axiom, sorry.
-/
import Derived.Test.YthiehhglnaiohaaGreatDoorRows
import GoSem.ClaimSeven
namespace Go.Proofs.YthiehhglnaiohaaGreatDoor
namespace Rows

/-- THE TIED CARD OF 'mortiselaw13.TacNexts'. -/
def tacNextsCard : Claim7 := { stood := { row := tacNextsRow, standIns := [], harness := (true, "00c40ad750860d3d7f394a3659e900071a265a3130148369c652bd26d82c6f07"), looks := true }, kinds := [], alts := [], laidByText := true, laidKinds := [.data, .data, .data, .data, .sentinel, .sentinel, .pinned], laidTests := true, laidLooks := .later }
def TacNextsCardSaid : Prop := Claim7.holds Tryz.pinned (.plain (OpenSpec.ofChange tacNextsSpec)) tacNextsCard

/-- THE TIED CARD OF 'mortiselaw13.TacChecks'. -/
def tacChecksCard : Claim7 := { stood := { row := tacChecksRow, standIns := [], harness := (true, "00c40ad750860d3d7f394a3659e900071a265a3130148369c652bd26d82c6f07"), looks := true }, kinds := [], alts := [], laidByText := true, laidKinds := [.data, .data, .data, .data, .sentinel, .sentinel, .pinned], laidTests := true, laidLooks := .later }
def TacChecksCardSaid : Prop := Claim7.holds Tryz.pinned (.plain (OpenSpec.ofChange tacChecksSpec)) tacChecksCard

/-- THE TIED CARD OF 'mortiselaw13.TacAsks'. -/
def tacAsksCard : Claim7 := { stood := { row := tacAsksRow, standIns := [], harness := (true, "00c40ad750860d3d7f394a3659e900071a265a3130148369c652bd26d82c6f07"), looks := true }, kinds := [], alts := [], laidByText := true, laidKinds := [.data, .data, .data, .data, .sentinel, .sentinel, .pinned], laidTests := true, laidLooks := .later }
def TacAsksCardSaid : Prop := Claim7.holds Tryz.pinned (.plain (OpenSpec.ofChange tacAsksSpec)) tacAsksCard

/-- THE TIED CARD OF 'mortiselaw13.TacPrints'. -/
def tacPrintsCard : Claim7 := { stood := { row := tacPrintsRow, standIns := [], harness := (true, "00c40ad750860d3d7f394a3659e900071a265a3130148369c652bd26d82c6f07"), looks := true }, kinds := [], alts := [], laidByText := true, laidKinds := [.data, .data, .data, .data, .sentinel, .sentinel, .pinned], laidTests := true, laidLooks := .later }
def TacPrintsCardSaid : Prop := Claim7.holds Tryz.pinned (.plain (OpenSpec.ofChange tacPrintsSpec)) tacPrintsCard

/-- THE TIED CARD OF 'mortiselaw13.TacBack'. -/
def tacBackCard : Claim7 := { stood := { row := tacBackRow, standIns := [], harness := (true, "00c40ad750860d3d7f394a3659e900071a265a3130148369c652bd26d82c6f07"), looks := true }, kinds := [], alts := [], laidByText := true, laidKinds := [.data, .data, .data, .data, .sentinel, .sentinel, .pinned], laidTests := true, laidLooks := .later }
def TacBackCardSaid : Prop := Claim7.holds Tryz.pinned (.plain (OpenSpec.ofChange tacBackSpec)) tacBackCard

/-- THE TIED CARD OF 'mortiselaw14.TacrunRuns'. -/
def tacrunRunsCard : Claim7 := { stood := { row := tacrunRunsRow, standIns := [], harness := (true, "00c40ad750860d3d7f394a3659e900071a265a3130148369c652bd26d82c6f07"), looks := true }, kinds := [], alts := [], laidByText := true, laidKinds := [.data, .data, .data, .data, .sentinel, .sentinel, .pinned], laidTests := true, laidLooks := .later }
def TacrunRunsCardSaid : Prop := Claim7.holds Tryz.pinned (.plain (OpenSpec.ofChange tacrunRunsSpec)) tacrunRunsCard

/-- THE TIED CARD OF 'mortiselaw14.TacrunTexts'. -/
def tacrunTextsCard : Claim7 := { stood := { row := tacrunTextsRow, standIns := [], harness := (true, "00c40ad750860d3d7f394a3659e900071a265a3130148369c652bd26d82c6f07"), looks := true }, kinds := [], alts := [], laidByText := true, laidKinds := [.data, .data, .data, .data, .sentinel, .sentinel, .pinned], laidTests := true, laidLooks := .later }
def TacrunTextsCardSaid : Prop := Claim7.holds Tryz.pinned (.plain (OpenSpec.ofChange tacrunTextsSpec)) tacrunTextsCard

/-- THE TIED CARD OF 'mortiselaw14.TacrunFuel'. -/
def tacrunFuelCard : Claim7 := { stood := { row := tacrunFuelRow, standIns := [], harness := (true, "00c40ad750860d3d7f394a3659e900071a265a3130148369c652bd26d82c6f07"), looks := true }, kinds := [], alts := [], laidByText := true, laidKinds := [.data, .data, .data, .data, .sentinel, .sentinel, .pinned], laidTests := true, laidLooks := .later }
def TacrunFuelCardSaid : Prop := Claim7.holds Tryz.pinned (.plain (OpenSpec.ofChange tacrunFuelSpec)) tacrunFuelCard

/-- THE TIED CARD OF 'mortiselaw14.TacrunNames'. -/
def tacrunNamesCard : Claim7 := { stood := { row := tacrunNamesRow, standIns := [], harness := (true, "00c40ad750860d3d7f394a3659e900071a265a3130148369c652bd26d82c6f07"), looks := true }, kinds := [], alts := [], laidByText := true, laidKinds := [.data, .data, .data, .data, .sentinel, .sentinel, .pinned], laidTests := true, laidLooks := .later }
def TacrunNamesCardSaid : Prop := Claim7.holds Tryz.pinned (.plain (OpenSpec.ofChange tacrunNamesSpec)) tacrunNamesCard

/-- THE TIED CARD OF 'mortiselaw14.TacrunMore'. -/
def tacrunMoreCard : Claim7 := { stood := { row := tacrunMoreRow, standIns := [], harness := (true, "00c40ad750860d3d7f394a3659e900071a265a3130148369c652bd26d82c6f07"), looks := true }, kinds := [], alts := [], laidByText := true, laidKinds := [.data, .data, .data, .data, .sentinel, .sentinel, .pinned], laidTests := true, laidLooks := .later }
def TacrunMoreCardSaid : Prop := Claim7.holds Tryz.pinned (.plain (OpenSpec.ofChange tacrunMoreSpec)) tacrunMoreCard

/-- THE TIED CARD OF 'mortiselaw14.TacrunJump'. -/
def tacrunJumpCard : Claim7 := { stood := { row := tacrunJumpRow, standIns := [], harness := (true, "00c40ad750860d3d7f394a3659e900071a265a3130148369c652bd26d82c6f07"), looks := true }, kinds := [], alts := [], laidByText := true, laidKinds := [.data, .data, .data, .data, .sentinel, .sentinel, .pinned], laidTests := true, laidLooks := .later }
def TacrunJumpCardSaid : Prop := Claim7.holds Tryz.pinned (.plain (OpenSpec.ofChange tacrunJumpSpec)) tacrunJumpCard

/-- THE TIED CARD OF 'mortiselaw16.FlowDead'. -/
def flowDeadCard : Claim7 := { stood := { row := flowDeadRow, standIns := [], harness := (true, "00c40ad750860d3d7f394a3659e900071a265a3130148369c652bd26d82c6f07"), looks := true }, kinds := [], alts := [], laidByText := true, laidKinds := [.data, .pinned], laidTests := true, laidLooks := .later }
def FlowDeadCardSaid : Prop := Claim7.holds Tryz.pinned (.plain (OpenSpec.ofChange flowDeadSpec)) flowDeadCard

/-- THE SECOND FORM's CARD OF 'mortiselaw13.TacNexts'. -/
def tacNextsUptoCard : Claim7 := { stood := { row := tacNextsUptoRow, standIns := [], harness := (true, "00c40ad750860d3d7f394a3659e900071a265a3130148369c652bd26d82c6f07"), looks := true }, kinds := [], alts := [], laidByText := true, laidKinds := [.data, .data, .data, .data, .sentinel, .sentinel, .pinned], laidTests := true, laidLooks := .later }
def TacNextsUptoCardSaid : Prop := Claim7.holds Tryz.pinned (.plain (OpenSpec.upto tacNextsSpec)) tacNextsUptoCard

/-- THE SECOND FORM's CARD OF 'mortiselaw13.TacChecks'. -/
def tacChecksUptoCard : Claim7 := { stood := { row := tacChecksUptoRow, standIns := [], harness := (true, "00c40ad750860d3d7f394a3659e900071a265a3130148369c652bd26d82c6f07"), looks := true }, kinds := [], alts := [], laidByText := true, laidKinds := [.data, .data, .data, .data, .sentinel, .sentinel, .pinned], laidTests := true, laidLooks := .later }
def TacChecksUptoCardSaid : Prop := Claim7.holds Tryz.pinned (.plain (OpenSpec.upto tacChecksSpec)) tacChecksUptoCard

/-- THE SECOND FORM's CARD OF 'mortiselaw13.TacAsks'. -/
def tacAsksUptoCard : Claim7 := { stood := { row := tacAsksUptoRow, standIns := [], harness := (true, "00c40ad750860d3d7f394a3659e900071a265a3130148369c652bd26d82c6f07"), looks := true }, kinds := [], alts := [], laidByText := true, laidKinds := [.data, .data, .data, .data, .sentinel, .sentinel, .pinned], laidTests := true, laidLooks := .later }
def TacAsksUptoCardSaid : Prop := Claim7.holds Tryz.pinned (.plain (OpenSpec.upto tacAsksSpec)) tacAsksUptoCard

/-- THE SECOND FORM's CARD OF 'mortiselaw13.TacPrints'. -/
def tacPrintsUptoCard : Claim7 := { stood := { row := tacPrintsUptoRow, standIns := [], harness := (true, "00c40ad750860d3d7f394a3659e900071a265a3130148369c652bd26d82c6f07"), looks := true }, kinds := [], alts := [], laidByText := true, laidKinds := [.data, .data, .data, .data, .sentinel, .sentinel, .pinned], laidTests := true, laidLooks := .later }
def TacPrintsUptoCardSaid : Prop := Claim7.holds Tryz.pinned (.plain (OpenSpec.upto tacPrintsSpec)) tacPrintsUptoCard

/-- THE SECOND FORM's CARD OF 'mortiselaw13.TacBack'. -/
def tacBackUptoCard : Claim7 := { stood := { row := tacBackUptoRow, standIns := [], harness := (true, "00c40ad750860d3d7f394a3659e900071a265a3130148369c652bd26d82c6f07"), looks := true }, kinds := [], alts := [], laidByText := true, laidKinds := [.data, .data, .data, .data, .sentinel, .sentinel, .pinned], laidTests := true, laidLooks := .later }
def TacBackUptoCardSaid : Prop := Claim7.holds Tryz.pinned (.plain (OpenSpec.upto tacBackSpec)) tacBackUptoCard

/-- THE SECOND FORM's CARD OF 'mortiselaw14.TacrunRuns'. -/
def tacrunRunsUptoCard : Claim7 := { stood := { row := tacrunRunsUptoRow, standIns := [], harness := (true, "00c40ad750860d3d7f394a3659e900071a265a3130148369c652bd26d82c6f07"), looks := true }, kinds := [], alts := [], laidByText := true, laidKinds := [.data, .data, .data, .data, .sentinel, .sentinel, .pinned], laidTests := true, laidLooks := .later }
def TacrunRunsUptoCardSaid : Prop := Claim7.holds Tryz.pinned (.plain (OpenSpec.upto tacrunRunsSpec)) tacrunRunsUptoCard

/-- THE SECOND FORM's CARD OF 'mortiselaw14.TacrunTexts'. -/
def tacrunTextsUptoCard : Claim7 := { stood := { row := tacrunTextsUptoRow, standIns := [], harness := (true, "00c40ad750860d3d7f394a3659e900071a265a3130148369c652bd26d82c6f07"), looks := true }, kinds := [], alts := [], laidByText := true, laidKinds := [.data, .data, .data, .data, .sentinel, .sentinel, .pinned], laidTests := true, laidLooks := .later }
def TacrunTextsUptoCardSaid : Prop := Claim7.holds Tryz.pinned (.plain (OpenSpec.upto tacrunTextsSpec)) tacrunTextsUptoCard

/-- THE SECOND FORM's CARD OF 'mortiselaw14.TacrunFuel'. -/
def tacrunFuelUptoCard : Claim7 := { stood := { row := tacrunFuelUptoRow, standIns := [], harness := (true, "00c40ad750860d3d7f394a3659e900071a265a3130148369c652bd26d82c6f07"), looks := true }, kinds := [], alts := [], laidByText := true, laidKinds := [.data, .data, .data, .data, .sentinel, .sentinel, .pinned], laidTests := true, laidLooks := .later }
def TacrunFuelUptoCardSaid : Prop := Claim7.holds Tryz.pinned (.plain (OpenSpec.upto tacrunFuelSpec)) tacrunFuelUptoCard

/-- THE SECOND FORM's CARD OF 'mortiselaw14.TacrunNames'. -/
def tacrunNamesUptoCard : Claim7 := { stood := { row := tacrunNamesUptoRow, standIns := [], harness := (true, "00c40ad750860d3d7f394a3659e900071a265a3130148369c652bd26d82c6f07"), looks := true }, kinds := [], alts := [], laidByText := true, laidKinds := [.data, .data, .data, .data, .sentinel, .sentinel, .pinned], laidTests := true, laidLooks := .later }
def TacrunNamesUptoCardSaid : Prop := Claim7.holds Tryz.pinned (.plain (OpenSpec.upto tacrunNamesSpec)) tacrunNamesUptoCard

/-- THE SECOND FORM's CARD OF 'mortiselaw14.TacrunMore'. -/
def tacrunMoreUptoCard : Claim7 := { stood := { row := tacrunMoreUptoRow, standIns := [], harness := (true, "00c40ad750860d3d7f394a3659e900071a265a3130148369c652bd26d82c6f07"), looks := true }, kinds := [], alts := [], laidByText := true, laidKinds := [.data, .data, .data, .data, .sentinel, .sentinel, .pinned], laidTests := true, laidLooks := .later }
def TacrunMoreUptoCardSaid : Prop := Claim7.holds Tryz.pinned (.plain (OpenSpec.upto tacrunMoreSpec)) tacrunMoreUptoCard

/-- THE SECOND FORM's CARD OF 'mortiselaw14.TacrunJump'. -/
def tacrunJumpUptoCard : Claim7 := { stood := { row := tacrunJumpUptoRow, standIns := [], harness := (true, "00c40ad750860d3d7f394a3659e900071a265a3130148369c652bd26d82c6f07"), looks := true }, kinds := [], alts := [], laidByText := true, laidKinds := [.data, .data, .data, .data, .sentinel, .sentinel, .pinned], laidTests := true, laidLooks := .later }
def TacrunJumpUptoCardSaid : Prop := Claim7.holds Tryz.pinned (.plain (OpenSpec.upto tacrunJumpSpec)) tacrunJumpUptoCard

/-- THE SECOND FORM's CARD OF 'mortiselaw16.FlowDead'. -/
def flowDeadUptoCard : Claim7 := { stood := { row := flowDeadUptoRow, standIns := [], harness := (true, "00c40ad750860d3d7f394a3659e900071a265a3130148369c652bd26d82c6f07"), looks := true }, kinds := [], alts := [], laidByText := true, laidKinds := [.data, .pinned], laidTests := true, laidLooks := .later }
def FlowDeadUptoCardSaid : Prop := Claim7.holds Tryz.pinned (.plain (OpenSpec.upto flowDeadSpec)) flowDeadUptoCard
end Rows
end Go.Proofs.YthiehhglnaiohaaGreatDoor
