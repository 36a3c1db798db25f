/-
  DERIVED. GIVEN WITH THE SEED: THE CARDS: each row of YtpohhfggmaihpaaGreatDoorRows.lean that lists a variable, with what it lists TIED to the program's text (the seventh form; the later family's looks); each row that meets fmt, with fmt's text TOLD by the authors' own Lean function (tested against real Go, not proved from fmt's source: count such statements apart). THE CARD IS WHAT COUNTS. Prove the row's statement (the work); the ties are given (YtpohhfggmaihpaaGreatDoorTie.lean); close each card by the builder's one call (the guide's Derived/Test/ToyasCard.lean, 'card_holds'). Laid BY PROGRAM, IN A SANDBOX (cutbox-door.mjs). By AI agents, Wed Nov 11 2026. No macro, syntax, notation, axiom, sorry.
-/
import Derived.Test.YtpohhfggmaihpaaGreatDoorRows
import GoSem.ClaimSeven
namespace Go.Proofs.YtpohhfggmaihpaaGreatDoor
namespace Rows

/-- THE TIED CARD OF 'mortiselaw13.TacNexts'. -/
def tacNextsCard : Claim7 := { stood := { row := tacNextsRow, standIns := [], harness := (true, "5688a30b9985b50bbdf0e96a5c9df2c47297c55910a73a6f6530ae49a01ead5b"), looks := true }, kinds := [], alts := [], laidByText := true, laidKinds := [.data, .data, .data, .data, .sentinel, .sentinel, .pinned], laidTests := true, laidLooks := .later }
def TacNextsCardSaid : Prop := Claim7.holds Tryz.pinned (.plain (OpenSpec.ofChange tacNextsSpec)) tacNextsCard

/-- THE TIED CARD OF 'mortiselaw13.TacChecks'. -/
def tacChecksCard : Claim7 := { stood := { row := tacChecksRow, standIns := [], harness := (true, "5688a30b9985b50bbdf0e96a5c9df2c47297c55910a73a6f6530ae49a01ead5b"), looks := true }, kinds := [], alts := [], laidByText := true, laidKinds := [.data, .data, .data, .data, .sentinel, .sentinel, .pinned], laidTests := true, laidLooks := .later }
def TacChecksCardSaid : Prop := Claim7.holds Tryz.pinned (.plain (OpenSpec.ofChange tacChecksSpec)) tacChecksCard

/-- THE TIED CARD OF 'mortiselaw13.TacAsks'. -/
def tacAsksCard : Claim7 := { stood := { row := tacAsksRow, standIns := [], harness := (true, "5688a30b9985b50bbdf0e96a5c9df2c47297c55910a73a6f6530ae49a01ead5b"), looks := true }, kinds := [], alts := [], laidByText := true, laidKinds := [.data, .data, .data, .data, .sentinel, .sentinel, .pinned], laidTests := true, laidLooks := .later }
def TacAsksCardSaid : Prop := Claim7.holds Tryz.pinned (.plain (OpenSpec.ofChange tacAsksSpec)) tacAsksCard

/-- THE TIED CARD OF 'mortiselaw13.TacPrints'. -/
def tacPrintsCard : Claim7 := { stood := { row := tacPrintsRow, standIns := [], harness := (true, "5688a30b9985b50bbdf0e96a5c9df2c47297c55910a73a6f6530ae49a01ead5b"), looks := true }, kinds := [], alts := [], laidByText := true, laidKinds := [.data, .data, .data, .data, .sentinel, .sentinel, .pinned], laidTests := true, laidLooks := .later }
def TacPrintsCardSaid : Prop := Claim7.holds Tryz.pinned (.plain (OpenSpec.ofChange tacPrintsSpec)) tacPrintsCard

/-- THE TIED CARD OF 'mortiselaw13.TacBack'. -/
def tacBackCard : Claim7 := { stood := { row := tacBackRow, standIns := [], harness := (true, "5688a30b9985b50bbdf0e96a5c9df2c47297c55910a73a6f6530ae49a01ead5b"), looks := true }, kinds := [], alts := [], laidByText := true, laidKinds := [.data, .data, .data, .data, .sentinel, .sentinel, .pinned], laidTests := true, laidLooks := .later }
def TacBackCardSaid : Prop := Claim7.holds Tryz.pinned (.plain (OpenSpec.ofChange tacBackSpec)) tacBackCard

/-- THE SECOND FORM's CARD OF 'mortiselaw13.TacNexts'. -/
def tacNextsUptoCard : Claim7 := { stood := { row := tacNextsUptoRow, standIns := [], harness := (true, "5688a30b9985b50bbdf0e96a5c9df2c47297c55910a73a6f6530ae49a01ead5b"), looks := true }, kinds := [], alts := [], laidByText := true, laidKinds := [.data, .data, .data, .data, .sentinel, .sentinel, .pinned], laidTests := true, laidLooks := .later }
def TacNextsUptoCardSaid : Prop := Claim7.holds Tryz.pinned (.plain (OpenSpec.upto tacNextsSpec)) tacNextsUptoCard

/-- THE SECOND FORM's CARD OF 'mortiselaw13.TacChecks'. -/
def tacChecksUptoCard : Claim7 := { stood := { row := tacChecksUptoRow, standIns := [], harness := (true, "5688a30b9985b50bbdf0e96a5c9df2c47297c55910a73a6f6530ae49a01ead5b"), looks := true }, kinds := [], alts := [], laidByText := true, laidKinds := [.data, .data, .data, .data, .sentinel, .sentinel, .pinned], laidTests := true, laidLooks := .later }
def TacChecksUptoCardSaid : Prop := Claim7.holds Tryz.pinned (.plain (OpenSpec.upto tacChecksSpec)) tacChecksUptoCard

/-- THE SECOND FORM's CARD OF 'mortiselaw13.TacAsks'. -/
def tacAsksUptoCard : Claim7 := { stood := { row := tacAsksUptoRow, standIns := [], harness := (true, "5688a30b9985b50bbdf0e96a5c9df2c47297c55910a73a6f6530ae49a01ead5b"), looks := true }, kinds := [], alts := [], laidByText := true, laidKinds := [.data, .data, .data, .data, .sentinel, .sentinel, .pinned], laidTests := true, laidLooks := .later }
def TacAsksUptoCardSaid : Prop := Claim7.holds Tryz.pinned (.plain (OpenSpec.upto tacAsksSpec)) tacAsksUptoCard

/-- THE SECOND FORM's CARD OF 'mortiselaw13.TacPrints'. -/
def tacPrintsUptoCard : Claim7 := { stood := { row := tacPrintsUptoRow, standIns := [], harness := (true, "5688a30b9985b50bbdf0e96a5c9df2c47297c55910a73a6f6530ae49a01ead5b"), looks := true }, kinds := [], alts := [], laidByText := true, laidKinds := [.data, .data, .data, .data, .sentinel, .sentinel, .pinned], laidTests := true, laidLooks := .later }
def TacPrintsUptoCardSaid : Prop := Claim7.holds Tryz.pinned (.plain (OpenSpec.upto tacPrintsSpec)) tacPrintsUptoCard

/-- THE SECOND FORM's CARD OF 'mortiselaw13.TacBack'. -/
def tacBackUptoCard : Claim7 := { stood := { row := tacBackUptoRow, standIns := [], harness := (true, "5688a30b9985b50bbdf0e96a5c9df2c47297c55910a73a6f6530ae49a01ead5b"), looks := true }, kinds := [], alts := [], laidByText := true, laidKinds := [.data, .data, .data, .data, .sentinel, .sentinel, .pinned], laidTests := true, laidLooks := .later }
def TacBackUptoCardSaid : Prop := Claim7.holds Tryz.pinned (.plain (OpenSpec.upto tacBackSpec)) tacBackUptoCard
end Rows
end Go.Proofs.YtpohhfggmaihpaaGreatDoor
