/-
  DERIVED. GIVEN WITH THE SEED: THE CARDS: each row of YtfkpeahelhpelaaDoorRows.lean that lists a variable, with what it lists TIED to the program's text (the seventh form; the later family's looks); each row that meets fmt, with fmt's text TOLD by the authors' own Lean function (tested against real Go, not proved from fmt's source: count such statements apart). THE CARD IS WHAT COUNTS. Prove the row's statement (the work); the ties are given (YtfkpeahelhpelaaDoorTie.lean); close each card by the builder's one call (the guide's Derived/Test/ToyasCard.lean, 'card_holds'). Laid BY PROGRAM, IN A SANDBOX (cutbox-door.mjs). By AI agents, Wed Nov 11 2026. No macro, syntax, notation, axiom, sorry.
-/
import Derived.Test.YtfkpeahelhpelaaDoorRows
import GoSem.ClaimSeven
namespace Go.Proofs.YtfkpeahelhpelaaDoor
namespace Rows

/-- THE TIED CARD OF 'gantletlaw09.BlockReads'. -/
def blockReadsCard : Claim7 := { stood := { row := blockReadsRow, standIns := [], harness := (true, "4f06a8960ec5f7710f7f889abfe211fe0c168b6a9c5f22489200f5db1ef4e3b0"), looks := false }, kinds := [], alts := [], laidByText := true, laidKinds := [.data, .data], laidTests := true, laidLooks := .later }
def BlockReadsCardSaid : Prop := Claim7.holds Tryd.pinned (.plain (OpenSpec.ofChange blockReadsSpec)) blockReadsCard

/-- THE TIED CARD OF 'gantletlaw09.BlockWrites'. -/
def blockWritesCard : Claim7 := { stood := { row := blockWritesRow, standIns := [], harness := (true, "4f06a8960ec5f7710f7f889abfe211fe0c168b6a9c5f22489200f5db1ef4e3b0"), looks := false }, kinds := [], alts := [], laidByText := true, laidKinds := [.data, .data], laidTests := true, laidLooks := .later }
def BlockWritesCardSaid : Prop := Claim7.holds Tryd.pinned (.plain (OpenSpec.ofChange blockWritesSpec)) blockWritesCard

/-- THE TIED CARD OF 'gantletlaw09.BlockLimits'. -/
def blockLimitsCard : Claim7 := { stood := { row := blockLimitsRow, standIns := [], harness := (true, "4f06a8960ec5f7710f7f889abfe211fe0c168b6a9c5f22489200f5db1ef4e3b0"), looks := false }, kinds := [], alts := [], laidByText := true, laidKinds := [.data, .data], laidTests := true, laidLooks := .later }
def BlockLimitsCardSaid : Prop := Claim7.holds Tryd.pinned (.plain (OpenSpec.ofChange blockLimitsSpec)) blockLimitsCard

/-- THE SECOND FORM's CARD OF 'gantletlaw09.BlockReads'. -/
def blockReadsUptoCard : Claim7 := { stood := { row := blockReadsUptoRow, standIns := [], harness := (true, "4f06a8960ec5f7710f7f889abfe211fe0c168b6a9c5f22489200f5db1ef4e3b0"), looks := false }, kinds := [], alts := [], laidByText := true, laidKinds := [.data, .data], laidTests := true, laidLooks := .later }
def BlockReadsUptoCardSaid : Prop := Claim7.holds Tryd.pinned (.plain (OpenSpec.upto blockReadsSpec)) blockReadsUptoCard

/-- THE SECOND FORM's CARD OF 'gantletlaw09.BlockWrites'. -/
def blockWritesUptoCard : Claim7 := { stood := { row := blockWritesUptoRow, standIns := [], harness := (true, "4f06a8960ec5f7710f7f889abfe211fe0c168b6a9c5f22489200f5db1ef4e3b0"), looks := false }, kinds := [], alts := [], laidByText := true, laidKinds := [.data, .data], laidTests := true, laidLooks := .later }
def BlockWritesUptoCardSaid : Prop := Claim7.holds Tryd.pinned (.plain (OpenSpec.upto blockWritesSpec)) blockWritesUptoCard

/-- THE SECOND FORM's CARD OF 'gantletlaw09.BlockLimits'. -/
def blockLimitsUptoCard : Claim7 := { stood := { row := blockLimitsUptoRow, standIns := [], harness := (true, "4f06a8960ec5f7710f7f889abfe211fe0c168b6a9c5f22489200f5db1ef4e3b0"), looks := false }, kinds := [], alts := [], laidByText := true, laidKinds := [.data, .data], laidTests := true, laidLooks := .later }
def BlockLimitsUptoCardSaid : Prop := Claim7.holds Tryd.pinned (.plain (OpenSpec.upto blockLimitsSpec)) blockLimitsUptoCard
end Rows
end Go.Proofs.YtfkpeahelhpelaaDoor
