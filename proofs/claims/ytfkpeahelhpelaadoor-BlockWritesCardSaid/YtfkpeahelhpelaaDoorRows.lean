/-
  NARROWER THAN 'FOR EVERY INPUT', by the rows' own cells (each row's printed sentence says how): BlockReads: laid · BlockWrites: laid · BlockLimits: laid.
  DERIVED. THE GIVEN ROWS OF THIS SEAT. 3 by the template 'for every input the law returns true; each argument reads behind the call as it read before'; 0 by the template 'total and deterministic' (their statements: YtfkpeahelhpelaaDoorTotals.lean).
  GIVEN WITH THE SEED: the statements are not yours to turn. If you find one false, say at which input.
  Laid BY PROGRAM, IN A SANDBOX (cutbox-rows.mjs): the forced cells as the released guide's own fill.sh prints them over the translation ad1ba872c9d59fa1… (all of the seat's roots in one cut). By AI agents, Wed Nov 11 2026. No macro, syntax, notation, axiom, sorry.
-/
import Derived.Test.YtfkpeahelhpelaaDoorChecked
import GoSem.Claim
import GoSem.ClaimJoined
import GoSem.ClaimMapViews
import Derived.JoinedTies
import Derived.KernelRfl
namespace Go.Proofs.YtfkpeahelhpelaaDoor
/- THE CELL 'sum', in the pinned program and in every row, IS THE sha256 OF THE DUMP (.gsa) THAT YtfkpeahelhpelaaDoorProg.lean LOADS. Nothing in Lean hashes anything: it is a label: what it is worth is what the hold of that sum in a sandbox is worth. -/
noncomputable def Tryd.pinned : Pinned := { name := "ytfkpeahelhpelaadoor", sum := "ad1ba872c9d59fa174d041ec824458e9813e823b3e1fcf5f62fc6212484389e8", checked := Tryd.checked }
namespace Rows
def none {H : Type} : Left H := { results := [], args := [] }

/- WHAT THE LISTED PACKAGE-LEVEL VARIABLES READ AS WHEN THE CALL BEGINS. Each datum BY PROGRAM (the guide's laid-datum.mjs) off the statement by which the dump's own 'gosem.cut.vars' lays the variable. In a bare row this is a premise. The card (YtfkpeahelhpelaaDoorCards.lean) ties it to the program's text. -/
def laid_gantlet_huff_lengths {H : Type} : DataW H := .agg [.lit (.int .i64 13), .lit (.int .i64 23), .lit (.int .i64 28), .lit (.int .i64 28), .lit (.int .i64 28), .lit (.int .i64 28), .lit (.int .i64 28), .lit (.int .i64 28), .lit (.int .i64 28), .lit (.int .i64 24), .lit (.int .i64 30), .lit (.int .i64 28), .lit (.int .i64 28), .lit (.int .i64 30), .lit (.int .i64 28), .lit (.int .i64 28), .lit (.int .i64 28), .lit (.int .i64 28), .lit (.int .i64 28), .lit (.int .i64 28), .lit (.int .i64 28), .lit (.int .i64 28), .lit (.int .i64 30), .lit (.int .i64 28), .lit (.int .i64 28), .lit (.int .i64 28), .lit (.int .i64 28), .lit (.int .i64 28), .lit (.int .i64 28), .lit (.int .i64 28), .lit (.int .i64 28), .lit (.int .i64 28), .lit (.int .i64 6), .lit (.int .i64 10), .lit (.int .i64 10), .lit (.int .i64 12), .lit (.int .i64 13), .lit (.int .i64 6), .lit (.int .i64 8), .lit (.int .i64 11), .lit (.int .i64 10), .lit (.int .i64 10), .lit (.int .i64 8), .lit (.int .i64 11), .lit (.int .i64 8), .lit (.int .i64 6), .lit (.int .i64 6), .lit (.int .i64 6), .lit (.int .i64 5), .lit (.int .i64 5), .lit (.int .i64 5), .lit (.int .i64 6), .lit (.int .i64 6), .lit (.int .i64 6), .lit (.int .i64 6), .lit (.int .i64 6), .lit (.int .i64 6), .lit (.int .i64 6), .lit (.int .i64 7), .lit (.int .i64 8), .lit (.int .i64 15), .lit (.int .i64 6), .lit (.int .i64 12), .lit (.int .i64 10), .lit (.int .i64 13), .lit (.int .i64 6), .lit (.int .i64 7), .lit (.int .i64 7), .lit (.int .i64 7), .lit (.int .i64 7), .lit (.int .i64 7), .lit (.int .i64 7), .lit (.int .i64 7), .lit (.int .i64 7), .lit (.int .i64 7), .lit (.int .i64 7), .lit (.int .i64 7), .lit (.int .i64 7), .lit (.int .i64 7), .lit (.int .i64 7), .lit (.int .i64 7), .lit (.int .i64 7), .lit (.int .i64 7), .lit (.int .i64 7), .lit (.int .i64 7), .lit (.int .i64 7), .lit (.int .i64 7), .lit (.int .i64 7), .lit (.int .i64 8), .lit (.int .i64 7), .lit (.int .i64 8), .lit (.int .i64 13), .lit (.int .i64 19), .lit (.int .i64 13), .lit (.int .i64 14), .lit (.int .i64 6), .lit (.int .i64 15), .lit (.int .i64 5), .lit (.int .i64 6), .lit (.int .i64 5), .lit (.int .i64 6), .lit (.int .i64 5), .lit (.int .i64 6), .lit (.int .i64 6), .lit (.int .i64 6), .lit (.int .i64 5), .lit (.int .i64 7), .lit (.int .i64 7), .lit (.int .i64 6), .lit (.int .i64 6), .lit (.int .i64 6), .lit (.int .i64 5), .lit (.int .i64 6), .lit (.int .i64 7), .lit (.int .i64 6), .lit (.int .i64 5), .lit (.int .i64 5), .lit (.int .i64 6), .lit (.int .i64 7), .lit (.int .i64 7), .lit (.int .i64 7), .lit (.int .i64 7), .lit (.int .i64 7), .lit (.int .i64 15), .lit (.int .i64 11), .lit (.int .i64 14), .lit (.int .i64 13), .lit (.int .i64 28), .lit (.int .i64 20), .lit (.int .i64 22), .lit (.int .i64 20), .lit (.int .i64 20), .lit (.int .i64 22), .lit (.int .i64 22), .lit (.int .i64 22), .lit (.int .i64 23), .lit (.int .i64 22), .lit (.int .i64 23), .lit (.int .i64 23), .lit (.int .i64 23), .lit (.int .i64 23), .lit (.int .i64 23), .lit (.int .i64 24), .lit (.int .i64 23), .lit (.int .i64 24), .lit (.int .i64 24), .lit (.int .i64 22), .lit (.int .i64 23), .lit (.int .i64 24), .lit (.int .i64 23), .lit (.int .i64 23), .lit (.int .i64 23), .lit (.int .i64 23), .lit (.int .i64 21), .lit (.int .i64 22), .lit (.int .i64 23), .lit (.int .i64 22), .lit (.int .i64 23), .lit (.int .i64 23), .lit (.int .i64 24), .lit (.int .i64 22), .lit (.int .i64 21), .lit (.int .i64 20), .lit (.int .i64 22), .lit (.int .i64 22), .lit (.int .i64 23), .lit (.int .i64 23), .lit (.int .i64 21), .lit (.int .i64 23), .lit (.int .i64 22), .lit (.int .i64 22), .lit (.int .i64 24), .lit (.int .i64 21), .lit (.int .i64 22), .lit (.int .i64 23), .lit (.int .i64 23), .lit (.int .i64 21), .lit (.int .i64 21), .lit (.int .i64 22), .lit (.int .i64 21), .lit (.int .i64 23), .lit (.int .i64 22), .lit (.int .i64 23), .lit (.int .i64 23), .lit (.int .i64 20), .lit (.int .i64 22), .lit (.int .i64 22), .lit (.int .i64 22), .lit (.int .i64 23), .lit (.int .i64 22), .lit (.int .i64 22), .lit (.int .i64 23), .lit (.int .i64 26), .lit (.int .i64 26), .lit (.int .i64 20), .lit (.int .i64 19), .lit (.int .i64 22), .lit (.int .i64 23), .lit (.int .i64 22), .lit (.int .i64 25), .lit (.int .i64 26), .lit (.int .i64 26), .lit (.int .i64 26), .lit (.int .i64 27), .lit (.int .i64 27), .lit (.int .i64 26), .lit (.int .i64 24), .lit (.int .i64 25), .lit (.int .i64 19), .lit (.int .i64 21), .lit (.int .i64 26), .lit (.int .i64 27), .lit (.int .i64 27), .lit (.int .i64 26), .lit (.int .i64 27), .lit (.int .i64 24), .lit (.int .i64 21), .lit (.int .i64 21), .lit (.int .i64 26), .lit (.int .i64 26), .lit (.int .i64 28), .lit (.int .i64 27), .lit (.int .i64 27), .lit (.int .i64 27), .lit (.int .i64 20), .lit (.int .i64 24), .lit (.int .i64 20), .lit (.int .i64 21), .lit (.int .i64 22), .lit (.int .i64 21), .lit (.int .i64 21), .lit (.int .i64 23), .lit (.int .i64 22), .lit (.int .i64 22), .lit (.int .i64 25), .lit (.int .i64 25), .lit (.int .i64 24), .lit (.int .i64 24), .lit (.int .i64 26), .lit (.int .i64 23), .lit (.int .i64 26), .lit (.int .i64 27), .lit (.int .i64 26), .lit (.int .i64 26), .lit (.int .i64 27), .lit (.int .i64 27), .lit (.int .i64 27), .lit (.int .i64 27), .lit (.int .i64 27), .lit (.int .i64 28), .lit (.int .i64 27), .lit (.int .i64 27), .lit (.int .i64 27), .lit (.int .i64 27), .lit (.int .i64 27), .lit (.int .i64 26), .lit (.int .i64 30)]
def laid_gantlet_item_shapes {H : Type} : DataW H := .agg [.agg [.lit (.int .i64 7), .lit (.int .i64 128)], .agg [.lit (.int .i64 6), .lit (.int .i64 64)], .agg [.lit (.int .i64 4), .lit (.int .i64 0)], .agg [.lit (.int .i64 4), .lit (.int .i64 16)], .agg [.lit (.int .i64 5), .lit (.int .i64 32)]]

/-- 'gantletlaw09.BlockReads': WHATEVER THE INPUT: true; the input reads as it did. -/
def blockReadsSpec : ChangeSpec := { name := "blockReads", fn := fun _ => fun
  | [d1, d2] => { results := [.lit (.bool true)], args := [d1, d2] }
  | _ => none }
def blockReadsRow : OpenClaim := { program := "ytfkpeahelhpelaadoor", sum := "ad1ba872c9d59fa174d041ec824458e9813e823b3e1fcf5f62fc6212484389e8", func := "gantlet/gantletlaw09.BlockReads", spec := "blockReads", unfollowed := true, recurses := true, named := ["gantlet/item.shapes", "gantlet/huff.lengths"], plainKeys := false, apart := false, laid := [("gantlet/huff.lengths", laid_gantlet_huff_lengths), ("gantlet/item.shapes", laid_gantlet_item_shapes)] }
def BlockReadsSaid : Prop := blockReadsRow.holds Tryd.pinned (OpenSpec.ofChange blockReadsSpec)

/-- ITS FALSE NEIGHBOUR: 'it returns false'. Refute it at one input. -/
def blockReadsWrong : ChangeSpec := { name := "blockReads", fn := fun _ => fun
  | [d1, d2] => { results := [.lit (.bool false)], args := [d1, d2] }
  | _ => none }
def BlockReadsWrongFalsely : Prop := blockReadsRow.holds Tryd.pinned (OpenSpec.ofChange blockReadsWrong)

/-- 'gantletlaw09.BlockWrites': WHATEVER THE INPUT: true; the input reads as it did. -/
def blockWritesSpec : ChangeSpec := { name := "blockWrites", fn := fun _ => fun
  | [d1, d2, d3] => { results := [.lit (.bool true)], args := [d1, d2, d3] }
  | _ => none }
def blockWritesRow : OpenClaim := { program := "ytfkpeahelhpelaadoor", sum := "ad1ba872c9d59fa174d041ec824458e9813e823b3e1fcf5f62fc6212484389e8", func := "gantlet/gantletlaw09.BlockWrites", spec := "blockWrites", unfollowed := true, recurses := true, named := ["gantlet/item.shapes", "gantlet/huff.lengths"], plainKeys := false, apart := false, laid := [("gantlet/huff.lengths", laid_gantlet_huff_lengths), ("gantlet/item.shapes", laid_gantlet_item_shapes)] }
def BlockWritesSaid : Prop := blockWritesRow.holds Tryd.pinned (OpenSpec.ofChange blockWritesSpec)

/-- ITS FALSE NEIGHBOUR: 'it returns false'. Refute it at one input. -/
def blockWritesWrong : ChangeSpec := { name := "blockWrites", fn := fun _ => fun
  | [d1, d2, d3] => { results := [.lit (.bool false)], args := [d1, d2, d3] }
  | _ => none }
def BlockWritesWrongFalsely : Prop := blockWritesRow.holds Tryd.pinned (OpenSpec.ofChange blockWritesWrong)

/-- 'gantletlaw09.BlockLimits': WHATEVER THE INPUT: true; the input reads as it did. -/
def blockLimitsSpec : ChangeSpec := { name := "blockLimits", fn := fun _ => fun
  | [d1, d2, d3] => { results := [.lit (.bool true)], args := [d1, d2, d3] }
  | _ => none }
def blockLimitsRow : OpenClaim := { program := "ytfkpeahelhpelaadoor", sum := "ad1ba872c9d59fa174d041ec824458e9813e823b3e1fcf5f62fc6212484389e8", func := "gantlet/gantletlaw09.BlockLimits", spec := "blockLimits", unfollowed := true, recurses := true, named := ["gantlet/item.shapes", "gantlet/huff.lengths"], plainKeys := false, apart := false, laid := [("gantlet/huff.lengths", laid_gantlet_huff_lengths), ("gantlet/item.shapes", laid_gantlet_item_shapes)] }
def BlockLimitsSaid : Prop := blockLimitsRow.holds Tryd.pinned (OpenSpec.ofChange blockLimitsSpec)

/-- ITS FALSE NEIGHBOUR: 'it returns false'. Refute it at one input. -/
def blockLimitsWrong : ChangeSpec := { name := "blockLimits", fn := fun _ => fun
  | [d1, d2, d3] => { results := [.lit (.bool false)], args := [d1, d2, d3] }
  | _ => none }
def BlockLimitsWrongFalsely : Prop := blockLimitsRow.holds Tryd.pinned (OpenSpec.ofChange blockLimitsWrong)

/- THE SECOND FORM. 'bulk': how many values and letters a reading holds, each counted each time it is reached (what is shared counts as often as it is met; a slice's spare places count too). A statement '..UptoSaid' is the law's where the arguments, and the package variables that the reading takes, are together of bulk at most 1048576: NARROWER than '..Said'. Prove '..Said' where nothing that the law and all that it calls make is longer than what came in: it says more and counts as full. Else prove '..UptoSaid'. A law counts once. -/
mutual
def uptoBulk {H : Type} : DataW H → Nat
  | .lit (.string bytes) => bytes.length + 1
  | .lit _ => 1
  | .nil => 1
  | .ptr d => uptoBulk d + 1
  | .slice elems spare => uptoBulkAll elems + uptoBulkAll spare + 1
  | .agg parts => uptoBulkAll parts + 1
  | .iface _ d => uptoBulk d + 1
  | .map entries => uptoBulkEntries entries + 1
  | .held _ => 1
def uptoBulkAll {H : Type} : List (DataW H) → Nat
  | [] => 0
  | d :: r => uptoBulk d + uptoBulkAll r
def uptoBulkEntries {H : Type} : List (Lit × DataW H) → Nat
  | [] => 0
  | x :: r => uptoBulkEntry x + uptoBulkEntries r
def uptoBulkEntry {H : Type} : Lit × DataW H → Nat
  | (.string bytes, d) => bytes.length + uptoBulk d + 1
  | (_, d) => uptoBulk d + 1
 end
def uptoSmall : (H : Type) → List (DataW H) → Bool := fun _ ds => decide (uptoBulkAll ds ≤ 1048576)
def OpenSpec.upto (s : _root_.Go.ChangeSpec) : _root_.Go.OpenSpec := { _root_.Go.OpenSpec.ofChange s with cond := some uptoSmall }

/-- 'gantletlaw09.BlockReads', WHERE WHAT IT READS IS OF BULK AT MOST 1048576: true; the input reads as it did. -/
def blockReadsUptoRow : OpenClaim := { program := "ytfkpeahelhpelaadoor", sum := "ad1ba872c9d59fa174d041ec824458e9813e823b3e1fcf5f62fc6212484389e8", func := "gantlet/gantletlaw09.BlockReads", spec := "blockReads", unfollowed := true, recurses := true, named := ["gantlet/item.shapes", "gantlet/huff.lengths"], plainKeys := false, apart := false, laid := [("gantlet/huff.lengths", laid_gantlet_huff_lengths), ("gantlet/item.shapes", laid_gantlet_item_shapes)], narrowed := true }
def BlockReadsUptoSaid : Prop := blockReadsUptoRow.holds Tryd.pinned (OpenSpec.upto blockReadsSpec)

/-- 'gantletlaw09.BlockWrites', WHERE WHAT IT READS IS OF BULK AT MOST 1048576: true; the input reads as it did. -/
def blockWritesUptoRow : OpenClaim := { program := "ytfkpeahelhpelaadoor", sum := "ad1ba872c9d59fa174d041ec824458e9813e823b3e1fcf5f62fc6212484389e8", func := "gantlet/gantletlaw09.BlockWrites", spec := "blockWrites", unfollowed := true, recurses := true, named := ["gantlet/item.shapes", "gantlet/huff.lengths"], plainKeys := false, apart := false, laid := [("gantlet/huff.lengths", laid_gantlet_huff_lengths), ("gantlet/item.shapes", laid_gantlet_item_shapes)], narrowed := true }
def BlockWritesUptoSaid : Prop := blockWritesUptoRow.holds Tryd.pinned (OpenSpec.upto blockWritesSpec)

/-- 'gantletlaw09.BlockLimits', WHERE WHAT IT READS IS OF BULK AT MOST 1048576: true; the input reads as it did. -/
def blockLimitsUptoRow : OpenClaim := { program := "ytfkpeahelhpelaadoor", sum := "ad1ba872c9d59fa174d041ec824458e9813e823b3e1fcf5f62fc6212484389e8", func := "gantlet/gantletlaw09.BlockLimits", spec := "blockLimits", unfollowed := true, recurses := true, named := ["gantlet/item.shapes", "gantlet/huff.lengths"], plainKeys := false, apart := false, laid := [("gantlet/huff.lengths", laid_gantlet_huff_lengths), ("gantlet/item.shapes", laid_gantlet_item_shapes)], narrowed := true }
def BlockLimitsUptoSaid : Prop := blockLimitsUptoRow.holds Tryd.pinned (OpenSpec.upto blockLimitsSpec)

end Rows
end Go.Proofs.YtfkpeahelhpelaaDoor
