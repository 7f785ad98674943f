/-
  No cell of these rows narrows 'for every input' (looked for: loops, veiled, ifaces, maps, wideKeys, modest, calm, conditions, laid).
  DERIVED. THE GIVEN ROWS OF THIS SEAT. 2 by the template 'for every input the law returns true; each argument reads behind the call as it read before'; 0 by the template 'total and deterministic' (their statements: YtccanklmbmijhaaTotals.lean).
  GIVEN WITH THE SEED: the statements are not yours to turn. If you find one false, say at which input.
  Laid BY PROGRAM, IN A SANDBOX (cutbox-rows.mjs): the forced cells as the released guide's own fill.sh prints them over the translation 53401cfbf226f664… (all of the seat's roots in one cut). By AI agents, Wed Nov 11 2026. No macro, syntax, notation, axiom, sorry.
-/
import Derived.Test.YtccanklmbmijhaaChecked
import GoSem.Claim
import GoSem.ClaimJoined
import GoSem.ClaimMapViews
import Derived.JoinedTies
import Derived.KernelRfl
namespace Go.Proofs.Ytccanklmbmijhaa
/- THE CELL 'sum', in the pinned program and in every row, IS THE sha256 OF THE DUMP (.gsa) THAT YtccanklmbmijhaaProg.lean LOADS. Nothing in Lean hashes anything: it is a label: what it is worth is what the hold of that sum in a sandbox is worth. -/
noncomputable def Try.pinned : Pinned := { name := "ytccanklmbmijhaa", sum := "53401cfbf226f664899af609f7c04a03df0a24e641fa3bcb695f7fc4e09b8d55", checked := Try.checked }
namespace Rows
def none {H : Type} : Left H := { results := [], args := [] }

/-- 'gantletlaw06.StaticTells': WHATEVER THE INPUT: true; the input reads as it did. -/
def staticTellsSpec : ChangeSpec := { name := "staticTells", fn := fun _ => fun
  | [d1, d2] => { results := [.lit (.bool true)], args := [d1, d2] }
  | _ => none }
def staticTellsRow : OpenClaim := { program := "ytccanklmbmijhaa", sum := "53401cfbf226f664899af609f7c04a03df0a24e641fa3bcb695f7fc4e09b8d55", func := "gantlet/gantletlaw06.StaticTells", spec := "staticTells", apart := false }
def StaticTellsSaid : Prop := staticTellsRow.holds Try.pinned (OpenSpec.ofChange staticTellsSpec)

/-- ITS FALSE NEIGHBOUR: 'it returns false'. Refute it at one input. -/
def staticTellsWrong : ChangeSpec := { name := "staticTells", fn := fun _ => fun
  | [d1, d2] => { results := [.lit (.bool false)], args := [d1, d2] }
  | _ => none }
def StaticTellsWrongFalsely : Prop := staticTellsRow.holds Try.pinned (OpenSpec.ofChange staticTellsWrong)

/-- 'gantletlaw06.StaticFound': WHATEVER THE INPUT: true; the input reads as it did. -/
def staticFoundSpec : ChangeSpec := { name := "staticFound", fn := fun _ => fun
  | [d1, d2] => { results := [.lit (.bool true)], args := [d1, d2] }
  | _ => none }
def staticFoundRow : OpenClaim := { program := "ytccanklmbmijhaa", sum := "53401cfbf226f664899af609f7c04a03df0a24e641fa3bcb695f7fc4e09b8d55", func := "gantlet/gantletlaw06.StaticFound", spec := "staticFound", apart := false }
def StaticFoundSaid : Prop := staticFoundRow.holds Try.pinned (OpenSpec.ofChange staticFoundSpec)

/-- ITS FALSE NEIGHBOUR: 'it returns false'. Refute it at one input. -/
def staticFoundWrong : ChangeSpec := { name := "staticFound", fn := fun _ => fun
  | [d1, d2] => { results := [.lit (.bool false)], args := [d1, d2] }
  | _ => none }
def StaticFoundWrongFalsely : Prop := staticFoundRow.holds Try.pinned (OpenSpec.ofChange staticFoundWrong)

/- THE SECOND FORM. 'bulk': how many values and letters a reading holds, each counted each time it is reached (what is shared counts as often as it is met; a slice's spare places count too). A statement '..UptoSaid' is the law's where the arguments, and the package variables that the reading takes, are together of bulk at most 1048576: NARROWER than '..Said'. Prove '..Said' where nothing that the law and all that it calls make is longer than what came in: it says more and counts as full. Else prove '..UptoSaid'. A law counts once. -/
mutual
def uptoBulk {H : Type} : DataW H → Nat
  | .lit (.string bytes) => bytes.length + 1
  | .lit _ => 1
  | .nil => 1
  | .ptr d => uptoBulk d + 1
  | .slice elems spare => uptoBulkAll elems + uptoBulkAll spare + 1
  | .agg parts => uptoBulkAll parts + 1
  | .iface _ d => uptoBulk d + 1
  | .map entries => uptoBulkEntries entries + 1
  | .held _ => 1
def uptoBulkAll {H : Type} : List (DataW H) → Nat
  | [] => 0
  | d :: r => uptoBulk d + uptoBulkAll r
def uptoBulkEntries {H : Type} : List (Lit × DataW H) → Nat
  | [] => 0
  | x :: r => uptoBulkEntry x + uptoBulkEntries r
def uptoBulkEntry {H : Type} : Lit × DataW H → Nat
  | (.string bytes, d) => bytes.length + uptoBulk d + 1
  | (_, d) => uptoBulk d + 1
 end
def uptoSmall : (H : Type) → List (DataW H) → Bool := fun _ ds => decide (uptoBulkAll ds ≤ 1048576)
def OpenSpec.upto (s : _root_.Go.ChangeSpec) : _root_.Go.OpenSpec := { _root_.Go.OpenSpec.ofChange s with cond := some uptoSmall }

/-- 'gantletlaw06.StaticTells', WHERE WHAT IT READS IS OF BULK AT MOST 1048576: true; the input reads as it did. -/
def staticTellsUptoRow : OpenClaim := { program := "ytccanklmbmijhaa", sum := "53401cfbf226f664899af609f7c04a03df0a24e641fa3bcb695f7fc4e09b8d55", func := "gantlet/gantletlaw06.StaticTells", spec := "staticTells", apart := false, narrowed := true }
def StaticTellsUptoSaid : Prop := staticTellsUptoRow.holds Try.pinned (OpenSpec.upto staticTellsSpec)

/-- 'gantletlaw06.StaticFound', WHERE WHAT IT READS IS OF BULK AT MOST 1048576: true; the input reads as it did. -/
def staticFoundUptoRow : OpenClaim := { program := "ytccanklmbmijhaa", sum := "53401cfbf226f664899af609f7c04a03df0a24e641fa3bcb695f7fc4e09b8d55", func := "gantlet/gantletlaw06.StaticFound", spec := "staticFound", apart := false, narrowed := true }
def StaticFoundUptoSaid : Prop := staticFoundUptoRow.holds Try.pinned (OpenSpec.upto staticFoundSpec)

end Rows
end Go.Proofs.Ytccanklmbmijhaa
