/- The tied card of BlockLimits: the law's row, its two listed variables tied to the program's text by the later family's looks. -/
import Derived.Test.YtfkpeahelhpelaaDoorLimRow
import Derived.Test.YtfkpeahelhpelaaDoorCards
import Derived.Test.YtfkpeahelhpelaaDoorTie
import Derived.SevenTiedAt
namespace Go.Proofs.YtfkpeahelhpelaaDoor
set_option linter.all false
open Go
/-- The statement. -/
theorem blockLimits_card : Rows.BlockLimitsCardSaid :=
  Claim7.holds_tied_plain_at .later [] [.data, .data] true (true, "4f06a8960ec5f7710f7f889abfe211fe0c168b6a9c5f22489200f5db1ef4e3b0") false
    blockLimits_holds (fun _ h => by cases h) (by kernel_rfl) (fun _ h => by cases h) blockLimits_row_tie rfl ⟨rfl, rfl⟩ (by kernel_rfl) rfl
    (fun f fn hf hfn => by
      obtain rfl : f = 5 := Option.some.inj ((show Tryd.prog.funcNamed "gantlet/gantletlaw09.BlockLimits" = some 5 by kernel_rfl).symm.trans hf) |>.symm
      obtain rfl : fn = Tryd.f5 := (Option.some.inj (Tryd.func5.symm.trans hfn)).symm
      exact ⟨by kernel_rfl, fun j t ht => by
        rw [Tryd.params5] at ht
        have h3 : t = 30 ∨ t = 51 := by
          rcases j with _ | _ | _ | j
          · exact .inl (by simpa using ht.symm)
          · exact .inl (by simpa using ht.symm)
          · exact .inr (by simpa using ht.symm)
          · simp at ht
        rcases h3 with rfl | rfl
        · exact (show Tryd.prog.wantsStandIn 30 = false by kernel_rfl)
        · exact (show Tryd.prog.wantsStandIn 51 = false by kernel_rfl)⟩)
    (by kernel_rfl)
#print axioms blockLimits_card
end Go.Proofs.YtfkpeahelhpelaaDoor
