/- The rows' condition on the two package-level tables gives what the walks ask. -/
import Derived.Test.YtfkpeahelhpelaaDoorRows
import Derived.Test.YtfkpeahelhpelaaDoorLim
import Derived.Lib.LaidTab
import Derived.Lib.SmallJoins
import Derived.LaidHandle
import Derived.Stop.LaidErr
import Derived.WideKeyPair
import Derived.ProofKit
namespace Go.Proofs.YtfkpeahelhpelaaDoor
set_option linter.all false
open Go.RowKit Go.Joins Go.ChangeShapes

/-- An array of structs of two integers, that reads as these: its cells. -/
theorem cells_of_pairs {H : Type} {enc : TypeId × Value → H} {P : Program} {w : World} {base : Nat} {sp : Nat → Bool} {held : Bool} {fuel : Nat} {t e ti : TypeId} {n : Nat} {k : IntKind} {cs : List Value} {zs : List (Int × Int)} {p : List MemPlace} {f0 f1 : Field}
    (ht : P.underlying t = some (.array n e)) (he : P.underlying e = some (.struct #[f0, f1])) (hti : P.underlying ti = some (.int k)) (h0 : f0.type = ti) (h1 : f1.type = ti) (o0 : f0.offset = 0) (o1 : f1.offset = 1) (hc1 : P.cellsOf ti = 1) (hce : P.cellsOf e = 2)
    (h : DataW.trod enc P w base sp held fuel t cs = some (.agg (zs.map fun z => .agg [.lit (.int k z.1), .lit (.int k z.2)]), p)) :
    ∀ (i : Nat) (z : Int × Int), zs[i]? = some z → cs[i * 2]? = some (.int k z.1) ∧ cs[i * 2 + 1]? = some (.int k z.2) := by
  cases fuel with
  | zero => simp [DataW.trod] at h
  | succ fuel =>
    simp only [DataW.trod, ht, hce] at h
    split at h
    · obtain ⟨xs, hm, hx⟩ := Option.map_eq_some_iff.1 h
      have hxs : xs.map (·.1) = zs.map fun z => (DataW.agg [.lit (.int k z.1), .lit (.int k z.2)] : DataW H) := by
        have := congrArg Prod.fst hx
        simpa using this
      have hxl : xs.length = n := by simpa using Lib.mapM_length hm
      have hzl : zs.length = n := by
        have := congrArg List.length hxs
        simp at this
        omega
      intro i z hz
      have hi : i < n := by have := (List.getElem?_eq_some_iff.1 hz).1; omega
      obtain ⟨b, hb, hf⟩ := Lib.mapM_at hm i i (by simp [hi])
      obtain ⟨y0, y1, m, hy, -, g0, g1⟩ := trod_struct2 he hf
      rw [h0, hc1, o0] at g0
      rw [h1, hc1, o1] at g1
      obtain ⟨a0, e0, rfl, -⟩ := DataW.trod_int hti g0
      obtain ⟨a1, e1, rfl, -⟩ := DataW.trod_int hti g1
      have h2 : (xs.map (·.1))[i]? = some (DataW.agg [.lit (.int k a0), .lit (.int k a1)] : DataW H) := by simp [hb, hy]
      rw [hxs, List.getElem?_map, hz] at h2
      simp only [Option.map_some, Option.some.injEq, DataW.agg.injEq, List.cons.injEq, DataW.lit.injEq, Lit.int.injEq, true_and, and_true] at h2
      obtain ⟨rfl, rfl⟩ := h2
      have c0 := congrArg (·[0]?) e0
      have c1 := congrArg (·[0]?) e1
      simp [List.getElem?_take, List.getElem?_drop] at c0 c1
      exact ⟨c0, c1⟩
    · cases h
theorem laid_all {W : World} (h : laidMet Tryd.prog Rows.blockLimitsRow.laid W) : LaidLens W ∧ LaidShapes W := by
  have hg0 : Tryd.prog.globalNamed "gantlet/huff.lengths" = some 1 := by kernel_rfl
  have hg1 : Tryd.prog.globalNamed "gantlet/item.shapes" = some 0 := by kernel_rfl
  constructor
  · have hd : Rows.blockLimitsRow.laid = ("gantlet/huff.lengths", Lib.tabData .i64 (lens.map fun (n : Nat) => (n : Int))) :: [("gantlet/item.shapes", Rows.laid_gantlet_item_shapes)] := by kernel_rfl
    rw [hd] at h
    have hT := Lib.tabIs_of_head hg0 (by kernel_rfl) Tryd.underlying128 Tryd.underlying3 (by kernel_rfl) (by kernel_rfl) h
    intro j v hv
    have e : ((lens.map fun (n : Nat) => (n : Int)).map fun z => Value.int .i64 z).toArray = ints lens := by kernel_rfl
    exact (World.var?_cell hg0 hT j).trans ((congrArg (fun (a : Array Value) => a[j]?) e).trans hv)
  · have h' := laidMet.tail (x := ("gantlet/huff.lengths", Rows.laid_gantlet_huff_lengths)) (r := [("gantlet/item.shapes", Rows.laid_gantlet_item_shapes)]) h
    obtain ⟨ps, ⟨g', t', cs, fuel, p, q, hg', ht', hvar, hd, _, _⟩, _⟩ := h'
    obtain rfl := Option.some.inj (hg1.symm.trans hg')
    have hty : (Tryd.prog.globals[0]?).map (·.type) = some 97 := by kernel_rfl
    obtain rfl := Option.some.inj (hty.symm.trans ht')
    have key := cells_of_pairs (zs := [(7, 128), (6, 64), (4, 0), (4, 16), (5, 32)]) (k := .i64) (ti := 3) Tryd.underlying97 Tryd.underlying96 Tryd.underlying3 rfl rfl rfl rfl (by kernel_rfl) (by kernel_rfl) hd
    intro j v hv
    rw [World.var?_cell hg1 hvar j]
    have hj : j < 10 := by
      have := (Array.getElem?_eq_some_iff.1 hv).1
      rw [show (ints shapesL).size = 10 from by kernel_rfl] at this
      exact this
    have hcs : ∀ i, cs[i]? = cs.toList[i]? := fun i => Array.getElem?_toList.symm
    rw [hcs]
    rw [← hv]
    obtain rfl | rfl | rfl | rfl | rfl | rfl | rfl | rfl | rfl | rfl : j = 0 ∨ j = 1 ∨ j = 2 ∨ j = 3 ∨ j = 4 ∨ j = 5 ∨ j = 6 ∨ j = 7 ∨ j = 8 ∨ j = 9 := by omega
    · exact (key 0 _ rfl).1.trans (by kernel_rfl)
    · exact (key 0 _ rfl).2.trans (by kernel_rfl)
    · exact (key 1 _ rfl).1.trans (by kernel_rfl)
    · exact (key 1 _ rfl).2.trans (by kernel_rfl)
    · exact (key 2 _ rfl).1.trans (by kernel_rfl)
    · exact (key 2 _ rfl).2.trans (by kernel_rfl)
    · exact (key 3 _ rfl).1.trans (by kernel_rfl)
    · exact (key 3 _ rfl).2.trans (by kernel_rfl)
    · exact (key 4 _ rfl).1.trans (by kernel_rfl)
    · exact (key 4 _ rfl).2.trans (by kernel_rfl)
end Go.Proofs.YtfkpeahelhpelaaDoor
