/- item.Right (layer 8), of the kinds that a block is made of. -/
import Derived.Test.YtfkpeahelhpelaaDoorLenc
import Derived.Test.YtfkpeahelhpelaaDoorItem
namespace Go.Proofs.YtfkpeahelhpelaaDoor
set_option linter.all false
open Go.RowKit
attribute [local go_sem] Oper.semAt_some valueOf_ok

def itO (k n : Int) (x v : ByteArray) : Obj := .cells #[.int .i64 k, .int .i64 n, .string x, .string v] 62
def itA (k n : Int) (x v : ByteArray) : Value := .agg #[.int .i64 k, .int .i64 n, .string x, .string v]
theorem itO_cells {w : World} {B : Nat} {k n : Int} {x v : ByteArray} (h : w.heap[B]? = some (itO k n x v)) :
    w.cell? ⟨B, 0, none⟩ = some (.int .i64 k) ∧ w.cell? ⟨B, 1, none⟩ = some (.int .i64 n) ∧ w.cell? ⟨B, 2, none⟩ = some (.string x) ∧ w.cell? ⟨B, 3, none⟩ = some (.string v) :=
  ⟨(cell_of_row _ _ 0 _ _ _ h).trans rfl, (cell_of_row _ _ 1 _ _ _ h).trans rfl, (cell_of_row _ _ 2 _ _ _ h).trans rfl, (cell_of_row _ _ 3 _ _ _ h).trans rfl⟩
set_option maxRecDepth 100000 in
set_option maxHeartbeats 1000000 in
theorem right_0 (n : Nat) (w : World) (h1 : 1 ≤ n) (h2 : n ≤ 61) : Calls Tryd.prog 50 #[itA 0 n ⟨#[]⟩ ⟨#[]⟩] w fun e w' => e = .returned (.bool true) ∧ Below w.heap.size w w' := by
  have i1 : (1 : Int) ≤ n := by omega
  have i2 : (n : Int) ≤ 61 := by omega
  have h0 := heap_alloc_new w (itO 0 n ⟨#[]⟩ ⟨#[]⟩)
  obtain ⟨c0, c1, c2, c3⟩ := itO_cells h0
  have hbl := bl_alloc (Below.refl w.heap.size w) (itO 0 n ⟨#[]⟩ ⟨#[]⟩)
  unfold itA
  unfold itO at *
  go_enter Tryd.func50, Tryd.ntmps50
  go_wp2_with fail
  go_ret
  exact ⟨rfl, hbl⟩
set_option maxRecDepth 100000 in
set_option maxHeartbeats 1000000 in
theorem right_4 (w : World) : Calls Tryd.prog 50 #[itA 4 0 ⟨#[]⟩ ⟨#[]⟩] w fun e w' => e = .returned (.bool true) ∧ Below w.heap.size w w' := by
  have h0 := heap_alloc_new w (itO 4 0 ⟨#[]⟩ ⟨#[]⟩)
  obtain ⟨c0, c1, c2, c3⟩ := itO_cells h0
  have hbl := bl_alloc (Below.refl w.heap.size w) (itO 4 0 ⟨#[]⟩ ⟨#[]⟩)
  unfold itA
  unfold itO at *
  go_enter Tryd.func50, Tryd.ntmps50
  go_wp2_with fail
  go_ret
  exact ⟨rfl, hbl⟩
set_option maxRecDepth 100000 in
set_option maxHeartbeats 1000000 in
theorem right_2 (n : Nat) (x v : ByteArray) (w : World) (h2 : n ≤ 61) (hx : n = 0 ∨ x = ⟨#[]⟩) : Calls Tryd.prog 50 #[itA 2 n x v] w fun e w' => e = .returned (.bool (decide (x.size ≤ 65536 ∧ v.size ≤ 65536))) ∧ Below w.heap.size w w' := by
  have i1 : (0 : Int) ≤ n := by omega
  have i2 : (n : Int) ≤ 61 := by omega
  have hk := kinds_any 2 (by decide)
  have h0 := heap_alloc_new w (itO 2 n x v)
  obtain ⟨c0, c1, c2, c3⟩ := itO_cells h0
  have hbl := bl_alloc (Below.refl w.heap.size w) (itO 2 n x v)
  unfold itA
  unfold itO at *
  by_cases hx1 : x.size ≤ 65536
  · have hx2 : (x.size : Int) ≤ 65536 := by omega
    by_cases hv1 : v.size ≤ 65536
    · have hv2 : (v.size : Int) ≤ 65536 := by omega
      have hx' : n = 0 ∨ (1 ≤ n ∧ x = ⟨#[]⟩) := by
        rcases Nat.eq_zero_or_pos n with h | h
        · exact .inl h
        · exact .inr ⟨h, hx.resolve_left (by omega)⟩
      clear hx
      rcases hx' with rfl | ⟨hn, rfl⟩
      · go_enter Tryd.func50, Tryd.ntmps50
        go_wp2_with fail
        refine (hk _).mono ?_
        rintro e w' ⟨rfl, rfl⟩
        go_wp2_with fail
        go_ret
        exact ⟨by simp [hx1, hv1], hbl⟩
      · have i3 : (1 : Int) ≤ n := by omega
        go_enter Tryd.func50, Tryd.ntmps50
        go_wp2_with fail
        refine (hk _).mono ?_
        rintro e w' ⟨rfl, rfl⟩
        go_wp2_with fail
        go_ret
        rw [decide_eq_true (show (⟨#[]⟩ : ByteArray).size ≤ 65536 ∧ v.size ≤ 65536 from ⟨by decide, hv1⟩)]
        exact ⟨rfl, hbl⟩
    · have hv2 : (65536 : Int) < v.size := by omega
      go_enter Tryd.func50, Tryd.ntmps50
      go_wp2_with fail
      go_ret
      exact ⟨by simp [hv1], hbl⟩
  · have hx2 : (65536 : Int) < x.size := by omega
    go_enter Tryd.func50, Tryd.ntmps50
    go_wp2_with fail
    go_ret
    exact ⟨by simp [hx1], hbl⟩

end Go.Proofs.YtfkpeahelhpelaaDoor
