/- Tells, walked: for every index and every field the program's answers are the document's. -/
import Derived.Test.YtccanklmbmijhaaFound
import Derived.Test.YtccanklmbmijhaaRef06
namespace Go.Proofs.Ytccanklmbmijhaa
open Go.RowKit

theorem ref_find_at {n v : ByteArray} {a : Nat} {b : Bool} (h : findS n v = (a, b)) (w : World) : Calls Try.prog 9 #[.agg #[.string n, .string v]] w fun e w' => e = .returned (.tuple #[.int .i64 a, .bool b]) ∧ Below w.heap.size w w' := by
  have := ref_find_any n v w
  rw [h] at this
  exact this
theorem ref_get_at {i : Int} (hi : -9223372036854775808 ≤ i ∧ i ≤ 9223372036854775807) {n v : ByteArray} {c : Int} (h1 : getN i = n) (h2 : getV i = v) (h3 : getE i = c) (w : World) :
    Calls Try.prog 7 #[.int .i64 i] w fun e w' => e = .returned (.tuple #[.agg #[.string n, .string v], .int .i64 c]) ∧ Below w.heap.size w w' := by
  have := ref_get_any i w hi
  rw [h1, h2, h3] at this
  exact this

set_option maxHeartbeats 2000000 in
set_option maxRecDepth 100000 in
theorem tells_short (i : Int) (n v : ByteArray) (w : World) (hi : -9223372036854775808 ≤ i ∧ i ≤ 9223372036854775807) (hl1 : (n.size : Int) ≤ 300) (hl2 : (v.size : Int) ≤ 300) :
    Calls Try.prog 3 #[.int .i64 i, .agg #[.string n, .string v]] w fun e w' => e = .returned (.bool true) ∧ Below w.heap.size w w' := by
  obtain ⟨N, hN⟩ : ∃ N, getN i = N := ⟨_, rfl⟩
  obtain ⟨V, hV⟩ : ∃ V, getV i = V := ⟨_, rfl⟩
  obtain ⟨E, hE⟩ : ∃ E, getE i = E := ⟨_, rfl⟩
  obtain ⟨a, x, hf⟩ : ∃ a x, findS n v = (a, x) := ⟨_, _, rfl⟩
  have G1 := Lib.hid (get_at hi hN hV hE)
  have G2 := Lib.hid (ref_get_at hi hN hV hE)
  have F1 := Lib.hid (find_at hf)
  have F2 := Lib.hid (ref_find_at hf)
  clear hN hV hE hf
  have q0 : ∀ o : Obj, (w.alloc o).heap[w.heap.size]? = some o := heap_alloc_new w
  go_enter Try.func3, Try.ntmps3
  go_wp2_with fail
  refine (G1.out _).mono ?_
  rintro e w1 ⟨rfl, hb1⟩
  have p1 := blk_below (q0 _) hb1
  go_wp2_with fail
  refine (G2.out _).mono ?_
  rintro e w2 ⟨rfl, hb2⟩
  have p2 := blk_below (blk_alloc p1 _) hb2
  have r2 := blk_below (heap_alloc_new _ _) hb2
  clear p1
  obtain ⟨c0, c1⟩ := cells_two p2
  have l2 := blk_lt p2
  go_wp2_with fail
  refine (F1.out _).mono ?_
  rintro e w3 ⟨rfl, hb3⟩
  clear c0 c1 l2
  have p3 := blk_below (blk_alloc p2 _) hb3
  have r3 := blk_below (blk_alloc r2 _) hb3
  have s3 := blk_below (heap_alloc_new _ _) hb3
  clear p2 r2
  obtain ⟨c0, c1⟩ := cells_two p3
  go_wp2_with fail
  refine (F2.out _).mono ?_
  rintro e w4 ⟨rfl, hb4⟩
  clear c0 c1 p3
  have r4 := blk_below r3 hb4
  have s4 := blk_below s3 hb4
  clear r3 s3
  go_wp2_with fail
  refine (alive06 _).mono ?_
  rintro e w5 ⟨rfl, hb5⟩
  have r5 := blk_below r4 hb5
  have s5 := blk_below s4 hb5
  clear r4 s4
  obtain ⟨c0, c1⟩ := cells_two r5
  obtain ⟨d0, d1⟩ := cells_two s5
  clear r5 s5
  go_wp2_with fail
  all_goals (go_ret; exact ⟨by simp, bl_then (bl_then (bl_then (bl_alloc (bl_then (bl_alloc (bl_then (bl_alloc (Below.refl _ _) _) hb1) _) hb2) _) hb3) hb4) hb5⟩)

set_option maxHeartbeats 1000000 in
theorem tells_long (i : Int) (n v : ByteArray) (w : World) (hl : 300 < (n.size : Int) ∨ ((n.size : Int) ≤ 300 ∧ 300 < (v.size : Int))) :
    Calls Try.prog 3 #[.int .i64 i, .agg #[.string n, .string v]] w fun e w' => e = .returned (.bool true) ∧ Below w.heap.size w w' := by
  rcases hl with hl | ⟨hl, hl2⟩
  all_goals
    go_enter Try.func3, Try.ntmps3
    go_wp2_with fail
    refine (alive06 _).mono ?_
    rintro e w1 ⟨rfl, hb1⟩
    go_wp2_with fail
    go_ret
    exact ⟨rfl, bl_then (bl_alloc (Below.refl _ _) _) hb1⟩

theorem tells_walk (i : Int) (n v : ByteArray) (w : World) (hi : -9223372036854775808 ≤ i ∧ i ≤ 9223372036854775807) :
    Calls Try.prog 3 #[.int .i64 i, .agg #[.string n, .string v]] w fun e w' => e = .returned (.bool true) ∧ Below w.heap.size w w' := by
  by_cases h : (n.size : Int) ≤ 300 ∧ (v.size : Int) ≤ 300
  · exact tells_short i n v w hi h.1 h.2
  · exact tells_long i n v w (by omega)
end Go.Proofs.Ytccanklmbmijhaa
