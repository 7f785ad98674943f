/- Found, walked: for every index and every field the law answers true. -/
import Derived.Test.YtccanklmbmijhaaFound
namespace Go.Proofs.Ytccanklmbmijhaa
open Go.RowKit

theorem below_self (w : World) : Below w.heap.size w w := Below.refl _ _

set_option maxHeartbeats 2000000 in
set_option maxRecDepth 100000 in
theorem found_short (i : Int) (n v : ByteArray) (w : World) (hi : -9223372036854775808 ≤ i ∧ i ≤ 9223372036854775807) (hl1 : (n.size : Int) ≤ 300) (hl2 : (v.size : Int) ≤ 300) :
    Calls Try.prog 4 #[.int .i64 i, .agg #[.string n, .string v]] w fun e w' => e = .returned (.bool true) ∧ Below w.heap.size w w' := by
  obtain ⟨N, hN⟩ : ∃ N, getN i = N := ⟨_, rfl⟩
  obtain ⟨V, hV⟩ : ∃ V, getV i = V := ⟨_, rfl⟩
  obtain ⟨E, hE⟩ : ∃ E, getE i = E := ⟨_, rfl⟩
  obtain ⟨a, x, hf⟩ : ∃ a x, findS N V = (a, x) := ⟨_, _, rfl⟩
  obtain ⟨m, y, hg⟩ : ∃ m y, findS n v = (m, y) := ⟨_, _, rfl⟩
  obtain ⟨k, z, hk⟩ : ∃ k z, findS n nsv = (k, z) := ⟨_, _, rfl⟩
  obtain ⟨bN, hbN⟩ : ∃ N, getN m = N := ⟨_, rfl⟩
  obtain ⟨bV, hbV⟩ : ∃ V, getV m = V := ⟨_, rfl⟩
  obtain ⟨g, hbE⟩ : ∃ E, getE m = E := ⟨_, rfl⟩
  have hok := findS_ok n v
  have hfirst := findS_first n v
  rw [hg] at hok
  rw [hg, hk] at hfirst
  have hm61 : m ≤ 61 := hok.1
  have G1 := Lib.hid (get_at hi hN hV hE)
  have F1 := Lib.hid (find_at hf)
  have F2 := Lib.hid (find_at hg)
  have G2 := Lib.hid (get_at (by omega) hbN hbV hbE)
  have F3 := Lib.hid (find_at hk)
  have hA : (1 ≤ i ∧ i ≤ 61 ∧ E = 0 ∧ (a : Int) = i ∧ x = true) ∨ (E = 5 ∧ (i < 1 ∨ 61 < i)) := by
    by_cases h : 1 ≤ i ∧ i ≤ 61
    · left
      obtain ⟨j, rfl⟩ : ∃ j : Nat, i = (j : Int) + 1 := ⟨i.toNat - 1, by omega⟩
      have hj : j < 61 := by omega
      have e1 : ((j : Int) + 1).toNat - 1 = j := by omega
      rw [getN, if_pos h, e1] at hN
      rw [getV, if_pos h, e1] at hV
      rw [getE, if_pos h] at hE
      have := found_own j hj
      rw [hN, hV, hf] at this
      injection this with h1 h2
      exact ⟨h.1, h.2, hE.symm, by omega, h2⟩
    · right
      rw [getE, if_neg h] at hE
      exact ⟨hE.symm, by omega⟩
  have hB : (m = 0 ∧ y = false ∧ g = 5) ∨ (1 ≤ m ∧ g = 0 ∧ n = bN ∧ (y = false ∨ (y = true ∧ v = bV)) ∧ 1 ≤ k ∧ k ≤ m ∧ z = false) := by
    by_cases h : m = 0
    · left
      subst h
      refine ⟨rfl, ?_, by rw [← hbE]; rfl⟩
      cases y with
      | false => rfl
      | true => exact absurd rfl (hok.2.2 rfl).1
    · right
      have h1 : (1 : Int) ≤ m ∧ (m : Int) ≤ 61 := by omega
      have e1 : ((m : Int)).toNat - 1 = m - 1 := by omega
      rw [getN, if_pos h1, e1] at hbN
      rw [getV, if_pos h1, e1] at hbV
      rw [getE, if_pos h1] at hbE
      have h3 := hfirst h
      refine ⟨by omega, hbE.symm, (hbN.symm.trans (hok.2.1 h)).symm, ?_, h3.1, h3.2.1, h3.2.2⟩
      cases y with
      | false => exact .inl rfl
      | true => exact .inr ⟨rfl, (hbV.symm.trans (hok.2.2 rfl).2).symm⟩
  clear hN hV hE hf hg hk hbN hbV hbE hok hfirst
  have q0 : ∀ o : Obj, (w.alloc o).heap[w.heap.size]? = some o := heap_alloc_new w
  rcases hA with ⟨i1, i2, rfl, rfl, rfl⟩ | ⟨rfl, hout⟩
  · rcases hB with ⟨rfl, rfl, rfl⟩ | ⟨m1, rfl, rfl, hy, k1, k2, rfl⟩
    · go_enter Try.func4, Try.ntmps4
      go_wp2_with fail
      refine (G1.out _).mono ?_
      rintro e w1 ⟨rfl, hb1⟩
      have p1 := blk_below (q0 _) hb1
      go_wp2_with fail
      refine (F1.out _).mono ?_
      rintro e w2 ⟨rfl, hb2⟩
      have p2 := blk_below (blk_alloc p1 _) hb2
      obtain ⟨c0, c1⟩ := cells_two p2
      clear p1
      go_wp2_with fail
      refine (F2.out _).mono ?_
      rintro e w3 ⟨rfl, hb3⟩
      have p3 := blk_below p2 hb3
      clear p2 c0 c1
      go_wp2_with fail
      refine (G2.out _).mono ?_
      rintro e w4 ⟨rfl, hb4⟩
      have p4 := blk_below p3 hb4
      clear p3
      clear p4
      go_wp2_with fail
      refine (alive06 _).mono ?_
      rintro e w5 ⟨rfl, hb5⟩
      go_wp2_with fail
      go_ret
      exact ⟨rfl, bl_then (bl_alloc (bl_then (bl_then (bl_then (bl_alloc (bl_then (bl_alloc (below_self w) _) hb1) _) hb2) hb3) hb4) _) hb5⟩
    · rcases hy with rfl | ⟨rfl, rfl⟩
      all_goals
        go_enter Try.func4, Try.ntmps4
        go_wp2_with fail
        refine (G1.out _).mono ?_
        rintro e w1 ⟨rfl, hb1⟩
        have p1 := blk_below (q0 _) hb1
        go_wp2_with fail
        refine (F1.out _).mono ?_
        rintro e w2 ⟨rfl, hb2⟩
        have p2 := blk_below (blk_alloc p1 _) hb2
        obtain ⟨c0, c1⟩ := cells_two p2
        clear p1
        go_wp2_with fail
        refine (F2.out _).mono ?_
        rintro e w3 ⟨rfl, hb3⟩
        have p3 := blk_below p2 hb3
        clear p2 c0 c1
        go_wp2_with fail
        refine (G2.out _).mono ?_
        rintro e w4 ⟨rfl, hb4⟩
        have p4 := blk_below p3 hb4
        clear p3
        obtain ⟨c0, c1⟩ := cells_two p4
        have l4 := blk_lt p4
        go_wp2_with fail
        refine (F3.out _).mono ?_
        rintro e w5 ⟨rfl, hb5⟩
        clear c0 c1
        have p5 := blk_below (blk_alloc p4 _) hb5
        have r5 := blk_below (heap_alloc_new _ _) hb5
        clear p4
        go_wp2_with fail
        refine (alive06 _).mono ?_
        rintro e w6 ⟨rfl, hb6⟩
        have p6 := blk_below p5 hb6
        have r6 := blk_below r5 hb6
        clear p5 r5
        obtain ⟨c0, c1⟩ := cells_two p6
        obtain ⟨d0, d1⟩ := cells_two r6
        clear p6 r6
        go_wp2_with fail
        all_goals (go_ret; exact ⟨by simp, bl_then (bl_then (bl_alloc (bl_then (bl_then (bl_then (bl_alloc (bl_then (bl_alloc (below_self w) _) hb1) _) hb2) hb3) hb4) _) hb5) hb6⟩)
  · rcases hB with ⟨rfl, rfl, rfl⟩ | ⟨m1, rfl, rfl, hy, k1, k2, rfl⟩
    · rcases hout with hout | hout
      all_goals
        go_enter Try.func4, Try.ntmps4
        go_wp2_with fail
        refine (G1.out _).mono ?_
        rintro e w1 ⟨rfl, hb1⟩
        have p1 := blk_below (q0 _) hb1
        go_wp2_with fail
        refine (F1.out _).mono ?_
        rintro e w2 ⟨rfl, hb2⟩
        have p2 := blk_below (blk_alloc p1 _) hb2
        obtain ⟨c0, c1⟩ := cells_two p2
        clear p1
        go_wp2_with fail
        refine (F2.out _).mono ?_
        rintro e w3 ⟨rfl, hb3⟩
        have p3 := blk_below p2 hb3
        clear p2 c0 c1
        go_wp2_with fail
        refine (G2.out _).mono ?_
        rintro e w4 ⟨rfl, hb4⟩
        have p4 := blk_below p3 hb4
        clear p3
        clear p4
        go_wp2_with fail
        refine (alive06 _).mono ?_
        rintro e w5 ⟨rfl, hb5⟩
        go_wp2_with fail
        go_ret
        exact ⟨rfl, bl_then (bl_alloc (bl_then (bl_then (bl_then (bl_alloc (bl_then (bl_alloc (below_self w) _) hb1) _) hb2) hb3) hb4) _) hb5⟩
    · rcases hout with hout | hout <;> rcases hy with rfl | ⟨rfl, rfl⟩
      all_goals
        go_enter Try.func4, Try.ntmps4
        go_wp2_with fail
        refine (G1.out _).mono ?_
        rintro e w1 ⟨rfl, hb1⟩
        have p1 := blk_below (q0 _) hb1
        go_wp2_with fail
        refine (F1.out _).mono ?_
        rintro e w2 ⟨rfl, hb2⟩
        have p2 := blk_below (blk_alloc p1 _) hb2
        obtain ⟨c0, c1⟩ := cells_two p2
        clear p1
        go_wp2_with fail
        refine (F2.out _).mono ?_
        rintro e w3 ⟨rfl, hb3⟩
        have p3 := blk_below p2 hb3
        clear p2 c0 c1
        go_wp2_with fail
        refine (G2.out _).mono ?_
        rintro e w4 ⟨rfl, hb4⟩
        have p4 := blk_below p3 hb4
        clear p3
        obtain ⟨c0, c1⟩ := cells_two p4
        have l4 := blk_lt p4
        go_wp2_with fail
        refine (F3.out _).mono ?_
        rintro e w5 ⟨rfl, hb5⟩
        clear c0 c1
        have p5 := blk_below (blk_alloc p4 _) hb5
        have r5 := blk_below (heap_alloc_new _ _) hb5
        clear p4
        go_wp2_with fail
        refine (alive06 _).mono ?_
        rintro e w6 ⟨rfl, hb6⟩
        have p6 := blk_below p5 hb6
        have r6 := blk_below r5 hb6
        clear p5 r5
        obtain ⟨c0, c1⟩ := cells_two p6
        obtain ⟨d0, d1⟩ := cells_two r6
        clear p6 r6
        go_wp2_with fail
        all_goals (go_ret; exact ⟨by simp, bl_then (bl_then (bl_alloc (bl_then (bl_then (bl_then (bl_alloc (bl_then (bl_alloc (below_self w) _) hb1) _) hb2) hb3) hb4) _) hb5) hb6⟩)

set_option maxHeartbeats 1000000 in
theorem found_long (i : Int) (n v : ByteArray) (w : World) (hl : 300 < (n.size : Int) ∨ ((n.size : Int) ≤ 300 ∧ 300 < (v.size : Int))) :
    Calls Try.prog 4 #[.int .i64 i, .agg #[.string n, .string v]] w fun e w' => e = .returned (.bool true) ∧ Below w.heap.size w w' := by
  rcases hl with hl | ⟨hl, hl2⟩
  all_goals
    go_enter Try.func4, Try.ntmps4
    go_wp2_with fail
    refine (alive06 _).mono ?_
    rintro e w1 ⟨rfl, hb1⟩
    go_wp2_with fail
    go_ret
    exact ⟨rfl, bl_then (bl_alloc (below_self w) _) hb1⟩

theorem found_walk (i : Int) (n v : ByteArray) (w : World) (hi : -9223372036854775808 ≤ i ∧ i ≤ 9223372036854775807) :
    Calls Try.prog 4 #[.int .i64 i, .agg #[.string n, .string v]] w fun e w' => e = .returned (.bool true) ∧ Below w.heap.size w w' := by
  by_cases h : (n.size : Int) ≤ 300 ∧ (v.size : Int) ≤ 300
  · exact found_short i n v w hi h.1 h.2
  · exact found_long i n v w (by omega)
end Go.Proofs.Ytccanklmbmijhaa
