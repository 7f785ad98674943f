/- item.Right (layer 8), of the kinds that a block is made of. An item's bytes (layer 8): item.Encode, of the kinds that a block is made of. -/
import Derived.Test.YtfkpeahelhpelaaDoorLenc
import Derived.Test.YtfkpeahelhpelaaDoorItem
namespace Go.Proofs.YtfkpeahelhpelaaDoor
set_option linter.all false
open Go.RowKit
attribute [local go_sem] Oper.semAt_some valueOf_ok

def itO (k n : Int) (x v : ByteArray) : Obj := .cells #[.int .i64 k, .int .i64 n, .string x, .string v] 62
def itA (k n : Int) (x v : ByteArray) : Value := .agg #[.int .i64 k, .int .i64 n, .string x, .string v]
theorem itO_cells {w : World} {B : Nat} {k n : Int} {x v : ByteArray} (h : w.heap[B]? = some (itO k n x v)) :
    w.cell? ⟨B, 0, none⟩ = some (.int .i64 k) ∧ w.cell? ⟨B, 1, none⟩ = some (.int .i64 n) ∧ w.cell? ⟨B, 2, none⟩ = some (.string x) ∧ w.cell? ⟨B, 3, none⟩ = some (.string v) :=
  ⟨(cell_of_row _ _ 0 _ _ _ h).trans rfl, (cell_of_row _ _ 1 _ _ _ h).trans rfl, (cell_of_row _ _ 2 _ _ _ h).trans rfl, (cell_of_row _ _ 3 _ _ _ h).trans rfl⟩
set_option maxRecDepth 100000 in
set_option maxHeartbeats 1000000 in
theorem right_0 (n : Nat) (w : World) (h1 : 1 ≤ n) (h2 : n ≤ 61) : Calls Tryd.prog 50 #[itA 0 n ⟨#[]⟩ ⟨#[]⟩] w fun e w' => e = .returned (.bool true) ∧ Below w.heap.size w w' := by
  have i1 : (1 : Int) ≤ n := by omega
  have i2 : (n : Int) ≤ 61 := by omega
  have h0 := heap_alloc_new w (itO 0 n ⟨#[]⟩ ⟨#[]⟩)
  obtain ⟨c0, c1, c2, c3⟩ := itO_cells h0
  have hbl := bl_alloc (Below.refl w.heap.size w) (itO 0 n ⟨#[]⟩ ⟨#[]⟩)
  unfold itA
  unfold itO at *
  go_enter Tryd.func50, Tryd.ntmps50
  go_wp2_with fail
  go_ret
  exact ⟨rfl, hbl⟩
set_option maxRecDepth 100000 in
set_option maxHeartbeats 1000000 in
theorem right_4 (w : World) : Calls Tryd.prog 50 #[itA 4 0 ⟨#[]⟩ ⟨#[]⟩] w fun e w' => e = .returned (.bool true) ∧ Below w.heap.size w w' := by
  have h0 := heap_alloc_new w (itO 4 0 ⟨#[]⟩ ⟨#[]⟩)
  obtain ⟨c0, c1, c2, c3⟩ := itO_cells h0
  have hbl := bl_alloc (Below.refl w.heap.size w) (itO 4 0 ⟨#[]⟩ ⟨#[]⟩)
  unfold itA
  unfold itO at *
  go_enter Tryd.func50, Tryd.ntmps50
  go_wp2_with fail
  go_ret
  exact ⟨rfl, hbl⟩
set_option maxRecDepth 100000 in
set_option maxHeartbeats 1000000 in
theorem right_2 (n : Nat) (x v : ByteArray) (w : World) (h2 : n ≤ 61) (hx : n = 0 ∨ x = ⟨#[]⟩) : Calls Tryd.prog 50 #[itA 2 n x v] w fun e w' => e = .returned (.bool (decide (x.size ≤ 65536 ∧ v.size ≤ 65536))) ∧ Below w.heap.size w w' := by
  have i1 : (0 : Int) ≤ n := by omega
  have i2 : (n : Int) ≤ 61 := by omega
  have hk := kinds_any 2 (by decide)
  have h0 := heap_alloc_new w (itO 2 n x v)
  obtain ⟨c0, c1, c2, c3⟩ := itO_cells h0
  have hbl := bl_alloc (Below.refl w.heap.size w) (itO 2 n x v)
  unfold itA
  unfold itO at *
  by_cases hx1 : x.size ≤ 65536
  · have hx2 : (x.size : Int) ≤ 65536 := by omega
    by_cases hv1 : v.size ≤ 65536
    · have hv2 : (v.size : Int) ≤ 65536 := by omega
      have hx' : n = 0 ∨ (1 ≤ n ∧ x = ⟨#[]⟩) := by
        rcases Nat.eq_zero_or_pos n with h | h
        · exact .inl h
        · exact .inr ⟨h, hx.resolve_left (by omega)⟩
      clear hx
      rcases hx' with rfl | ⟨hn, rfl⟩
      · go_enter Tryd.func50, Tryd.ntmps50
        go_wp2_with fail
        refine (hk _).mono ?_
        rintro e w' ⟨rfl, rfl⟩
        go_wp2_with fail
        go_ret
        exact ⟨by simp [hx1, hv1], hbl⟩
      · have i3 : (1 : Int) ≤ n := by omega
        go_enter Tryd.func50, Tryd.ntmps50
        go_wp2_with fail
        refine (hk _).mono ?_
        rintro e w' ⟨rfl, rfl⟩
        go_wp2_with fail
        go_ret
        rw [decide_eq_true (show (⟨#[]⟩ : ByteArray).size ≤ 65536 ∧ v.size ≤ 65536 from ⟨by decide, hv1⟩)]
        exact ⟨rfl, hbl⟩
    · have hv2 : (65536 : Int) < v.size := by omega
      go_enter Tryd.func50, Tryd.ntmps50
      go_wp2_with fail
      go_ret
      exact ⟨by simp [hv1], hbl⟩
  · have hx2 : (65536 : Int) < x.size := by omega
    go_enter Tryd.func50, Tryd.ntmps50
    go_wp2_with fail
    go_ret
    exact ⟨by simp [hx1], hbl⟩

end Go.Proofs.YtfkpeahelhpelaaDoor

namespace Go.Proofs.YtfkpeahelhpelaaDoor
set_option linter.all false
open Go.RowKit
attribute [local go_sem] Oper.semAt_some valueOf_ok

def shO (a b : Int) : Obj := .cells #[.int .i64 a, .int .i64 b] 96
set_option maxRecDepth 100000 in
set_option maxHeartbeats 1000000 in
/-- Without texts. -/
theorem ienc_no (k n b a : Nat) (w : World) (hk : k < 5) (hk2 : ¬ (1 ≤ k ∧ k ≤ 3)) (hn : n ≤ 61) (hb : 4 ≤ b ∧ b ≤ 7) (ha : a ≤ 255) (hm : a % 2 ^ b = 0) (hr : ∀ w, Calls Tryd.prog 50 #[itA k n ⟨#[]⟩ ⟨#[]⟩] w fun e w' => e = .returned (.bool true) ∧ Below w.heap.size w w')
    (hq0 : (ints shapesL)[k * 2]? = some (.int .i64 (b : Int))) (hq1 : (ints shapesL)[k * 2 + 1]? = some (.int .i64 (a : Int))) (hS : LaidShapes w) :
    Calls Tryd.prog 34 #[itA k n ⟨#[]⟩ ⟨#[]⟩] w fun e w' => ∃ v, e = .returned (.tuple #[v, .int .i64 0]) ∧ w'.ownsRow w.heap.size 5 1 v (penc b a n).length ((penc b a n).map bv) ∧ Below w.heap.size w w' := by
  have h0 := heap_alloc_new w (itO k n ⟨#[]⟩ ⟨#[]⟩)
  obtain ⟨c0, c1, c2, c3⟩ := itO_cells h0
  have hbl := bl_alloc (Below.refl w.heap.size w) (itO k n ⟨#[]⟩ ⟨#[]⟩)
  replace hr := hr (w.alloc (itO k n ⟨#[]⟩ ⟨#[]⟩))
  have hkt := kinds_any k (by omega)
  rw [decide_eq_false hk2] at hkt
  unfold itA at *
  unfold itO at *
  have k0 : (0 : Int) ≤ k := by omega
  have k5 : (k : Int) < 5 := by omega
  replace hm := Lib.hid hm
  go_enter Tryd.func34, Tryd.ntmps34
  go_wp2_with fail
  refine hr.mono ?_
  rintro e w1 ⟨rfl, hbl1⟩
  have h1 := blk_below h0 hbl1
  have hbl2 := bl_then hbl hbl1
  obtain ⟨c0, c1, c2, c3⟩ := itO_cells h1
  have s0 := hS.below hbl2 (k * 2) _ hq0
  have s1 := hS.below hbl2 (k * 2 + 1) _ hq1
  have h1' := blk_alloc h1 (shO b a)
  obtain ⟨d0, d1, d2, d3⟩ := itO_cells h1'
  have e0 := cells_two (heap_alloc_new w1 (shO 0 0))
  have e1 := cells_two (heap_alloc_new w1 (shO b a))
  have hbl3 := bl_alloc hbl2 (shO b a)
  have hp := penc_any b n a (w1.alloc (shO b a)) hb (by omega) ha hm.out
  unfold shO at *
  go_wp2_with fail
  refine hp.mono ?_
  rintro e w2 ⟨v, rfl, ho2, hbl4⟩
  obtain ⟨c0, c1, c2, c3⟩ := itO_cells (blk_below h1' hbl4)
  have ho3 := own_mono ho2 hbl3.size
  have hbl5 := bl_then hbl3 hbl4
  clear hp e0 e1 d0 d1 d2 d3 s0 s1 h1' hr ho2 hbl4
  replace ho3 := Lib.hid ho3
  obtain ⟨va, vc, rfl, -⟩ := own_shape ho3.out
  go_wp2_with fail
  refine (hkt _).mono ?_
  rintro e w3 ⟨rfl, rfl⟩
  go_wp2_with fail
  go_ret2
  exact ⟨_, rfl, ho3.out, hbl5⟩
theorem sh_val (k : Nat) (hk : k < 5) : (ints shapesL)[k * 2]? = some (.int .i64 (shBits k : Int)) ∧ (ints shapesL)[k * 2 + 1]? = some (.int .i64 (shAbove k : Int)) := by
  obtain rfl | rfl | rfl | rfl | rfl : k = 0 ∨ k = 1 ∨ k = 2 ∨ k = 3 ∨ k = 4 := by omega
  all_goals exact ⟨by kernel_rfl, by kernel_rfl⟩
theorem ienc_4 (w : World) (hS : LaidShapes w) : Calls Tryd.prog 34 #[itA 4 0 ⟨#[]⟩ ⟨#[]⟩] w fun e w' => ∃ v, e = .returned (.tuple #[v, .int .i64 0]) ∧ w'.ownsRow w.heap.size 5 1 v (penc 5 32 0).length ((penc 5 32 0).map bv) ∧ Below w.heap.size w w' :=
  ienc_no 4 0 5 32 w (by decide) (by decide) (by decide) (by decide) (by decide) (by decide) right_4 (by kernel_rfl) (by kernel_rfl) hS
theorem ienc_0 (n : Nat) (w : World) (h1 : 1 ≤ n) (h2 : n ≤ 61) (hS : LaidShapes w) : Calls Tryd.prog 34 #[itA 0 n ⟨#[]⟩ ⟨#[]⟩] w fun e w' => ∃ v, e = .returned (.tuple #[v, .int .i64 0]) ∧ w'.ownsRow w.heap.size 5 1 v (penc 7 128 n).length ((penc 7 128 n).map bv) ∧ Below w.heap.size w w' :=
  ienc_no 0 n 7 128 w (by decide) (by decide) h2 (by decide) (by decide) (by decide) (fun w => right_0 n w h1 h2) (by kernel_rfl) (by kernel_rfl) hS
set_option maxRecDepth 100000 in
set_option maxHeartbeats 1000000 in
theorem ienc_2no (n : Nat) (x v : ByteArray) (w : World) (h2 : n ≤ 61) (hx : n = 0 ∨ x = ⟨#[]⟩) (hl : ¬ (x.size ≤ 65536 ∧ v.size ≤ 65536)) : Calls Tryd.prog 34 #[itA 2 n x v] w fun e w' => e = .returned (.tuple #[.slice none 0 0, .int .i64 1]) ∧ Below w.heap.size w w' := by
  have h0 := heap_alloc_new w (itO 2 n x v)
  obtain ⟨c0, c1, c2, c3⟩ := itO_cells h0
  have hbl := bl_alloc (Below.refl w.heap.size w) (itO 2 n x v)
  have hr := right_2 n x v (w.alloc (itO 2 n x v)) h2 hx
  rw [decide_eq_false hl] at hr
  unfold itA at *
  unfold itO at *
  go_enter Tryd.func34, Tryd.ntmps34
  go_wp2_with fail
  refine hr.mono ?_
  rintro e w1 ⟨rfl, hbl1⟩
  go_wp2_with fail
  go_ret2
  exact ⟨rfl, bl_then hbl hbl1⟩
def ienc2 (n : Nat) (x v : ByteArray) : List UInt8 := penc 4 0 n ++ (if n = 0 then shenc x else []) ++ shenc v
set_option maxRecDepth 100000 in
set_option maxHeartbeats 1000000 in
theorem ienc_2 (n : Nat) (x v : ByteArray) (w : World) (h2 : n ≤ 61) (hx : n = 0 ∨ x = ⟨#[]⟩) (hx1 : x.size ≤ 65536) (hv1 : v.size ≤ 65536) (hL : LaidLens w) (hS : LaidShapes w) : Calls Tryd.prog 34 #[itA 2 n x v] w fun e w' => ∃ u, e = .returned (.tuple #[u, .int .i64 0]) ∧ w'.ownsRow w.heap.size 5 1 u (ienc2 n x v).length ((ienc2 n x v).map bv) ∧ Below w.heap.size w w' := by
  have h0 := heap_alloc_new w (itO 2 n x v)
  obtain ⟨c0, c1, c2, c3⟩ := itO_cells h0
  have hbl := bl_alloc (Below.refl w.heap.size w) (itO 2 n x v)
  have hr := right_2 n x v (w.alloc (itO 2 n x v)) h2 hx
  rw [decide_eq_true ⟨hx1, hv1⟩] at hr
  have hkt := kinds_any 2 (by decide)
  obtain ⟨i2, hi2⟩ : ∃ i : Nat, i = n := ⟨_, rfl⟩
  have hpl := penc_len 4 0 n
  have hpp := penc_pos 4 0 n
  have hsx := shenc_len x hx1
  have hsv := shenc_len v hv1
  have hpx := shenc_pos x
  have hpv := shenc_pos v
  have n0 : (0 : Int) ≤ n := by omega
  unfold itA at *
  unfold itO at *
  go_enter Tryd.func34, Tryd.ntmps34
  go_wp2_with fail
  refine hr.mono ?_
  rintro e w1 ⟨rfl, hbl1⟩
  have h1 := blk_below h0 hbl1
  have hbl2 := bl_then hbl hbl1
  obtain ⟨c0, c1, c2, c3⟩ := itO_cells h1
  have s0 := hS.below hbl2 4 (.int .i64 4) (by kernel_rfl)
  have s1 := hS.below hbl2 5 (.int .i64 0) (by kernel_rfl)
  have h1' := blk_alloc h1 (shO 4 0)
  obtain ⟨d0, d1, d2, d3⟩ := itO_cells h1'
  have e0 := cells_two (heap_alloc_new w1 (shO 0 0))
  have e1 := cells_two (heap_alloc_new w1 (shO 4 0))
  have hbl3 := bl_alloc hbl2 (shO 4 0)
  have hp := penc_any 4 n 0 (w1.alloc (shO 4 0)) (by decide) (by omega) (by decide) (by decide)
  unfold shO at *
  go_wp2_with fail
  refine hp.mono ?_
  rintro e w2 ⟨u, rfl, ho2, hbl4⟩
  have h2' := blk_below h1' hbl4
  obtain ⟨c0, c1, c2, c3⟩ := itO_cells h2'
  have ho3 := own_mono ho2 hbl3.size
  have hnb0 : ¬ (u.ownBlock = some w.heap.size) := fun e => by have := own_block ho2 e; have := blk_lt h1'; omega
  have hbl5 := bl_then hbl3 hbl4
  clear hp e0 e1 d0 d1 d2 d3 s0 s1 h1' hr ho2 hbl4
  replace ho3 := Lib.hid ho3
  obtain ⟨va, vc, rfl, -⟩ := own_shape ho3.out
  have hnb := hnb0
  clear hnb0
  generalize hP : penc 4 0 n = pp at ho3 hpl hpp hnb ⊢
  replace hnb := Lib.hid hnb
  replace hP := Lib.hid hP
  go_wp2_with fail
  refine (hkt _).mono ?_
  rintro e w3 ⟨rfl, rfl⟩
  by_cases hn0 : n = 0
  · subst hn0
    have hsh := short_any x w2 hx1 (hL.below hbl5)
    go_wp2_with fail
    refine hsh.mono ?_
    rintro e w4 ⟨u4, rfl, ho4, hbl6⟩
    obtain ⟨A4, k4, rfl, -⟩ := own_shape ho4
    have ho5 : Hid (w4.ownsRow w.heap.size 5 1 (.slice va pp.length vc) pp.length (pp.map bv)) := Lib.hid (own_keep ho3.out fun k _ hk => hbl6.block k hk)
    have hbl7 := bl_then hbl5 hbl6
    have h4' := blk_below h2' hbl6
    have hs4 : w.heap.size ≤ w4.heap.size := hbl7.size
    have hlt4 : w.heap.size < w2.heap.size := blk_lt h2'
    obtain ⟨c0, c1, c2, c3⟩ := itO_cells h4'
    clear ho3 hsh h2'
    have hno : ¬ ((Value.slice va pp.length vc).ownBlock = some w.heap.size) := hnb.out
    replace ho4 := Lib.hid ho4
    replace hno := Lib.hid hno
    go_wp2_with (((with_reducible refine at_append 30 ?_); refine wl_ex rfl (ex_append_bytes w.heap.size _ _ _ ho5.out _ _ _ (.inl (by omega)) (own_bytes ho4.out) (by omega) hs4 _ _ _ _ rfl rfl rfl) ?_; rintro u5 w5 ⟨ho6, hg5, hv5⟩; have h5' := grown_blk hg5 h4' (fun e => hno.out e.symm); obtain ⟨c0, c1, c2, c3⟩ := itO_cells h5'; have hbl8 := hbl7.trans (grown_below hg5 hs4 (fun g hg => own_block ho5.out hg))))
    refine (short_any v w5 hv1 (hL.below hbl8)).mono ?_
    rintro e w6 ⟨u6, rfl, ho7, hbl9⟩
    obtain ⟨A6, k6, rfl, -⟩ := own_shape ho7
    have ho8 : Hid (w6.ownsRow w.heap.size 5 1 u5 (pp.length + (shenc x).length) (pp.map bv ++ (shenc x).map bv)) := Lib.hid (own_keep ho6 fun k _ hk => hbl9.block k hk)
    have hbl10 := bl_then hbl8 hbl9
    have hs6 : w.heap.size ≤ w6.heap.size := hbl10.size
    clear ho6 h5' h4' c0 c1 c2 c3
    replace ho7 := Lib.hid ho7
    go_wp2_with (((with_reducible refine at_append 30 ?_); refine wl_ex rfl (ex_append_bytes w.heap.size _ _ _ ho8.out _ _ _ (.inl (by omega)) (own_bytes ho7.out) (by omega) hs6 _ _ _ _ rfl rfl rfl) ?_; rintro u7 w7 ⟨ho9, hg7, hv7⟩; have hbl11 := hbl10.trans (grown_below hg7 hs6 (fun g hg => own_block ho8.out hg))))
    go_ret2
    rw [ienc2, if_pos rfl, hP.out, List.length_append, List.length_append, List.map_append, List.map_append]
    exact ⟨u7, rfl, ho9, hbl11⟩
  · have n1 : (1 : Int) ≤ n := by omega
    have hsh := short_any v w2 hv1 (hL.below hbl5)
    go_wp2_with fail
    refine hsh.mono ?_
    rintro e w4 ⟨u4, rfl, ho4, hbl6⟩
    obtain ⟨A4, k4, rfl, -⟩ := own_shape ho4
    have ho5 : Hid (w4.ownsRow w.heap.size 5 1 (.slice va pp.length vc) pp.length (pp.map bv)) := Lib.hid (own_keep ho3.out fun k _ hk => hbl6.block k hk)
    have hbl7 := bl_then hbl5 hbl6
    have h4' := blk_below h2' hbl6
    have hs4 : w.heap.size ≤ w4.heap.size := hbl7.size
    have hlt4 : w.heap.size < w2.heap.size := blk_lt h2'
    obtain ⟨c0, c1, c2, c3⟩ := itO_cells h4'
    clear ho3 hsh h2'
    replace ho4 := Lib.hid ho4
    go_wp2_with (((with_reducible refine at_append 30 ?_); refine wl_ex rfl (ex_append_bytes w.heap.size _ _ _ ho5.out _ _ _ (.inl (by omega)) (own_bytes ho4.out) (by omega) hs4 _ _ _ _ rfl rfl rfl) ?_; rintro u5 w5 ⟨ho6, hg5, hv5⟩; have hbl8 := hbl7.trans (grown_below hg5 hs4 (fun g hg => own_block ho5.out hg))))
    go_ret2
    rw [ienc2, if_neg hn0, List.append_nil, hP.out, List.length_append, List.map_append]
    exact ⟨u5, rfl, ho6, hbl8⟩
end Go.Proofs.YtfkpeahelhpelaaDoor
