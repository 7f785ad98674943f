/- An item's bytes, the document's way (ref08.Right, ref08.Encode), of the kinds that a block is made of: they come to what our own come to. -/
import Derived.Test.YtfkpeahelhpelaaDoorRlenc
import Derived.Test.YtfkpeahelhpelaaDoorIencM
import Derived.Test.YtfkpeahelhpelaaDoorRef78
namespace Go.Proofs.YtfkpeahelhpelaaDoor
set_option linter.all false
open Go.RowKit
attribute [local go_sem] Oper.semAt_some valueOf_ok

def ritO (k n : Int) (x v : ByteArray) : Obj := .cells #[.int .i64 k, .int .i64 n, .string x, .string v] 70
theorem ritO_cells {w : World} {B : Nat} {k n : Int} {x v : ByteArray} (h : w.heap[B]? = some (ritO k n x v)) :
    w.cell? ⟨B, 0, none⟩ = some (.int .i64 k) ∧ w.cell? ⟨B, 1, none⟩ = some (.int .i64 n) ∧ w.cell? ⟨B, 2, none⟩ = some (.string x) ∧ w.cell? ⟨B, 3, none⟩ = some (.string v) :=
  ⟨(cell_of_row _ _ 0 _ _ _ h).trans rfl, (cell_of_row _ _ 1 _ _ _ h).trans rfl, (cell_of_row _ _ 2 _ _ _ h).trans rfl, (cell_of_row _ _ 3 _ _ _ h).trans rfl⟩
set_option maxRecDepth 100000 in
set_option maxHeartbeats 1000000 in
theorem rright_0 (n : Nat) (w : World) (h1 : 1 ≤ n) (h2 : n ≤ 61) : Calls Tryd.prog 57 #[itA 0 n ⟨#[]⟩ ⟨#[]⟩] w fun e w' => e = .returned (.bool true) ∧ Below w.heap.size w w' := by
  have i1 : (1 : Int) ≤ n := by omega
  have i2 : (n : Int) ≤ 61 := by omega
  have h0 := heap_alloc_new w (ritO 0 n ⟨#[]⟩ ⟨#[]⟩)
  obtain ⟨c0, c1, c2, c3⟩ := ritO_cells h0
  have hbl := bl_alloc (Below.refl w.heap.size w) (ritO 0 n ⟨#[]⟩ ⟨#[]⟩)
  unfold itA
  unfold ritO at *
  go_enter Tryd.func57, Tryd.ntmps57
  go_wp2_with fail
  go_ret
  exact ⟨rfl, hbl⟩
set_option maxRecDepth 100000 in
set_option maxHeartbeats 1000000 in
theorem rright_2 (n : Nat) (x v : ByteArray) (w : World) (h2 : n ≤ 61) (hx : n = 0 ∨ x = ⟨#[]⟩) (hx1 : x.size ≤ 65536) (hv1 : v.size ≤ 65536) : Calls Tryd.prog 57 #[itA 2 n x v] w fun e w' => e = .returned (.bool true) ∧ Below w.heap.size w w' := by
  have i1 : (0 : Int) ≤ n := by omega
  have i2 : (n : Int) ≤ 61 := by omega
  have h0 := heap_alloc_new w (ritO 2 n x v)
  obtain ⟨c0, c1, c2, c3⟩ := ritO_cells h0
  have hbl := bl_alloc (Below.refl w.heap.size w) (ritO 2 n x v)
  unfold itA
  unfold ritO at *
  have hx2 : (x.size : Int) ≤ 65536 := by omega
  have hv2 : (v.size : Int) ≤ 65536 := by omega
  have hx' : n = 0 ∨ (1 ≤ n ∧ x = ⟨#[]⟩) := by
    rcases Nat.eq_zero_or_pos n with h | h
    · exact .inl h
    · exact .inr ⟨h, hx.resolve_left (by omega)⟩
  clear hx
  rcases hx' with rfl | ⟨hn, rfl⟩
  · go_enter Tryd.func57, Tryd.ntmps57
    go_wp2_with fail
    go_ret
    exact ⟨rfl, hbl⟩
  · have i3 : (1 : Int) ≤ n := by omega
    have i4 : ((n : Int) == 0) = false := by simp; omega
    go_enter Tryd.func57, Tryd.ntmps57
    go_wp2_with fail
    go_ret
    exact ⟨rfl, hbl⟩
set_option maxRecDepth 100000 in
set_option maxHeartbeats 2000000 in
theorem rienc_0 (n : Nat) (w : World) (h1 : 1 ≤ n) (h2 : n ≤ 61) : Calls Tryd.prog 37 #[itA 0 n ⟨#[]⟩ ⟨#[]⟩] w fun e w' => ∃ v, e = .returned (.tuple #[v, .int .i64 0]) ∧ w'.ownsRow w.heap.size 5 1 v (penc 7 128 n).length ((penc 7 128 n).map bv) ∧ Below w.heap.size w w' := by
  have h0 := heap_alloc_new w (ritO 0 n ⟨#[]⟩ ⟨#[]⟩)
  have hbl := bl_alloc (Below.refl w.heap.size w) (ritO 0 n ⟨#[]⟩ ⟨#[]⟩)
  have hr := rright_0 n (w.alloc (ritO 0 n ⟨#[]⟩ ⟨#[]⟩)) h1 h2
  have i2 : (n : Int) ≤ 61 := by omega
  have i3 : (0 : Int) ≤ n := by omega
  obtain ⟨c0, c1, c2, c3⟩ := ritO_cells h0
  unfold itA at *
  unfold ritO at *
  go_enter Tryd.func37, Tryd.ntmps37
  go_wp2_with fail
  refine hr.mono ?_
  clear hr
  rintro e w1 ⟨rfl, hbl1⟩
  have h1 := blk_below h0 hbl1
  have hbl2 := bl_then hbl hbl1
  obtain ⟨c0, c1, c2, c3⟩ := ritO_cells h1
  clear h0 hbl hbl1
  go_wp2_with fail
  refine region_plan_open (fun w' => w'.cell? ⟨w.heap.size, 0, none⟩ = some (.int .i64 0) ∧ w'.cell? ⟨w.heap.size, 1, none⟩ = some (.int .i64 (n : Int)))
    [] [4, 7, 8] [0, 1, 2, 3, 5, 6, 4, 7, 8, 9, 10, 11, 12, 13] (by kernel_rfl) (by kernel_rfl) (by kernel_rfl) (by kernel_rfl) (by decide) ?_ ?_
  all_goals
    have h2' : w1.drew.heap[w.heap.size]? = some (ritO 0 n ⟨#[]⟩ ⟨#[]⟩) := h1
    have hbl3 := bl_drew hbl2
    clear c0 c1 c2 c3 h1 hbl2
    generalize w1.drew = w3 at h2' hbl3 ⊢
    obtain ⟨c0, c1, c2, c3⟩ := ritO_cells h2'
  · exact ⟨c0, c1⟩
  iterate 6 (refine seq_v rfl rfl rfl (by rintro w' ⟨h1, h2⟩; go_simp) ?_; go_simp)
  have hq1 := rbits_any 0 (by decide) w3
  have hq2 := rabove_any 0 (by decide) w3
  have hq3 := rpenc_any 7 n 128 w3 (by decide) (by omega) (by decide) (by decide)
  refine seq_call (f := 45) (args := #[.int .i64 0]) rfl (fun _ => trivial) rfl rfl rfl rfl (by go_simp) ?_
  refine (callsIn_wide.2 hq1).mono ?_
  rintro e w4 ⟨rfl, rfl⟩
  refine ⟨_, rfl, fun _ => ⟨c0, c1⟩, ?_⟩
  go_simp
  refine seq_call (f := 59) (args := #[.int .i64 0]) rfl (fun _ => trivial) rfl rfl rfl rfl (by go_simp) ?_
  refine (callsIn_wide.2 hq2).mono ?_
  rintro e w4 ⟨rfl, rfl⟩
  refine ⟨_, rfl, fun _ => ⟨c0, c1⟩, ?_⟩
  rw [show ((shBits 0 : Nat) : Int) = 7 from rfl, show ((shAbove 0 : Nat) : Int) = 128 from rfl]
  go_simp
  refine seq_call (f := 58) (args := #[.int .i64 (n : Int), .int .i64 7, .int .i64 128]) rfl (fun _ => trivial) rfl rfl rfl rfl (by go_simp) ?_
  refine (callsIn_wide.2 hq3).mono ?_
  clear hq1 hq2 hq3
  rintro e w4 ⟨v1, rfl, ho4, hbl4⟩
  have h3 := blk_below h2' hbl4
  have hbl5 := bl_then hbl3 hbl4
  have ho5 := own_mono (base' := w.heap.size + 1) ho4 (blk_lt h2')
  clear c0 c1 c2 c3 ho4 hbl4 h2'
  obtain ⟨c0, c1, c2, c3⟩ := ritO_cells h3
  refine ⟨_, rfl, fun _ => ⟨c0, c1⟩, ?_⟩
  obtain ⟨V, C, rfl, hVC⟩ := own_shape ho5
  go_simp
  iterate 5 (refine seq_v rfl rfl rfl (by rintro w' ⟨h1, h2⟩; go_simp) ?_; go_simp)
  refine seq_nil ?_
  replace ho5 := Lib.hid ho5
  replace h3 := Lib.hid h3
  have hbl3s := hbl3.size
  clear hbl3
  go_wp2_with fail
  go_ret2
  exact ⟨_, rfl, own_mono ho5.out (by omega), hbl5⟩
set_option maxRecDepth 100000 in
set_option maxHeartbeats 2000000 in
theorem rienc_2 (n : Nat) (x v : ByteArray) (w : World) (h2 : n ≤ 61) (hx : n = 0 ∨ x = ⟨#[]⟩) (hx1 : x.size ≤ 65536) (hv1 : v.size ≤ 65536) : Calls Tryd.prog 37 #[itA 2 n x v] w fun e w' => ∃ u, e = .returned (.tuple #[u, .int .i64 0]) ∧ w'.ownsRow w.heap.size 5 1 u (ienc2 n x v).length ((ienc2 n x v).map bv) ∧ Below w.heap.size w w' := by
  have hpl := penc_len 4 0 n
  have hpp := penc_pos 4 0 n
  have hsx := shenc_len x hx1
  have hsv := shenc_len v hv1
  have hqx := fun w => rshort_any x w hx1
  have hqv := fun w => rshort_any v w hv1
  obtain ⟨Z, hZ⟩ : ∃ Z, Z = ienc2 n x v := ⟨_, rfl⟩
  rw [← hZ]
  rw [ienc2] at hZ
  generalize shenc x = sx at hsx hqx hZ
  generalize shenc v = sv at hsv hqv hZ
  replace hqx := Lib.hid hqx
  replace hqv := Lib.hid hqv
  replace hZ := Lib.hid hZ
  have h0 := heap_alloc_new w (ritO 2 n x v)
  have hbl := bl_alloc (Below.refl w.heap.size w) (ritO 2 n x v)
  have hr := rright_2 n x v (w.alloc (ritO 2 n x v)) h2 hx hx1 hv1
  have i2 : (n : Int) ≤ 61 := by omega
  have i3 : (0 : Int) ≤ n := by omega
  obtain ⟨c0, c1, c2, c3⟩ := ritO_cells h0
  unfold itA at *
  unfold ritO at *
  go_enter Tryd.func37, Tryd.ntmps37
  go_wp2_with fail
  refine hr.mono ?_
  clear hr
  rintro e w1 ⟨rfl, hbl1⟩
  have h1 := blk_below h0 hbl1
  have hbl2 := bl_then hbl hbl1
  obtain ⟨c0, c1, c2, c3⟩ := ritO_cells h1
  clear h0 hbl hbl1
  go_wp2_with fail
  refine region_plan_open (fun w' => w'.cell? ⟨w.heap.size, 0, none⟩ = some (.int .i64 2) ∧ w'.cell? ⟨w.heap.size, 1, none⟩ = some (.int .i64 (n : Int)))
    [] [4, 7, 8] [0, 1, 2, 3, 5, 6, 4, 7, 8, 9, 10, 11, 12, 13] (by kernel_rfl) (by kernel_rfl) (by kernel_rfl) (by kernel_rfl) (by decide) ?_ ?_
  all_goals
    have h2' : w1.drew.heap[w.heap.size]? = some (ritO 2 n x v) := h1
    have hbl3 := bl_drew hbl2
    clear c0 c1 c2 c3 h1 hbl2
    generalize w1.drew = w3 at h2' hbl3 ⊢
    obtain ⟨c0, c1, c2, c3⟩ := ritO_cells h2'
  · exact ⟨c0, c1⟩
  iterate 6 (refine seq_v rfl rfl rfl (by rintro w' ⟨h1, h2⟩; go_simp) ?_; go_simp)
  have hq1 := rbits_any 2 (by decide) w3
  have hq2 := rabove_any 2 (by decide) w3
  have hq3 := rpenc_any 4 n 0 w3 (by decide) (by omega) (by decide) (by decide)
  refine seq_call (f := 45) (args := #[.int .i64 2]) rfl (fun _ => trivial) rfl rfl rfl rfl (by go_simp) ?_
  refine (callsIn_wide.2 hq1).mono ?_
  rintro e w4 ⟨rfl, rfl⟩
  refine ⟨_, rfl, fun _ => ⟨c0, c1⟩, ?_⟩
  go_simp
  refine seq_call (f := 59) (args := #[.int .i64 2]) rfl (fun _ => trivial) rfl rfl rfl rfl (by go_simp) ?_
  refine (callsIn_wide.2 hq2).mono ?_
  rintro e w4 ⟨rfl, rfl⟩
  refine ⟨_, rfl, fun _ => ⟨c0, c1⟩, ?_⟩
  rw [show ((shBits 2 : Nat) : Int) = 4 from rfl, show ((shAbove 2 : Nat) : Int) = 0 from rfl]
  go_simp
  refine seq_call (f := 58) (args := #[.int .i64 (n : Int), .int .i64 4, .int .i64 0]) rfl (fun _ => trivial) rfl rfl rfl rfl (by go_simp) ?_
  refine (callsIn_wide.2 hq3).mono ?_
  clear hq1 hq2 hq3
  rintro e w4 ⟨v1, rfl, ho4, hbl4⟩
  have h3 := blk_below h2' hbl4
  have hbl5 := bl_then hbl3 hbl4
  have ho5 := own_mono (base' := w.heap.size + 1) ho4 (blk_lt h2')
  clear c0 c1 c2 c3 ho4 hbl4 h2'
  obtain ⟨c0, c1, c2, c3⟩ := ritO_cells h3
  refine ⟨_, rfl, fun _ => ⟨c0, c1⟩, ?_⟩
  obtain ⟨V, C, rfl, hVC⟩ := own_shape ho5
  go_simp
  iterate 5 (refine seq_v rfl rfl rfl (by rintro w' ⟨h1, h2⟩; go_simp) ?_; go_simp)
  refine seq_nil ?_
  replace ho5 := Lib.hid ho5
  replace h3 := Lib.hid h3
  have hbl3s := hbl3.size
  clear hbl3
  generalize hP : penc 4 0 n = pr at hpl hpp ho5 hZ ⊢
  clear hP
  by_cases hn : n = 0
  · subst hn
    have n0 : (((0 : Nat) : Int) == 0) = true := rfl
    have n9 : ((0 : Int) == 0) = true := rfl
    have hZ2 := hZ.out
    rw [if_pos rfl] at hZ2
    replace hZ2 := Lib.hid hZ2
    go_wp2_with fail
    refine (hqx.out _).mono ?_
    rintro e w5 ⟨v2, rfl, ho6, hbl6⟩
    have h4 := blk_below h3.out hbl6
    obtain ⟨c0, c1, c2, c3⟩ := ritO_cells h4
    have ho7 := own_keep ho5.out fun g _ hg => hbl6.block g hg
    have hbl7 := bl_then hbl5 hbl6
    obtain ⟨V2, C2, rfl, hV2⟩ := own_shape ho6
    have hby := own_bytes ho6
    have hs7 := hbl7.size
    clear hbl5 hbl6 ho5 h3 ho6
    replace ho7 := Lib.hid ho7
    have tok1 : True := trivial
    go_wp2_with (((with_reducible refine at_append 30 ?_); refine wl_ex rfl (ex_append_bytes (w.heap.size + 1) _ _ _ ho7.out V2 sx C2 (.inl hpp) hby (by omega) (blk_lt h4) _ _ _ _ rfl rfl rfl) ?_; rintro v8 w8 ⟨ho8, hg8, hv8⟩; have hbl8 := hbl7.trans (grown_below hg8 hs7 (fun g hg => by have := own_block ho7.out hg; omega)); have h5 := grown_blk hg8 h4 (fun e => by have := own_block ho7.out e.symm; omega); obtain ⟨c0, c1, c2, c3⟩ := ritO_cells h5; clear ho7 hg8 hv8 hby; replace ho8 := Lib.hid ho8))
    refine (hqv.out _).mono ?_
    rintro e w9 ⟨v9, rfl, ho9, hbl9⟩
    obtain ⟨V9, C9, rfl, hV9⟩ := own_shape ho9
    have hby := own_bytes ho9
    obtain ⟨V8, C8, hv8, hC8⟩ := own_shape ho8.out
    subst hv8
    have hoA := Lib.hid (own_keep ho8.out fun g _ hg => hbl9.block g hg)
    have hblA := bl_then hbl8 hbl9
    have hsA := hblA.size
    have h6 := blk_below h5 hbl9
    clear ho8 hbl8 hbl9 ho9
    go_wp2_with (((with_reducible refine at_append 30 ?_); refine wl_ex rfl (ex_append_bytes (w.heap.size + 1) _ _ _ hoA.out V9 sv C9 (.inl (by omega)) hby (by omega) (blk_lt h6) _ _ _ _ rfl rfl rfl) ?_; rintro vB wB ⟨hoB, hgB, hvB⟩; have hblB := hblA.trans (grown_below hgB hsA (fun g hg => by have := own_block hoA.out hg; omega)); clear hgB hvB hby; replace hoB := Lib.hid hoB))
    go_ret2
    rw [hZ2.out]
    refine ⟨vB, rfl, ?_, hblB⟩
    have := own_mono hoB.out (base' := w.heap.size) (by omega)
    simpa only [List.length_append, List.map_append, List.append_assoc, Nat.add_assoc] using this
  · have n0 : ((n : Int) == 0) = false := by simp; omega
    have hZ2 := hZ.out
    rw [if_neg hn, List.append_nil] at hZ2
    replace hZ2 := Lib.hid hZ2
    obtain ⟨c0, c1, c2, c3⟩ := ritO_cells h3.out
    go_wp2_with fail
    refine (hqv.out _).mono ?_
    rintro e w9 ⟨v9, rfl, ho9, hbl9⟩
    obtain ⟨V9, C9, rfl, hV9⟩ := own_shape ho9
    have hby := own_bytes ho9
    have hoA := Lib.hid (own_keep ho5.out fun g _ hg => hbl9.block g hg)
    have hblA := bl_then hbl5 hbl9
    have hsA := hblA.size
    have h6 := blk_below h3.out hbl9
    clear ho5 hbl5 hbl9 ho9
    go_wp2_with (((with_reducible refine at_append 30 ?_); refine wl_ex rfl (ex_append_bytes (w.heap.size + 1) _ _ _ hoA.out V9 sv C9 (.inl (by omega)) hby (by omega) (blk_lt h6) _ _ _ _ rfl rfl rfl) ?_; rintro vB wB ⟨hoB, hgB, hvB⟩; have hblB := hblA.trans (grown_below hgB hsA (fun g hg => by have := own_block hoA.out hg; omega)); clear hgB hvB hby; replace hoB := Lib.hid hoB))
    go_ret2
    rw [hZ2.out]
    refine ⟨vB, rfl, ?_, hblB⟩
    have := own_mono hoB.out (base' := w.heap.size) (by omega)
    simpa only [List.length_append, List.map_append, List.append_assoc, Nat.add_assoc] using this
end Go.Proofs.YtfkpeahelhpelaaDoor
