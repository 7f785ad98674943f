/- The Huffman code (layer 4): the table of codes that the program makes anew each time. -/
import Derived.Test.YtfkpeahelhpelaaDoorBase
namespace Go.Proofs.YtfkpeahelhpelaaDoor
set_option linter.all false
open Go.RowKit

def lens : List Nat := [
  13, 23, 28, 28, 28, 28, 28, 28, 28, 24, 30, 28, 28, 30, 28, 28, 28, 28, 28, 28, 28, 28, 30, 28, 28, 28, 28, 28, 28, 28, 28, 28, 6, 10, 10, 12, 13, 6,
  8, 11, 10, 10, 8, 11, 8, 6, 6, 6, 5, 5, 5, 6, 6, 6, 6, 6, 6, 6, 7, 8, 15, 6, 12, 10, 13, 6, 7, 7, 7, 7, 7, 7, 7, 7, 7, 7, 7, 7, 7, 7, 7, 7, 7, 7, 7,
  7, 7, 7, 8, 7, 8, 13, 19, 13, 14, 6, 15, 5, 6, 5, 6, 5, 6, 6, 6, 5, 7, 7, 6, 6, 6, 5, 6, 7, 6, 5, 5, 6, 7, 7, 7, 7, 7, 15, 11, 14, 13, 28, 20, 22, 20,
  20, 22, 22, 22, 23, 22, 23, 23, 23, 23, 23, 24, 23, 24, 24, 22, 23, 24, 23, 23, 23, 23, 21, 22, 23, 22, 23, 23, 24, 22, 21, 20, 22, 22, 23, 23, 21, 23,
  22, 22, 24, 21, 22, 23, 23, 21, 21, 22, 21, 23, 22, 23, 23, 20, 22, 22, 22, 23, 22, 22, 23, 26, 26, 20, 19, 22, 23, 22, 25, 26, 26, 26, 27, 27, 26, 24,
  25, 19, 21, 26, 27, 27, 26, 27, 24, 21, 21, 26, 26, 28, 27, 27, 27, 20, 24, 20, 21, 22, 21, 21, 23, 22, 22, 25, 25, 24, 24, 26, 23, 26, 27, 26, 26, 27,
  27, 27, 27, 27, 28, 27, 27, 27, 27, 27, 26, 30]
def codesL : List Nat := [
  8184, 8388568, 268435426, 268435427, 268435428, 268435429, 268435430, 268435431, 268435432, 16777194, 1073741820, 268435433, 268435434, 1073741821, 268435435,
  268435436, 268435437, 268435438, 268435439, 268435440, 268435441, 268435442, 1073741822, 268435443, 268435444, 268435445, 268435446, 268435447, 268435448,
  268435449, 268435450, 268435451, 20, 1016, 1017, 4090, 8185, 21, 248, 2042, 1018, 1019, 249, 2043, 250, 22, 23, 24, 0, 1, 2, 25, 26, 27, 28, 29, 30,
  31, 92, 251, 32764, 32, 4091, 1020, 8186, 33, 93, 94, 95, 96, 97, 98, 99, 100, 101, 102, 103, 104, 105, 106, 107, 108, 109, 110, 111, 112, 113, 114,
  252, 115, 253, 8187, 524272, 8188, 16380, 34, 32765, 3, 35, 4, 36, 5, 37, 38, 39, 6, 116, 117, 40, 41, 42, 7, 43, 118, 44, 8, 9, 45, 119, 120, 121, 122,
  123, 32766, 2044, 16381, 8189, 268435452, 1048550, 4194258, 1048551, 1048552, 4194259, 4194260, 4194261, 8388569, 4194262, 8388570, 8388571, 8388572,
  8388573, 8388574, 16777195, 8388575, 16777196, 16777197, 4194263, 8388576, 16777198, 8388577, 8388578, 8388579, 8388580, 2097116, 4194264, 8388581, 4194265,
  8388582, 8388583, 16777199, 4194266, 2097117, 1048553, 4194267, 4194268, 8388584, 8388585, 2097118, 8388586, 4194269, 4194270, 16777200, 2097119, 4194271,
  8388587, 8388588, 2097120, 2097121, 4194272, 2097122, 8388589, 4194273, 8388590, 8388591, 1048554, 4194274, 4194275, 4194276, 8388592, 4194277, 4194278,
  8388593, 67108832, 67108833, 1048555, 524273, 4194279, 8388594, 4194280, 33554412, 67108834, 67108835, 67108836, 134217694, 134217695, 67108837, 16777201,
  33554413, 524274, 2097123, 67108838, 134217696, 134217697, 67108839, 134217698, 16777202, 2097124, 2097125, 67108840, 67108841, 268435453, 134217699,
  134217700, 134217701, 1048556, 16777203, 1048557, 2097126, 4194281, 2097127, 2097128, 8388595, 4194282, 4194283, 33554414, 33554415, 16777204, 16777205,
  67108842, 8388596, 67108843, 134217702, 67108844, 67108845, 134217703, 134217704, 134217705, 134217706, 134217707, 268435454, 134217708, 134217709, 134217710,
  134217711, 134217712, 67108846, 1073741823]
def ints (l : List Nat) : Array Value := (l.map fun n : Nat => Value.int .i64 (n : Int)).toArray
def lenAt (c : Nat) : Nat := lens.getD c 0
theorem lens_length : lens.length = 257 := by decide +kernel
theorem ints_size (l : List Nat) : (ints l).size = l.length := by simp [ints]
theorem ints_get (l : List Nat) (k : Nat) (hk : k < l.length) : (ints l)[k]? = some (.int .i64 ((l.getD k 0 : Nat) : Int)) := by
  simp [ints, List.getD_eq_getElem?_getD, List.getElem?_eq_getElem hk]
theorem ints_set (l : List Nat) (k n : Nat) : (ints l).setIfInBounds k (.int .i64 (n : Int)) = ints (l.set k n) := by
  apply Array.ext'
  simp [ints, List.map_set]
theorem ints_one (l : List Nat) : (ints l).all (·.oneCell') = true := by
  rw [Array.all_eq_true]
  intro i hi
  simp [ints, Value.oneCell']

def innerStep (n c : Nat) (st : List Nat × Nat) : List Nat × Nat := if lenAt c = n then (st.1.set c st.2, st.2 + 1) else st
def inner (n : Nat) (st : List Nat × Nat) : Nat → List Nat × Nat
  | 0 => st
  | k + 1 => innerStep n k (inner n st k)
def outer : Nat → List Nat × Nat
  | 0 => (List.replicate 257 0, 0)
  | m + 1 => ((inner m (outer m) 257).1, 2 * (inner m (outer m) 257).2)
theorem outer_end : (outer 31).1 = codesL := by decide +kernel
theorem inner_le (n : Nat) (st : List Nat × Nat) : ∀ k, (inner n st k).2 ≤ st.2 + k ∧ (inner n st k).1.length = st.1.length := by
  intro k
  induction k with
  | zero => exact ⟨Nat.le_refl _, rfl⟩
  | succ k ih =>
    simp only [inner, innerStep]
    split
    · simp; omega
    · omega
theorem outer_le : ∀ m, (outer m).2 + 514 ≤ 514 * 2 ^ m ∧ (outer m).1.length = 257 := by
  intro m
  induction m with
  | zero => exact ⟨by show 0 + 514 ≤ 514 * 2 ^ 0; omega, List.length_replicate⟩
  | succ m ih =>
    have := inner_le m (outer m) 257
    simp only [outer]
    exact ⟨by rw [Nat.pow_succ]; omega, by omega⟩
theorem outer_lt (m : Nat) (hm : m ≤ 31) : (outer m).2 ≤ 514 * 2147483648 := by
  have h := (outer_le m).1
  have h2 : 2 ^ m ≤ 2 ^ 31 := Nat.pow_le_pow_right (by omega) hm
  omega

/-- The table of lengths lies as the program's text lays it. -/
def LaidLens (w : World) : Prop := ∀ j v, (ints lens)[j]? = some v → w.cell? ⟨1, j, none⟩ = some v
theorem LaidLens.below {w w1 : World} (h : LaidLens w) (hb : Below w.heap.size w w1) : LaidLens w1 := fun j v hv =>
  (hb.cell (p := ⟨1, j, none⟩) (World.block_lt_of_cell? w _ (h j v hv))).trans (h j v hv)

theorem lens_index (c : Nat) (hc : c < 257) (w : World) : (Instr.index 128 (.agg (ints lens)) (.int .i64 c)).run Tryd.prog w = .ok (.int .i64 (lenAt c : Int)) w :=
  run_index_plain 128 3 257 (by kernel_rfl) (by kernel_rfl) (by kernel_rfl) _ _ c hc _ (ints_get lens c (by rw [lens_length]; exact hc)) w

attribute [local irreducible] lens lenAt

set_option maxRecDepth 100000 in
set_option maxHeartbeats 4000000 in
theorem codes_any (w : World) (hL : LaidLens w) : Calls Tryd.prog 84 #[] w fun e w' => e = .returned (.agg (ints codesL)) ∧ Below w.heap.size w w' := by
  have hidx := lens_index
  have hz0 := (zero_of_info (P := Tryd.prog) (t := 128) (v := .agg (ints (List.replicate 257 0))) (n := 257) (by kernel_rfl)).1
  go_enter Tryd.func84, Tryd.ntmps84
  go_wp2_with fail
  have hg0 := heap_alloc2_old w (.cells (ints (List.replicate 257 0)) 128) (.cells (ints (List.replicate 257 0)) 128)
  have hg1 := heap_alloc2_new w (.cells (ints (List.replicate 257 0)) 128) (.cells (ints (List.replicate 257 0)) 128)
  have hbl := bl_alloc (bl_alloc (Below.refl _ w) (.cells (ints (List.replicate 257 0)) 128)) (.cells (ints (List.replicate 257 0)) 128)
  clear hz0
  go_loopw [2, 6] (fun nx n wr => ∃ m : Nat, m ≤ 31 ∧ n = .int .i64 m ∧ nx = .int .i64 ((outer m).2 : Nat) ∧ Below w.heap.size w wr ∧
      wr.heap[w.heap.size]? = some (.cells (ints (List.replicate 257 0)) 128 (0, 0)) ∧ wr.heap[w.heap.size + 1]? = some (.cells (ints (outer m).1) 128 (0, 0)))
    (fun _ n _ => 31 - (intOf n).toNat)
  case atStart => exact ⟨0, by omega, rfl, rfl, hbl, hg0, hg1⟩
  case round =>
    obtain ⟨m, hm, rfl, rfl, hb, h0, h1⟩ := hrel
    clear hg0 hg1 hbl
    by_cases hlt : m < 31
    · have hlt' : (m : Int) < 31 := by omega
      have hLr : Hid (∀ j v, (ints lens)[j]? = some v → wr.cell? ⟨1, j, none⟩ = some v) := hL.below hb
      have ho := outer_lt m (by omega)
      have hol := (outer_le m).2
      have hob := (outer_lt (m + 1) (by omega))
      obtain ⟨S, hS⟩ : ∃ S, outer m = S := ⟨_, rfl⟩
      rw [hS] at h1 ho hol ⊢
      have HS := Lib.hid hS
      clear hS
      go_wp2_with fail
      go_step3
      go_wp2_with fail
      go_step3
      go_wp2_with ((with_reducible refine wpList_load_cells rfl 128 (.global 1) rfl 1 rfl (ints lens) (.array 257 3) hLr.out (by kernel_rfl) rfl (by kernel_rfl) ?_))
      obtain ⟨wo, rfl⟩ : ∃ wo : World, wo = wr := ⟨_, rfl⟩
      go_loopw [2, 10] (fun nx c wr => ∃ k : Nat, k ≤ 257 ∧ c = .int .i64 k ∧ nx = .int .i64 ((inner m S k).2 : Nat) ∧ Below w.heap.size w wr ∧
          wr.heap[w.heap.size]? = some (.cells (ints (List.replicate 257 0)) 128 (0, 0)) ∧ wr.heap[w.heap.size + 1]? = some (.cells (ints (inner m S k).1) 128 (0, 0)))
        (fun _ c _ => 257 - (intOf c).toNat)
      case atStart => exact ⟨0, by omega, rfl, rfl, hb, h0, h1⟩
      case round =>
        obtain ⟨k, hk, rfl, rfl, hb2, g0, g1⟩ := hrel
        clear hLr hb h0 h1
        have hin := inner_le m S k
        obtain ⟨T, hT⟩ : ∃ T, inner m S k = T := ⟨_, rfl⟩
        rw [hT] at g1 hin ⊢
        have HT := Lib.hid hT
        clear hT
        obtain ⟨hin1, hin2⟩ := hin
        by_cases hlk : k < 257
        · have hlk' : (k : Int) < 257 := by omega
          have hk0 : (0 : Int) ≤ k := by omega
          by_cases heq : lenAt k = m
          · have e1 : ((lenAt k : Int) != (m : Int)) = false := by rw [heq]; simp
            have hcell := cell_of_row wr (w.heap.size + 1) k _ _ _ g1
            rw [ints_get _ k (by omega)] at hcell
            have hfr := frozen_of_row wr (w.heap.size + 1) k _ _ g1
            go_wp2_with fail
            go_roundw
            case rel =>
              have e2 : inner m S (k + 1) = (T.1.set k T.2, T.2 + 1) := by simp only [inner, HT.out, innerStep]; rw [if_pos heq]
              exact ⟨k + 1, by omega, by go_num, by rw [e2]; go_num, bl_set hb2 (by simp) _, by rw [heap_setCell_other _ _ _ _ (by simp)]; exact g0, by rw [heap_setCell_same _ _ _ _ _ _ g1, e2, ints_set]⟩
            case measure => simp [intOf]; omega
          · have e1 : ((lenAt k : Int) != (m : Int)) = true := by simp; omega
            go_wp2_with fail
            go_roundw
            case rel =>
              have e2 : inner m S (k + 1) = T := by simp only [inner, HT.out, innerStep]; rw [if_neg heq]
              exact ⟨k + 1, by omega, by go_num, by rw [e2], hb2, g0, by rw [e2]; exact g1⟩
            case measure => simp [intOf]; omega
        · obtain rfl : k = 257 := by omega
          go_wp2_with fail
          simp only [Exit.noGoto_normal]
          go_wp2_with fail
          go_roundw
          case rel =>
            have e2 : outer (m + 1) = (T.1, 2 * T.2) := by simp only [outer, HS.out, HT.out]
            exact ⟨m + 1, by omega, by go_num, by rw [e2]; go_num, hb2, g0, by rw [e2]; exact g1⟩
          case measure => simp [intOf]; omega
    · obtain rfl : m = 31 := by omega
      rw [outer_end] at h1
      have hgo := h1
      go_wp2_with (first
        | ((with_reducible refine wpList_load_row rfl 128 (.tmp 1) rfl (w.heap.size + 1) rfl 128 (ints codesL) (0, 0) (.array 257 3) hgo (by kernel_rfl) rfl (by kernel_rfl) ?_))
        | ((with_reducible refine wpList_store_row rfl 128 (.tmp 0) (.tmp 26) rfl w.heap.size _ (ints codesL) rfl rfl h0 (k := 257) (by kernel_rfl) (by kernel_rfl) (by kernel_rfl) (ints_one _) rfl ?_)))
      refine bodyPost_ret (results_cell_row (p := 0) rfl _ _ w.heap.size 128 (ints codesL) (0, 0) (.array 257 3) rfl (setRow_heap _ _ _ _ _ _ h0) (by kernel_rfl) rfl (by kernel_rfl)) rfl ⟨rfl, bl_setRow hb (Nat.le_refl _) _⟩
end Go.Proofs.YtfkpeahelhpelaaDoor
