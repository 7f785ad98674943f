/- The text of bytes, the document's way (ref04): find. A code's bits, the document's way (ref04.spell); the lengths and the codes (ref04.lengths, ref04.Codes). The lengths and the codes, the document's way (ref04.lengths, ref04.Codes). -/
import Derived.Test.YtfkpeahelhpelaaDoorHuffT
import Derived.Test.YtfkpeahelhpelaaDoorBits
import Derived.Laws.MakeOwn
namespace Go.Proofs.YtfkpeahelhpelaaDoor
set_option linter.all false
open Go.RowKit

/-- The two rows that find looks through. -/
def Two4 (w : World) (B1 B2 : Nat) : Prop := ∀ j, j < 257 → w.cell? ⟨B1, j, none⟩ = some (.int .i64 (lenAt j : Int)) ∧ w.cell? ⟨B2, j, none⟩ = some (.int .i64 (codeAt j : Int))
def findV (a b : Int) : Int := match fit a b with | some c => (c : Int) | none => -1
set_option maxRecDepth 100000 in
set_option maxHeartbeats 1000000 in
theorem rfind_any (B1 B2 : Nat) (a b : Int) (w : World) (h : Two4 w B1 B2) :
    Calls Tryd.prog 76 #[.slice (some ⟨B1, 0, none⟩) 257 257, .slice (some ⟨B2, 0, none⟩) 257 257, .int .i64 a, .int .i64 b] w fun e w' => e = .returned (.int .i64 (findV a b)) ∧ w = w' := by
  obtain ⟨z, hz⟩ : ∃ z, z = findV a b := ⟨_, rfl⟩
  have hz2 : Hid (z = match fitGo a b 257 0 with | some c => (c : Int) | none => -1) := Lib.hid hz
  rw [← hz]
  clear hz
  replace h := Lib.hid h
  go_enter Tryd.func76, Tryd.ntmps76
  go_wp2_with fail
  go_loop [9] (fun i => ∃ k : Nat, k ≤ 257 ∧ i = .int .i64 (k : Int) ∧ Hid (z = match fitGo a b (257 - k) k with | some c => (c : Int) | none => -1)) (fun i => 257 - (intOf i).toNat)
  case atStart => exact ⟨0, by omega, rfl, hz2⟩
  case round =>
    obtain ⟨k, hk, rfl, hg⟩ := hrel
    clear hz2
    by_cases hlt : k < 257
    · have hlt' : (k : Int) ≤ 256 := by omega
      have hk0 : (0 : Int) ≤ k := by omega
      obtain ⟨q1, q2⟩ := h.out k hlt
      have hs := hg.out
      rw [show 257 - k = (257 - (k + 1)) + 1 by omega, fitGo] at hs
      by_cases hb : (lenAt k : Int) = b
      · by_cases ha : (codeAt k : Int) = a
        · rw [if_pos ⟨ha, hb⟩] at hs
          have hs' : z = (k : Int) := hs
          clear hs hg
          replace hs' := Lib.hid hs'
          subst ha hb
          go_wp2_with fail
          go_ret
          exact ⟨by rw [hs'.out]; rfl, rfl⟩
        · rw [if_neg (fun h => ha h.1)] at hs
          replace hs := Lib.hid hs
          clear hg
          subst hb
          go_wp2_with fail
          go_round
          case rel => exact ⟨k + 1, by omega, by go_num, hs⟩
          case measure => simp [intOf]; omega
      · rw [if_neg (fun h => hb h.2)] at hs
        replace hs := Lib.hid hs
        clear hg
        go_wp2_with fail
        go_round
        case rel => exact ⟨k + 1, by omega, by go_num, hs⟩
        case measure => simp [intOf]; omega
    · obtain rfl : k = 257 := by omega
      have hs : z = -1 := hg.out
      replace hs := Lib.hid hs
      clear hg
      go_wp2_with fail
      go_ret
      exact ⟨by rw [hs.out]; rfl, rfl⟩
end Go.Proofs.YtfkpeahelhpelaaDoor

namespace Go.Proofs.YtfkpeahelhpelaaDoor
set_option linter.all false
open Go.RowKit

section
variable {P : Program} {ops : Array Oper} {rest : List Oper} {a : Act} {w : World} {Q : Exit → Act → World → Prop}
theorem at_make (t : TypeId) {d : Option Tmp} {x y : Operand} {ty : TypeId} {ps : String} {af : Array _} {g : Option (Tmp × Bool)} (hh : wpList P ops Q ({ dst := d, op := .makeSlice t x y, type := ty, pos := ps, after := af, guard := g } :: rest) a w) :
    wpList P ops Q ({ dst := d, op := .makeSlice t x y, type := ty, pos := ps, after := af, guard := g } :: rest) a w := hh
end
theorem made_one (z : Value) (n : Nat) : madeCells #[z] n = (List.replicate n z).toArray := by
  apply Array.ext'
  apply List.ext_getElem?
  intro i
  simp only [madeCells, Array.toList_map, Array.toList_range, List.getElem?_map, List.getElem?_range, List.getElem?_replicate]
  by_cases h : i < n
  · simp [h, Nat.mod_one, List.getElem?_range, List.getElem?_replicate]
  · simp [h, List.getElem?_eq_none, List.getElem?_replicate]
/-- make([]T, n) of one-cell elements. -/
theorem ex_make {P : Program} {w : World} (t e : TypeId) (ht : P.underlying t = some (.slice e)) {z : Value} {by_ : Nat} (hinfo : (P.info? e).map (fun i => (i.zero, i.size, i.bytes)) = some (some z, 1, by_)) (hz : z.cells = #[z]) (n : Nat) (hn : by_ * n ≤ 281474976710656) (h63 : n ≤ 9223372036854775807)
    (ev : Operand → Value) (o : Oper) (x y : Operand) (hx : ev x = .int .i64 (n : Int)) (hy : ev y = .int .i64 (n : Int)) (ho : o.op = .makeSlice t x y) :
    (execOp ev o).run P w = .ok (.value (.slice (some ⟨w.heap.size, 0, none⟩) n n)) (w.alloc (.cells (List.replicate n z).toArray e)) := by
  cases hi : P.info? e with
  | none => simp [hi] at hinfo
  | some i =>
    rw [hi] at hinfo
    simp only [Option.map_some, Option.some.injEq, Prod.mk.injEq] at hinfo
    obtain ⟨h2, h3, h4⟩ := hinfo
    have hr := run_make (P := P) w t e i z ht hi h2 .i64 .i64 (n : Int) (n : Int) (by omega) (Int.le_refl _) (by rw [h4, ← Int.natCast_mul]; generalize by_ * n = X at hn ⊢; omega) (by omega)
    rw [hz, h3, Nat.mul_one, Int.toNat_natCast, made_one] at hr
    unfold execOp
    simp only [ho, hx, hy, Sem.run_bind, hr, Result.andThen_ok, Sem.run_pure]

theorem u8info_s : (Tryd.prog.info? 5).map (fun i => (i.zero, i.size, i.bytes)) = some (some (.int .u8 0), 1, 1) := by kernel_rfl
def bitB (b : Bool) : UInt8 := if b then 1 else 0
/-- A code's bits, the highest first. -/
def spell (code n : Nat) : List UInt8 := (lowBits code n).map bitB
theorem lowBits_size (c : Nat) : ∀ n, (lowBits c n).length = n
  | 0 => rfl
  | n + 1 => by simp [lowBits, lowBits_size c n]
theorem spell_length (c n : Nat) : (spell c n).length = n := by rw [spell, List.length_map, lowBits_size]
/-- The row while the lowest k bits stand already. -/
def spRow (code j k : Nat) : List UInt8 := List.replicate j 0 ++ spell code k
theorem spRow_set (code j k : Nat) : (spRow code (j + 1) k).set j (bitB (code / 2 ^ k % 2 == 1)) = spRow code j (k + 1) := by
  have e : spell code (k + 1) = bitB (code / 2 ^ k % 2 == 1) :: spell code k := rfl
  rw [spRow, spRow, e, List.replicate_succ', List.append_assoc, List.set_append_right _ _ (by simp), List.length_replicate, Nat.sub_self]
  rfl
theorem spRow_length (code j k : Nat) : (spRow code j k).length = j + k := by simp [spRow, spell_length]
theorem bv_set (l : List UInt8) (k : Nat) (b : UInt8) : ((l.map bv).toArray).setIfInBounds k (bv b) = ((l.set k b).map bv).toArray := by
  apply Array.ext'
  simp [List.map_set]
theorem bv_bitB (X : Nat) : bv (bitB (X % 2 == 1)) = .int .u8 ((X : Int) % 2) := by
  have h : X % 2 = 0 ∨ X % 2 = 1 := by omega
  have h2 : ((X : Int) % 2) = ((X % 2 : Nat) : Int) := by omega
  rw [h2]
  rcases h with h | h <;> rw [h] <;> rfl
set_option maxRecDepth 100000 in
set_option maxHeartbeats 1000000 in
theorem rspell_any (c n : Nat) (hc : c ≤ 4294967296) (hn : n ≤ 40) (w : World) : Calls Tryd.prog 75 #[.int .i64 c, .int .i64 n] w fun e w' => e = .returned (.slice (some ⟨w.heap.size, 0, none⟩) n n) ∧ w'.heap[w.heap.size]? = some (.cells ((spell c n).map bv).toArray 5 (0, 0)) ∧ Below w.heap.size w w' := by
  have n1 : (n : Int) ≤ 40 := by omega
  have hz : (List.replicate n (Value.int .u8 0)).toArray = ((spRow c n 0).map bv).toArray := by
    have : spell c 0 = [] := rfl
    rw [spRow, this, List.append_nil, List.map_replicate]
    rfl
  go_enter Tryd.func75, Tryd.ntmps75
  go_wp2_with ((with_reducible refine at_make 30 ?_); refine wl_val rfl (ex_make 30 5 (by kernel_rfl) u8info_s rfl n (by omega) (by omega) _ _ _ _ rfl rfl rfl) ?_)
  have hb0 := bl_alloc (Below.refl _ w) (.cells (List.replicate n (Value.int .u8 0)).toArray 5)
  have hg0 := heap_alloc_new w (.cells (List.replicate n (Value.int .u8 0)).toArray 5)
  rw [hz] at hg0 hb0
  clear hz
  go_loopw [6, 7] (fun lf i wr => ∃ j : Nat, j ≤ n ∧ lf = .int .i64 ((c / 2 ^ (n - j) : Nat) : Int) ∧ i = .int .i64 ((j : Int) - 1) ∧ wr.heap[w.heap.size]? = some (.cells ((spRow c j (n - j)).map bv).toArray 5 (0, 0)) ∧ Below w.heap.size w wr) (fun _ i _ => ((intOf i) + 1).toNat)
  case atStart => exact ⟨n, Nat.le_refl _, by simp, rfl, by rw [Nat.sub_self]; exact hg0, hb0⟩
  case round =>
    obtain ⟨j, hj, rfl, rfl, hg, hb⟩ := hrel
    clear hg0 hb0
    cases j with
    | zero =>
      go_wp2_with fail
      go_ret
      exact ⟨rfl, hg, hb⟩
    | succ m =>
      have m0 : (0 : Int) ≤ m := by omega
      have m1 : (m : Int) < n := by omega
      rw [show ((m + 1 : Nat) : Int) - 1 = (m : Int) by omega]
      have hcell := cell_of_row wr w.heap.size m _ _ _ hg
      have hfr := frozen_of_row wr w.heap.size m _ _ hg
      have hset := heap_setCell_mod (o := m) hg (bv (bitB (c / 2 ^ (n - (m + 1)) % 2 == 1)))
      rw [bv_set, spRow_set, show n - (m + 1) + 1 = n - m by omega, bv_bitB] at hset
      have hlt : m < ((spRow c (m + 1) (n - (m + 1))).map bv).length := by rw [List.length_map, spRow_length]; omega
      rw [List.getElem?_toArray, List.getElem?_eq_getElem hlt] at hcell
      have hdv : c / 2 ^ (n - (m + 1)) / 2 = c / 2 ^ (n - m) := by rw [Nat.div_div_eq_div_mul, ← Nat.pow_succ, show (n - (m + 1)).succ = n - m by omega]
      have hle : c / 2 ^ (n - (m + 1)) ≤ c := Nat.div_le_self _ _
      obtain ⟨X, hX⟩ : ∃ X, X = c / 2 ^ (n - (m + 1)) := ⟨_, rfl⟩
      rw [← hX] at hset hdv hle ⊢
      clear hX
      have x0 : (0 : Int) ≤ X := by omega
      have x1 : (X : Int) ≤ 4294967296 := by omega
      obtain ⟨u, hu⟩ : ∃ u, u = ((spRow c (m + 1) (n - (m + 1))).map bv)[m] := ⟨_, rfl⟩
      rw [← hu] at hcell
      clear hu hlt
      replace hset := Lib.hid hset
      replace hdv := Lib.hid hdv
      clear hg
      go_wp2_with fail
      go_roundw
      case rel => exact ⟨m, by omega, by rw [← hdv.out]; go_num, rfl, hset.out, bl_set hb (Nat.le_refl _) _⟩
      case measure => simp [intOf]
end Go.Proofs.YtfkpeahelhpelaaDoor

namespace Go.Proofs.YtfkpeahelhpelaaDoor
set_option linter.all false
open Go.RowKit

set_option maxRecDepth 100000 in
theorem rlengths_any (w : World) : Calls Tryd.prog 73 #[] w fun e w' => e = .returned (.slice (some ⟨w.heap.size, 0, none⟩) 257 257) ∧ w' = w.alloc (.cells (ints lens) 3) := by
  go_enter Tryd.func73, Tryd.ntmps73
  iterate 11 go_step
  refine fast_step 1 (w.alloc (.cells (ints lens) 3)) (by kernel_rfl) ?_
  intro T hT
  have h1 : T[1]?.getD undef = .slice (some ⟨w.heap.size, 0, none⟩) 257 257 := by rw [← hT]; kernel_rfl
  have h2 : T.size = 2 := by rw [← hT]; kernel_rfl
  clear hT
  obtain ⟨T⟩ := T
  match T, h2 with
  | [t0, t1], _ =>
    have h3 : t1 = .slice (some ⟨w.heap.size, 0, none⟩) 257 257 := h1
    subst h3
    simp only [List.drop_succ_cons, List.drop_zero]
    go_wp2
    go_ret
    exact ⟨rfl, rfl⟩

theorem int_info : (Tryd.prog.info? 3).map (fun i => (i.zero, i.size, i.bytes)) = some (some (.int .i64 0), 1, 8) := by kernel_rfl
theorem ints_zero (n : Nat) : (List.replicate n (Value.int .i64 0)).toArray = ints (List.replicate n 0) := by
  rw [ints, List.map_replicate]
  rfl
/-- No code is of no bits. -/
theorem outer_one : outer 1 = (List.replicate 257 0, 0) := by decide +kernel
attribute [local irreducible] lens lenAt

set_option maxRecDepth 100000 in
set_option maxHeartbeats 4000000 in
theorem rcodes_any (w : World) : Calls Tryd.prog 74 #[] w fun e w' => ∃ B, e = .returned (.slice (some ⟨B, 0, none⟩) 257 257) ∧ w'.heap[B]? = some (.cells (ints codesL) 3 (0, 0)) ∧ w.heap.size ≤ B ∧ Below w.heap.size w w' := by
  have hrl := rlengths_any w
  obtain ⟨Z, hZ⟩ : ∃ Z, Z = (List.replicate 257 (Value.int .i64 0)).toArray := ⟨_, rfl⟩
  have hmk := Lib.hid (fun w ev o x y => ex_make (P := Tryd.prog) (w := w) 115 3 (by kernel_rfl) int_info rfl 257 (by omega) (by omega) ev o x y)
  rw [← hZ] at hmk
  rw [ints_zero] at hZ
  replace hZ := Lib.hid hZ
  go_enter Tryd.func74, Tryd.ntmps74
  go_wp2_with fail
  refine hrl.mono ?_
  clear hrl
  rintro e w1 ⟨rfl, rfl⟩
  go_wp2_with ((with_reducible refine at_make 115 ?_); refine wl_val rfl (hmk.out _ _ _ _ _ rfl rfl rfl) ?_)
  clear hmk
  have hg0 := heap_alloc2_old w (.cells (ints lens) 3) (.cells Z 3)
  have hg1 := heap_alloc2_new w (.cells (ints lens) 3) (.cells Z 3)
  have hbl := bl_alloc (bl_alloc (Below.refl _ w) (.cells (ints lens) 3)) (.cells Z 3)
  go_loopw [3, 4] (fun nx n wr => ∃ m : Nat, m ≤ 31 ∧ 1 ≤ m ∧ n = .int .i64 m ∧ nx = .int .i64 ((outer m).2 : Nat) ∧ Below w.heap.size w wr ∧
      wr.heap[w.heap.size]? = some (.cells (ints lens) 3 (0, 0)) ∧ wr.heap[w.heap.size + 1]? = some (.cells (ints (outer m).1) 3 (0, 0)))
    (fun _ n _ => 31 - (intOf n).toNat)
  case atStart => exact ⟨1, by omega, by omega, rfl, by rw [outer_one]; rfl, hbl, hg0, by rw [outer_one, ← hZ.out]; exact hg1⟩
  case round =>
    obtain ⟨m, hm, hm1, rfl, rfl, hb, h0, h1⟩ := hrel
    clear hg0 hg1 hbl
    by_cases hlt : m < 31
    · have hlt' : (m : Int) ≤ 30 := by omega
      have ho := outer_lt m (by omega)
      have hol := (outer_le m).2
      have hob := (outer_lt (m + 1) (by omega))
      obtain ⟨S, hS⟩ : ∃ S, outer m = S := ⟨_, rfl⟩
      rw [hS] at h1 ho hol ⊢
      have HS := Lib.hid hS
      clear hS
      go_wp2_with fail
      obtain ⟨wo, rfl⟩ : ∃ wo : World, wo = wr := ⟨_, rfl⟩
      go_loopw [3, 5] (fun nx c wr => ∃ k : Nat, k ≤ 257 ∧ c = .int .i64 k ∧ nx = .int .i64 ((inner m S k).2 : Nat) ∧ Below w.heap.size w wr ∧
          wr.heap[w.heap.size]? = some (.cells (ints lens) 3 (0, 0)) ∧ wr.heap[w.heap.size + 1]? = some (.cells (ints (inner m S k).1) 3 (0, 0)))
        (fun _ c _ => 257 - (intOf c).toNat)
      case atStart => exact ⟨0, by omega, rfl, rfl, hb, h0, h1⟩
      case round =>
        obtain ⟨k, hk, rfl, rfl, hb2, g0, g1⟩ := hrel
        clear hb h0 h1
        have hin := inner_le m S k
        obtain ⟨T, hT⟩ : ∃ T, inner m S k = T := ⟨_, rfl⟩
        rw [hT] at g1 hin ⊢
        have HT := Lib.hid hT
        clear hT
        obtain ⟨hin1, hin2⟩ := hin
        by_cases hlk : k < 257
        · have hlk' : (k : Int) ≤ 256 := by omega
          have hk0 : (0 : Int) ≤ k := by omega
          have hcl := cell_of_row wr w.heap.size k _ _ _ g0
          rw [ints_get _ k (by rw [lens_length]; omega), show lens.getD k 0 = lenAt k by unfold lenAt; rfl] at hcl
          by_cases heq : lenAt k = m
          · rw [heq] at hcl
            have hcell := cell_of_row wr (w.heap.size + 1) k _ _ _ g1
            rw [ints_get _ k (by omega)] at hcell
            have hfr := frozen_of_row wr (w.heap.size + 1) k _ _ g1
            go_wp2_with fail
            go_roundw
            case rel =>
              have e2 : inner m S (k + 1) = (T.1.set k T.2, T.2 + 1) := by simp only [inner, HT.out, innerStep]; rw [if_pos heq]
              exact ⟨k + 1, by omega, by go_num, by rw [e2]; go_num, bl_set hb2 (by simp) _, by rw [heap_setCell_other _ _ _ _ (by simp)]; exact g0, by rw [heap_setCell_same _ _ _ _ _ _ g1, e2, ints_set]⟩
            case measure => simp [intOf]; omega
          · have e1 : ((lenAt k : Int) == (m : Int)) = false := by simp; omega
            go_wp2_with fail
            go_roundw
            case rel =>
              have e2 : inner m S (k + 1) = T := by simp only [inner, HT.out, innerStep]; rw [if_neg heq]
              exact ⟨k + 1, by omega, by go_num, by rw [e2], hb2, g0, by rw [e2]; exact g1⟩
            case measure => simp [intOf]; omega
        · obtain rfl : k = 257 := by omega
          go_wp2_with fail
          go_roundw
          case rel =>
            have e2 : outer (m + 1) = (T.1, 2 * T.2) := by simp only [outer, HS.out, HT.out]
            exact ⟨m + 1, by omega, by omega, by go_num, by rw [e2]; go_num, hb2, g0, by rw [e2]; exact g1⟩
          case measure => simp [intOf]; omega
    · obtain rfl : m = 31 := by omega
      rw [outer_end] at h1
      go_wp2_with fail
      go_ret
      exact ⟨_, rfl, h1, by omega, hb⟩
end Go.Proofs.YtfkpeahelhpelaaDoor
