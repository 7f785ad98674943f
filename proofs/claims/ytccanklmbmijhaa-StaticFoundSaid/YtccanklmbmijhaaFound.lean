/- Found: the field of any index is found there, and what is found of any field is such a one: the law's walk and its row. -/
import Derived.Test.YtccanklmbmijhaaStatic
namespace Go.Proofs.Ytccanklmbmijhaa
open Go.RowKit

theorem find_at {n v : ByteArray} {a : Nat} {b : Bool} (h : findS n v = (a, b)) (w : World) : Calls Try.prog 8 #[.agg #[.string n, .string v]] w fun e w' => e = .returned (.tuple #[.int .i64 a, .bool b]) ∧ Below w.heap.size w w' := by
  have := find_any n v w
  rw [h] at this
  exact this
theorem get_at {i : Int} (hi : -9223372036854775808 ≤ i ∧ i ≤ 9223372036854775807) {n v : ByteArray} {c : Int} (h1 : getN i = n) (h2 : getV i = v) (h3 : getE i = c) (w : World) :
    Calls Try.prog 6 #[.int .i64 i] w fun e w' => e = .returned (.tuple #[.agg #[.string n, .string v], .int .i64 c]) ∧ Below w.heap.size w w' := by
  have := get_any i w hi
  rw [h1, h2, h3] at this
  exact this

set_option maxHeartbeats 1000000 in
theorem alive06 (w : World) : Calls Try.prog 5 #[] w fun e w' => e = .returned (.bool true) ∧ Below w.heap.size w w' := by
  go_enter Try.func5, Try.ntmps5
  go_wp2_with fail
  refine (get_at (n := ⟨#[97, 99, 99, 101, 112, 116, 45, 101, 110, 99, 111, 100, 105, 110, 103]⟩) (v := ⟨#[103, 122, 105, 112, 44, 32, 100, 101, 102, 108, 97, 116, 101]⟩) (c := 0) (by decide) (by decide) (by decide) (by decide +kernel) _).mono ?_
  rintro e w1 ⟨rfl, hb1⟩
  go_wp2_with fail
  refine (get_at (n := ⟨#[]⟩) (v := ⟨#[]⟩) (c := 5) (by decide) (by decide) (by decide) (by decide +kernel) _).mono ?_
  rintro e w2 ⟨rfl, hb2⟩
  go_wp2_with fail
  refine (find_at (n := ⟨#[58, 109, 101, 116, 104, 111, 100]⟩) (v := ⟨#[80, 79, 83, 84]⟩) (a := 3) (b := true) (by decide +kernel) _).mono ?_
  rintro e w3 ⟨rfl, hb3⟩
  go_wp2_with fail
  refine (find_at (n := ⟨#[58, 109, 101, 116, 104, 111, 100]⟩) (v := ⟨#[80, 85, 84]⟩) (a := 2) (b := false) (by decide +kernel) _).mono ?_
  rintro e w4 ⟨rfl, hb4⟩
  go_wp2_with fail
  refine (find_at (n := ⟨#[120]⟩) (v := ⟨#[]⟩) (a := 0) (b := false) (by decide +kernel) _).mono ?_
  rintro e w5 ⟨rfl, hb5⟩
  have q := blk_below (blk_below (blk_below (blk_alloc (blk_below (heap_alloc_new _ _) hb2) _) hb3) hb4) hb5
  obtain ⟨q0, q1⟩ := cells_two q
  clear q
  go_wp2_with fail
  go_ret
  exact ⟨rfl, bl_then (bl_then (bl_then (bl_alloc (bl_then (bl_alloc hb1 _) hb2) _) hb3) hb4) hb5⟩

/-! ### The plain law -/
def nsv : ByteArray := ⟨#[110, 111, 32, 115, 117, 99, 104, 32, 118, 97, 108, 117, 101]⟩
theorem vl_nsv (i : Nat) (hi : i < 61) : vl i ≠ nsv := by
  have h : ∀ i : Fin 61, vl i ≠ nsv := by decide +kernel
  exact h ⟨i, hi⟩
theorem found_own (i : Nat) (hi : i < 61) : findS (nm i) (vl i) = (i + 1, true) := by
  have h : ∀ i : Fin 61, findS (nm i) (vl i) = (i.val + 1, true) := by decide +kernel
  exact h ⟨i, hi⟩

theorem drop_end : fld.drop 61 = [] := List.drop_of_length_le (by rw [fld_length]; omega)
/-- What is found has its name, and its value, if that is told. -/
theorem findGo_ok (n v : ByteArray) : ∀ (d i c : Nat), i + d = 61 → c ≤ i → (c ≠ 0 → nm (c - 1) = n) →
    (findGo n v i c (fld.drop i)).1 ≤ 61 ∧ ((findGo n v i c (fld.drop i)).1 ≠ 0 → nm ((findGo n v i c (fld.drop i)).1 - 1) = n) ∧
    ((findGo n v i c (fld.drop i)).2 = true → (findGo n v i c (fld.drop i)).1 ≠ 0 ∧ vl ((findGo n v i c (fld.drop i)).1 - 1) = v) ∧ c ≤ (findGo n v i c (fld.drop i)).1 := by
  intro d
  induction d with
  | zero =>
    intro i c hi hc hn
    obtain rfl : i = 61 := by omega
    rw [drop_end]
    exact ⟨hc, hn, fun h => (by cases h), Nat.le_refl _⟩
  | succ d ih =>
    intro i c hi hc hn
    rw [drop_fld i (by omega), findGo]
    by_cases h : nm i = n ∧ vl i = v
    · rw [if_pos h]
      exact ⟨by simp; omega, fun _ => h.1, fun _ => ⟨by simp, h.2⟩, by simp; omega⟩
    · rw [if_neg h]
      by_cases h2 : c = 0 ∧ nm i = n
      · rw [if_pos h2]
        have := ih (i + 1) (i + 1) (by omega) (by omega) (fun _ => h2.2)
        exact ⟨this.1, this.2.1, this.2.2.1, by omega⟩
      · rw [if_neg h2]
        exact ih (i + 1) c (by omega) (by omega) hn
theorem findGo_nsv (n : ByteArray) : ∀ (d i c : Nat), i + d = 61 → c ≠ 0 → findGo n nsv i c (fld.drop i) = (c, false) := by
  intro d
  induction d with
  | zero =>
    intro i c hi hc
    obtain rfl : i = 61 := by omega
    rw [drop_end]; rfl
  | succ d ih =>
    intro i c hi hc
    rw [drop_fld i (by omega), findGo, if_neg (fun h => vl_nsv i (by omega) h.2), if_neg (fun h => hc h.1)]
    exact ih (i + 1) c (by omega) hc
theorem findGo_first (n v : ByteArray) : ∀ (d i : Nat), i + d = 61 → (findGo n v i 0 (fld.drop i)).1 ≠ 0 →
    1 ≤ (findGo n nsv i 0 (fld.drop i)).1 ∧ (findGo n nsv i 0 (fld.drop i)).1 ≤ (findGo n v i 0 (fld.drop i)).1 ∧ (findGo n nsv i 0 (fld.drop i)).2 = false := by
  intro d
  induction d with
  | zero =>
    intro i hi h
    obtain rfl : i = 61 := by omega
    rw [drop_end] at h
    exact absurd rfl h
  | succ d ih =>
    intro i hi h
    by_cases hn : nm i = n
    · have hv := (findGo_ok n v d (i + 1) (i + 1) (by omega) (by omega) (fun _ => hn)).2.2.2
      rw [drop_fld i (by omega), findGo, findGo, if_neg (fun h => vl_nsv i (by omega) h.2), if_pos (show 0 = 0 ∧ nm i = n from ⟨rfl, hn⟩), findGo_nsv n d (i + 1) (i + 1) (by omega) (by omega)]
      by_cases h2 : nm i = n ∧ vl i = v
      · rw [if_pos h2]
        exact ⟨by omega, Nat.le_refl _, rfl⟩
      · rw [if_neg h2]
        exact ⟨by omega, hv, rfl⟩
    · rw [drop_fld i (by omega), findGo, if_neg (fun e => hn e.1), if_neg (fun e => hn e.2)] at h ⊢
      rw [findGo, if_neg (fun e => hn e.1), if_neg (fun e => hn e.2)]
      exact ih (i + 1) (by omega) h
theorem findS_ok (n v : ByteArray) : (findS n v).1 ≤ 61 ∧ ((findS n v).1 ≠ 0 → nm ((findS n v).1 - 1) = n) ∧ ((findS n v).2 = true → (findS n v).1 ≠ 0 ∧ vl ((findS n v).1 - 1) = v) := by
  have := findGo_ok n v 61 0 0 rfl (Nat.le_refl _) (fun h => absurd rfl h)
  rw [List.drop_zero] at this
  exact ⟨this.1, this.2.1, this.2.2.1⟩
theorem findS_first (n v : ByteArray) (h : (findS n v).1 ≠ 0) : 1 ≤ (findS n nsv).1 ∧ (findS n nsv).1 ≤ (findS n v).1 ∧ (findS n nsv).2 = false := by
  have := findGo_first n v 61 0 rfl
  rw [List.drop_zero] at this
  exact this h
end Go.Proofs.Ytccanklmbmijhaa
