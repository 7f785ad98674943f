/- Items of a header block (layer 6): kinds, and what item.Decode comes to. -/
import Derived.Test.YtfkpeahelhpelaaDoorLit
namespace Go.Proofs.YtfkpeahelhpelaaDoor
set_option linter.all false
open Go.RowKit
attribute [local go_sem] Oper.semAt_some

def shapesL : List Nat := [7, 128, 6, 64, 4, 0, 4, 16, 5, 32]
/-- The five shapes, as the program's variable holds them. -/
def LaidShapes (w : World) : Prop := ∀ j v, (ints shapesL)[j]? = some v → w.cell? ⟨0, j, none⟩ = some v
theorem LaidShapes.below {w w1 : World} (h : LaidShapes w) (hb : Below w.heap.size w w1) : LaidShapes w1 := fun j v hv =>
  (hb.cell (World.block_lt_of_cell? w _ (h j v hv))).trans (h j v hv)
def kindOf (c : Nat) : Nat := if 128 ≤ c then 0 else if 64 ≤ c then 1 else if 32 ≤ c then 4 else if 16 ≤ c then 3 else 2
def shBits (k : Nat) : Nat := shapesL.getD (2 * k) 0
def shAbove (k : Nat) : Nat := shapesL.getD (2 * k + 1) 0
theorem kind_fits : ∀ c : Fin 256, ∀ k : Fin 5, (wrap64 (((c.val : Nat) : Int) / 2 ^ min (shBits k.val) 64 * 2 ^ min (shBits k.val) 64) == (shAbove k.val : Int)) = decide (kindOf c.val = k.val) := by decide +kernel

theorem kinds_any (n : Nat) (hn : n ≤ 9) (w : World) : Calls Tryd.prog 52 #[.int .i64 n] w fun e w' => e = .returned (.bool (decide (1 ≤ n ∧ n ≤ 3))) ∧ w = w' := by
  by_cases h : 1 ≤ n ∧ n ≤ 3
  · obtain ⟨h1, h2⟩ := h
    have i1 : (1 : Int) ≤ n := by omega
    have i2 : (n : Int) ≤ 3 := by omega
    go_enter Tryd.func52, Tryd.ntmps52
    go_wp2
    go_ret
    exact ⟨by simp [h1, h2], rfl⟩
  · by_cases h1 : 1 ≤ n
    · have i1 : (1 : Int) ≤ n := by omega
      have i2 : ¬ (n : Int) ≤ 3 := by omega
      go_enter Tryd.func52, Tryd.ntmps52
      go_wp2
      go_ret
      exact ⟨by simp; omega, rfl⟩
    · have i1 : ¬ (1 : Int) ≤ n := by omega
      go_enter Tryd.func52, Tryd.ntmps52
      go_wp2
      go_ret
      exact ⟨by simp [h1], rfl⟩

theorem shapes_index (k : Nat) (hk : k < 5) (w : World) : (Instr.index 97 (.agg (ints shapesL)) (.int .i64 k)).run Tryd.prog w = .ok (.agg #[.int .i64 (shBits k : Int), .int .i64 (shAbove k : Int)]) w := by
  rw [run_index_agg 97 96 5 2 (by kernel_rfl) (by kernel_rfl) (by kernel_rfl) _ _ k hk w]
  have h : ∀ k : Fin 5, (ints shapesL).extract (k.val * 2) (k.val * 2 + 2) = #[.int .i64 (shBits k.val : Int), .int .i64 (shAbove k.val : Int)] := by
    intro k
    match k with
    | 0 => rfl
    | 1 => rfl
    | 2 => rfl
    | 3 => rfl
    | 4 => rfl
  rw [h ⟨k, hk⟩]

set_option maxRecDepth 100000 in
theorem kind_any (c : Nat) (hc : c < 256) (w : World) (hS : LaidShapes w) : Calls Tryd.prog 61 #[.int .u8 c] w fun e w' => e = .returned (.int .i64 (kindOf c : Int)) ∧ Below w.heap.size w w' := by
  have hix := shapes_index
  have hSr : Hid (∀ j v, (ints shapesL)[j]? = some v → w.cell? ⟨0, j, none⟩ = some v) := Lib.hid hS
  clear hS
  go_enter Tryd.func61, Tryd.ntmps61
  go_wp2_with fail
  go_step3
  go_wp2_with fail
  go_step3
  go_wp2_with ((with_reducible refine wpList_load_cells rfl 97 (.global 0) rfl 0 rfl (ints shapesL) (.array 5 96) hSr.out (by kernel_rfl) rfl (by kernel_rfl) ?_))
  go_loopw [7] (fun i wr => ∃ k : Nat, k ≤ 5 ∧ i = .int .i64 k ∧ (∀ j, j < k → kindOf c ≠ j) ∧ Below w.heap.size w wr) (fun i _ => 5 - (intOf i).toNat)
  case atStart => exact ⟨0, by omega, rfl, fun j hj => absurd hj (by omega), Below.refl _ _⟩
  case round =>
    obtain ⟨k, hk, rfl, hno, hb⟩ := hrel
    replace hno := Lib.hid hno
    by_cases hlt : k < 5
    · have hlt' : (k : Int) < 5 := by omega
      have hk0 : (0 : Int) ≤ k := by omega
      have hrun := hix k hlt
      go_wp2_with fail
      have hf := kind_fits ⟨c, hc⟩ ⟨k, hlt⟩
      simp only at hf
      have c5 := cells_two (heap_alloc_new wr (.cells #[.int .i64 (shBits k : Int), .int .i64 (shAbove k : Int)] 96))
      by_cases hkk : kindOf c = k
      · rw [decide_eq_true hkk] at hf
        go_quiet (fail)
        rename_i nq
        have hb2 := bl_drewN (bl_alloc hb (.cells #[.int .i64 (shBits k : Int), .int .i64 (shAbove k : Int)] 96)) nq
        go_wp2_with fail
        rw [Exit.noGoto_ret]
        refine bodyPost_ret (v := .int .i64 (k : Int)) (by simp [results, Tryd.results61, go_sem]) rfl ⟨by rw [hkk], hb2⟩
      · rw [decide_eq_false hkk] at hf
        go_quiet (fail)
        rename_i nq
        have hb2 := bl_drewN (bl_alloc hb (.cells #[.int .i64 (shBits k : Int), .int .i64 (shAbove k : Int)] 96)) nq
        go_wp2_with fail
        have hno2 : ∀ j, j < k + 1 → kindOf c ≠ j := fun j hj => by
          by_cases h : j = k
          · rw [h]; exact hkk
          · exact hno.out j (by omega)
        replace hno2 := Lib.hid hno2
        go_roundw
        case rel => exact ⟨k + 1, by omega, by go_num, hno2.out, hb2⟩
        case measure => simp [intOf]; omega
    · obtain rfl : k = 5 := by omega
      exfalso
      have := hno.out (kindOf c) (by unfold kindOf; split <;> (try split) <;> (try split) <;> (try split) <;> omega)
      exact this rfl
end Go.Proofs.YtfkpeahelhpelaaDoor
