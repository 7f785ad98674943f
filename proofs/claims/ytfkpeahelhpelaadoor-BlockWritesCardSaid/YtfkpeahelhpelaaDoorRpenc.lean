/- Numbers in a part of a byte, the document's way (ref03.Encode): it comes to what our own comes to. -/
import Derived.Test.YtfkpeahelhpelaaDoorRef03
import Derived.Test.YtfkpeahelhpelaaDoorPenc
namespace Go.Proofs.YtfkpeahelhpelaaDoor
set_option linter.all false
open Go.RowKit

set_option maxRecDepth 100000 in
set_option maxHeartbeats 2000000 in
theorem rpenc_any (nb n above : Nat) (w : World) (hnb : 4 ≤ nb ∧ nb ≤ 7) (hn : n ≤ 16777215) (ha : above ≤ 255) (hm : above % 2 ^ nb = 0) :
    Calls Tryd.prog 58 #[.int .i64 (n : Int), .int .i64 (nb : Int), .int .i64 (above : Int)] w fun e w' => ∃ v, e = .returned (.tuple #[v, .int .i64 0]) ∧ w'.ownsRow w.heap.size 5 1 v (penc nb above n).length ((penc nb above n).map bv) ∧ Below w.heap.size w w' := by
  obtain ⟨b1, b2⟩ := hnb
  have n1 : (4 : Int) ≤ nb := by omega
  have n2 : (nb : Int) ≤ 7 := by omega
  have hpw := power_any nb (by omega) w
  obtain ⟨z, hz⟩ : ∃ z, z = penc nb above n := ⟨_, rfl⟩
  rw [← hz]
  rw [penc] at hz
  have hM1 : 2 ^ nb = 2 ^ nb - 1 + 1 := by have := Nat.one_le_two_pow (n := nb); omega
  have hM2 : 2 ^ nb ≤ 2 ^ 7 := Nat.pow_le_pow_right (by omega) b2
  have hM3 : 2 ^ 4 ≤ 2 ^ nb := Nat.pow_le_pow_right (by omega) b1
  have hdv : above + 2 ^ nb ≤ 256 := by
    have h4 : nb = 4 ∨ nb = 5 ∨ nb = 6 ∨ nb = 7 := by omega
    rcases h4 with rfl | rfl | rfl | rfl <;> simp only [Nat.reducePow] at hm ⊢ <;> omega
  generalize hM : 2 ^ nb - 1 = M at hz hM1
  rw [hM1] at hpw hM2 hM3 hm hdv
  clear hM hM1
  have i1 : (n : Int) ≤ 16777215 := by omega
  have i2 : (above : Int) ≤ 255 := by omega
  have i0 : (0 : Int) ≤ above := by omega
  have j0 : (0 : Int) ≤ n := by omega
  have hrem : Int.tmod (above : Int) ((M : Int) + 1) = 0 := by
    have : Int.tmod (above : Int) ((M : Int) + 1) = ((above % (M + 1) : Nat) : Int) := rfl
    rw [this, hm]; rfl
  clear hm
  have m1 : (M : Int) ≤ 127 := by omega
  have m2 : (15 : Int) ≤ M := by omega
  by_cases hlt : n < M
  · rw [if_pos hlt] at hz
    replace hz := Lib.hid hz
    have i4 : (n : Int) < M := by omega
    go_enter Tryd.func58, Tryd.ntmps58
    go_wp2_with fail
    refine hpw.mono ?_
    rintro e w' ⟨rfl, rfl⟩
    go_wp2_with fail
    go_ret2
    refine ⟨_, rfl, ?_, bl_alloc (Below.refl _ _) _⟩
    rw [hz.out]
    simp only [List.map_cons, List.map_nil, List.length_cons, List.length_nil, Nat.zero_add]
    rw [bv_of _ (show above + n < 256 by omega)]
    have e : (((above + n : Nat) : Int)) = (above : Int) + n := by omega
    rw [e]
    exact own_new _ _ _
  · rw [if_neg hlt] at hz
    have i4 : (M : Int) ≤ n := by omega
    go_enter Tryd.func58, Tryd.ntmps58
    replace hz := Lib.hid hz
    go_wp2_with fail
    refine hpw.mono ?_
    rintro e w' ⟨rfl, rfl⟩
    go_wp2_with fail
    go_loopw [9, 10] (fun o m wr => ∃ (k f : Nat) (pre : List UInt8), m = .int .i64 (k : Int) ∧ k ≤ 16777215 ∧ k < 128 ^ (f + 1) ∧ f ≤ 4 ∧ wr.ownsRow w.heap.size 5 1 o pre.length (pre.map bv) ∧ Hid (pre ++ pvarGo f k = z) ∧ pre.length + f ≤ 5 ∧ Below w.heap.size w wr) (fun _ m _ => (intOf m).toNat)
    case atStart =>
      refine ⟨n - M, 4, [UInt8.ofNat (above + M)], by congr 1; omega, by omega, by omega, Nat.le_refl _, ?_, Lib.hid hz.out.symm, by simp, bl_alloc (Below.refl _ _) _⟩
      simp only [List.map_cons, List.map_nil, List.length_cons, List.length_nil, Nat.zero_add]
      rw [bv_of _ (show above + M < 256 by omega)]
      have e : (((above + M : Nat) : Int)) = (above : Int) + M := by omega
      rw [e]
      exact own_new _ _ _
    case round =>
      obtain ⟨k, f, pre, rfl, hk, hkf, hf4, hown, hpre, hpl, hbl⟩ := hrel
      obtain ⟨va, vc, rfl, hvc⟩ := own_shape hown
      replace hown := Lib.hid hown
      replace hkf := Lib.hid hkf
      have j1 : (k : Int) ≤ 16777215 := by omega
      have j3 : (0 : Int) ≤ k := by omega
      by_cases h128 : 128 ≤ k
      · have j2 : (128 : Int) ≤ k := by omega
        cases f with
        | zero => exact absurd hkf.out (by omega)
        | succ f =>
          go_wp2_with (((with_reducible refine at_append 30 ?_); refine wl_ex rfl (ex_push w.heap.size _ _ _ hown.out _ (by omega) hbl.size _ _ _ _ rfl rfl rfl) ?_; rintro v5 w5 ⟨ho5, hg5, hv5⟩; have hbl5 := (bl_alloc hbl _).trans (grown_below hg5 (bl_alloc hbl _).size (fun g hg => own_block hown.out hg)); replace ho5 := Lib.hid ho5; clear hg5 hv5))
          go_roundw
          case rel =>
            have hp := hpre.out
            rw [pvarGo, if_pos h128] at hp
            refine ⟨k / 128, f, pre ++ [UInt8.ofNat (k % 128 + 128)], by congr 1, by omega, ?_, by omega, ?_, Lib.hid (by rw [List.append_assoc]; exact hp), by simp; omega, hbl5⟩
            · have := hkf.out
              rw [Nat.pow_succ] at this
              exact Nat.div_lt_of_lt_mul (by rw [Nat.mul_comm]; exact this)
            · have hb : k % 128 + 128 < 256 := by omega
              rw [List.map_append, List.map_cons, List.map_nil, bv_of _ hb, List.length_append]
              have e : (((k % 128 + 128 : Nat) : Int)) = 128 + (k : Int) % 128 := by omega
              rw [e]
              exact ho5.out
          case measure => simp [intOf]; omega
      · have j2 : ¬ (128 : Int) ≤ k := by omega
        go_wp2_with (((with_reducible refine at_append 30 ?_); refine wl_ex rfl (ex_push w.heap.size _ _ _ hown.out _ (by omega) hbl.size _ _ _ _ rfl rfl rfl) ?_; rintro v5 w5 ⟨ho5, hg5, hv5⟩; have hbl5 := (bl_alloc hbl _).trans (grown_below hg5 (bl_alloc hbl _).size (fun g hg => own_block hown.out hg)); replace ho5 := Lib.hid ho5; clear hg5 hv5))
        go_ret2
        refine ⟨_, rfl, ?_, hbl5⟩
        have hp := hpre.out
        have e0 : pvarGo f k = [UInt8.ofNat k] := by cases f with | zero => rfl | succ f => rw [pvarGo, if_neg h128]
        rw [e0] at hp
        rw [← hp, List.map_append, List.map_cons, List.map_nil, bv_of _ (by omega), List.length_append]
        exact ho5.out
end Go.Proofs.YtfkpeahelhpelaaDoor
