/- Numbers in a part of a byte (layer 3): what prefix.Encode comes to. -/
import Derived.Test.YtfkpeahelhpelaaDoorPrefix
import Derived.Test.YtfkpeahelhpelaaDoorOps
import Derived.Deep.AppendLies
namespace Go.Proofs.YtfkpeahelhpelaaDoor
set_option linter.all false
open Go.RowKit

def pvarGo : Nat → Nat → List UInt8
  | 0, m => [UInt8.ofNat m]
  | f + 1, m => if 128 ≤ m then UInt8.ofNat (m % 128 + 128) :: pvarGo f (m / 128) else [UInt8.ofNat m]
def penc (nb above n : Nat) : List UInt8 := if n < 2 ^ nb - 1 then [UInt8.ofNat (above + n)] else UInt8.ofNat (above + (2 ^ nb - 1)) :: pvarGo 4 (n - (2 ^ nb - 1))
theorem pvarGo_len : ∀ f m, (pvarGo f m).length ≤ f + 1
  | 0, _ => by simp [pvarGo]
  | f + 1, m => by
    rw [pvarGo]
    split
    · have := pvarGo_len f (m / 128)
      simp only [List.length_cons]; omega
    · simp
theorem penc_len (nb above n : Nat) : (penc nb above n).length ≤ 6 := by
  rw [penc]
  split
  · simp
  · have := pvarGo_len 4 (n - (2 ^ nb - 1))
    simp only [List.length_cons]; omega
theorem bv_of (k : Nat) (h : k < 256) : bv (UInt8.ofNat k) = .int .u8 (k : Int) := by
  rw [bv, UInt8.toNat_ofNat', Nat.mod_eq_of_lt (by simpa using h)]
theorem own_new (w : World) (e : TypeId) (u : Value) : (w.alloc (.cells #[u] e)).ownsRow w.heap.size e 1 (.slice (some ⟨w.heap.size, 0, none⟩) 1 1) 1 [u] :=
  ⟨rfl, .inr ⟨w.heap.size, 1, #[u], rfl, Nat.le_refl _, heap_alloc_new _ _, Nat.le_refl _, by simp only [maxLen]; omega, rfl, rfl⟩⟩
theorem u8info : (Tryd.prog.info? 5).map (fun i => (i.zero, i.size, i.bytes)) = some (some (.int .u8 0), 1, 1) := by kernel_rfl
/-- append(v, b) of one byte onto a row of the call's own. -/
theorem ex_push {w : World} (base : Nat) (v : Value) (n : Nat) (xs : List Value) (hown : w.ownsRow base 5 1 v n xs) (x : Int) (hn : n + 1 ≤ 140737488355328) (hbase : base ≤ w.heap.size) (ev : Operand → Value) (o : Oper) (a b : Operand) (ha : ev a = v) (hb : ev b = .slice (some ⟨w.heap.size, 0, none⟩) 1 1) (ho : o.op = .call { callee := .builtin .append, args := #[a, b], argTypes := #[30, 30] }) :
    ∃ v' w', (execOp ev o).run Tryd.prog (w.alloc (.cells #[.int .u8 x] 5)) = .ok (.value v') w' ∧ w'.ownsRow base 5 1 v' (n + 1) (xs ++ [.int .u8 x]) ∧ (w.alloc (.cells #[.int .u8 x] 5)).grownBy w' v.ownBlock ∧ (v'.ownBlock = v.ownBlock ∨ v'.ownBlock = some (w.alloc (.cells #[.int .u8 x] 5)).heap.size) :=
  ex_append (P := Tryd.prog) u8info 30 (by kernel_rfl) (by decide) (by decide) base v n xs (own_alloc hown _) ⟨w.heap.size, 0, none⟩ 1 1 [.int .u8 x] rfl (World.news_of_block (cs := #[.int .u8 x]) (t := 5) (fr := (0, 0)) (heap_alloc_new w _)) (by simp [Value.oneCell']) (by simp only [maxLen]; omega) (by omega) (by rw [World.size_alloc]; omega) ev o a b ha hb ho

set_option maxRecDepth 100000 in
set_option maxHeartbeats 2000000 in
theorem penc_4 (n above : Nat) (w : World) (hn : n ≤ 16777215) (ha : above ≤ 255) (hm : above % 16 = 0) :
    Calls Tryd.prog 51 #[.int .i64 (n : Int), .int .i64 4, .int .i64 (above : Int)] w fun e w' => ∃ v, e = .returned (.tuple #[v, .int .i64 0]) ∧ w'.ownsRow w.heap.size 5 1 v (penc 4 above n).length ((penc 4 above n).map bv) ∧ Below w.heap.size w w' := by
  have i1 : (n : Int) ≤ 16777215 := by omega
  have i2 : (above : Int) ≤ 255 := by omega
  have i3 : (((above : Int) % 16) != 0) = false := by rw [bne_eq_false_iff_eq]; omega
  have hr := Lib.hid (right_any 4 (by omega))
  obtain ⟨z, hz⟩ : ∃ z, z = penc 4 above n := ⟨_, rfl⟩
  rw [← hz]
  rw [penc] at hz
  simp only [Nat.reducePow, Nat.reduceSub] at hz
  replace hm := Lib.hid hm
  by_cases hlt : n < 15
  · rw [if_pos hlt] at hz
    replace hz := Lib.hid hz
    have i4 : (n : Int) < 15 := by omega
    go_enter Tryd.func51, Tryd.ntmps51
    go_wp2_with fail
    refine (hr.out _).mono ?_
    rintro e w' ⟨rfl, rfl⟩
    go_wp2_with fail
    go_ret2
    refine ⟨_, rfl, ?_, bl_alloc (Below.refl _ _) _⟩
    rw [hz.out]
    have hb : above + n < 256 := by have := hm.out; omega
    simp only [List.map_cons, List.map_nil, List.length_cons, List.length_nil, Nat.zero_add]
    rw [bv_of _ hb]
    have e : (((above + n : Nat) : Int)) = ((above : Int) + n) % 256 := by omega
    rw [e]
    exact own_new _ _ _
  · rw [if_neg hlt] at hz
    have i4 : ¬ (n : Int) < 15 := by omega
    go_enter Tryd.func51, Tryd.ntmps51
    replace hz := Lib.hid hz
    go_wp2_with fail
    refine (hr.out _).mono ?_
    rintro e w' ⟨rfl, rfl⟩
    go_wp2_with fail
    go_loopw [0, 9] (fun m o wr => ∃ (k f : Nat) (pre : List UInt8), m = .int .i64 (k : Int) ∧ k ≤ 16777215 ∧ k < 128 ^ (f + 1) ∧ f ≤ 4 ∧ wr.ownsRow w.heap.size 5 1 o pre.length (pre.map bv) ∧ Hid (pre ++ pvarGo f k = z) ∧ pre.length + f ≤ 5 ∧ Below w.heap.size w wr) (fun m _ _ => (intOf m).toNat)
    case atStart =>
      have hb : above + 15 < 256 := by have := hm.out; omega
      refine ⟨n - 15, 4, [UInt8.ofNat (above + 15)], by congr 1; omega, by omega, by omega, Nat.le_refl _, ?_, Lib.hid hz.out.symm, by simp, bl_alloc (Below.refl _ _) _⟩
      simp only [List.map_cons, List.map_nil, List.length_cons, List.length_nil, Nat.zero_add]
      rw [bv_of _ hb]
      have e : (((above + 15 : Nat) : Int)) = ((above : Int) + 15) % 256 := by omega
      rw [e]
      exact own_new _ _ _
    case round =>
      obtain ⟨k, f, pre, rfl, hk, hkf, hf4, hown, hpre, hpl, hbl⟩ := hrel
      obtain ⟨va, vc, rfl, hvc⟩ := own_shape hown
      replace hown := Lib.hid hown
      replace hkf := Lib.hid hkf
      have j1 : (k : Int) ≤ 16777215 := by omega
      by_cases h128 : 128 ≤ k
      · have j2 : (128 : Int) ≤ k := by omega
        cases f with
        | zero => exact absurd hkf.out (by omega)
        | succ f =>
          go_wp2_with (((with_reducible refine at_append 30 ?_); refine wl_ex rfl (ex_push w.heap.size _ _ _ hown.out _ (by omega) hbl.size _ _ _ _ rfl rfl rfl) ?_; rintro v5 w5 ⟨ho5, hg5, hv5⟩; have hbl5 := (bl_alloc hbl _).trans (grown_below hg5 (bl_alloc hbl _).size (fun g hg => own_block hown.out hg)); replace ho5 := Lib.hid ho5; clear hg5 hv5))
          go_roundw
          case rel =>
            have hp := hpre.out
            rw [pvarGo, if_pos h128] at hp
            refine ⟨k / 128, f, pre ++ [UInt8.ofNat (k % 128 + 128)], by congr 1, by omega, ?_, by omega, ?_, Lib.hid (by rw [List.append_assoc]; exact hp), by simp; omega, hbl5⟩
            · have := hkf.out
              rw [Nat.pow_succ] at this
              exact Nat.div_lt_of_lt_mul (by rw [Nat.mul_comm]; exact this)
            · have hb : k % 128 + 128 < 256 := by omega
              rw [List.map_append, List.map_cons, List.map_nil, bv_of _ hb, List.length_append]
              have e : (((k % 128 + 128 : Nat) : Int)) = (k : Int) % 128 + 128 := by omega
              rw [e]
              exact ho5.out
          case measure => simp [intOf]; omega
      · have j2 : ¬ (128 : Int) ≤ k := by omega
        go_wp2_with (((with_reducible refine at_append 30 ?_); refine wl_ex rfl (ex_push w.heap.size _ _ _ hown.out _ (by omega) hbl.size _ _ _ _ rfl rfl rfl) ?_; rintro v5 w5 ⟨ho5, hg5, hv5⟩; have hbl5 := (bl_alloc hbl _).trans (grown_below hg5 (bl_alloc hbl _).size (fun g hg => own_block hown.out hg)); replace ho5 := Lib.hid ho5; clear hg5 hv5))
        go_ret2
        refine ⟨_, rfl, ?_, hbl5⟩
        have hp := hpre.out
        have e0 : pvarGo f k = [UInt8.ofNat k] := by cases f with | zero => rfl | succ f => rw [pvarGo, if_neg h128]
        rw [e0] at hp
        rw [← hp, List.map_append, List.map_cons, List.map_nil, bv_of _ (by omega), List.length_append]
        exact ho5.out

set_option maxRecDepth 100000 in
set_option maxHeartbeats 2000000 in
theorem penc_5 (n above : Nat) (w : World) (hn : n ≤ 16777215) (ha : above ≤ 255) (hm : above % 32 = 0) :
    Calls Tryd.prog 51 #[.int .i64 (n : Int), .int .i64 5, .int .i64 (above : Int)] w fun e w' => ∃ v, e = .returned (.tuple #[v, .int .i64 0]) ∧ w'.ownsRow w.heap.size 5 1 v (penc 5 above n).length ((penc 5 above n).map bv) ∧ Below w.heap.size w w' := by
  have i1 : (n : Int) ≤ 16777215 := by omega
  have i2 : (above : Int) ≤ 255 := by omega
  have i3 : (((above : Int) % 32) != 0) = false := by rw [bne_eq_false_iff_eq]; omega
  have hr := Lib.hid (right_any 5 (by omega))
  obtain ⟨z, hz⟩ : ∃ z, z = penc 5 above n := ⟨_, rfl⟩
  rw [← hz]
  rw [penc] at hz
  simp only [Nat.reducePow, Nat.reduceSub] at hz
  replace hm := Lib.hid hm
  by_cases hlt : n < 31
  · rw [if_pos hlt] at hz
    replace hz := Lib.hid hz
    have i4 : (n : Int) < 31 := by omega
    go_enter Tryd.func51, Tryd.ntmps51
    go_wp2_with fail
    refine (hr.out _).mono ?_
    rintro e w' ⟨rfl, rfl⟩
    go_wp2_with fail
    go_ret2
    refine ⟨_, rfl, ?_, bl_alloc (Below.refl _ _) _⟩
    rw [hz.out]
    have hb : above + n < 256 := by have := hm.out; omega
    simp only [List.map_cons, List.map_nil, List.length_cons, List.length_nil, Nat.zero_add]
    rw [bv_of _ hb]
    have e : (((above + n : Nat) : Int)) = ((above : Int) + n) % 256 := by omega
    rw [e]
    exact own_new _ _ _
  · rw [if_neg hlt] at hz
    have i4 : ¬ (n : Int) < 31 := by omega
    go_enter Tryd.func51, Tryd.ntmps51
    replace hz := Lib.hid hz
    go_wp2_with fail
    refine (hr.out _).mono ?_
    rintro e w' ⟨rfl, rfl⟩
    go_wp2_with fail
    go_loopw [0, 9] (fun m o wr => ∃ (k f : Nat) (pre : List UInt8), m = .int .i64 (k : Int) ∧ k ≤ 16777215 ∧ k < 128 ^ (f + 1) ∧ f ≤ 4 ∧ wr.ownsRow w.heap.size 5 1 o pre.length (pre.map bv) ∧ Hid (pre ++ pvarGo f k = z) ∧ pre.length + f ≤ 5 ∧ Below w.heap.size w wr) (fun m _ _ => (intOf m).toNat)
    case atStart =>
      have hb : above + 31 < 256 := by have := hm.out; omega
      refine ⟨n - 31, 4, [UInt8.ofNat (above + 31)], by congr 1; omega, by omega, by omega, Nat.le_refl _, ?_, Lib.hid hz.out.symm, by simp, bl_alloc (Below.refl _ _) _⟩
      simp only [List.map_cons, List.map_nil, List.length_cons, List.length_nil, Nat.zero_add]
      rw [bv_of _ hb]
      have e : (((above + 31 : Nat) : Int)) = ((above : Int) + 31) % 256 := by omega
      rw [e]
      exact own_new _ _ _
    case round =>
      obtain ⟨k, f, pre, rfl, hk, hkf, hf4, hown, hpre, hpl, hbl⟩ := hrel
      obtain ⟨va, vc, rfl, hvc⟩ := own_shape hown
      replace hown := Lib.hid hown
      replace hkf := Lib.hid hkf
      have j1 : (k : Int) ≤ 16777215 := by omega
      by_cases h128 : 128 ≤ k
      · have j2 : (128 : Int) ≤ k := by omega
        cases f with
        | zero => exact absurd hkf.out (by omega)
        | succ f =>
          go_wp2_with (((with_reducible refine at_append 30 ?_); refine wl_ex rfl (ex_push w.heap.size _ _ _ hown.out _ (by omega) hbl.size _ _ _ _ rfl rfl rfl) ?_; rintro v5 w5 ⟨ho5, hg5, hv5⟩; have hbl5 := (bl_alloc hbl _).trans (grown_below hg5 (bl_alloc hbl _).size (fun g hg => own_block hown.out hg)); replace ho5 := Lib.hid ho5; clear hg5 hv5))
          go_roundw
          case rel =>
            have hp := hpre.out
            rw [pvarGo, if_pos h128] at hp
            refine ⟨k / 128, f, pre ++ [UInt8.ofNat (k % 128 + 128)], by congr 1, by omega, ?_, by omega, ?_, Lib.hid (by rw [List.append_assoc]; exact hp), by simp; omega, hbl5⟩
            · have := hkf.out
              rw [Nat.pow_succ] at this
              exact Nat.div_lt_of_lt_mul (by rw [Nat.mul_comm]; exact this)
            · have hb : k % 128 + 128 < 256 := by omega
              rw [List.map_append, List.map_cons, List.map_nil, bv_of _ hb, List.length_append]
              have e : (((k % 128 + 128 : Nat) : Int)) = (k : Int) % 128 + 128 := by omega
              rw [e]
              exact ho5.out
          case measure => simp [intOf]; omega
      · have j2 : ¬ (128 : Int) ≤ k := by omega
        go_wp2_with (((with_reducible refine at_append 30 ?_); refine wl_ex rfl (ex_push w.heap.size _ _ _ hown.out _ (by omega) hbl.size _ _ _ _ rfl rfl rfl) ?_; rintro v5 w5 ⟨ho5, hg5, hv5⟩; have hbl5 := (bl_alloc hbl _).trans (grown_below hg5 (bl_alloc hbl _).size (fun g hg => own_block hown.out hg)); replace ho5 := Lib.hid ho5; clear hg5 hv5))
        go_ret2
        refine ⟨_, rfl, ?_, hbl5⟩
        have hp := hpre.out
        have e0 : pvarGo f k = [UInt8.ofNat k] := by cases f with | zero => rfl | succ f => rw [pvarGo, if_neg h128]
        rw [e0] at hp
        rw [← hp, List.map_append, List.map_cons, List.map_nil, bv_of _ (by omega), List.length_append]
        exact ho5.out

set_option maxRecDepth 100000 in
set_option maxHeartbeats 2000000 in
theorem penc_6 (n above : Nat) (w : World) (hn : n ≤ 16777215) (ha : above ≤ 255) (hm : above % 64 = 0) :
    Calls Tryd.prog 51 #[.int .i64 (n : Int), .int .i64 6, .int .i64 (above : Int)] w fun e w' => ∃ v, e = .returned (.tuple #[v, .int .i64 0]) ∧ w'.ownsRow w.heap.size 5 1 v (penc 6 above n).length ((penc 6 above n).map bv) ∧ Below w.heap.size w w' := by
  have i1 : (n : Int) ≤ 16777215 := by omega
  have i2 : (above : Int) ≤ 255 := by omega
  have i3 : (((above : Int) % 64) != 0) = false := by rw [bne_eq_false_iff_eq]; omega
  have hr := Lib.hid (right_any 6 (by omega))
  obtain ⟨z, hz⟩ : ∃ z, z = penc 6 above n := ⟨_, rfl⟩
  rw [← hz]
  rw [penc] at hz
  simp only [Nat.reducePow, Nat.reduceSub] at hz
  replace hm := Lib.hid hm
  by_cases hlt : n < 63
  · rw [if_pos hlt] at hz
    replace hz := Lib.hid hz
    have i4 : (n : Int) < 63 := by omega
    go_enter Tryd.func51, Tryd.ntmps51
    go_wp2_with fail
    refine (hr.out _).mono ?_
    rintro e w' ⟨rfl, rfl⟩
    go_wp2_with fail
    go_ret2
    refine ⟨_, rfl, ?_, bl_alloc (Below.refl _ _) _⟩
    rw [hz.out]
    have hb : above + n < 256 := by have := hm.out; omega
    simp only [List.map_cons, List.map_nil, List.length_cons, List.length_nil, Nat.zero_add]
    rw [bv_of _ hb]
    have e : (((above + n : Nat) : Int)) = ((above : Int) + n) % 256 := by omega
    rw [e]
    exact own_new _ _ _
  · rw [if_neg hlt] at hz
    have i4 : ¬ (n : Int) < 63 := by omega
    go_enter Tryd.func51, Tryd.ntmps51
    replace hz := Lib.hid hz
    go_wp2_with fail
    refine (hr.out _).mono ?_
    rintro e w' ⟨rfl, rfl⟩
    go_wp2_with fail
    go_loopw [0, 9] (fun m o wr => ∃ (k f : Nat) (pre : List UInt8), m = .int .i64 (k : Int) ∧ k ≤ 16777215 ∧ k < 128 ^ (f + 1) ∧ f ≤ 4 ∧ wr.ownsRow w.heap.size 5 1 o pre.length (pre.map bv) ∧ Hid (pre ++ pvarGo f k = z) ∧ pre.length + f ≤ 5 ∧ Below w.heap.size w wr) (fun m _ _ => (intOf m).toNat)
    case atStart =>
      have hb : above + 63 < 256 := by have := hm.out; omega
      refine ⟨n - 63, 4, [UInt8.ofNat (above + 63)], by congr 1; omega, by omega, by omega, Nat.le_refl _, ?_, Lib.hid hz.out.symm, by simp, bl_alloc (Below.refl _ _) _⟩
      simp only [List.map_cons, List.map_nil, List.length_cons, List.length_nil, Nat.zero_add]
      rw [bv_of _ hb]
      have e : (((above + 63 : Nat) : Int)) = ((above : Int) + 63) % 256 := by omega
      rw [e]
      exact own_new _ _ _
    case round =>
      obtain ⟨k, f, pre, rfl, hk, hkf, hf4, hown, hpre, hpl, hbl⟩ := hrel
      obtain ⟨va, vc, rfl, hvc⟩ := own_shape hown
      replace hown := Lib.hid hown
      replace hkf := Lib.hid hkf
      have j1 : (k : Int) ≤ 16777215 := by omega
      by_cases h128 : 128 ≤ k
      · have j2 : (128 : Int) ≤ k := by omega
        cases f with
        | zero => exact absurd hkf.out (by omega)
        | succ f =>
          go_wp2_with (((with_reducible refine at_append 30 ?_); refine wl_ex rfl (ex_push w.heap.size _ _ _ hown.out _ (by omega) hbl.size _ _ _ _ rfl rfl rfl) ?_; rintro v5 w5 ⟨ho5, hg5, hv5⟩; have hbl5 := (bl_alloc hbl _).trans (grown_below hg5 (bl_alloc hbl _).size (fun g hg => own_block hown.out hg)); replace ho5 := Lib.hid ho5; clear hg5 hv5))
          go_roundw
          case rel =>
            have hp := hpre.out
            rw [pvarGo, if_pos h128] at hp
            refine ⟨k / 128, f, pre ++ [UInt8.ofNat (k % 128 + 128)], by congr 1, by omega, ?_, by omega, ?_, Lib.hid (by rw [List.append_assoc]; exact hp), by simp; omega, hbl5⟩
            · have := hkf.out
              rw [Nat.pow_succ] at this
              exact Nat.div_lt_of_lt_mul (by rw [Nat.mul_comm]; exact this)
            · have hb : k % 128 + 128 < 256 := by omega
              rw [List.map_append, List.map_cons, List.map_nil, bv_of _ hb, List.length_append]
              have e : (((k % 128 + 128 : Nat) : Int)) = (k : Int) % 128 + 128 := by omega
              rw [e]
              exact ho5.out
          case measure => simp [intOf]; omega
      · have j2 : ¬ (128 : Int) ≤ k := by omega
        go_wp2_with (((with_reducible refine at_append 30 ?_); refine wl_ex rfl (ex_push w.heap.size _ _ _ hown.out _ (by omega) hbl.size _ _ _ _ rfl rfl rfl) ?_; rintro v5 w5 ⟨ho5, hg5, hv5⟩; have hbl5 := (bl_alloc hbl _).trans (grown_below hg5 (bl_alloc hbl _).size (fun g hg => own_block hown.out hg)); replace ho5 := Lib.hid ho5; clear hg5 hv5))
        go_ret2
        refine ⟨_, rfl, ?_, hbl5⟩
        have hp := hpre.out
        have e0 : pvarGo f k = [UInt8.ofNat k] := by cases f with | zero => rfl | succ f => rw [pvarGo, if_neg h128]
        rw [e0] at hp
        rw [← hp, List.map_append, List.map_cons, List.map_nil, bv_of _ (by omega), List.length_append]
        exact ho5.out

set_option maxRecDepth 100000 in
set_option maxHeartbeats 2000000 in
theorem penc_7 (n above : Nat) (w : World) (hn : n ≤ 16777215) (ha : above ≤ 255) (hm : above % 128 = 0) :
    Calls Tryd.prog 51 #[.int .i64 (n : Int), .int .i64 7, .int .i64 (above : Int)] w fun e w' => ∃ v, e = .returned (.tuple #[v, .int .i64 0]) ∧ w'.ownsRow w.heap.size 5 1 v (penc 7 above n).length ((penc 7 above n).map bv) ∧ Below w.heap.size w w' := by
  have i1 : (n : Int) ≤ 16777215 := by omega
  have i2 : (above : Int) ≤ 255 := by omega
  have i3 : (((above : Int) % 128) != 0) = false := by rw [bne_eq_false_iff_eq]; omega
  have hr := Lib.hid (right_any 7 (by omega))
  obtain ⟨z, hz⟩ : ∃ z, z = penc 7 above n := ⟨_, rfl⟩
  rw [← hz]
  rw [penc] at hz
  simp only [Nat.reducePow, Nat.reduceSub] at hz
  replace hm := Lib.hid hm
  by_cases hlt : n < 127
  · rw [if_pos hlt] at hz
    replace hz := Lib.hid hz
    have i4 : (n : Int) < 127 := by omega
    go_enter Tryd.func51, Tryd.ntmps51
    go_wp2_with fail
    refine (hr.out _).mono ?_
    rintro e w' ⟨rfl, rfl⟩
    go_wp2_with fail
    go_ret2
    refine ⟨_, rfl, ?_, bl_alloc (Below.refl _ _) _⟩
    rw [hz.out]
    have hb : above + n < 256 := by have := hm.out; omega
    simp only [List.map_cons, List.map_nil, List.length_cons, List.length_nil, Nat.zero_add]
    rw [bv_of _ hb]
    have e : (((above + n : Nat) : Int)) = ((above : Int) + n) % 256 := by omega
    rw [e]
    exact own_new _ _ _
  · rw [if_neg hlt] at hz
    have i4 : ¬ (n : Int) < 127 := by omega
    go_enter Tryd.func51, Tryd.ntmps51
    replace hz := Lib.hid hz
    go_wp2_with fail
    refine (hr.out _).mono ?_
    rintro e w' ⟨rfl, rfl⟩
    go_wp2_with fail
    go_loopw [0, 9] (fun m o wr => ∃ (k f : Nat) (pre : List UInt8), m = .int .i64 (k : Int) ∧ k ≤ 16777215 ∧ k < 128 ^ (f + 1) ∧ f ≤ 4 ∧ wr.ownsRow w.heap.size 5 1 o pre.length (pre.map bv) ∧ Hid (pre ++ pvarGo f k = z) ∧ pre.length + f ≤ 5 ∧ Below w.heap.size w wr) (fun m _ _ => (intOf m).toNat)
    case atStart =>
      have hb : above + 127 < 256 := by have := hm.out; omega
      refine ⟨n - 127, 4, [UInt8.ofNat (above + 127)], by congr 1; omega, by omega, by omega, Nat.le_refl _, ?_, Lib.hid hz.out.symm, by simp, bl_alloc (Below.refl _ _) _⟩
      simp only [List.map_cons, List.map_nil, List.length_cons, List.length_nil, Nat.zero_add]
      rw [bv_of _ hb]
      have e : (((above + 127 : Nat) : Int)) = ((above : Int) + 127) % 256 := by omega
      rw [e]
      exact own_new _ _ _
    case round =>
      obtain ⟨k, f, pre, rfl, hk, hkf, hf4, hown, hpre, hpl, hbl⟩ := hrel
      obtain ⟨va, vc, rfl, hvc⟩ := own_shape hown
      replace hown := Lib.hid hown
      replace hkf := Lib.hid hkf
      have j1 : (k : Int) ≤ 16777215 := by omega
      by_cases h128 : 128 ≤ k
      · have j2 : (128 : Int) ≤ k := by omega
        cases f with
        | zero => exact absurd hkf.out (by omega)
        | succ f =>
          go_wp2_with (((with_reducible refine at_append 30 ?_); refine wl_ex rfl (ex_push w.heap.size _ _ _ hown.out _ (by omega) hbl.size _ _ _ _ rfl rfl rfl) ?_; rintro v5 w5 ⟨ho5, hg5, hv5⟩; have hbl5 := (bl_alloc hbl _).trans (grown_below hg5 (bl_alloc hbl _).size (fun g hg => own_block hown.out hg)); replace ho5 := Lib.hid ho5; clear hg5 hv5))
          go_roundw
          case rel =>
            have hp := hpre.out
            rw [pvarGo, if_pos h128] at hp
            refine ⟨k / 128, f, pre ++ [UInt8.ofNat (k % 128 + 128)], by congr 1, by omega, ?_, by omega, ?_, Lib.hid (by rw [List.append_assoc]; exact hp), by simp; omega, hbl5⟩
            · have := hkf.out
              rw [Nat.pow_succ] at this
              exact Nat.div_lt_of_lt_mul (by rw [Nat.mul_comm]; exact this)
            · have hb : k % 128 + 128 < 256 := by omega
              rw [List.map_append, List.map_cons, List.map_nil, bv_of _ hb, List.length_append]
              have e : (((k % 128 + 128 : Nat) : Int)) = (k : Int) % 128 + 128 := by omega
              rw [e]
              exact ho5.out
          case measure => simp [intOf]; omega
      · have j2 : ¬ (128 : Int) ≤ k := by omega
        go_wp2_with (((with_reducible refine at_append 30 ?_); refine wl_ex rfl (ex_push w.heap.size _ _ _ hown.out _ (by omega) hbl.size _ _ _ _ rfl rfl rfl) ?_; rintro v5 w5 ⟨ho5, hg5, hv5⟩; have hbl5 := (bl_alloc hbl _).trans (grown_below hg5 (bl_alloc hbl _).size (fun g hg => own_block hown.out hg)); replace ho5 := Lib.hid ho5; clear hg5 hv5))
        go_ret2
        refine ⟨_, rfl, ?_, hbl5⟩
        have hp := hpre.out
        have e0 : pvarGo f k = [UInt8.ofNat k] := by cases f with | zero => rfl | succ f => rw [pvarGo, if_neg h128]
        rw [e0] at hp
        rw [← hp, List.map_append, List.map_cons, List.map_nil, bv_of _ (by omega), List.length_append]
        exact ho5.out

theorem penc_any (nb n above : Nat) (w : World) (hnb : 4 ≤ nb ∧ nb ≤ 7) (hn : n ≤ 16777215) (ha : above ≤ 255) (hm : above % 2 ^ nb = 0) :
    Calls Tryd.prog 51 #[.int .i64 (n : Int), .int .i64 (nb : Int), .int .i64 (above : Int)] w fun e w' => ∃ v, e = .returned (.tuple #[v, .int .i64 0]) ∧ w'.ownsRow w.heap.size 5 1 v (penc nb above n).length ((penc nb above n).map bv) ∧ Below w.heap.size w w' := by
  obtain rfl | rfl | rfl | rfl : nb = 4 ∨ nb = 5 ∨ nb = 6 ∨ nb = 7 := by omega
  · exact penc_4 n above w hn ha hm
  · exact penc_5 n above w hn ha hm
  · exact penc_6 n above w hn ha hm
  · exact penc_7 n above w hn ha hm
end Go.Proofs.YtfkpeahelhpelaaDoor

