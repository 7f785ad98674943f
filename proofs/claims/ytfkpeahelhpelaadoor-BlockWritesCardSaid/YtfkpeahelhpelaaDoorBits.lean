/- The bits of bytes, one by one (layer 4): the iterator's contract. -/
import Derived.Test.YtfkpeahelhpelaaDoorRange
namespace Go.Proofs.YtfkpeahelhpelaaDoor
set_option linter.all false
open Go.RowKit Go.Shelf
attribute [local go_sem] Oper.semAt_some

/-- The lowest i + 1 bits of a byte, the highest first. -/
def lowBits (c : Nat) : Nat → List Bool
  | 0 => []
  | i + 1 => (c / 2 ^ i % 2 == 1) :: lowBits c i
def bitsOf : List UInt8 → List Bool
  | [] => []
  | c :: r => lowBits c.toNat 8 ++ bitsOf r
def bitI (b : Bool) : Int := if b then 1 else 0
def bitV (b : Bool) : Value := .int .i64 (bitI b)

theorem bit_val (c j : Nat) (hc : c < 256) (hj : j < 8) : wrap64 (bits .and .u8 ((c : Int) / 2 ^ j) 1) = if (c / 2 ^ j % 2 == 1) then 1 else 0 := by
  have h : ∀ c : Fin 256, ∀ j : Fin 8, wrap64 (bits .and .u8 (((c.val : Nat) : Int) / 2 ^ j.val) 1) = if (c.val / 2 ^ j.val % 2 == 1) then 1 else 0 := by decide +kernel
  exact h ⟨c, hc⟩ ⟨j, hj⟩
theorem bits_any (A : Option Addr) (n c : Nat) (w : World) : Calls Tryd.prog 83 #[.slice A n c] w fun e w' => e = .returned (.func (.func 85) #[] #[.pointer (some ⟨w.heap.size, 0, none⟩)]) ∧ w' = w.alloc (.cells #[.slice A n c] 30) := by
  go_enter Tryd.func83, Tryd.ntmps83
  go_wp2
  go_ret
  exact ⟨rfl, rfl⟩
theorem bitsOf_drop (l : List UInt8) (k : Nat) (hk : k < l.length) : bitsOf (l.drop k) = lowBits (l.getD k 0).toNat 8 ++ bitsOf (l.drop (k + 1)) := by
  rw [List.drop_eq_getElem_cons hk, bitsOf]
  simp [List.getD_eq_getElem?_getD, List.getElem?_eq_getElem hk]

set_option maxHeartbeats 1000000 in
theorem bits_it (m L B c : Nat) (A : Option Addr) (l : List UInt8) (J : List Bool → World → Prop) (Jx : World → Prop) (P : Nat → Prop) (hl : l.length ≤ 140737488351232)
    (hbox : ∀ r W, J r W → W.cell? ⟨B, 0, none⟩ = some (.slice A l.length c)) (hread : ∀ r W, J r W → Bytes W P A l)
    (hY : ∀ b r W, J (b :: r) W → YieldAt Fence.wide m Tryd.prog L #[bitV b] W fun e W' => (e = .returned (.bool true) ∧ J r W') ∨ (e = .returned (.bool false) ∧ Jx W'))
    (W : World) (h0 : J (bitsOf l) W) :
    CallsIn Fence.wide (m + 1) Tryd.prog 85 #[.func (.yield L) #[] #[], .pointer (some ⟨B, 0, none⟩)] W fun e W' => (∃ v, e = .returned v) ∧ (J [] W' ∨ Jx W') := by
  refine callsIn_of_wp Tryd.func85 rfl trivial ?_ rfl
  simp only [Tryd.ntmps85, List.size_toArray, List.length_cons, List.length_nil, Nat.reduceAdd, Nat.reduceSub, Array.replicate_succ, Array.replicate_zero, List.push_toArray, List.append_toArray, List.nil_append, List.cons_append]
  have hb0 := hbox _ _ h0
  gi_wp2
  gi_loopw [8] (fun i wr => ∃ k : Nat, k ≤ l.length ∧ i = .int .i64 k ∧ J (bitsOf (l.drop k)) wr) (fun i _ => l.length - (intOf i).toNat)
  case atStart => exact ⟨0, by omega, rfl, h0⟩
  case round =>
    obtain ⟨k, hk, rfl, hJ⟩ := hrel
    clear hb0
    by_cases hlt : k < l.length
    · have hlt' : (k : Int) < l.length := by omega
      have hk0 : (0 : Int) ≤ k := by omega
      obtain ⟨b, off, rfl, -, hcell⟩ := hread _ _ hJ (by omega)
      have hq := hcell k hlt
      rw [bitsOf_drop l k hlt] at hJ
      obtain ⟨ck, hck⟩ : ∃ ck, l.getD k 0 = ck := ⟨_, rfl⟩
      rw [hck] at hq hJ
      have h256 : ck.toNat < 256 := ck.toNat_lt
      clear hcell hck
      gi_wp2
      obtain ⟨wo, rfl⟩ : ∃ wo : World, wo = wr := ⟨_, rfl⟩
      obtain ⟨rest, hrest⟩ : ∃ rest, bitsOf (l.drop (k + 1)) = rest := ⟨_, rfl⟩
      rw [hrest] at hJ
      have HR := Lib.hid hrest
      clear hrest
      gi_loopw [5] (fun i wr => ∃ j : Nat, j ≤ 8 ∧ i = .int .i64 ((j : Int) - 1) ∧ J (lowBits ck.toNat j ++ rest) wr) (fun i _ => ((intOf i) + 1).toNat)
      case atStart => exact ⟨8, by omega, rfl, hJ⟩
      case round =>
        obtain ⟨j, hj, rfl, hJ2⟩ := hrel
        clear hq hJ
        cases j with
        | zero =>
          gi_wp2
          go_roundw
          case rel => exact ⟨k + 1, by omega, by go_num, by rw [HR.out]; exact hJ2⟩
          case measure => simp [intOf]; omega
        | succ j =>
          have hj0 : (0 : Int) ≤ j := by omega
          have hj1 : (j : Int) ≤ 7 := by omega
          rw [show ((j + 1 : Nat) : Int) - 1 = (j : Int) by omega]
          obtain ⟨fn, tmps, assign, body, hy, hR⟩ := hY _ _ _ hJ2
          rw [bitV, bitI, ← bit_val ck.toNat j h256 (by omega)] at hy
          gi_wp2
          refine hR.mono ?_
          rintro e W3 (⟨rfl, hJ3⟩ | ⟨rfl, hJx⟩)
          · gi_wp2
            go_roundw
            case rel => exact ⟨j, by omega, rfl, hJ3⟩
            case measure => simp [intOf]
          · gi_wp2
            refine bodyPost_ret (results_none rfl _ _ _) rfl ?_
            exact ⟨⟨_, rfl⟩, .inr hJx⟩
    · obtain rfl : k = l.length := by omega
      rw [List.drop_length, bitsOf] at hJ
      gi_wp2
      go_end0
      exact ⟨⟨_, rfl⟩, .inl hJ⟩
end Go.Proofs.YtfkpeahelhpelaaDoor
