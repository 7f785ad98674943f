/- What was written is read as it was (layers 3, 5, 8), plainly: numbers, texts, items. -/
import Derived.Test.YtfkpeahelhpelaaDoorHback
import Derived.Test.YtfkpeahelhpelaaDoorBenc
import Derived.Test.YtfkpeahelhpelaaDoorRidec
import Derived.Test.YtfkpeahelhpelaaDoorBspec
namespace Go.Proofs.YtfkpeahelhpelaaDoor
set_option linter.all false
open Go.RowKit

theorem byte_nat (k : Nat) (h : k < 256) : (UInt8.ofNat k).toNat = k := by rw [UInt8.toNat_ofNat']; exact Nat.mod_eq_of_lt h
theorem pow7 (at_ : Nat) (h : 1 ≤ at_) : 2 ^ (7 * (at_ + 1 - 1)) = 2 ^ (7 * (at_ - 1)) * 128 := by
  rw [show 7 * (at_ + 1 - 1) = 7 * (at_ - 1) + 7 by omega, Nat.pow_add]
theorem pvar_back (r : List UInt8) : ∀ (g f h m n at_ : Nat), m < 128 ^ (g + 1) → g ≤ f → g < h → 1 ≤ at_ → n + m * 2 ^ (7 * (at_ - 1)) ≤ 16777215 →
    pdecGo h (pvarGo f m ++ r) n at_ = (n + m * 2 ^ (7 * (at_ - 1)), at_ + (pvarGo f m).length, 0) := by
  intro g
  induction g with
  | zero =>
    intro f h m n at_ hm hf hh ha hle
    obtain ⟨h, rfl⟩ : ∃ k, h = k + 1 := ⟨h - 1, by omega⟩
    have e : pvarGo f m = [UInt8.ofNat m] := by cases f with | zero => rfl | succ f => rw [pvarGo, if_neg (by omega)]
    have hb := byte_nat m (by omega)
    have hm7 : m % 128 = m := by omega
    rw [e, List.singleton_append, pdecGo, hb, hm7, if_neg (by omega), if_neg (by omega)]
    rfl
  | succ g ih =>
    intro f h m n at_ hm hf hh ha hle
    obtain ⟨h, rfl⟩ : ∃ k, h = k + 1 := ⟨h - 1, by omega⟩
    by_cases h128 : 128 ≤ m
    · obtain ⟨f, rfl⟩ : ∃ k, f = k + 1 := ⟨f - 1, by omega⟩
      have hb := byte_nat (m % 128 + 128) (by omega)
      have hm7 : (m % 128 + 128) % 128 = m % 128 := by omega
      have hP : m * 2 ^ (7 * (at_ - 1)) = (m % 128) * 2 ^ (7 * (at_ - 1)) + (m / 128) * (2 ^ (7 * (at_ - 1)) * 128) := by
        generalize 2 ^ (7 * (at_ - 1)) = P
        have h1 : m = 128 * (m / 128) + m % 128 := (Nat.div_add_mod m 128).symm
        have h2 : (128 * (m / 128) + m % 128) * P = (m % 128) * P + (m / 128) * (P * 128) := by
          rw [Nat.add_mul, Nat.add_comm, Nat.mul_comm 128 (m / 128), Nat.mul_assoc, Nat.mul_comm 128 P]
        rw [← h1] at h2
        exact h2
      rw [pvarGo, if_pos h128, List.cons_append, pdecGo, hb, hm7, if_neg (by omega), if_pos (by omega)]
      have h3 := ih f h (m / 128) (n + m % 128 * 2 ^ (7 * (at_ - 1))) (at_ + 1) (by rw [Nat.pow_succ] at hm; exact Nat.div_lt_of_lt_mul (by rw [Nat.mul_comm]; exact hm)) (by omega) (by omega) (by omega) (by rw [pow7 at_ ha]; omega)
      rw [h3, pow7 at_ ha, List.length_cons, hP, Nat.add_assoc, Nat.add_assoc, Nat.add_comm 1 _]
    · have e : pvarGo f m = [UInt8.ofNat m] := by cases f with | zero => rfl | succ f => rw [pvarGo, if_neg h128]
      have hb := byte_nat m (by omega)
      have hm7 : m % 128 = m := by omega
      rw [e, List.singleton_append, pdecGo, hb, hm7, if_neg (by omega), if_neg h128]
      rfl
theorem penc_back (nb above n : Nat) (r : List UInt8) (hnb : 4 ≤ nb ∧ nb ≤ 7) (ha : above + 2 ^ nb ≤ 256) (hm : above % 2 ^ nb = 0) (hn : n ≤ 16777215) : pdec nb (penc nb above n ++ r) = (n, (penc nb above n).length, 0) := by
  have hM3 : 2 ^ 4 ≤ 2 ^ nb := Nat.pow_le_pow_right (by omega) hnb.1
  rw [penc]
  by_cases hlt : n < 2 ^ nb - 1
  · have hb := byte_nat (above + n) (by omega)
    have hmod : (above + n) % 2 ^ nb = n := by rw [Nat.add_mod, hm, Nat.zero_add, Nat.mod_mod]; exact Nat.mod_eq_of_lt (by omega)
    rw [if_pos hlt, List.singleton_append, pdec, hb, hmod, if_pos hlt]
    rfl
  · have hb := byte_nat (above + (2 ^ nb - 1)) (by omega)
    have hmod : (above + (2 ^ nb - 1)) % 2 ^ nb = 2 ^ nb - 1 := by rw [Nat.add_mod, hm, Nat.zero_add, Nat.mod_mod]; exact Nat.mod_eq_of_lt (by omega)
    rw [if_neg hlt, List.cons_append, pdec, hb, hmod, if_neg (by omega), pvar_back r 3 4 4 (n - (2 ^ nb - 1)) (2 ^ nb - 1) 1 (by omega) (by omega) (by omega) (by omega) (by simp; omega)]
    simp only [Nat.sub_self, Nat.mul_zero, Nat.pow_zero, Nat.mul_one, List.length_cons]
    rw [Prod.mk.injEq, Prod.mk.injEq]
    omega
/-- The first byte of a number. -/
theorem penc_head (nb above n : Nat) (r : List UInt8) (ha : above + 2 ^ nb ≤ 256) (h2 : 1 ≤ 2 ^ nb) : ∃ c t, penc nb above n ++ r = c :: t ∧ above ≤ c.toNat ∧ c.toNat < above + 2 ^ nb := by
  rw [penc]
  split
  · exact ⟨_, _, rfl, by rw [byte_nat _ (by omega)]; omega, by rw [byte_nat _ (by omega)]; omega⟩
  · exact ⟨_, _, rfl, by rw [byte_nat _ (by omega)]; omega, by rw [byte_nat _ (by omega)]; omega⟩
/-- A text, as it is or squeezed. -/
theorem lenc_back (s : ByteArray) (z : Bool) (r : List UInt8) (hs : s.size ≤ 65536) : ltd (lenc s z ++ r) 65536 = (sb s, (lenc s z).length, 0) := by
  have hlb := lbody_len s z hs
  have hsb := sb_len s
  have hp := penc_back 7 (if z then 128 else 0) (lbody s z).length (lbody s z ++ r) (by omega) (by cases z <;> decide) (by cases z <;> decide) (by omega)
  obtain ⟨c, t, hct, hc1, hc2⟩ := penc_head 7 (if z then 128 else 0) (lbody s z).length (lbody s z ++ r) (by cases z <;> decide) (by decide)
  have hd : (penc 7 (if z then 128 else 0) (lbody s z).length ++ (lbody s z ++ r)).getD 0 0 = c := by rw [hct]; rfl
  have hdrop : ((penc 7 (if z then 128 else 0) (lbody s z).length ++ (lbody s z ++ r)).drop (penc 7 (if z then 128 else 0) (lbody s z).length).length).take (lbody s z).length = lbody s z := by
    rw [List.drop_left, List.take_left]
  rw [lenc, List.append_assoc, ltd, hp, hd]
  simp only [ne_eq, not_true_eq_false, if_false]
  rw [if_neg (by simp only [List.length_append]; omega), hdrop, List.length_append]
  cases z with
  | false =>
    simp only [Bool.false_eq_true, if_false] at hc1 hc2 hlb ⊢
    have e : lbody s false = sb s := rfl
    rw [if_pos (by omega), if_neg (by rw [e, hsb]; omega), e]
  | true =>
    simp only [if_true] at hc1 hc2 ⊢
    have e : lbody s true = henc (sb s) := rfl
    have hh := hdec_henc 65536 (sb s) (by rw [hsb]; omega)
    rw [if_neg (by omega), e, hh]
    rfl
theorem short_back (s : ByteArray) (r : List UInt8) (hs : s.size ≤ 65536) : ltd (shenc s ++ r) 65536 = (sb s, (shenc s).length, 0) := by
  rw [shenc]
  split
  · exact lenc_back s false r hs
  · exact lenc_back s true r hs
theorem strB_sb (s : ByteArray) : strB (sb s) = s := by
  rw [strB, sb]
end Go.Proofs.YtfkpeahelhpelaaDoor
