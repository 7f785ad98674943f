/- Texts as bits, and bits as bytes (layer 4): plain. -/
import Derived.Test.YtfkpeahelhpelaaDoorHdec
namespace Go.Proofs.YtfkpeahelhpelaaDoor
set_option linter.all false
open Go.RowKit

def packG : List Bool → List UInt8 × List Bool
  | a :: b :: c :: d :: e :: f :: g :: h :: r => (UInt8.ofNat (valP [a, b, c, d, e, f, g, h]) :: (packG r).1, (packG r).2)
  | p => ([], p)
theorem packG_short (p : List Bool) (h : p.length < 8) : packG p = ([], p) := by
  match p, h with
  | [], _ => rfl
  | [_], _ => rfl
  | [_, _], _ => rfl
  | [_, _, _], _ => rfl
  | [_, _, _, _], _ => rfl
  | [_, _, _, _, _], _ => rfl
  | [_, _, _, _, _, _], _ => rfl
  | [_, _, _, _, _, _, _], _ => rfl
  | _ :: _ :: _ :: _ :: _ :: _ :: _ :: _ :: _, h => simp at h; omega
theorem packG_long (p : List Bool) (h : 8 ≤ p.length) : packG p = (UInt8.ofNat (valP (p.take 8)) :: (packG (p.drop 8)).1, (packG (p.drop 8)).2) := by
  match p, h with
  | _ :: _ :: _ :: _ :: _ :: _ :: _ :: _ :: r, _ => rfl
  | [], h | [_], h | [_, _], h | [_, _, _], h | [_, _, _, _], h | [_, _, _, _, _], h | [_, _, _, _, _, _], h | [_, _, _, _, _, _, _], h => simp at h
theorem packG_rest : ∀ (n : Nat) (p : List Bool), p.length ≤ n → (packG p).2.length < 8 := by
  intro n
  induction n with
  | zero => intro p h; rw [packG_short p (by omega)]; simp only; omega
  | succ n ih =>
    intro p h
    by_cases h8 : p.length < 8
    · rw [packG_short p h8]; exact h8
    · rw [packG_long p (by omega)]
      exact ih _ (by rw [List.length_drop]; omega)
theorem packG_app : ∀ (n : Nat) (p c : List Bool), p.length ≤ n → packG (p ++ c) = ((packG p).1 ++ (packG ((packG p).2 ++ c)).1, (packG ((packG p).2 ++ c)).2) := by
  intro n
  induction n with
  | zero => intro p c h; rw [packG_short p (by omega)]; rfl
  | succ n ih =>
    intro p c h
    by_cases h8 : p.length < 8
    · rw [packG_short p h8]; rfl
    · have hp : packG (p ++ c) = (UInt8.ofNat (valP (p.take 8)) :: (packG (p.drop 8 ++ c)).1, (packG (p.drop 8 ++ c)).2) := by
        rw [packG_long (p ++ c) (by simp; omega), List.take_append_of_le_length (by omega), List.drop_append_of_le_length (by omega)]
      rw [hp, ih (p.drop 8) c (by rw [List.length_drop]; omega), packG_long p (by omega)]
      rfl
theorem valP_append (p q : List Bool) : valP (p ++ q) = valP p * 2 ^ q.length + valP q := by
  induction q generalizing p with
  | nil => simp [valP]
  | cons b q ih =>
    rw [show p ++ b :: q = (p ++ [b]) ++ q by simp, ih, show b :: q = [b] ++ q from rfl, ih [b]]
    have h1 : valP (p ++ [b]) = 2 * valP p + (if b then 1 else 0) := by simp [valP]
    have h2 : valP [b] = (if b then 1 else 0) := by cases b <;> rfl
    rw [h1, h2, List.length_append, List.length_singleton, Nat.add_comm 1 q.length, Nat.pow_succ, Nat.add_mul]
    rw [show 2 * valP p * 2 ^ q.length = valP p * (2 ^ q.length * 2) by rw [Nat.mul_comm 2, Nat.mul_assoc, Nat.mul_comm 2]]
    omega
theorem valP_lt (p : List Bool) : valP p < 2 ^ p.length := by
  induction p with
  | nil => decide
  | cons b p ih =>
    rw [show b :: p = [b] ++ p from rfl, valP_append, List.length_append, List.length_singleton, Nat.add_comm 1 p.length, Nat.pow_succ]
    have : valP [b] ≤ 1 := by cases b <;> decide
    have h2 : valP [b] * 2 ^ p.length ≤ 1 * 2 ^ p.length := Nat.mul_le_mul_right _ this
    omega
theorem lowBits_length (c : Nat) : ∀ n, (lowBits c n).length = n
  | 0 => rfl
  | n + 1 => by simp [lowBits, lowBits_length c n]
theorem valP_lowBits (c : Nat) : ∀ n, valP (lowBits c n) = c % 2 ^ n
  | 0 => by simp [lowBits, valP, Nat.mod_one]
  | n + 1 => by
    rw [lowBits, show (c / 2 ^ n % 2 == 1) :: lowBits c n = [c / 2 ^ n % 2 == 1] ++ lowBits c n from rfl, valP_append, lowBits_length, valP_lowBits c n]
    have h : valP [c / 2 ^ n % 2 == 1] = c / 2 ^ n % 2 := by
      rcases Nat.mod_two_eq_zero_or_one (c / 2 ^ n) with h | h <;> rw [h] <;> rfl
    rw [h, Nat.pow_succ, Nat.mod_mul, Nat.mul_comm]
    omega
theorem valP_ones (n : Nat) : valP (List.replicate n true) = 2 ^ n - 1 := by
  induction n with
  | zero => rfl
  | succ n ih =>
    rw [List.replicate_succ, show true :: List.replicate n true = [true] ++ List.replicate n true from rfl, valP_append, ih, List.length_replicate, Nat.pow_succ]
    have h1 : valP [true] = 1 := rfl
    have := Nat.one_le_two_pow (n := n)
    rw [h1]
    omega
theorem valP_split (p : List Bool) (k : Nat) : valP p / 2 ^ (p.length - k) = valP (p.take k) ∧ valP p % 2 ^ (p.length - k) = valP (p.drop k) := by
  have h := valP_append (p.take k) (p.drop k)
  have hl := valP_lt (p.drop k)
  rw [List.take_append_drop] at h
  rw [List.length_drop] at h hl
  rw [h]
  refine ⟨?_, ?_⟩
  · rw [Nat.mul_comm, Nat.mul_add_div (Nat.two_pow_pos _), Nat.div_eq_of_lt hl]; rfl
  · rw [Nat.mul_comm, Nat.mul_add_mod, Nat.mod_eq_of_lt hl]
/-- The bits of a text. -/
def hbits (l : List UInt8) : List Bool := l.flatMap fun c => lowBits (codeAt c.toNat) (lenAt c.toNat)
def henc (l : List UInt8) : List UInt8 :=
  if (packG (hbits l)).2 = [] then (packG (hbits l)).1 else (packG (hbits l)).1 ++ [UInt8.ofNat (valP ((packG (hbits l)).2 ++ List.replicate (8 - (packG (hbits l)).2.length) true))]
theorem code_lt : ∀ c : Fin 257, codeAt c.val < 2 ^ lenAt c.val ∧ lenAt c.val ≤ 30 ∧ 5 ≤ lenAt c.val := by decide +kernel
theorem hbits_append (a b : List UInt8) : hbits (a ++ b) = hbits a ++ hbits b := by simp [hbits]
theorem hbits_one (c : UInt8) : hbits [c] = lowBits (codeAt c.toNat) (lenAt c.toNat) := by simp [hbits]
theorem packG_len : ∀ (n : Nat) (p : List Bool), p.length ≤ n → 8 * (packG p).1.length + (packG p).2.length = p.length := by
  intro n
  induction n with
  | zero => intro p h; rw [packG_short p (by omega)]; simp
  | succ n ih =>
    intro p h
    by_cases h8 : p.length < 8
    · rw [packG_short p h8]; simp
    · rw [packG_long p (by omega)]
      have := ih (p.drop 8) (by rw [List.length_drop]; omega)
      rw [List.length_drop] at this
      simp only [List.length_cons]
      omega
theorem hbits_len (l : List UInt8) : (hbits l).length ≤ 30 * l.length := by
  induction l with
  | nil => simp [hbits]
  | cons c r ih =>
    have h := (code_lt ⟨c.toNat, by have := c.toNat_lt; omega⟩).2.1
    rw [show c :: r = [c] ++ r from rfl, hbits_append, hbits_one, List.length_append, lowBits_length, List.length_append, List.length_singleton]
    simp only at h
    omega
theorem henc_len (l : List UInt8) : (henc l).length ≤ 4 * l.length + 1 := by
  have h1 := hbits_len l
  have h2 := packG_len _ (hbits l) (Nat.le_refl _)
  rw [henc]
  split
  · omega
  · simp only [List.length_append, List.length_singleton]; omega
end Go.Proofs.YtfkpeahelhpelaaDoor
