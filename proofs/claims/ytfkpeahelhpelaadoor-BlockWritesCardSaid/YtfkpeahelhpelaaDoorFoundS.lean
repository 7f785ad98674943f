/- What is found of a field, plainly (layer 6); for seats without the static laws. -/
import Derived.Test.YtfkpeahelhpelaaDoorStatic
namespace Go.Proofs.YtfkpeahelhpelaaDoor
set_option linter.all false
open Go.RowKit

theorem find_at {n v : ByteArray} {a : Nat} {b : Bool} (h : findS n v = (a, b)) (w : World) : Calls Tryd.prog 35 #[.agg #[.string n, .string v]] w fun e w' => e = .returned (.tuple #[.int .i64 a, .bool b]) ∧ Below w.heap.size w w' := by
  have := find_any n v w
  rw [h] at this
  exact this
theorem get_at {i : Int} (hi : -9223372036854775808 ≤ i ∧ i ≤ 9223372036854775807) {n v : ByteArray} {c : Int} (h1 : getN i = n) (h2 : getV i = v) (h3 : getE i = c) (w : World) :
    Calls Tryd.prog 65 #[.int .i64 i] w fun e w' => e = .returned (.tuple #[.agg #[.string n, .string v], .int .i64 c]) ∧ Below w.heap.size w w' := by
  have := get_any i w hi
  rw [h1, h2, h3] at this
  exact this
theorem drop_end : fld.drop 61 = [] := List.drop_of_length_le (by rw [fld_length]; omega)
/-- What is found has its name, and its value, if that is told. -/
theorem findGo_ok (n v : ByteArray) : ∀ (d i c : Nat), i + d = 61 → c ≤ i → (c ≠ 0 → nm (c - 1) = n) →
    (findGo n v i c (fld.drop i)).1 ≤ 61 ∧ ((findGo n v i c (fld.drop i)).1 ≠ 0 → nm ((findGo n v i c (fld.drop i)).1 - 1) = n) ∧
    ((findGo n v i c (fld.drop i)).2 = true → (findGo n v i c (fld.drop i)).1 ≠ 0 ∧ vl ((findGo n v i c (fld.drop i)).1 - 1) = v) ∧ c ≤ (findGo n v i c (fld.drop i)).1 := by
  intro d
  induction d with
  | zero =>
    intro i c hi hc hn
    obtain rfl : i = 61 := by omega
    rw [drop_end]
    exact ⟨hc, hn, fun h => (by cases h), Nat.le_refl _⟩
  | succ d ih =>
    intro i c hi hc hn
    rw [drop_fld i (by omega), findGo]
    by_cases h : nm i = n ∧ vl i = v
    · rw [if_pos h]
      exact ⟨by simp; omega, fun _ => h.1, fun _ => ⟨by simp, h.2⟩, by simp; omega⟩
    · rw [if_neg h]
      by_cases h2 : c = 0 ∧ nm i = n
      · rw [if_pos h2]
        have := ih (i + 1) (i + 1) (by omega) (by omega) (fun _ => h2.2)
        exact ⟨this.1, this.2.1, this.2.2.1, by omega⟩
      · rw [if_neg h2]
        exact ih (i + 1) c (by omega) (by omega) hn
theorem findS_ok (n v : ByteArray) : (findS n v).1 ≤ 61 ∧ ((findS n v).1 ≠ 0 → nm ((findS n v).1 - 1) = n) ∧ ((findS n v).2 = true → (findS n v).1 ≠ 0 ∧ vl ((findS n v).1 - 1) = v) := by
  have := findGo_ok n v 61 0 0 rfl (Nat.le_refl _) (fun h => absurd rfl h)
  rw [List.drop_zero] at this
  exact ⟨this.1, this.2.1, this.2.2.1⟩
theorem nm_short (i : Nat) (hi : i < 61) : (nm i).size ≤ 100 := by
  have h : ∀ i : Fin 61, (nm i.val).size ≤ 100 := by decide +kernel
  exact h ⟨i, hi⟩
theorem vl_short (i : Nat) (hi : i < 61) : (vl i).size ≤ 100 := by
  have h : ∀ i : Fin 61, (vl i.val).size ≤ 100 := by decide +kernel
  exact h ⟨i, hi⟩
end Go.Proofs.YtfkpeahelhpelaaDoor
