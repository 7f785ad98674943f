/- Header lists as blocks (layer 9): what Decode comes to, in plain words. -/
import Derived.Test.YtfkpeahelhpelaaDoorItems
namespace Go.Proofs.YtfkpeahelhpelaaDoor
set_option linter.all false
open Go.RowKit

structure BSt where
  out : List FieldS
  all : Nat
  sized : Nat
  count : Nat
  T : Tb
abbrev BRes := (List FieldS × Bool × Nat) × Tb
def bfin (limit : Int) (s : BSt) : BRes := if limit < (s.all : Int) then (([], true, 0), s.T) else ((s.out, false, 0), s.T)
def bput (limit : Int) (s : BSt) (kind : Nat) (f : FieldS) : BSt :=
  { out := if ((s.all + fsz f : Nat) : Int) ≤ limit then s.out ++ [f] else s.out, all := s.all + fsz f, sized := s.sized, count := s.count + 1, T := if kind = 1 then s.T.add f else s.T }
def bsz (s : BSt) (n : Nat) : BSt := { s with sized := s.sized + 1, T := s.T.setMost n }
def bgo (limit : Int) : Nat → List UInt8 → BSt → BRes
  | 0, _, s => bfin limit s
  | k + 1, r, s =>
    if r = [] then bfin limit s
    else if (idec r).2.2 = 0 ∧ (idec r).1.kind = 4 then
      if 0 < s.count ∨ 2 < s.sized + 1 ∨ s.T.bound < (idec r).1.n then (([], false, 3), s.T)
      else bgo limit k (r.drop (idec r).2.1) (bsz s (idec r).1.n)
    else if (idec r).2.2 ≠ 0 ∨ (fieldS s.T.f (idec r).1).2 ≠ 0 then (([], false, 3), s.T)
    else bgo limit k (r.drop (idec r).2.1) (bput limit s (idec r).1.kind (fieldS s.T.f (idec r).1).1)
def bdec (limit : Int) (l : List UInt8) (T : Tb) : BRes := bgo limit l.length l ⟨[], 0, 0, 0, T⟩
section
variable {limit : Int} {k : Nat} {r : List UInt8} {s : BSt} {R : BRes}
theorem bgo_end (h : bgo limit k [] s = R) : R = bfin limit s := by
  cases k with
  | zero => exact h.symm
  | succ k => rw [bgo, if_pos rfl] at h; exact h.symm
theorem bgo_size (h : bgo limit k r s = R) (hk : r.length ≤ k) (hr : r ≠ []) (he : (idec r).2.2 = 0) (h4 : (idec r).1.kind = 4) (h1 : s.count = 0) (h2 : s.sized < 2) (h3 : (idec r).1.n ≤ s.T.bound) : ∃ k', r.length ≤ k' + 1 ∧ bgo limit k' (r.drop (idec r).2.1) (bsz s (idec r).1.n) = R := by
  cases k with
  | zero => exact absurd (List.eq_nil_of_length_eq_zero (Nat.le_zero.1 hk)) hr
  | succ k => rw [bgo, if_neg hr, if_pos ⟨he, h4⟩, if_neg (by omega)] at h; exact ⟨k, hk, h⟩
theorem bgo_nosize (h : bgo limit k r s = R) (hk : r.length ≤ k) (hr : r ≠ []) (he : (idec r).2.2 = 0) (h4 : (idec r).1.kind = 4) (h1 : 0 < s.count ∨ 2 < s.sized + 1 ∨ s.T.bound < (idec r).1.n) : R = (([], false, 3), s.T) := by
  cases k with
  | zero => exact absurd (List.eq_nil_of_length_eq_zero (Nat.le_zero.1 hk)) hr
  | succ k => rw [bgo, if_neg hr, if_pos ⟨he, h4⟩, if_pos h1] at h; exact h.symm
theorem bgo_bad (h : bgo limit k r s = R) (hk : r.length ≤ k) (hr : r ≠ []) (h4 : ¬ ((idec r).2.2 = 0 ∧ (idec r).1.kind = 4)) (h1 : (idec r).2.2 ≠ 0 ∨ (fieldS s.T.f (idec r).1).2 ≠ 0) : R = (([], false, 3), s.T) := by
  cases k with
  | zero => exact absurd (List.eq_nil_of_length_eq_zero (Nat.le_zero.1 hk)) hr
  | succ k => rw [bgo, if_neg hr, if_neg h4, if_pos h1] at h; exact h.symm
theorem bgo_put (h : bgo limit k r s = R) (hk : r.length ≤ k) (hr : r ≠ []) (he : (idec r).2.2 = 0) (h4 : (idec r).1.kind ≠ 4) (h1 : (fieldS s.T.f (idec r).1).2 = 0) : ∃ k', r.length ≤ k' + 1 ∧ bgo limit k' (r.drop (idec r).2.1) (bput limit s (idec r).1.kind (fieldS s.T.f (idec r).1).1) = R := by
  cases k with
  | zero => exact absurd (List.eq_nil_of_length_eq_zero (Nat.le_zero.1 hk)) hr
  | succ k => rw [bgo, if_neg hr, if_neg (fun h => h4 h.2), if_neg (by simp [he, h1])] at h; exact ⟨k, hk, h⟩
end
theorem if_bad {e : Nat} {Z X : ItemS} {a : Nat} (h : (if e ≠ 0 then (Z, 0, e) else (X, a, 0)).2.2 ≠ 0) : (if e ≠ 0 then (Z, 0, e) else (X, a, 0)).1 = Z := by
  by_cases h0 : e = 0
  · rw [if_neg (fun h => h h0)] at h
    exact absurd rfl h
  · rw [if_pos h0]
theorem idec_bad (l : List UInt8) (h : (idec l).2.2 ≠ 0) : (idec l).1 = ⟨0, 0, [], []⟩ := by
  cases l with
  | nil => rfl
  | cons c r =>
    rw [idec] at h ⊢
    exact if_bad h
/-! The sizes of fields. -/
theorem mem_sumF {l : List FieldS} {f : FieldS} (h : f ∈ l) : fsz f ≤ sumF l := by
  induction l with
  | nil => cases h
  | cons x r ih =>
    rw [sumF_cons]
    rcases List.mem_cons.1 h with rfl | h
    · omega
    · have := ih h; omega
theorem tget_sz (F : List FieldS) (i : Int) : fsz (tget F i).1 ≤ max 32 (sumF F) := by
  rw [tget]
  split
  · rename_i h
    have hlt : F.length - i.toNat < F.length := by omega
    have := mem_sumF (List.getElem_mem hlt)
    simp only [List.getD_eq_getElem?_getD, List.getElem?_eq_getElem hlt, Option.getD_some]
    omega
  · have h1 : fsz noF = 32 := rfl
    rw [h1]
    exact Nat.le_max_left _ _
theorem static_sz : ∀ k : Fin 61, (nm k.val).size ≤ 32 ∧ (vl k.val).size ≤ 32 := by decide +kernel
theorem get_sz (i : Int) : (getN i).size ≤ 32 ∧ (getV i).size ≤ 32 := by
  unfold getN getV
  split
  · exact static_sz ⟨i.toNat - 1, by omega⟩
  · exact ⟨Nat.zero_le _, Nat.zero_le _⟩
theorem field_sz {F : List FieldS} {x : ItemS} (hF : sumF F ≤ 4096) (h1 : x.name.length ≤ 65536) (h2 : x.value.length ≤ 65536) : fsz (fieldS F x).1 ≤ 131104 := by
  have hs : ∀ l : List UInt8, (strB l).size = l.length := fun l => by simp [strB, ByteArray.size]
  have hn : fsz (namedS F x.n).1 ≤ 4096 := by
    rw [namedS]
    split
    · have := get_sz x.n
      simp only [fsz]
      omega
    · have := tget_sz F (x.n - 61)
      omega
  rw [fieldS]
  split
  · simp only [fsz, hs]; omega
  · split
    · omega
    · simp only [fsz, hs] at hn ⊢; omega
end Go.Proofs.YtfkpeahelhpelaaDoor
