/- A decoder that reads, beside other blocks that stay (layer 9). -/
import Derived.Test.YtfkpeahelhpelaaDoorBdec
import Derived.Test.YtfkpeahelhpelaaDoorSame
import Derived.Test.YtfkpeahelhpelaaDoorBenc
namespace Go.Proofs.YtfkpeahelhpelaaDoor
set_option linter.all false
open Go.RowKit

theorem dread_wide (B d t : Nat) (v0 : Value) (T0 : Tb) (limit : Int) (A : Option Addr) (l : List UInt8) (c : Nat) (w : World) (h : Dec w d t v0 T0) (hB : ∀ k, decS d t v0 k → B ≤ k) (hw : B ≤ w.heap.size) (h2 : 2 ≤ B) (hb : Bytes w (fun k => ¬ decS d t v0 k) A l)
    (hc : l.length ≤ c) (hcm : c ≤ 9223372036854775807) (hl : l.length ≤ 4000000000) (hL : LaidLens w) (hS : LaidShapes w) (K : Nat → Prop) (hK : ∀ k, K k → k < w.heap.size ∧ ¬ decS d t v0 k) (R : BRes) (hR : bdec limit l T0 = R) :
    Calls Tryd.prog 10 #[.pointer (some ⟨d, 0, none⟩), .slice A l.length c, .int .i64 limit] w fun e w' => ∃ v vo, e = .returned (.tuple #[vo, .bool R.1.2.1, .int .i64 (R.1.2.2 : Int)]) ∧
      w'.ownsRow w.heap.size 46 2 vo R.1.1.length (fcells R.1.1) ∧ Dec w' d t v R.2 ∧ (∀ k, decS d t v k → B ≤ k) ∧ Below B w w' ∧ (∀ k, K k ∨ vo.ownBlock = some k → k < w'.heap.size ∧ ¬ decS d t v k) ∧ ∀ k, K k → w'.heap[k]? = w.heap[k]? := by
  refine (bdec_any d t v0 T0 limit A l c w h (fun k hk => Nat.le_trans h2 (hB k hk)) hb hc hcm hl hL hS).mono ?_
  rw [hR]
  rintro e w' ⟨v, vo, rfl, ho, hD, hM, hv, hx⟩
  have hout : ∀ k, K k → ¬ decS d t v k := by
    intro k hk hs
    obtain ⟨h3, h4⟩ := hK k hk
    rcases hs with rfl | rfl | hs
    · exact h4 (.inl rfl)
    · exact h4 (.inr (.inl rfl))
    · rcases hv k hs with h5 | h5
      · exact h4 (.inr (.inr h5))
      · omega
  refine ⟨v, vo, rfl, ho, hD, ?_, ⟨hM.os, hM.tape, hM.output, hM.size, fun k hk => hM.block k (by omega) (fun hs => by have := hB k hs; omega)⟩, ?_, fun k hk => hM.block k (hK k hk).1 (hK k hk).2⟩
  · rintro k (rfl | rfl | hs)
    · exact hB _ (.inl rfl)
    · exact hB _ (.inr (.inl rfl))
    · rcases hv k hs with h5 | h5
      · exact hB _ (.inr (.inr h5))
      · omega
  · rintro k (hk | hk)
    · exact ⟨Nat.lt_of_lt_of_le (hK k hk).1 hM.size, hout k hk⟩
    · have hkb := own_block ho hk
      refine ⟨?_, ?_⟩
      · rcases ho.2 with ⟨e, -⟩ | ⟨g, cap, cur, e, -, hg, -⟩
        · rw [e] at hk; cases hk
        · rw [e] at hk; cases hk; exact blk_lt hg
      · rintro (rfl | rfl | hs)
        · have := h.lt (.inl rfl); omega
        · have := h.lt (.inr (.inl rfl)); omega
        · exact hx k hs hk
theorem dread_any (B d t : Nat) (v0 : Value) (T0 : Tb) (limit : Int) (A : Option Addr) (l : List UInt8) (c : Nat) (w : World) (h : Dec w d t v0 T0) (hB : ∀ k, decS d t v0 k → B ≤ k) (hw : B ≤ w.heap.size) (h2 : 2 ≤ B) (hb : Bytes w (fun k => ¬ decS d t v0 k) A l)
    (hc : l.length ≤ c) (hcm : c ≤ 140737488351232) (hl : l.length ≤ 4000000000) (hL : LaidLens w) (hS : LaidShapes w) (K : Nat → Prop) (hK : ∀ k, K k → k < w.heap.size ∧ ¬ decS d t v0 k) (R : BRes) (hR : bdec limit l T0 = R) :
    Calls Tryd.prog 10 #[.pointer (some ⟨d, 0, none⟩), .slice A l.length c, .int .i64 limit] w fun e w' => ∃ v vo, e = .returned (.tuple #[vo, .bool R.1.2.1, .int .i64 (R.1.2.2 : Int)]) ∧
      w'.ownsRow w.heap.size 46 2 vo R.1.1.length (fcells R.1.1) ∧ Dec w' d t v R.2 ∧ (∀ k, decS d t v k → B ≤ k) ∧ Below B w w' ∧ (∀ k, K k ∨ vo.ownBlock = some k → k < w'.heap.size ∧ ¬ decS d t v k) ∧ ∀ k, K k → w'.heap[k]? = w.heap[k]? :=
  dread_wide B d t v0 T0 limit A l c w h hB hw h2 hb hc (by omega) hl hL hS K hK R hR
theorem lens_two {w : World} (h : LaidLens w) : 2 ≤ w.heap.size := by
  have := World.block_lt_of_cell? w _ (h 0 (.int .i64 13) (by kernel_rfl))
  simp only at this
  omega
theorem alloc_bytes (w : World) (l : List UInt8) (e : TypeId) : Bytes (w.alloc (.cells (l.map bv).toArray e)) (fun k => k = w.heap.size) (some ⟨w.heap.size, 0, none⟩) l := fun _ =>
  ⟨w.heap.size, 0, rfl, rfl, fun j hj => by
    rw [Nat.zero_add, cell_of_row _ _ _ _ _ _ (heap_alloc_new w (.cells (l.map bv).toArray e)), List.getElem?_toArray, List.getElem?_map, List.getElem?_eq_getElem hj, List.getD_eq_getElem?_getD, List.getElem?_eq_getElem hj]
    rfl⟩
theorem own_fread2 {w : World} {base n : Nat} {A : Option Addr} {c : Nat} {l : List FieldS} (h : w.ownsRow base 46 2 (.slice A n c) n (fcells l)) (hn : n = l.length) : FRead w (fun b => (Value.slice A l.length c).ownBlock = some b) A l := by
  subst hn
  exact own_fread h
end Go.Proofs.YtfkpeahelhpelaaDoor
