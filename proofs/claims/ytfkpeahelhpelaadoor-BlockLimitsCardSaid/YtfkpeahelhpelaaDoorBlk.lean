/- Header lists as blocks (layer 9): the decoder's state and its small methods. -/
import Derived.Test.YtfkpeahelhpelaaDoorTabC
import Derived.Test.YtfkpeahelhpelaaDoorIdec
import Derived.Test.YtfkpeahelhpelaaDoorStatic
namespace Go.Proofs.YtfkpeahelhpelaaDoor
set_option linter.all false
open Go.RowKit Go.Shelf
attribute [local go_sem] Oper.semAt_some valueOf_ok

structure Dec (w : World) (d t : Nat) (v : Value) (T : Tb) : Prop where
  blk : w.heap[d]? = some (.cells #[.pointer (some ⟨t, 0, none⟩)] 57)
  tab : Tab w t v T
  ne : d ≠ t
  nr : v.ownBlock ≠ some d
def decS (d t : Nat) (v : Value) (k : Nat) : Prop := k = d ∨ tabS t v k
theorem Dec.keep {w w' : World} {d t : Nat} {v : Value} {T : Tb} (h : Dec w d t v T) (hk : ∀ k, k < w.heap.size → decS d t v k → w'.heap[k]? = w.heap[k]?) : Dec w' d t v T :=
  ⟨(hk d (blk_lt h.blk) (.inl rfl)).trans h.blk, h.tab.keep fun k hl hs => hk k hl (.inr hs), h.ne, h.nr⟩
theorem Dec.below {w w' : World} {d t : Nat} {v : Value} {T : Tb} (h : Dec w d t v T) (hb : Below w.heap.size w w') : Dec w' d t v T := h.keep fun k hk _ => hb.block k hk
theorem Dec.cell {w : World} {d t : Nat} {v : Value} {T : Tb} (h : Dec w d t v T) : w.cell? ⟨d, 0, none⟩ = some (.pointer (some ⟨t, 0, none⟩)) := (cell_of_row _ _ 0 _ _ _ h.blk).trans rfl
theorem Dec.lt {w : World} {d t : Nat} {v : Value} {T : Tb} (h : Dec w d t v T) {k : Nat} (hk : decS d t v k) : k < w.heap.size := by
  rcases hk with rfl | rfl | hk
  · exact blk_lt h.blk
  · exact blk_lt h.tab.blk
  · exact own_lt' h.tab.own hk

theorem bsize_any (d t : Nat) (v : Value) (T : Tb) (w : World) (h : Dec w d t v T) : Calls Tryd.prog 14 #[.pointer (some ⟨d, 0, none⟩)] w fun e w' => e = .returned (.int .i64 (sumF T.f : Int)) ∧ w = w' := by
  have c0 := h.cell
  have hs := tsize_any t v T w h.tab
  clear h
  go_enter Tryd.func14, Tryd.ntmps14
  go_wp2_with fail
  refine hs.mono ?_
  rintro e w' ⟨rfl, rfl⟩
  go_wp2_with fail
  go_ret
  exact ⟨rfl, rfl⟩
theorem bnew_no (n : Int) (w : World) (hn : ¬ (0 ≤ n ∧ n ≤ 4096)) : Calls Tryd.prog 7 #[.int .i64 n] w fun e w' => e = .returned (.tuple #[.pointer none, .int .i64 1]) ∧ w = w' := by
  have hs := Lib.hid (tnew_no n w hn)
  go_enter Tryd.func7, Tryd.ntmps7
  go_wp2_with fail
  refine hs.out.mono ?_
  rintro e w' ⟨rfl, rfl⟩
  go_wp2_with fail
  go_ret2
  exact ⟨rfl, rfl⟩
theorem bnew_yes (n : Nat) (w : World) (hn : n ≤ 4096) : Calls Tryd.prog 7 #[.int .i64 (n : Int)] w fun e w' => ∃ d t : Nat, e = .returned (.tuple #[.pointer (some ⟨d, 0, none⟩), .int .i64 0]) ∧ Dec w' d t (.slice none 0 0) ⟨[], n, n⟩ ∧ Below w.heap.size w w' ∧ w.heap.size ≤ d ∧ w.heap.size ≤ t := by
  have hs := Lib.hid (tnew_yes n w hn)
  go_enter Tryd.func7, Tryd.ntmps7
  go_wp2_with fail
  refine hs.out.mono ?_
  rintro e w' ⟨rfl, rfl⟩
  go_wp2_with fail
  go_ret2
  refine ⟨_, _, rfl, ⟨new_at (by simp), (Tab.new n w hn).below (bl_alloc (Below.refl _ _) _), by simp, by simp [Value.ownBlock]⟩, bl_alloc (bl_alloc (Below.refl _ _) _) _, by simp, Nat.le_refl _⟩
theorem bclone_any (d t : Nat) (v : Value) (T : Tb) (w : World) (h : Dec w d t v T) : Calls Tryd.prog 9 #[.pointer (some ⟨d, 0, none⟩)] w fun e w' => ∃ (d' t' : Nat) (v' : Value), e = .returned (.pointer (some ⟨d', 0, none⟩)) ∧ Dec w' d' t' v' T ∧ Below w.heap.size w w' ∧ ∀ k, decS d' t' v' k → w.heap.size ≤ k := by
  have c0 := h.cell
  have hs := tclone_any t v T w h.tab
  clear h
  go_enter Tryd.func9, Tryd.ntmps9
  go_wp2_with fail
  refine hs.mono ?_
  rintro e w1 ⟨t', v', rfl, hT, hb, ht, hv⟩
  clear hs
  replace hT := Lib.hid hT
  replace hv := Lib.hid hv
  go_wp2_with fail
  go_ret
  have h1 := blk_lt hT.out.blk
  have hsz := hb.size
  refine ⟨_, t', v', rfl, ⟨heap_alloc_new _ _, hT.out.below (bl_alloc (Below.refl _ _) _), by omega, ?_⟩, bl_alloc hb _, ?_⟩
  · intro e
    have := own_lt' hT.out.own e
    omega
  · rintro k (rfl | rfl | hk)
    · exact hsz
    · exact ht
    · exact hv.out k hk
def namedS (F : List FieldS) (i : Int) : FieldS × Nat := if i ≤ 61 then ((getN i, getV i), (getE i).toNat) else tget F (i - 61)
set_option maxHeartbeats 1000000 in
theorem named_any (d t : Nat) (v : Value) (T : Tb) (i : Int) (w : World) (h : Dec w d t v T) (hi : 0 ≤ i ∧ i ≤ 9223372036854775807) :
    Calls Tryd.prog 42 #[.pointer (some ⟨d, 0, none⟩), .int .i64 i] w fun e w' => e = .returned (.tuple #[fV (namedS T.f i).1, .int .i64 ((namedS T.f i).2 : Int)]) ∧ Below w.heap.size w w' := by
  obtain ⟨z, hz⟩ : ∃ z, z = namedS T.f i := ⟨_, rfl⟩
  rw [← hz]
  rw [namedS] at hz
  obtain ⟨hi0, hi1⟩ := hi
  by_cases g : i ≤ 61
  · rw [if_pos g] at hz
    subst hz
    rw [fV]
    simp only
    have hs := fun w => get_any i w (by omega)
    have he := Lib.hid (show ((getE i).toNat : Int) = getE i by unfold getE; split <;> rfl)
    go_enter Tryd.func42, Tryd.ntmps42
    replace hs := Lib.hid hs
    go_wp2_with fail
    refine (hs.out _).mono ?_
    rintro e w1 ⟨rfl, hb1⟩
    have hk := blk_below (heap_alloc_new w (.cells #[.string ⟨#[]⟩, .string ⟨#[]⟩] 46)) hb1
    have hb := bl_then (bl_alloc (Below.refl w.heap.size w) (.cells #[.string ⟨#[]⟩, .string ⟨#[]⟩] 46)) hb1
    replace hk := Lib.hid hk
    go_wp2_with ((with_reducible refine wpList_store_row rfl 46 (.tmp 4) (.tmp 10) rfl w.heap.size _ #[.string (getN i), .string (getV i)] rfl rfl hk.out (k := 2) (by kernel_rfl) (by kernel_rfl) (by kernel_rfl) (by kernel_rfl) rfl ?_))
    have F := setRow_heap w1 w.heap.size #[.string ⟨#[]⟩, .string ⟨#[]⟩] #[.string (getN i), .string (getV i)] _ _ hk.out
    have F0 := (cell_of_row _ _ 0 _ _ _ F).trans (show _ = some (.string (getN i)) from rfl)
    have F1 := (cell_of_row _ _ 1 _ _ _ F).trans (show _ = some (.string (getV i)) from rfl)
    exact bodyPost_ret (v := .tuple #[.agg #[.string (getN i), .string (getV i)], .int .i64 (getE i)]) (by simp [results, Tryd.results42, go_sem, F0, F1]) rfl ⟨by rw [he.out], bl_setRow hb (Nat.le_refl _) _⟩
  · rw [if_neg g] at hz
    obtain ⟨⟨fn, fv⟩, fe⟩ := z
    rw [fV]
    simp only
    have h2 := Lib.hid (h.below (bl_alloc (Below.refl w.heap.size w) (.cells #[.string ⟨#[]⟩, .string ⟨#[]⟩] 46)))
    have hs := Lib.hid (tget_any t v T (i - 61) _ h2.out.tab (by omega))
    clear h
    have g' : ¬ i ≤ 61 := g
    have c0 := h2.out.cell
    replace hz := Lib.hid hz
    go_enter Tryd.func42, Tryd.ntmps42
    go_wp2_with fail
    refine hs.out.mono ?_
    rintro e w1 ⟨rfl, hb1⟩
    rw [← hz.out, fV]
    simp only
    clear hs
    have hk := blk_below (heap_alloc_new w (.cells #[.string ⟨#[]⟩, .string ⟨#[]⟩] 46)) hb1
    have hb := bl_then (bl_alloc (Below.refl w.heap.size w) (.cells #[.string ⟨#[]⟩, .string ⟨#[]⟩] 46)) hb1
    replace hk := Lib.hid hk
    clear c0
    go_wp2_with ((with_reducible refine wpList_store_row rfl 46 (.tmp 4) (.tmp 19) rfl w.heap.size _ #[.string fn, .string fv] rfl rfl hk.out (k := 2) (by kernel_rfl) (by kernel_rfl) (by kernel_rfl) (by kernel_rfl) rfl ?_))
    have F := setRow_heap w1 w.heap.size #[.string ⟨#[]⟩, .string ⟨#[]⟩] #[.string fn, .string fv] _ _ hk.out
    have F0 := (cell_of_row _ _ 0 _ _ _ F).trans (show _ = some (.string fn) from rfl)
    have F1 := (cell_of_row _ _ 1 _ _ _ F).trans (show _ = some (.string fv) from rfl)
    exact bodyPost_ret (v := .tuple #[.agg #[.string fn, .string fv], .int .i64 (fe : Int)]) (by simp [results, Tryd.results42, go_sem, F0, F1]) rfl ⟨rfl, bl_setRow hb (Nat.le_refl _) _⟩
end Go.Proofs.YtfkpeahelhpelaaDoor
