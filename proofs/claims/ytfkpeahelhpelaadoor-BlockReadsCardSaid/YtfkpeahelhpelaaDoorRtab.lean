/- The document's table (ref07), walked: Begin, SetMost, Add, Get. -/
import Derived.Test.YtfkpeahelhpelaaDoorRfitM
import Derived.Test.YtfkpeahelhpelaaDoorRead
import Derived.Test.YtfkpeahelhpelaaDoorTabM
namespace Go.Proofs.YtfkpeahelhpelaaDoor
set_option linter.all false
open Go.RowKit
attribute [local go_sem] Oper.semAt_some valueOf_ok

def rtO (v : Value) (b m : Nat) : Obj := .cells #[v, .int .i64 (b : Int), .int .i64 (m : Int)] 41
structure RTab (w : World) (t : Nat) (v : Value) (T : Tb) : Prop where
  blk : w.heap[t]? = some (rtO v T.bound T.most)
  own : w.ownsRow 0 46 2 v T.f.length (fcells T.f.reverse)
  ne : v.ownBlock ≠ some t
  sum : sumF T.f ≤ T.most
  mb : T.most ≤ T.bound
  bb : T.bound ≤ 4096
theorem RTab.keep {w w' : World} {t : Nat} {v : Value} {T : Tb} (h : RTab w t v T) (hk : ∀ k, k < w.heap.size → tabS t v k → w'.heap[k]? = w.heap[k]?) : RTab w' t v T := by
  refine ⟨(hk t (blk_lt h.blk) (.inl rfl)).trans h.blk, ?_, h.ne, h.sum, h.mb, h.bb⟩
  refine ⟨h.own.1, h.own.2.imp id fun ⟨g, cap, cur, h1, h2, h3, h4⟩ => ⟨g, cap, cur, h1, h2, (hk g (blk_lt h3) (.inr (by rw [h1]; rfl))).trans h3, h4⟩⟩
theorem RTab.below {w w' : World} {t : Nat} {v : Value} {T : Tb} (h : RTab w t v T) (hb : Below w.heap.size w w') : RTab w' t v T := h.keep fun k hk _ => hb.block k hk
theorem RTab.cells {w : World} {t : Nat} {v : Value} {T : Tb} (h : RTab w t v T) : w.cell? ⟨t, 0, none⟩ = some v ∧ w.cell? ⟨t, 1, none⟩ = some (.int .i64 (T.bound : Int)) ∧ w.cell? ⟨t, 2, none⟩ = some (.int .i64 (T.most : Int)) :=
  ⟨(cell_of_row _ _ 0 _ _ _ h.blk).trans rfl, (cell_of_row _ _ 1 _ _ _ h.blk).trans rfl, (cell_of_row _ _ 2 _ _ _ h.blk).trans rfl⟩
set_option maxRecDepth 100000 in
theorem rbegin_any (n : Nat) (w : World) (hn : n ≤ 4096) : Calls Tryd.prog 8 #[.int .i64 (n : Int)] w fun e w' => e = .returned (.pointer (some ⟨w.heap.size, 0, none⟩)) ∧ RTab w' w.heap.size (.slice none 0 0) ⟨[], n, n⟩ ∧ Below w.heap.size w w' := by
  go_enter Tryd.func8, Tryd.ntmps8
  go_wp2_with fail
  go_ret
  exact ⟨rfl, ⟨heap_alloc_new _ _, World.ownsRow_nil _ _ _ _, by simp [Value.ownBlock], Nat.zero_le _, Nat.le_refl _, hn⟩, bl_alloc (Below.refl _ _) _⟩
set_option maxRecDepth 100000 in
theorem rsetMost_no (t : Nat) (v : Value) (T : Tb) (n : Nat) (w : World) (h : RTab w t v T) (hn : T.bound < n) (hn2 : n ≤ 16777215) : Calls Tryd.prog 27 #[.pointer (some ⟨t, 0, none⟩), .int .i64 (n : Int)] w fun e w' => e = .returned (.int .i64 1) ∧ w = w' := by
  obtain ⟨c0, c1, c2⟩ := h.cells
  have i1 : (T.bound : Int) < n := by omega
  have i2 : (0 : Int) ≤ n := by omega
  clear h
  go_enter Tryd.func27, Tryd.ntmps27
  go_wp2_with fail
  go_ret
  exact ⟨rfl, rfl⟩
set_option maxRecDepth 100000 in
set_option maxHeartbeats 1000000 in
theorem rsetMost_yes (t : Nat) (v : Value) (T : Tb) (n : Nat) (w : World) (h : RTab w t v T) (hn : n ≤ T.bound) : Calls Tryd.prog 27 #[.pointer (some ⟨t, 0, none⟩), .int .i64 (n : Int)] w fun e w' => ∃ v', e = .returned (.int .i64 0) ∧ RTab w' t v' (T.setMost n) ∧ Mod (fun k => k = t) w w' ∧ ∀ g, v'.ownBlock = some g → w.heap.size ≤ g := by
  obtain ⟨c0, c1, c2⟩ := h.cells
  have i1 : (n : Int) ≤ T.bound := by omega
  have i2 : (0 : Int) ≤ n := by omega
  have htl := blk_lt h.blk
  obtain ⟨A, c, rfl, hc⟩ := own_shape h.own
  have H0 : Hp w [(t, rtO (.slice A T.f.length c) T.bound T.most)] := ⟨by simp, by simpa using h.blk⟩
  have z2 := H0.free 0 rfl 2
  have H1 := H0.setCell 0 rfl 2 (.int .i64 (n : Int))
  have z0 := H1.free 0 rfl 0
  have y0 := (H1.cell 0 rfl 0).trans (show _ = some (Value.slice A T.f.length c) from rfl)
  have hl := len_sumF T.f
  have h4 := h.sum
  have h5 := h.mb
  have h6 := h.bb
  have hrd := own_fread2 (l := T.f.reverse) h.own (by rw [List.length_reverse])
  have hne := h.ne
  have hr1 : FRead (w.setCell ⟨t, 2, none⟩ (.int .i64 (n : Int))) (fun b => b ≠ t) A T.f.reverse := (hrd.keep fun k hk _ => heap_setCell_off (fun e => by subst e; rw [List.length_reverse] at hk; exact hne hk) _).imp fun k _ hk e => by subst e; rw [List.length_reverse] at hk; exact hne hk
  have hft := rfit_any A T.f.reverse c n _ hr1 (by rw [sumF_reverse]; omega) (by rw [List.length_reverse]; omega) (by rw [List.length_reverse]; exact hc) (by omega)
  rw [fit_setMost, List.length_reverse] at hft
  have hm0 : Mod (fun k => k = t) w (w.setCell ⟨t, 2, none⟩ (.int .i64 (n : Int))) := ⟨rfl, rfl, rfl, by simp, fun k _ hk => heap_setCell_off hk _⟩
  have hsz : (w.setCell ⟨t, 2, none⟩ (.int .i64 (n : Int))).heap.size = w.heap.size := by simp
  clear hr1 hrd
  replace H1 := Lib.hid H1
  go_enter Tryd.func27, Tryd.ntmps27
  go_wp2_with fail
  refine hft.mono ?_
  clear hft
  rintro e w2 ⟨v2, rfl, ho2, hb2⟩
  simp only [List.length_reverse] at ho2
  have H2 := H1.out.below hb2
  have z3 := H2.free 0 rfl 0
  have H3 := H2.setCell 0 rfl 0 v2
  obtain ⟨A2, c2', rfl, -⟩ := own_shape ho2
  have y3 := (H2.cell 0 rfl 0).trans (show _ = some (Value.slice A T.f.length c) from rfl)
  replace H3 := Lib.hid H3
  replace H2 := Lib.hid H2
  go_wp2_with fail
  go_ret
  have hfresh : ∀ g, (Value.slice A2 (T.setMost n).f.length c2').ownBlock = some g → w.heap.size ≤ g := fun g hg => by have := own_block ho2 hg; omega
  refine ⟨.slice A2 (T.setMost n).f.length c2', ?_⟩
  refine ⟨rfl, ?_, ?_, hfresh⟩
  · refine ⟨(H3.out.get 0 rfl).trans rfl, ?_, fun e => by have := hfresh t e; omega, ?_, hn, h6⟩
    · have := own_keep (w' := w2.setCell ⟨t, 0, none⟩ (.slice A2 (T.setMost n).f.length c2')) ho2 fun g hg _ => heap_setCell_off (show g ≠ t from fun e => by rw [hsz] at hg; omega) _
      exact own_mono this (Nat.zero_le _)
    · rcases keepFrom_sum n 0 T.f with e | e
      · show sumF (keepFrom n 0 T.f) ≤ n
        rw [e, sumF_nil]; omega
      · show sumF (keepFrom n 0 T.f) ≤ n
        omega
  · exact (hm0.below hb2).trans (S' := fun k => k = t) ⟨rfl, rfl, rfl, by simp, fun k _ hk => heap_setCell_off hk _⟩ fun _ _ h => h
set_option maxRecDepth 100000 in
set_option maxHeartbeats 1000000 in
theorem rget_any (t : Nat) (v : Value) (T : Tb) (i : Int) (w : World) (h : RTab w t v T) (hi : -9223372036854775808 ≤ i ∧ i ≤ 9223372036854775807) :
    Calls Tryd.prog 49 #[.pointer (some ⟨t, 0, none⟩), .int .i64 i] w fun e w' => e = .returned (.tuple #[fV (tget T.f i).1, .int .i64 ((tget T.f i).2 : Int)]) ∧ Below w.heap.size w w' := by
  obtain ⟨c0, c1, c2⟩ := h.cells
  have htl := blk_lt h.blk
  obtain ⟨A, c, rfl, hc⟩ := own_shape h.own
  have hrd := own_fread2 (l := T.f.reverse) h.own (by rw [List.length_reverse])
  have hl := len_sumF T.f
  have h4 := h.sum
  have h5 := h.mb
  have h6 := h.bb
  have hlen : (T.f.length : Int) ≤ 128 := by omega
  clear h
  have r0 := cells_two (heap_alloc_new w (.cells #[.string ⟨#[]⟩, .string ⟨#[]⟩] 46))
  by_cases hin : 1 ≤ i ∧ i ≤ T.f.length
  · obtain ⟨j, rfl⟩ : ∃ j : Nat, i = (j : Int) + 1 := ⟨i.toNat - 1, by omega⟩
    have hj : j < T.f.length := by omega
    have hj' : (j : Int) < T.f.length := by omega
    obtain ⟨f, hf⟩ : ∃ f, T.f.reverse[j]? = some f := ⟨_, List.getElem?_eq_getElem (by rw [List.length_reverse]; exact hj)⟩
    have hg : tget T.f ((j : Int) + 1) = (f, 0) := by
      rw [tget, if_pos hin, List.getD_eq_getElem?_getD]
      rw [List.getElem?_reverse hj] at hf
      rw [show T.f.length - ((j : Int) + 1).toNat = T.f.length - 1 - j by omega, hf]
      rfl
    obtain ⟨b, off, rfl, hb, q0, q1⟩ := hrd.at_ hf
    rw [hg, fV]
    obtain ⟨n, vv⟩ := f
    simp only at q0 q1
    clear hf hg hrd hin
    have i1 : (0 : Int) ≤ j := by omega
    have r1 := cells_two (heap_alloc_new w (.cells #[.string n, .string vv] 46))
    go_enter Tryd.func49, Tryd.ntmps49
    go_wp2_with fail
    exact bodyPost_ret (v := .tuple #[.agg #[.string n, .string vv], .int .i64 0]) (by simp [results, Tryd.results49, go_sem]) rfl ⟨rfl, bl_alloc (Below.refl _ _) _⟩
  · have hg : tget T.f i = (noF, 5) := by rw [tget, if_neg hin]
    rw [hg, fV]
    have hout : i < 1 ∨ (T.f.length : Int) < i := by omega
    clear hg hrd hin
    rcases hout with hout | hout
    all_goals
      go_enter Tryd.func49, Tryd.ntmps49
      go_wp2_with fail
      exact bodyPost_ret (v := .tuple #[.agg #[.string ⟨#[]⟩, .string ⟨#[]⟩], .int .i64 5]) (by simp [results, Tryd.results49, go_sem]) rfl ⟨rfl, bl_alloc (Below.refl _ _) _⟩
end Go.Proofs.YtfkpeahelhpelaaDoor
