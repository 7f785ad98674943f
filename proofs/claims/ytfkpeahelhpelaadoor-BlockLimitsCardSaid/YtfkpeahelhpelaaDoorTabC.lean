/- The table of fields (layer 7): SetMost, New, Clone. -/
import Derived.Test.YtfkpeahelhpelaaDoorTabB
namespace Go.Proofs.YtfkpeahelhpelaaDoor
set_option linter.all false
open Go.RowKit Go.Shelf
attribute [local go_sem] Oper.semAt_some valueOf_ok

set_option maxHeartbeats 1000000 in
theorem setMost_no (t : Nat) (v : Value) (T : Tb) (n : Int) (w : World) (h : Tab w t v T) (hn : ¬ (0 ≤ n ∧ n ≤ T.bound)) :
    Calls Tryd.prog 22 #[.pointer (some ⟨t, 0, none⟩), .int .i64 n] w fun e w' => e = .returned (.int .i64 1) ∧ w = w' := by
  have c0 := (cell_of_row _ _ 2 _ _ _ h.blk).trans (show _ = some (.int .i64 (T.bound : Int)) from rfl)
  clear h
  by_cases h1 : n < 0
  · go_enter Tryd.func22, Tryd.ntmps22
    go_wp2
    go_ret
    exact ⟨rfl, rfl⟩
  · have h2 : (T.bound : Int) < n := by omega
    go_enter Tryd.func22, Tryd.ntmps22
    go_wp2
    go_ret
    exact ⟨rfl, rfl⟩
set_option maxHeartbeats 1000000 in
theorem setMost_yes (t : Nat) (v : Value) (T : Tb) (n : Nat) (w : World) (h : Tab w t v T) (hn : n ≤ T.bound) :
    Calls Tryd.prog 22 #[.pointer (some ⟨t, 0, none⟩), .int .i64 (n : Int)] w fun e w' => ∃ v', e = .returned (.int .i64 0) ∧ Tab w' t v' (T.setMost n) ∧ Mod (tabS t v) w w' ∧ ∀ g, v'.ownBlock = some g → v.ownBlock = some g ∨ w.heap.size ≤ g := by
  have c0 := (cell_of_row _ _ 2 _ _ _ h.blk).trans (show _ = some (.int .i64 (T.bound : Int)) from rfl)
  have c1 := (cell_of_row _ _ 3 _ _ _ h.blk).trans (show _ = some (.int .i64 (T.most : Int)) from rfl)
  have z1 : w.frozen? ⟨t, 3, none⟩ = false := frozen_of_row _ _ _ _ _ h.blk
  have i1 : (n : Int) ≤ T.bound := by omega
  have i2 : ¬ (n : Int) < 0 := by omega
  have hst := h.sum
  have hmb := h.mb
  have hbb := h.bb
  have htl := blk_lt h.blk
  go_enter Tryd.func22, Tryd.ntmps22
  go_wp2_with fail
  have hk := heap_setCell_mod (o := 3) h.blk (.int .i64 (n : Int))
  have ho := own_keep (w' := w.setCell ⟨t, 3, none⟩ (.int .i64 (n : Int))) h.own
  have ho : (w.setCell ⟨t, 3, none⟩ (.int .i64 (n : Int))).ownsRow 0 46 2 v T.f.length (fcells T.f) := by
    refine ⟨h.own.1, h.own.2.imp id fun ⟨g, cap, cur, h1, h2, h3, h4⟩ => ⟨g, cap, cur, h1, h2, (heap_setCell_off (p := ⟨t, 3, none⟩) ?_ _).trans h3, h4⟩⟩
    rintro rfl
    exact h.ne (by rw [h1]; rfl)
  have hgs := gr_setCell (gr_refl w (some t)) (off := 3) (.inr rfl) (.int .i64 (n : Int))
  have hev := evict_any t 0 T.bound n v T.f (w.setCell ⟨t, 3, none⟩ (.int .i64 (n : Int))) (by omega) (by omega) (by omega) hk ho h.ne
  clear c0 c1 z1 ho
  generalize w.setCell ⟨t, 3, none⟩ (.int .i64 (n : Int)) = w1 at hgs hev ⊢
  refine hev.mono ?_
  rintro e w2 ⟨v', rfl, hk2, ho2, hg2⟩
  clear hev
  replace ho2 := Lib.hid ho2
  replace hk2 := Lib.hid hk2
  have h := Lib.hid h
  go_wp2_with fail
  go_ret
  have hsz := hgs.size
  refine ⟨v', rfl, ⟨hk2.out, own_mono ho2.out (Nat.zero_le _), ?_, ?_, hn, hbb⟩, ((Mod.of_grown hgs).imp (fun i _ e => ?_)).grown hg2 (fun i _ e => ?_), ?_⟩
  · intro e
    have := own_block ho2.out e
    omega
  · rcases keepFrom_sum n 0 T.f with h1 | h1
    · show sumF (keepFrom n 0 T.f) ≤ n
      rw [h1, sumF_nil]; omega
    · exact h1
  · cases e; exact .inl rfl
  · cases e; exact .inl rfl
  · intro g e
    have := own_block ho2.out e
    exact .inr (by omega)
theorem tnew_no (n : Int) (w : World) (hn : ¬ (0 ≤ n ∧ n ≤ 4096)) : Calls Tryd.prog 19 #[.int .i64 n] w fun e w' => e = .returned (.tuple #[.pointer none, .int .i64 1]) ∧ w = w' := by
  by_cases h1 : n < 0
  · go_enter Tryd.func19, Tryd.ntmps19
    go_wp2
    go_ret2
    exact ⟨rfl, rfl⟩
  · have h2 : (4096 : Int) < n := by omega
    go_enter Tryd.func19, Tryd.ntmps19
    go_wp2
    go_ret2
    exact ⟨rfl, rfl⟩
theorem tnew_yes (n : Nat) (w : World) (hn : n ≤ 4096) : Calls Tryd.prog 19 #[.int .i64 (n : Int)] w fun e w' => e = .returned (.tuple #[.pointer (some ⟨w.heap.size, 0, none⟩), .int .i64 0]) ∧ w' = w.alloc (tabO (.slice none 0 0) [] n n) := by
  have i1 : (n : Int) ≤ 4096 := by omega
  have i2 : ¬ (n : Int) < 0 := by omega
  go_enter Tryd.func19, Tryd.ntmps19
  go_wp2
  go_ret2
  exact ⟨rfl, rfl⟩
theorem Tab.new (n : Nat) (w : World) (hn : n ≤ 4096) : Tab (w.alloc (tabO (.slice none 0 0) [] n n)) w.heap.size (.slice none 0 0) ⟨[], n, n⟩ :=
  ⟨heap_alloc_new _ _, World.ownsRow_nil _ _ _ _, by simp [Value.ownBlock], by simp [sumF_nil], Nat.le_refl _, hn⟩

set_option maxRecDepth 100000 in
set_option maxHeartbeats 1000000 in
theorem tclone_any (t : Nat) (v : Value) (T : Tb) (w : World) (h : Tab w t v T) :
    Calls Tryd.prog 20 #[.pointer (some ⟨t, 0, none⟩)] w fun e w' => ∃ (t' : Nat) (v' : Value), e = .returned (.pointer (some ⟨t', 0, none⟩)) ∧ Tab w' t' v' T ∧ Below w.heap.size w w' ∧ w.heap.size ≤ t' ∧ ∀ g, v'.ownBlock = some g → w.heap.size ≤ g := by
  have hlen := len_sumF T.f
  have hst := h.sum
  have hmb := h.mb
  have hbb := h.bb
  have htl := blk_lt h.blk
  obtain ⟨A, c, rfl, hc⟩ := own_shape h.own
  have hrd := own_fread h.own
  have hA : A = none → T.f = [] ∧ c = 0 := by
    intro hA
    subst hA
    rcases h.own.2 with ⟨h1, h2⟩ | ⟨g, cap, cur, h1, -⟩
    · injection h1 with _ _ h3
      exact ⟨List.eq_nil_of_length_eq_zero h2, h3⟩
    · injection h1 with h3
      cases h3
  go_enter Tryd.func20, Tryd.ntmps20
  go_wp2_with fail
  have h2 : Tab w.drew t (.slice A T.f.length c) T := h.below (bl_drew (Below.refl _ _))
  have hb2 : Below w.heap.size w w.drew := bl_drew (Below.refl _ _)
  replace hrd : FRead w.drew _ A T.f := hrd.below hb2
  refine region_plan_open (fun w' => w'.cell? ⟨t, 0, none⟩ = some (.slice A T.f.length c) ∧ w'.cell? ⟨t, 1, none⟩ = some (.int .i64 (sumF T.f : Int)) ∧ w'.cell? ⟨t, 2, none⟩ = some (.int .i64 (T.bound : Int)) ∧ w'.cell? ⟨t, 3, none⟩ = some (.int .i64 (T.most : Int)))
    [18, 19] [4, 18, 19] [0, 1, 2, 3, 5, 6, 7, 8, 9, 10, 11, 12, 13, 14, 15, 16, 4, 17, 18, 19] (by kernel_rfl) (by kernel_rfl) (by kernel_rfl) (by kernel_rfl) (by decide) ?_ ?_
  all_goals
    generalize w.drew = w2 at h2 hb2 hrd ⊢
    have c0 := (cell_of_row _ _ 0 _ _ _ h2.blk).trans (show _ = some (.slice A T.f.length c) from rfl)
    have c1 := (cell_of_row _ _ 1 _ _ _ h2.blk).trans (show _ = some (.int .i64 (sumF T.f : Int)) from rfl)
    have c2 := (cell_of_row _ _ 2 _ _ _ h2.blk).trans (show _ = some (.int .i64 (T.bound : Int)) from rfl)
    have c3 := (cell_of_row _ _ 3 _ _ _ h2.blk).trans (show _ = some (.int .i64 (T.most : Int)) from rfl)
  · exact ⟨c0, c1, c2, c3⟩
  have hcl := clone_any A T.f c w2 hrd hA (by omega)
  clear h
  replace h2 := Lib.hid h2
  iterate 16 (refine seq_v rfl rfl rfl (by rintro w' ⟨h1, h2, h3, h4⟩; go_simp) ?_; go_simp)
  refine seq_call (f := 38) (args := #[.slice A T.f.length c]) rfl (fun _ => trivial) rfl rfl rfl rfl (by go_simp) ?_
  refine (callsIn_wide.2 hcl).mono ?_
  rintro e w3 ⟨v', rfl, ho3, hb3⟩
  have h3 := h2.out.below hb3
  clear c0 c1 c2 c3 hcl
  have c0 := (cell_of_row _ _ 0 _ _ _ h3.blk).trans (show _ = some (.slice A T.f.length c) from rfl)
  have c1 := (cell_of_row _ _ 1 _ _ _ h3.blk).trans (show _ = some (.int .i64 (sumF T.f : Int)) from rfl)
  have c2 := (cell_of_row _ _ 2 _ _ _ h3.blk).trans (show _ = some (.int .i64 (T.bound : Int)) from rfl)
  have c3 := (cell_of_row _ _ 3 _ _ _ h3.blk).trans (show _ = some (.int .i64 (T.most : Int)) from rfl)
  obtain ⟨va, vc, rfl, hvc⟩ := own_shape ho3
  refine ⟨_, rfl, fun _ => ⟨c0, c1, c2, c3⟩, ?_⟩
  replace ho3 := Lib.hid ho3
  replace h3 := Lib.hid h3
  go_simp
  refine seq_v rfl rfl rfl (by rintro w' ⟨h1, h2, h3, h4⟩; go_simp) ?_
  go_simp
  refine seq_do (v := .pointer (some ⟨w3.heap.size, 0, none⟩)) (w' := w3.alloc (tabO (.slice va T.f.length vc) T.f T.bound T.most)) rfl (fun _ => trivial) rfl rfl rfl (by unfold tabO; go_simp) (fun h => absurd (by decide) h) ?_
  go_simp
  refine seq_dv rfl (fun _ => trivial) rfl rfl rfl (fun h => absurd (by decide) h) (by go_simp) ?_
  go_simp
  refine seq_nil ?_
  go_wp2_with fail
  go_ret
  have hsz := hb2.size
  have hsz3 := hb3.size
  refine ⟨_, _, rfl, ⟨heap_alloc_new _ _, own_mono (own_alloc ho3.out _) (Nat.zero_le _), ?_, hst, hmb, hbb⟩, bl_alloc (bl_then hb2 hb3) _, by omega, ?_⟩
  · intro e
    have := own_lt' ho3.out e
    omega
  · intro g e
    have := own_block ho3.out e
    omega
end Go.Proofs.YtfkpeahelhpelaaDoor
