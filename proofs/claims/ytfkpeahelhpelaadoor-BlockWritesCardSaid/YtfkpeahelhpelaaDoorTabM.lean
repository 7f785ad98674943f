/- The table of fields (layer 7): Len, Size, Get, SetMost, New, Clone. The table of fields (layer 7): SetMost, New, Clone. -/
import Derived.Test.YtfkpeahelhpelaaDoorTab
namespace Go.Proofs.YtfkpeahelhpelaaDoor
set_option linter.all false
open Go.RowKit Go.Shelf
attribute [local go_sem] Oper.semAt_some valueOf_ok

theorem len_any (t : Nat) (v : Value) (T : Tb) (w : World) (h : Tab w t v T) : Calls Tryd.prog 30 #[.pointer (some ⟨t, 0, none⟩)] w fun e w' => e = .returned (.int .i64 (T.f.length : Int)) ∧ w = w' := by
  obtain ⟨A, c, rfl, hc⟩ := own_shape h.own
  have c0 := (cell_of_row _ _ 0 _ _ _ h.blk).trans (show _ = some (.slice A T.f.length c) from rfl)
  clear h
  go_enter Tryd.func30, Tryd.ntmps30
  go_wp2
  go_ret
  exact ⟨rfl, rfl⟩
theorem tsize_any (t : Nat) (v : Value) (T : Tb) (w : World) (h : Tab w t v T) : Calls Tryd.prog 32 #[.pointer (some ⟨t, 0, none⟩)] w fun e w' => e = .returned (.int .i64 (sumF T.f : Int)) ∧ w = w' := by
  have c0 := (cell_of_row _ _ 1 _ _ _ h.blk).trans (show _ = some (.int .i64 (sumF T.f : Int)) from rfl)
  clear h
  go_enter Tryd.func32, Tryd.ntmps32
  go_wp2
  go_ret
  exact ⟨rfl, rfl⟩
def noF : FieldS := (⟨#[]⟩, ⟨#[]⟩)
/-- The field of an index, the newest one first; or the error. -/
def tget (F : List FieldS) (i : Int) : FieldS × Nat := if 1 ≤ i ∧ i ≤ F.length then (F.getD (F.length - i.toNat) noF, 0) else (noF, 5)
set_option maxRecDepth 100000 in
set_option maxHeartbeats 1000000 in
theorem tget_any (t : Nat) (v : Value) (T : Tb) (i : Int) (w : World) (h : Tab w t v T) (hi : -9223372036854775808 ≤ i ∧ i ≤ 9223372036854775807) :
    Calls Tryd.prog 31 #[.pointer (some ⟨t, 0, none⟩), .int .i64 i] w fun e w' => e = .returned (.tuple #[fV (tget T.f i).1, .int .i64 ((tget T.f i).2 : Int)]) ∧ Below w.heap.size w w' := by
  have hlen := len_sumF T.f
  have h1 := h.sum
  have h2 := h.mb
  have h3 := h.bb
  have hl : (T.f.length : Int) ≤ 128 := by omega
  have htl := blk_lt h.blk
  obtain ⟨A, c, rfl, hc⟩ := own_shape h.own
  have hrd := own_fread h.own
  have c0 := (cell_of_row _ _ 0 _ _ _ h.blk).trans (show _ = some (.slice A T.f.length c) from rfl)
  clear h
  obtain ⟨z, hz⟩ : ∃ z, z = tget T.f i := ⟨_, rfl⟩
  rw [← hz]
  rw [tget] at hz
  by_cases g1 : 1 ≤ i
  · by_cases g2 : i ≤ T.f.length
    · rw [if_pos ⟨g1, g2⟩] at hz
      obtain ⟨k, hk⟩ : ∃ k : Nat, (k : Int) = (T.f.length : Int) - i := ⟨(T.f.length - i.toNat), by omega⟩
      have hkl : k < T.f.length := by omega
      obtain ⟨f, hf⟩ : ∃ f, T.f[k]? = some f := ⟨_, List.getElem?_eq_getElem hkl⟩
      have ez : z = (f, 0) := by
        rw [hz, show T.f.length - i.toNat = k by omega, List.getD_eq_getElem?_getD, hf]
        rfl
      subst ez
      clear hz
      obtain ⟨b, off, rfl, hbl, q1, q2⟩ := hrd.at_ hf
      obtain ⟨F, hF⟩ : ∃ F : Nat, F = T.f.length := ⟨_, rfl⟩
      rw [← hF] at c0 g2 hk hkl hl
      obtain rfl : i = (F : Int) - k := by omega
      have g3 : (0 : Int) ≤ k := by omega
      have g4 : (k : Int) < F := by omega
      have hw : IntKind.i64.wrap ((F : Int) - ((F : Int) - k)) = k := by rw [IntWalk.i64_in _ (by omega)]; omega
      clear hk hi hrd hf
      replace hF := Lib.hid hF
      rw [fV]
      go_enter Tryd.func31, Tryd.ntmps31
      go_wp2_with fail
      have H : Hp (w.alloc (.cells #[.string ⟨#[]⟩, .string ⟨#[]⟩] 46)) ([] ++ [(w.heap.size, .cells #[.string ⟨#[]⟩, .string ⟨#[]⟩] 46)]) := (Hp.nil w).alloc _
      have d0 := (bcell (bl_drew (bl_alloc (Below.refl w.heap.size w) (.cells #[.string ⟨#[]⟩, .string ⟨#[]⟩] 46)))).1
      have e0 := (d0 t 0 htl).trans c0
      have e1 := (d0 b _ hbl).trans q1
      have e2 := (d0 b _ hbl).trans q2
      have hbd : Below w.heap.size w (w.alloc (.cells #[.string ⟨#[]⟩, .string ⟨#[]⟩] 46)).drew := bl_drew (bl_alloc (Below.refl _ _) _)
      clear d0
      refine region_plan_open (fun w' => w'.cell? ⟨t, 0, none⟩ = some (.slice (some ⟨b, off, none⟩) F c) ∧ w'.cell? ⟨b, off + k * 2, none⟩ = some (.string f.1) ∧ w'.cell? ⟨b, off + k * 2 + 1, none⟩ = some (.string f.2))
        [13, 14] [13, 14] [0, 1, 2, 3, 4, 5, 6, 7, 8, 9, 10, 11, 12, 13, 14] (by kernel_rfl) (by kernel_rfl) (by kernel_rfl) (by kernel_rfl) (by decide) ⟨e0, e1, e2⟩ ?_
      replace H := H.drew
      generalize (w.alloc (.cells #[.string ⟨#[]⟩, .string ⟨#[]⟩] 46)).drew = w2 at H hbd e0 e1 e2 ⊢
      clear c0 q1 q2
      have z0 := H.free 0 rfl 0
      have z1 := H.free 0 rfl 1
      have y0 := (H.cell 0 rfl 0).trans (show _ = some (.string ⟨#[]⟩) from rfl)
      have y1 := (H.cell 0 rfl 1).trans (show _ = some (.string ⟨#[]⟩) from rfl)
      iterate 13 (refine seq_v rfl rfl rfl (by rintro w' ⟨h1, h2, h3⟩; go_simp) ?_; go_simp)
      refine seq_skip (w' := w2.setRow w.heap.size #[.string f.1, .string f.2]) rfl (fun _ => trivial) rfl rfl rfl (ex_store_row 46 w.heap.size _ #[.string f.1, .string f.2] (H.get 0 rfl) (k := 2) (by kernel_rfl) rfl rfl (by simp [Value.oneCell']) _ _ (.tmp 4) (.tmp 35) rfl rfl rfl) (fun h => absurd (by decide) h) ?_
      go_simp
      refine seq_dv rfl (fun _ => trivial) rfl rfl rfl (fun h => absurd (by decide) h) (by go_simp) ?_
      go_simp
      refine seq_nil ?_
      have H2 := H.setRow 0 rfl #[.string f.1, .string f.2]
      have hbe := bl_setRow hbd (Nat.le_refl w.heap.size) #[.string f.1, .string f.2]
      generalize w2.setRow w.heap.size #[.string f.1, .string f.2] = w3 at H2 hbe ⊢
      clear e0 e1 e2
      have y0 := (H2.cell 0 rfl 0).trans (show _ = some (.string f.1) from rfl)
      have y1 := (H2.cell 0 rfl 1).trans (show _ = some (.string f.2) from rfl)
      go_wp2_with fail
      try rw [Exit.noGoto_ret]
      exact bodyPost_ret (v := .tuple #[.agg #[.string f.1, .string f.2], .int .i64 0]) (by simp [results, Tryd.results31, go_sem, y0, y1]) rfl ⟨rfl, hbe⟩
    · rw [if_neg (fun h => g2 h.2)] at hz
      subst hz
      have g3 : (T.f.length : Int) < i := by omega
      go_enter Tryd.func31, Tryd.ntmps31
      go_wp2_with fail
      try rw [Exit.noGoto_ret]
      exact bodyPost_ret (v := .tuple #[.agg #[.string ⟨#[]⟩, .string ⟨#[]⟩], .int .i64 5]) (by simp [results, Tryd.results31, go_sem]) rfl ⟨rfl, bl_alloc (Below.refl _ _) _⟩
  · rw [if_neg (fun h => g1 h.1)] at hz
    subst hz
    have g3 : i < 1 := by omega
    go_enter Tryd.func31, Tryd.ntmps31
    go_wp2_with fail
    try rw [Exit.noGoto_ret]
    exact bodyPost_ret (v := .tuple #[.agg #[.string ⟨#[]⟩, .string ⟨#[]⟩], .int .i64 5]) (by simp [results, Tryd.results31, go_sem]) rfl ⟨rfl, bl_alloc (Below.refl _ _) _⟩
end Go.Proofs.YtfkpeahelhpelaaDoor

namespace Go.Proofs.YtfkpeahelhpelaaDoor
set_option linter.all false
open Go.RowKit Go.Shelf
attribute [local go_sem] Oper.semAt_some valueOf_ok

set_option maxHeartbeats 1000000 in
theorem setMost_no (t : Nat) (v : Value) (T : Tb) (n : Int) (w : World) (h : Tab w t v T) (hn : ¬ (0 ≤ n ∧ n ≤ T.bound)) :
    Calls Tryd.prog 22 #[.pointer (some ⟨t, 0, none⟩), .int .i64 n] w fun e w' => e = .returned (.int .i64 1) ∧ w = w' := by
  have c0 := (cell_of_row _ _ 2 _ _ _ h.blk).trans (show _ = some (.int .i64 (T.bound : Int)) from rfl)
  clear h
  by_cases h1 : n < 0
  · go_enter Tryd.func22, Tryd.ntmps22
    go_wp2
    go_ret
    exact ⟨rfl, rfl⟩
  · have h2 : (T.bound : Int) < n := by omega
    go_enter Tryd.func22, Tryd.ntmps22
    go_wp2
    go_ret
    exact ⟨rfl, rfl⟩
set_option maxHeartbeats 1000000 in
theorem setMost_yes (t : Nat) (v : Value) (T : Tb) (n : Nat) (w : World) (h : Tab w t v T) (hn : n ≤ T.bound) :
    Calls Tryd.prog 22 #[.pointer (some ⟨t, 0, none⟩), .int .i64 (n : Int)] w fun e w' => ∃ v', e = .returned (.int .i64 0) ∧ Tab w' t v' (T.setMost n) ∧ Mod (tabS t v) w w' ∧ ∀ g, v'.ownBlock = some g → v.ownBlock = some g ∨ w.heap.size ≤ g := by
  have c0 := (cell_of_row _ _ 2 _ _ _ h.blk).trans (show _ = some (.int .i64 (T.bound : Int)) from rfl)
  have c1 := (cell_of_row _ _ 3 _ _ _ h.blk).trans (show _ = some (.int .i64 (T.most : Int)) from rfl)
  have z1 : w.frozen? ⟨t, 3, none⟩ = false := frozen_of_row _ _ _ _ _ h.blk
  have i1 : (n : Int) ≤ T.bound := by omega
  have i2 : ¬ (n : Int) < 0 := by omega
  have hst := h.sum
  have hmb := h.mb
  have hbb := h.bb
  have htl := blk_lt h.blk
  go_enter Tryd.func22, Tryd.ntmps22
  go_wp2_with fail
  have hk := heap_setCell_mod (o := 3) h.blk (.int .i64 (n : Int))
  have ho := own_keep (w' := w.setCell ⟨t, 3, none⟩ (.int .i64 (n : Int))) h.own
  have ho : (w.setCell ⟨t, 3, none⟩ (.int .i64 (n : Int))).ownsRow 0 46 2 v T.f.length (fcells T.f) := by
    refine ⟨h.own.1, h.own.2.imp id fun ⟨g, cap, cur, h1, h2, h3, h4⟩ => ⟨g, cap, cur, h1, h2, (heap_setCell_off (p := ⟨t, 3, none⟩) ?_ _).trans h3, h4⟩⟩
    rintro rfl
    exact h.ne (by rw [h1]; rfl)
  have hgs := gr_setCell (gr_refl w (some t)) (off := 3) (.inr rfl) (.int .i64 (n : Int))
  have hev := evict_any t 0 T.bound n v T.f (w.setCell ⟨t, 3, none⟩ (.int .i64 (n : Int))) (by omega) (by omega) (by omega) hk ho h.ne
  clear c0 c1 z1 ho
  generalize w.setCell ⟨t, 3, none⟩ (.int .i64 (n : Int)) = w1 at hgs hev ⊢
  refine hev.mono ?_
  rintro e w2 ⟨v', rfl, hk2, ho2, hg2⟩
  clear hev
  replace ho2 := Lib.hid ho2
  replace hk2 := Lib.hid hk2
  have h := Lib.hid h
  go_wp2_with fail
  go_ret
  have hsz := hgs.size
  refine ⟨v', rfl, ⟨hk2.out, own_mono ho2.out (Nat.zero_le _), ?_, ?_, hn, hbb⟩, ((Mod.of_grown hgs).imp (fun i _ e => ?_)).grown hg2 (fun i _ e => ?_), ?_⟩
  · intro e
    have := own_block ho2.out e
    omega
  · rcases keepFrom_sum n 0 T.f with h1 | h1
    · show sumF (keepFrom n 0 T.f) ≤ n
      rw [h1, sumF_nil]; omega
    · exact h1
  · cases e; exact .inl rfl
  · cases e; exact .inl rfl
  · intro g e
    have := own_block ho2.out e
    exact .inr (by omega)
theorem tnew_no (n : Int) (w : World) (hn : ¬ (0 ≤ n ∧ n ≤ 4096)) : Calls Tryd.prog 19 #[.int .i64 n] w fun e w' => e = .returned (.tuple #[.pointer none, .int .i64 1]) ∧ w = w' := by
  by_cases h1 : n < 0
  · go_enter Tryd.func19, Tryd.ntmps19
    go_wp2
    go_ret2
    exact ⟨rfl, rfl⟩
  · have h2 : (4096 : Int) < n := by omega
    go_enter Tryd.func19, Tryd.ntmps19
    go_wp2
    go_ret2
    exact ⟨rfl, rfl⟩
theorem tnew_yes (n : Nat) (w : World) (hn : n ≤ 4096) : Calls Tryd.prog 19 #[.int .i64 (n : Int)] w fun e w' => e = .returned (.tuple #[.pointer (some ⟨w.heap.size, 0, none⟩), .int .i64 0]) ∧ w' = w.alloc (tabO (.slice none 0 0) [] n n) := by
  have i1 : (n : Int) ≤ 4096 := by omega
  have i2 : ¬ (n : Int) < 0 := by omega
  go_enter Tryd.func19, Tryd.ntmps19
  go_wp2
  go_ret2
  exact ⟨rfl, rfl⟩
theorem Tab.new (n : Nat) (w : World) (hn : n ≤ 4096) : Tab (w.alloc (tabO (.slice none 0 0) [] n n)) w.heap.size (.slice none 0 0) ⟨[], n, n⟩ :=
  ⟨heap_alloc_new _ _, World.ownsRow_nil _ _ _ _, by simp [Value.ownBlock], by simp [sumF_nil], Nat.le_refl _, hn⟩

set_option maxRecDepth 100000 in
set_option maxHeartbeats 1000000 in
theorem tclone_any (t : Nat) (v : Value) (T : Tb) (w : World) (h : Tab w t v T) :
    Calls Tryd.prog 20 #[.pointer (some ⟨t, 0, none⟩)] w fun e w' => ∃ (t' : Nat) (v' : Value), e = .returned (.pointer (some ⟨t', 0, none⟩)) ∧ Tab w' t' v' T ∧ Below w.heap.size w w' ∧ w.heap.size ≤ t' ∧ ∀ g, v'.ownBlock = some g → w.heap.size ≤ g := by
  have hlen := len_sumF T.f
  have hst := h.sum
  have hmb := h.mb
  have hbb := h.bb
  have htl := blk_lt h.blk
  obtain ⟨A, c, rfl, hc⟩ := own_shape h.own
  have hrd := own_fread h.own
  have hA : A = none → T.f = [] ∧ c = 0 := by
    intro hA
    subst hA
    rcases h.own.2 with ⟨h1, h2⟩ | ⟨g, cap, cur, h1, -⟩
    · injection h1 with _ _ h3
      exact ⟨List.eq_nil_of_length_eq_zero h2, h3⟩
    · injection h1 with h3
      cases h3
  go_enter Tryd.func20, Tryd.ntmps20
  go_wp2_with fail
  have h2 : Tab w.drew t (.slice A T.f.length c) T := h.below (bl_drew (Below.refl _ _))
  have hb2 : Below w.heap.size w w.drew := bl_drew (Below.refl _ _)
  replace hrd : FRead w.drew _ A T.f := hrd.below hb2
  refine region_plan_open (fun w' => w'.cell? ⟨t, 0, none⟩ = some (.slice A T.f.length c) ∧ w'.cell? ⟨t, 1, none⟩ = some (.int .i64 (sumF T.f : Int)) ∧ w'.cell? ⟨t, 2, none⟩ = some (.int .i64 (T.bound : Int)) ∧ w'.cell? ⟨t, 3, none⟩ = some (.int .i64 (T.most : Int)))
    [18, 19] [4, 18, 19] [0, 1, 2, 3, 5, 6, 7, 8, 9, 10, 11, 12, 13, 14, 15, 16, 4, 17, 18, 19] (by kernel_rfl) (by kernel_rfl) (by kernel_rfl) (by kernel_rfl) (by decide) ?_ ?_
  all_goals
    generalize w.drew = w2 at h2 hb2 hrd ⊢
    have c0 := (cell_of_row _ _ 0 _ _ _ h2.blk).trans (show _ = some (.slice A T.f.length c) from rfl)
    have c1 := (cell_of_row _ _ 1 _ _ _ h2.blk).trans (show _ = some (.int .i64 (sumF T.f : Int)) from rfl)
    have c2 := (cell_of_row _ _ 2 _ _ _ h2.blk).trans (show _ = some (.int .i64 (T.bound : Int)) from rfl)
    have c3 := (cell_of_row _ _ 3 _ _ _ h2.blk).trans (show _ = some (.int .i64 (T.most : Int)) from rfl)
  · exact ⟨c0, c1, c2, c3⟩
  have hcl := clone_any A T.f c w2 hrd hA (by omega)
  clear h
  replace h2 := Lib.hid h2
  iterate 16 (refine seq_v rfl rfl rfl (by rintro w' ⟨h1, h2, h3, h4⟩; go_simp) ?_; go_simp)
  refine seq_call (f := 38) (args := #[.slice A T.f.length c]) rfl (fun _ => trivial) rfl rfl rfl rfl (by go_simp) ?_
  refine (callsIn_wide.2 hcl).mono ?_
  rintro e w3 ⟨v', rfl, ho3, hb3⟩
  have h3 := h2.out.below hb3
  clear c0 c1 c2 c3 hcl
  have c0 := (cell_of_row _ _ 0 _ _ _ h3.blk).trans (show _ = some (.slice A T.f.length c) from rfl)
  have c1 := (cell_of_row _ _ 1 _ _ _ h3.blk).trans (show _ = some (.int .i64 (sumF T.f : Int)) from rfl)
  have c2 := (cell_of_row _ _ 2 _ _ _ h3.blk).trans (show _ = some (.int .i64 (T.bound : Int)) from rfl)
  have c3 := (cell_of_row _ _ 3 _ _ _ h3.blk).trans (show _ = some (.int .i64 (T.most : Int)) from rfl)
  obtain ⟨va, vc, rfl, hvc⟩ := own_shape ho3
  refine ⟨_, rfl, fun _ => ⟨c0, c1, c2, c3⟩, ?_⟩
  replace ho3 := Lib.hid ho3
  replace h3 := Lib.hid h3
  go_simp
  refine seq_v rfl rfl rfl (by rintro w' ⟨h1, h2, h3, h4⟩; go_simp) ?_
  go_simp
  refine seq_do (v := .pointer (some ⟨w3.heap.size, 0, none⟩)) (w' := w3.alloc (tabO (.slice va T.f.length vc) T.f T.bound T.most)) rfl (fun _ => trivial) rfl rfl rfl (by unfold tabO; go_simp) (fun h => absurd (by decide) h) ?_
  go_simp
  refine seq_dv rfl (fun _ => trivial) rfl rfl rfl (fun h => absurd (by decide) h) (by go_simp) ?_
  go_simp
  refine seq_nil ?_
  go_wp2_with fail
  go_ret
  have hsz := hb2.size
  have hsz3 := hb3.size
  refine ⟨_, _, rfl, ⟨heap_alloc_new _ _, own_mono (own_alloc ho3.out _) (Nat.zero_le _), ?_, hst, hmb, hbb⟩, bl_alloc (bl_then hb2 hb3) _, by omega, ?_⟩
  · intro e
    have := own_lt' ho3.out e
    omega
  · intro g e
    have := own_block ho3.out e
    omega
end Go.Proofs.YtfkpeahelhpelaaDoor
