/- The table of fields (layer 7): Len, Size, Get, SetMost, New, Clone. -/
import Derived.Test.YtfkpeahelhpelaaDoorTab
namespace Go.Proofs.YtfkpeahelhpelaaDoor
set_option linter.all false
open Go.RowKit Go.Shelf
attribute [local go_sem] Oper.semAt_some valueOf_ok

theorem len_any (t : Nat) (v : Value) (T : Tb) (w : World) (h : Tab w t v T) : Calls Tryd.prog 30 #[.pointer (some ⟨t, 0, none⟩)] w fun e w' => e = .returned (.int .i64 (T.f.length : Int)) ∧ w = w' := by
  obtain ⟨A, c, rfl, hc⟩ := own_shape h.own
  have c0 := (cell_of_row _ _ 0 _ _ _ h.blk).trans (show _ = some (.slice A T.f.length c) from rfl)
  clear h
  go_enter Tryd.func30, Tryd.ntmps30
  go_wp2
  go_ret
  exact ⟨rfl, rfl⟩
theorem tsize_any (t : Nat) (v : Value) (T : Tb) (w : World) (h : Tab w t v T) : Calls Tryd.prog 32 #[.pointer (some ⟨t, 0, none⟩)] w fun e w' => e = .returned (.int .i64 (sumF T.f : Int)) ∧ w = w' := by
  have c0 := (cell_of_row _ _ 1 _ _ _ h.blk).trans (show _ = some (.int .i64 (sumF T.f : Int)) from rfl)
  clear h
  go_enter Tryd.func32, Tryd.ntmps32
  go_wp2
  go_ret
  exact ⟨rfl, rfl⟩
def noF : FieldS := (⟨#[]⟩, ⟨#[]⟩)
/-- The field of an index, the newest one first; or the error. -/
def tget (F : List FieldS) (i : Int) : FieldS × Nat := if 1 ≤ i ∧ i ≤ F.length then (F.getD (F.length - i.toNat) noF, 0) else (noF, 5)
set_option maxRecDepth 100000 in
set_option maxHeartbeats 1000000 in
theorem tget_any (t : Nat) (v : Value) (T : Tb) (i : Int) (w : World) (h : Tab w t v T) (hi : -9223372036854775808 ≤ i ∧ i ≤ 9223372036854775807) :
    Calls Tryd.prog 31 #[.pointer (some ⟨t, 0, none⟩), .int .i64 i] w fun e w' => e = .returned (.tuple #[fV (tget T.f i).1, .int .i64 ((tget T.f i).2 : Int)]) ∧ Below w.heap.size w w' := by
  have hlen := len_sumF T.f
  have h1 := h.sum
  have h2 := h.mb
  have h3 := h.bb
  have hl : (T.f.length : Int) ≤ 128 := by omega
  have htl := blk_lt h.blk
  obtain ⟨A, c, rfl, hc⟩ := own_shape h.own
  have hrd := own_fread h.own
  have c0 := (cell_of_row _ _ 0 _ _ _ h.blk).trans (show _ = some (.slice A T.f.length c) from rfl)
  clear h
  obtain ⟨z, hz⟩ : ∃ z, z = tget T.f i := ⟨_, rfl⟩
  rw [← hz]
  rw [tget] at hz
  by_cases g1 : 1 ≤ i
  · by_cases g2 : i ≤ T.f.length
    · rw [if_pos ⟨g1, g2⟩] at hz
      obtain ⟨k, hk⟩ : ∃ k : Nat, (k : Int) = (T.f.length : Int) - i := ⟨(T.f.length - i.toNat), by omega⟩
      have hkl : k < T.f.length := by omega
      obtain ⟨f, hf⟩ : ∃ f, T.f[k]? = some f := ⟨_, List.getElem?_eq_getElem hkl⟩
      have ez : z = (f, 0) := by
        rw [hz, show T.f.length - i.toNat = k by omega, List.getD_eq_getElem?_getD, hf]
        rfl
      subst ez
      clear hz
      obtain ⟨b, off, rfl, hbl, q1, q2⟩ := hrd.at_ hf
      obtain ⟨F, hF⟩ : ∃ F : Nat, F = T.f.length := ⟨_, rfl⟩
      rw [← hF] at c0 g2 hk hkl hl
      obtain rfl : i = (F : Int) - k := by omega
      have g3 : (0 : Int) ≤ k := by omega
      have g4 : (k : Int) < F := by omega
      have hw : IntKind.i64.wrap ((F : Int) - ((F : Int) - k)) = k := by rw [IntWalk.i64_in _ (by omega)]; omega
      clear hk hi hrd hf
      replace hF := Lib.hid hF
      rw [fV]
      go_enter Tryd.func31, Tryd.ntmps31
      go_wp2_with fail
      have H : Hp (w.alloc (.cells #[.string ⟨#[]⟩, .string ⟨#[]⟩] 46)) ([] ++ [(w.heap.size, .cells #[.string ⟨#[]⟩, .string ⟨#[]⟩] 46)]) := (Hp.nil w).alloc _
      have d0 := (bcell (bl_drew (bl_alloc (Below.refl w.heap.size w) (.cells #[.string ⟨#[]⟩, .string ⟨#[]⟩] 46)))).1
      have e0 := (d0 t 0 htl).trans c0
      have e1 := (d0 b _ hbl).trans q1
      have e2 := (d0 b _ hbl).trans q2
      have hbd : Below w.heap.size w (w.alloc (.cells #[.string ⟨#[]⟩, .string ⟨#[]⟩] 46)).drew := bl_drew (bl_alloc (Below.refl _ _) _)
      clear d0
      refine region_plan_open (fun w' => w'.cell? ⟨t, 0, none⟩ = some (.slice (some ⟨b, off, none⟩) F c) ∧ w'.cell? ⟨b, off + k * 2, none⟩ = some (.string f.1) ∧ w'.cell? ⟨b, off + k * 2 + 1, none⟩ = some (.string f.2))
        [13, 14] [13, 14] [0, 1, 2, 3, 4, 5, 6, 7, 8, 9, 10, 11, 12, 13, 14] (by kernel_rfl) (by kernel_rfl) (by kernel_rfl) (by kernel_rfl) (by decide) ⟨e0, e1, e2⟩ ?_
      replace H := H.drew
      generalize (w.alloc (.cells #[.string ⟨#[]⟩, .string ⟨#[]⟩] 46)).drew = w2 at H hbd e0 e1 e2 ⊢
      clear c0 q1 q2
      have z0 := H.free 0 rfl 0
      have z1 := H.free 0 rfl 1
      have y0 := (H.cell 0 rfl 0).trans (show _ = some (.string ⟨#[]⟩) from rfl)
      have y1 := (H.cell 0 rfl 1).trans (show _ = some (.string ⟨#[]⟩) from rfl)
      iterate 13 (refine seq_v rfl rfl rfl (by rintro w' ⟨h1, h2, h3⟩; go_simp) ?_; go_simp)
      refine seq_skip (w' := w2.setRow w.heap.size #[.string f.1, .string f.2]) rfl (fun _ => trivial) rfl rfl rfl (ex_store_row 46 w.heap.size _ #[.string f.1, .string f.2] (H.get 0 rfl) (k := 2) (by kernel_rfl) rfl rfl (by simp [Value.oneCell']) _ _ (.tmp 4) (.tmp 35) rfl rfl rfl) (fun h => absurd (by decide) h) ?_
      go_simp
      refine seq_dv rfl (fun _ => trivial) rfl rfl rfl (fun h => absurd (by decide) h) (by go_simp) ?_
      go_simp
      refine seq_nil ?_
      have H2 := H.setRow 0 rfl #[.string f.1, .string f.2]
      have hbe := bl_setRow hbd (Nat.le_refl w.heap.size) #[.string f.1, .string f.2]
      generalize w2.setRow w.heap.size #[.string f.1, .string f.2] = w3 at H2 hbe ⊢
      clear e0 e1 e2
      have y0 := (H2.cell 0 rfl 0).trans (show _ = some (.string f.1) from rfl)
      have y1 := (H2.cell 0 rfl 1).trans (show _ = some (.string f.2) from rfl)
      go_wp2_with fail
      try rw [Exit.noGoto_ret]
      exact bodyPost_ret (v := .tuple #[.agg #[.string f.1, .string f.2], .int .i64 0]) (by simp [results, Tryd.results31, go_sem, y0, y1]) rfl ⟨rfl, hbe⟩
    · rw [if_neg (fun h => g2 h.2)] at hz
      subst hz
      have g3 : (T.f.length : Int) < i := by omega
      go_enter Tryd.func31, Tryd.ntmps31
      go_wp2_with fail
      try rw [Exit.noGoto_ret]
      exact bodyPost_ret (v := .tuple #[.agg #[.string ⟨#[]⟩, .string ⟨#[]⟩], .int .i64 5]) (by simp [results, Tryd.results31, go_sem]) rfl ⟨rfl, bl_alloc (Below.refl _ _) _⟩
  · rw [if_neg (fun h => g1 h.1)] at hz
    subst hz
    have g3 : i < 1 := by omega
    go_enter Tryd.func31, Tryd.ntmps31
    go_wp2_with fail
    try rw [Exit.noGoto_ret]
    exact bodyPost_ret (v := .tuple #[.agg #[.string ⟨#[]⟩, .string ⟨#[]⟩], .int .i64 5]) (by simp [results, Tryd.results31, go_sem]) rfl ⟨rfl, bl_alloc (Below.refl _ _) _⟩
end Go.Proofs.YtfkpeahelhpelaaDoor
