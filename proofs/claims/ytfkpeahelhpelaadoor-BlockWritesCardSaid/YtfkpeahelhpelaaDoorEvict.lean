/- The table lets the oldest fields go (layer 7): evict, Add, SetMost, Get and the small ones. -/
import Derived.Test.YtfkpeahelhpelaaDoorDyn
import Derived.Test.YtfkpeahelhpelaaDoorHeap
namespace Go.Proofs.YtfkpeahelhpelaaDoor
set_option linter.all false
open Go.RowKit Go.Shelf
attribute [local go_sem] Oper.semAt_some valueOf_ok

theorem keepFrom_drop (most room : Nat) : ∀ F : List FieldS, ∃ k, k ≤ F.length ∧ keepFrom most room F = F.drop k
  | [] => ⟨0, Nat.le_refl _, rfl⟩
  | f :: r => by
    rw [keepFrom]
    split
    · exact ⟨0, Nat.zero_le _, rfl⟩
    · obtain ⟨k, h1, h2⟩ := keepFrom_drop most room r
      exact ⟨k + 1, by simpa using h1, by rw [h2]; rfl⟩

set_option maxRecDepth 100000 in
set_option maxHeartbeats 2000000 in
theorem evict_any (t room bound most : Nat) (v : Value) (F0 : List FieldS) (w : World) (hs0 : sumF F0 ≤ 140737488351232) (hr0 : room ≤ 281474976710656) (hm0 : most ≤ 140737488351232)
    (hb : w.heap[t]? = some (tabO v F0 bound most)) (hown : w.ownsRow 0 46 2 v F0.length (fcells F0)) (hne : v.ownBlock ≠ some t) :
    Calls Tryd.prog 41 #[.pointer (some ⟨t, 0, none⟩), .int .i64 (room : Int)] w fun e w' => ∃ v', e = .returned (.tuple #[]) ∧
      w'.heap[t]? = some (tabO v' (keepFrom most room F0) bound most) ∧ w'.ownsRow w.heap.size 46 2 v' (keepFrom most room F0).length (fcells (keepFrom most room F0)) ∧ w.grownBy w' (some t) := by
  have htl := blk_lt hb
  obtain ⟨A, c, rfl, hc⟩ := own_shape hown
  have hrd := own_fread hown
  have hA : A = none → F0 = [] ∧ c = 0 := by
    intro hA
    subst hA
    rcases hown.2 with ⟨h1, h2⟩ | ⟨g, cap, cur, h1, -⟩
    · injection h1 with _ _ h3
      exact ⟨List.eq_nil_of_length_eq_zero h2, h3⟩
    · injection h1 with h3
      cases h3
  refine (callsIn_wide (n := 3)).1 ?_
  refine callsIn_of_wp_marks Tryd.func41 rfl trivial ?_ rfl
  simp only [Tryd.ntmps41, List.size_toArray, List.length_cons, List.length_nil, Nat.reduceAdd, Nat.reduceSub, Array.replicate_succ, Array.replicate_zero, List.push_toArray, List.append_toArray, List.nil_append, List.cons_append]
  replace hown := Lib.hid hown
  have Hb := Lib.hid hb
  clear hb
  gi_wp2_with fail
  refine ⟨trivial, (callsIn_wide.2 (oldest_any t room _)).mono ?_⟩
  rintro e w2 ⟨rfl, rfl⟩
  gi_wp2_with fail
  simp only [World.size_alloc, Nat.add_assoc, Nat.reduceAdd]
  refine range_at (D := w.heap.size + 4) (by decide) 72 #[.pointer (some ⟨w.heap.size + 2, 0, none⟩), .pointer (some ⟨w.heap.size + 3, 0, none⟩)] rfl (fun args w => rfl) (by simp) ?_
  intro fn R hR
  have H0 : Hp w [(t, tabO (.slice A F0.length c) F0 bound most)] := ⟨by simp, by simpa using Hb.out⟩
  refine (oldest_it _ (w.heap.size + 5) (w.heap.size + 2) (w.heap.size + 3) t room most bound c A F0 (fun r W => Hp W [(t, tabO (.slice A F0.length c) r bound most), (w.heap.size, .cells #[.pointer (some ⟨t, 0, none⟩)] 53), (w.heap.size + 1, .cells #[.int .i64 ((F0.length - r.length : Nat) : Int)] 3),
      (w.heap.size + 2, .cells #[.pointer (some ⟨t, 0, none⟩)] 53), (w.heap.size + 3, .cells #[.int .i64 (room : Int)] 3), (w.heap.size + 4, .deferred (some [])), (w.heap.size + 5, .loop (R .ready none))] ∧ w.grownBy W (some t) ∧ r.length ≤ F0.length ∧ sumF r ≤ sumF F0)
    hs0 hr0 hm0 hc ?_ ?_ ?_ _ ?_).mono ?_
  · rintro r W ⟨H, hg, -⟩
    exact ⟨H.get 3 rfl, H.get 4 rfl, H.get 0 rfl, (hrd.keep fun k hk hlt => hg.block k hlt (by rintro h; cases h; exact hne hk)).imp fun _ _ _ => trivial⟩
  · rintro r W W' ⟨H, hg, h1, h2⟩ hb
    exact ⟨H.below hb, gr_below hg hb, h1, h2⟩
  · rintro f r W ⟨H, hg, hl, hsr⟩ hst
    refine round_by hR (H.get 6 rfl) ?_
    rename_i Q0 K0 a0
    clear a0 K0 Q0
    rw [fV]
    replace hR := Lib.hid hR
    gi_wp2_with fail
    have H1 := H.alloc (.cells #[.string f.1, .string f.2] 46)
    have hg1 := gr_alloc hg (.cells #[.string f.1, .string f.2] 46)
    refine ⟨H1.get 6 rfl, ?_⟩
    have H2 := H1.putObj 6 rfl (.loop (R .busy none))
    have hg2 := gr_putObj hg1 (g := w.heap.size + 5) (.inl (by omega)) (.loop (R .busy none))
    clear H1 hg1
    have hbw : w.heap.size ≤ W.heap.size := hg.size
    generalize hB : W.heap.size = B at H2 hbw ⊢
    generalize (W.alloc (.cells #[.string f.1, .string f.2] 46)).putObj (w.heap.size + 5) (.loop (R .busy none)) = W2 at H2 hg2 ⊢
    clear hB H hg
    rw [sumF_cons] at hsr
    rw [List.length_cons] at hl
    have hfs : fsz f ≤ 281474976710656 := by omega
    have i1 : (fsz f : Int) ≤ 140737488351232 := by omega
    have i2 : (sumF r : Int) ≤ 140737488351232 := by omega
    have hw1 : IntKind.i64.wrap ((sumF (f :: r) : Int) - (fsz f : Int)) = (sumF r : Int) := by rw [sumF_cons, IntWalk.i64_in _ (by omega)]; omega
    gi_wp2_with fail
    refine region_plan (fun w' => w'.cell? ⟨w.heap.size, 0, none⟩ = some (.pointer (some ⟨t, 0, none⟩)) ∧ w'.cell? ⟨t, 1, none⟩ = some (.int .i64 (sumF (f :: r) : Int)) ∧ w'.cell? ⟨B, 0, none⟩ = some (.string f.1) ∧ w'.cell? ⟨B, 1, none⟩ = some (.string f.2))
      [6, 7, 8, 9] [5, 6, 7, 8, 9] [0, 1, 2, 3, 4, 5, 6, 7, 8, 9] (by kernel_rfl) (fun _ => trivial) (by kernel_rfl) (by kernel_rfl) (by kernel_rfl) (by decide) ?_ ?_
    all_goals
      replace H2 := H2.drew
      replace hg2 := gr_drew hg2
      generalize W2.drew = W3 at H2 hg2 ⊢
      have c1 := (H2.cell 1 rfl 0).trans (show _ = some (.pointer (some ⟨t, 0, none⟩)) from rfl)
      have c2 := (H2.cell 0 rfl 1).trans (show _ = some (.int .i64 (sumF (f :: r) : Int)) from rfl)
      have c3 := (H2.cell 7 rfl 0).trans (show _ = some (.string f.1) from rfl)
      have c4 := (H2.cell 7 rfl 1).trans (show _ = some (.string f.2) from rfl)
    · exact ⟨c1, c2, c3, c4⟩
    iterate 5 (refine seq_v rfl rfl rfl (by rintro w' ⟨h1, h2, h3, h4⟩; go_simp) ?_; go_simp)
    refine seq_call (f := 25) (args := #[fV f]) rfl (fun _ => trivial) rfl rfl rfl rfl (by rw [fV]; go_simp) ?_
    show CallsIn Fence.wide _ _ _ _ _ _
    refine (callsIn_wide.2 (size_any f _ hfs)).mono ?_
    rintro e W4 ⟨rfl, hb4⟩
    have H4 := H2.below hb4
    have hg4 := gr_below hg2 hb4
    clear c1 c2 c3 c4 H2 hg2 hb4
    have c1 := (H4.cell 1 rfl 0).trans (show _ = some (.pointer (some ⟨t, 0, none⟩)) from rfl)
    have c2 := (H4.cell 0 rfl 1).trans (show _ = some (.int .i64 (sumF (f :: r) : Int)) from rfl)
    have c3 := (H4.cell 7 rfl 0).trans (show _ = some (.string f.1) from rfl)
    have c4 := (H4.cell 7 rfl 1).trans (show _ = some (.string f.2) from rfl)
    have z2 := H4.free 0 rfl 1
    refine ⟨_, rfl, fun _ => ⟨c1, c2, c3, c4⟩, ?_⟩
    go_simp
    iterate 3 (refine seq_dv rfl (fun _ => trivial) rfl rfl rfl (fun h => absurd (by decide) h) (by go_simp) ?_; go_simp)
    refine seq_skip (w' := W4.setCell ⟨t, 1, none⟩ (.int .i64 (sumF r : Int))) rfl (fun _ => trivial) rfl rfl rfl (by go_simp) (fun h => absurd (by decide) h) ?_
    go_simp
    refine seq_nil ?_
    have H5 := H4.setCell 0 rfl 1 (.int .i64 (sumF r : Int))
    have hg5 := gr_setCell hg4 (g := t) (off := 1) (.inr rfl) (.int .i64 (sumF r : Int))
    clear H4 hg4 c1 c2 c3 c4 z2 hw1
    generalize W4.setCell ⟨t, 1, none⟩ (.int .i64 (sumF r : Int)) = W5 at H5 hg5 ⊢
    have c1 := (H5.cell 2 rfl 0).trans (show _ = some (.int .i64 ((F0.length - (r.length + 1) : Nat) : Int)) from rfl)
    have z1 := H5.free 2 rfl 0
    have hlen := len_sumF F0
    have i3 : ((F0.length - (r.length + 1) : Nat) : Int) ≤ 140737488351232 := by omega
    have i4 : (0 : Int) ≤ ((F0.length - (r.length + 1) : Nat) : Int) := by omega
    obtain ⟨G, hG⟩ : ∃ G : Int, G = ((F0.length - (r.length + 1) : Nat) : Int) := ⟨_, rfl⟩
    rw [← hG] at i3 i4 c1
    replace hG := Lib.hid hG
    gi_wp2_with fail
    have H6 := H5.setCell 2 rfl 0 (.int .i64 (G + 1))
    have hg6 := gr_setCell hg5 (g := w.heap.size + 1) (off := 0) (.inl (by omega)) (.int .i64 (G + 1))
    have H7 := H6.putObj 6 rfl (.loop (R .ready none))
    have hg7 := gr_putObj hg6 (g := w.heap.size + 5) (.inl (by omega)) (.loop (R .ready none))
    refine ⟨H6.get 6 rfl, rfl, ?_, hg7, by omega, by omega⟩
    have e : ((F0.length - r.length : Nat) : Int) = G + 1 := by have := hG.out; omega
    rw [e]
    exact H7.take 7
  · have H := (((((H0.alloc (.cells #[.pointer (some ⟨t, 0, none⟩)] 53)).alloc (.cells #[.int .i64 0] 3)).alloc (.cells #[.pointer (some ⟨t, 0, none⟩)] 53)).alloc (.cells #[.int .i64 (room : Int)] 3)).alloc (.deferred (some []))).alloc (.loop (R .ready none))
    simp only [World.size_alloc, Nat.add_assoc, Nat.reduceAdd, List.cons_append, List.nil_append] at H
    rw [Nat.sub_self]
    exact ⟨H, gr_alloc (gr_alloc (gr_alloc (gr_alloc (gr_alloc (gr_alloc (gr_refl _ _) _) _) _) _) _) _, Nat.le_refl _, Nat.le_refl _⟩
  · rintro e W ⟨⟨u, rfl⟩, H, hg, hl, hsr⟩
    refine ⟨⟨u, rfl⟩, .ready, none, H.get 6 rfl, by simp, ?_⟩
    have H2 := H.putObj 6 rfl (.loop (R .exhausted none))
    have hg2 := gr_putObj hg (g := w.heap.size + 5) (.inl (by omega)) (.loop (R .exhausted none))
    generalize W.putObj (w.heap.size + 5) (.loop (R .exhausted none)) = W2 at H2 hg2 ⊢
    clear H hg
    replace hR := Lib.hid hR
    obtain ⟨kk, hkk, hkd⟩ := keepFrom_drop most room F0
    obtain ⟨r, hr⟩ : ∃ r, r = keepFrom most room F0 := ⟨_, rfl⟩
    rw [← hr] at hkd H2 hl
    replace hr := Lib.hid hr
    subst hkd
    have eg : ((F0.length - (F0.drop kk).length : Nat) : Int) = (kk : Int) := by rw [List.length_drop]; omega
    rw [eg] at H2
    clear eg
    gi_wp2_with fail
    refine region_plan (fun w' => w'.cell? ⟨w.heap.size, 0, none⟩ = some (.pointer (some ⟨t, 0, none⟩)) ∧ w'.cell? ⟨t, 0, none⟩ = some (.slice A F0.length c) ∧ w'.cell? ⟨w.heap.size + 1, 0, none⟩ = some (.int .i64 (kk : Int)))
      [8, 9, 10] [7, 8, 9, 10] [0, 1, 2, 3, 4, 5, 6, 7, 8, 9, 10] (by kernel_rfl) (fun _ => trivial) (by kernel_rfl) (by kernel_rfl) (by kernel_rfl) (by decide) ?_ ?_
    all_goals
      replace H2 := H2.drew
      replace hg2 := gr_drew hg2
      generalize W2.drew = W3 at H2 hg2 ⊢
      have c1 := (H2.cell 1 rfl 0).trans (show _ = some (.pointer (some ⟨t, 0, none⟩)) from rfl)
      have c2 := (H2.cell 0 rfl 0).trans (show _ = some (.slice A F0.length c) from rfl)
      have c3 := (H2.cell 2 rfl 0).trans (show _ = some (.int .i64 (kk : Int)) from rfl)
    · exact ⟨c1, c2, c3⟩
    have hrd3 : FRead W3 (fun _ => True) A F0 := (hrd.keep fun k hk hlt => hg2.block k hlt (by rintro h; cases h; exact hne hk)).imp fun _ _ _ => trivial
    have hlen := len_sumF F0
    have hA3 : adrFrom A c kk 2 = none → F0.drop kk = [] ∧ c - kk = 0 := by
      intro h
      cases A with
      | none => obtain ⟨h1, h2⟩ := hA rfl; rw [h1, h2]; simp
      | some a => unfold adrFrom at h; split at h <;> cases h
    have hcl := clone_any (adrFrom A c kk 2) (F0.drop kk) (c - kk) W3 (hrd3.from_ kk c hkk hc) hA3 (by rw [List.length_drop]; omega)
    iterate 6 (refine seq_v rfl rfl rfl (by rintro w' ⟨h1, h2, h3⟩; go_simp) ?_; go_simp)
    refine seq_q (v := .slice (adrFrom A c kk 2) (F0.drop kk).length (c - kk)) rfl rfl rfl (fun w' _ => by rw [List.length_drop]; exact ex_slice_from 33 46 (by kernel_rfl) (k := 2) (by kernel_rfl) A F0.length c .i64 kk hkk _ _ _ _ rfl rfl rfl) ?_
    refine seq_call (f := 38) (args := #[.slice (adrFrom A c kk 2) (F0.drop kk).length (c - kk)]) rfl (fun _ => trivial) rfl rfl rfl rfl (by go_simp) ?_
    refine (callsIn_wide.2 hcl).mono ?_
    rintro e W4 ⟨v', rfl, hown4, hb4⟩
    have H4 := H2.below hb4
    have hg4 := gr_below hg2 hb4
    have htl3 := H2.lt_at 0 rfl
    have hD3 := H2.lt_at 5 rfl
    clear c1 c2 c3 H2 hcl hA3 hrd3
    have c1 := (H4.cell 1 rfl 0).trans (show _ = some (.pointer (some ⟨t, 0, none⟩)) from rfl)
    have c2 := (H4.cell 0 rfl 0).trans (show _ = some (.slice A F0.length c) from rfl)
    have c3 := (H4.cell 2 rfl 0).trans (show _ = some (.int .i64 (kk : Int)) from rfl)
    have z2 := H4.free 0 rfl 0
    obtain ⟨va, vc, rfl, hvc⟩ := own_shape hown4
    refine ⟨_, rfl, fun _ => ⟨c1, c2, c3⟩, ?_⟩
    replace hown4 := Lib.hid hown4
    go_simp
    iterate 2 (refine seq_dv rfl (fun _ => trivial) rfl rfl rfl (fun h => absurd (by decide) h) (by go_simp) ?_; go_simp)
    refine seq_skip (w' := W4.setCell ⟨t, 0, none⟩ (.slice va (F0.drop kk).length vc)) rfl (fun _ => trivial) rfl rfl rfl (by go_simp) (fun h => absurd (by decide) h) ?_
    go_simp
    refine seq_nil ?_
    rw [← List.length_drop]
    have H5 := H4.setCell 0 rfl 0 (.slice va (F0.drop kk).length vc)
    have hg5 := gr_setCell hg4 (g := t) (off := 0) (.inr rfl) (.slice va (F0.drop kk).length vc)
    have ho5 := own_setCell hown4.out (p := ⟨t, 0, none⟩) htl3 (.slice va (F0.drop kk).length vc)
    have hsz := hg2.size
    have hho := hr.out
    refine leave_end rfl (H5.get 5 rfl) (results_none rfl _ _ _) ?_
    have H6 := H5.putObj 5 rfl (.deferred none)
    have hg6 := gr_putObj hg5 (g := w.heap.size + 4) (.inl (by omega)) (.deferred none)
    have ho6 := own_mono (own_putObj ho5 (show w.heap.size + 4 < W3.heap.size by omega) (.deferred none)) hsz
    rw [← hho]
    exact ⟨_, rfl, H6.get 0 rfl, ho6, hg6⟩
end Go.Proofs.YtfkpeahelhpelaaDoor
