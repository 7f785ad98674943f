/- The document's table (ref07), walked: Add. -/
import Derived.Test.YtfkpeahelhpelaaDoorRtab
import Derived.Deep.AppendSrc
namespace Go.Proofs.YtfkpeahelhpelaaDoor
set_option linter.all false
open Go.RowKit
attribute [local go_sem] Oper.semAt_some valueOf_ok

/-- append of fields that are read, the source nil or not, onto a row of the call's own. -/
theorem ex_append_fields {w : World} (base : Nat) (v : Value) (n : Nat) (xs : List Value) (hown : w.ownsRow base 46 2 v n xs) (hn : 0 < n) {P : Nat → Prop} (A : Option Addr) (l : List FieldS) (c : Nat) (hr : FRead w P A l)
    (hbytes : (n + l.length) * 32 ≤ 140737488355328) (hbase : base ≤ w.heap.size) (ev : Operand → Value) (o : Oper) (x y : Operand) (hx : ev x = v) (hy : ev y = .slice A l.length c) (ho : o.op = .call { callee := .builtin .append, args := #[x, y], argTypes := #[33, 33] }) :
    ∃ v' w', (execOp ev o).run Tryd.prog w = .ok (.value v') w' ∧ w'.ownsRow base 46 2 v' (n + l.length) (xs ++ fcells l) ∧ w.grownBy w' v.ownBlock ∧ (v'.ownBlock = v.ownBlock ∨ v'.ownBlock = some w.heap.size) := by
  cases A with
  | some ad => exact ex_append_read base v n xs hown (some ad) l c hr (by simp) hbytes hbase ev o x y hx hy ho
  | none =>
    have hl0 : l = [] := by
      cases l with
      | nil => rfl
      | cons b r => obtain ⟨_, _, e, _⟩ := hr (by simp); cases e
    subst hl0
    obtain ⟨i, hi⟩ : ∃ i, Tryd.prog.info? 46 = some i := by
      cases hi : Tryd.prog.info? 46 with
      | none => have := field_info; rw [hi] at this; cases this
      | some i => exact ⟨i, rfl⟩
    rcases hown.2 with ⟨rfl, h0⟩ | ⟨g, cap, cur, rfl, h1, h2, h3, h4, h5, h6⟩
    · omega
    · refine ⟨.slice (some ⟨g, 0, none⟩) n cap, w, ?_, by simpa [fcells] using hown, ⟨rfl, rfl, rfl, Nat.le_refl _, fun _ _ _ => rfl⟩, .inl rfl⟩
      have hs := Src.ofNil (P := Tryd.prog) w (size := i.size) (tx := 33) (e' := 46) (by kernel_rfl) c
      have hr2 := run_append_room_src (P := Tryd.prog) w 33 33 o.type 46 i (by kernel_rfl) hi g 0 n cap _ 0 [] hs (by omega) (by simp) (by simp)
      have hsc : w.setCells g (0 + n * i.size) [] = w := rfl
      rw [hsc, Nat.add_zero] at hr2
      unfold execOp
      simp only [ho, resolve, invoke, builtin, Sem.run_bind, Sem.run_pure, Result.andThen_ok, List.map_toArray, List.map_cons, List.map_nil, hx, hy, List.length_nil, hr2]
set_option maxRecDepth 100000 in
set_option maxHeartbeats 2000000 in
theorem radd_any (t : Nat) (v : Value) (T : Tb) (f : FieldS) (w : World) (h : RTab w t v T) (hf : fsz f ≤ 131104) : Calls Tryd.prog 29 #[.pointer (some ⟨t, 0, none⟩), fV f] w fun e w' => ∃ v', e = .returned (.tuple #[]) ∧ RTab w' t v' (T.add f) ∧ Mod (fun k => k = t) w w' ∧ ∀ g, v'.ownBlock = some g → w.heap.size ≤ g := by
  have htl := blk_lt h.blk
  have hl := len_sumF T.f
  have h4 := h.sum
  have h5 := h.mb
  have h6 := h.bb
  obtain ⟨A, c, rfl, hc⟩ := own_shape h.own
  have hrd := (own_fread2 (l := T.f.reverse) h.own (by rw [List.length_reverse])).imp (Q := fun b => b ≠ t) fun k _ hk e => by subst e; rw [List.length_reverse] at hk; exact h.ne hk
  have H0 : Hp w [(t, rtO (.slice A T.f.length c) T.bound T.most)] := ⟨by simp, by simpa using h.blk⟩
  have H1 := H0.alloc (.cells #[.string f.1, .string f.2] 46)
  have hb1 := bl_alloc (Below.refl w.heap.size w) (.cells #[.string f.1, .string f.2] 46)
  have hrd1 := hrd.below hb1
  clear h H0
  unfold fV
  go_enter Tryd.func29, Tryd.ntmps29
  go_wp2_with fail
  refine region_plan_open (fun w' => w'.cell? ⟨t, 0, none⟩ = some (.slice A T.f.length c) ∧ w'.cell? ⟨t, 2, none⟩ = some (.int .i64 (T.most : Int)) ∧ w'.cell? ⟨w.heap.size, 0, none⟩ = some (.string f.1) ∧ w'.cell? ⟨w.heap.size, 1, none⟩ = some (.string f.2))
    [13, 14, 15] [2, 7, 12, 13, 14, 15] [0, 1, 3, 4, 5, 6, 8, 9, 10, 11, 2, 7, 12, 13, 14, 15] (by kernel_rfl) (by kernel_rfl) (by kernel_rfl) (by kernel_rfl) (by decide) ?_ ?_
  all_goals
    have H3 := H1.drew
    have hb3 := bl_drew hb1
    have hrd3 := hrd1.below (bl_drew (Below.refl _ _))
    clear H1 hb1 hrd1
    generalize (w.alloc (.cells #[.string f.1, .string f.2] 46)).drew = w3 at H3 hb3 hrd3 ⊢
    have c1 := (H3.cell 0 rfl 0).trans (show _ = some (Value.slice A T.f.length c) from rfl)
    have c2 := (H3.cell 0 rfl 2).trans (show _ = some (Value.int .i64 (T.most : Int)) from rfl)
    have c3 := (H3.cell 1 rfl 0).trans (show _ = some (.string f.1) from rfl)
    have c4 := (H3.cell 1 rfl 1).trans (show _ = some (.string f.2) from rfl)
  · exact ⟨c1, c2, c3, c4⟩
  iterate 10 (refine seq_v rfl rfl rfl (by rintro w' ⟨h1, h2, h3, h4⟩; go_simp) ?_; go_simp)
  have H4 := H3.alloc (.cells #[.string f.1, .string f.2] 46)
  have hb4 := bl_alloc hb3 (.cells #[.string f.1, .string f.2] 46)
  have d1 := (H4.cell 0 rfl 0).trans (show _ = some (Value.slice A T.f.length c) from rfl)
  have d2 := (H4.cell 0 rfl 2).trans (show _ = some (Value.int .i64 (T.most : Int)) from rfl)
  have d3 := (H4.cell 1 rfl 0).trans (show _ = some (.string f.1) from rfl)
  have d4 := (H4.cell 1 rfl 1).trans (show _ = some (.string f.2) from rfl)
  refine seq_do (v := .slice (some ⟨w3.heap.size, 0, none⟩) 1 1) (w' := w3.alloc (.cells #[.string f.1, .string f.2] 46)) rfl (fun _ => trivial) rfl rfl rfl (by go_simp) (fun _ => ⟨d1, d2, d3, d4⟩) ?_
  have hoA : (w3.alloc (.cells #[.string f.1, .string f.2] 46)).ownsRow w3.heap.size 46 2 (.slice (some ⟨w3.heap.size, 0, none⟩) 1 1) 1 (fcells [f]) :=
    ⟨rfl, .inr ⟨w3.heap.size, 1, #[.string f.1, .string f.2], rfl, Nat.le_refl _, heap_alloc_new _ _, Nat.le_refl _, by simp only [maxLen]; omega, rfl, rfl⟩⟩
  have hrd4 := hrd3.below (bl_alloc (Below.refl w3.heap.size w3) (.cells #[.string f.1, .string f.2] 46))
  have hs3 := hb3.size
  have hap := fun ev o x y => ex_append_fields (w := w3.alloc (.cells #[.string f.1, .string f.2] 46)) w3.heap.size _ 1 _ hoA (by decide) A T.f.reverse c hrd4 (by rw [List.length_reverse]; omega) (by rw [World.size_alloc]; omega) ev o x y
  rw [List.length_reverse] at hap
  go_simp
  refine seq_ex rfl (fun _ => trivial) rfl rfl rfl (hap _ _ _ _ rfl rfl rfl) ?_
  rintro v5 w5 ⟨ho5, hg5, hv5⟩
  have hb5 := hb4.trans (grown_below hg5 hb4.size (fun g hg => by cases hg; exact hs3))
  have H5 := (H4.take 2).grown hg5 (by
    intro p hp e
    have e' : p.1 = w3.heap.size := Option.some.inj e
    simp only [List.cons_append, List.nil_append, List.take_succ_cons, List.take_zero, List.mem_cons, List.not_mem_nil, or_false] at hp
    have := H3.lt_at 0 rfl
    have := H3.lt_at 1 rfl
    rcases hp with h | h <;> (have := congrArg Prod.fst h; simp only at this; omega))
  have d1 := (H5.cell 0 rfl 0).trans (show _ = some (Value.slice A T.f.length c) from rfl)
  have d2 := (H5.cell 0 rfl 2).trans (show _ = some (Value.int .i64 (T.most : Int)) from rfl)
  have d3 := (H5.cell 1 rfl 0).trans (show _ = some (.string f.1) from rfl)
  have d4 := (H5.cell 1 rfl 1).trans (show _ = some (.string f.2) from rfl)
  refine ⟨fun _ => ⟨d1, d2, d3, d4⟩, ?_⟩
  obtain ⟨A5, c5, rfl, hc5⟩ := own_shape ho5
  have hn5 : 1 + T.f.length = (f :: T.f.reverse).length := by rw [List.length_cons, List.length_reverse]; omega
  have hfr5 := own_fread2 (l := f :: T.f.reverse) ho5 hn5
  have hft := rfit_any A5 (f :: T.f.reverse) c5 T.most w5 hfr5 (by rw [sumF_cons, sumF_reverse]; omega) (by rw [← hn5]; omega) (by rw [← hn5]; exact hc5) (by omega)
  rw [fit_add, ← hn5, List.length_reverse] at hft
  go_simp
  refine seq_call (f := 47) (args := #[.slice A5 (1 + T.f.length) c5, .int .i64 (T.most : Int)]) rfl (fun _ => trivial) rfl rfl rfl rfl (by go_simp) ?_
  refine (callsIn_wide.2 hft).mono ?_
  rintro e w6 ⟨v6, rfl, ho6, hb6⟩
  have H6 := H5.below hb6
  have d1 := (H6.cell 0 rfl 0).trans (show _ = some (Value.slice A T.f.length c) from rfl)
  have d2 := (H6.cell 0 rfl 2).trans (show _ = some (Value.int .i64 (T.most : Int)) from rfl)
  have d3 := (H6.cell 1 rfl 0).trans (show _ = some (.string f.1) from rfl)
  have d4 := (H6.cell 1 rfl 1).trans (show _ = some (.string f.2) from rfl)
  have z0 := H6.free 0 rfl 0
  refine ⟨_, rfl, fun _ => ⟨d1, d2, d3, d4⟩, ?_⟩
  obtain ⟨A6, c6, rfl, hc6⟩ := own_shape ho6
  go_simp
  iterate 2 (refine seq_dv rfl (fun _ => trivial) rfl rfl rfl (fun h => absurd (by decide) h) (by go_simp) ?_; go_simp)
  refine seq_skip (w' := w6.setCell ⟨t, 0, none⟩ (.slice A6 (T.add f).f.length c6)) rfl (fun _ => trivial) rfl rfl rfl (by go_simp) (fun h => absurd (by decide) h) ?_
  go_simp
  refine seq_nil ?_
  have H7 := H6.setCell 0 rfl 0 (.slice A6 (T.add f).f.length c6)
  have hb6' := hb5.trans (hb6.mono hb5.size)
  have hs5 := hb5.size
  have hfresh : ∀ g, (Value.slice A6 (T.add f).f.length c6).ownBlock = some g → w.heap.size ≤ g := fun g hg => by have := own_block ho6 hg; omega
  have ho7 := own_keep (w' := w6.setCell ⟨t, 0, none⟩ (.slice A6 (T.add f).f.length c6)) ho6 fun g hg _ => heap_setCell_off (show g ≠ t from fun e => by omega) _
  have hM : Mod (fun k => k = t) w (w6.setCell ⟨t, 0, none⟩ (.slice A6 (T.add f).f.length c6)) := (Mod.of_below (S := fun k => k = t) hb6').trans (S' := fun k => k = t) ⟨rfl, rfl, rfl, by simp, fun k _ hk => heap_setCell_off hk _⟩ fun _ _ h => h
  have hsum : sumF (T.add f).f ≤ T.most := by
    have hk := keepFrom_sum T.most (fsz f) T.f
    show sumF (if fsz f ≤ T.most then keepFrom T.most (fsz f) T.f ++ [f] else keepFrom T.most (fsz f) T.f) ≤ T.most
    have happ : ∀ a b : List FieldS, sumF (a ++ b) = sumF a + sumF b := fun a b => by simp [sumF]
    have h1 : sumF [f] = fsz f := by simp [sumF]
    split
    · rw [happ, h1]
      rcases hk with e | e
      · rw [e, sumF_nil]; omega
      · exact e
    · rcases hk with e | e
      · rw [e, sumF_nil]; omega
      · omega
  replace H7 := Lib.hid H7
  go_wp2_with fail
  refine bodyPost_end (v := .tuple #[]) (by simp [results, Tryd.results29, go_sem]) rfl ?_
  exact ⟨_, rfl, ⟨(H7.out.get 0 rfl).trans rfl, own_mono ho7 (Nat.zero_le _), fun e => by have := hfresh t e; omega, hsum, h5, h6⟩, hM, hfresh⟩
end Go.Proofs.YtfkpeahelhpelaaDoor
