/- The live question, walked. -/
import Derived.Test.YtfkpeahelhpelaaDoorAliveP
namespace Go.Proofs.YtfkpeahelhpelaaDoor
set_option linter.all false
open Go.RowKit
attribute [local go_sem] Oper.semAt_some valueOf_ok

set_option maxRecDepth 100000 in
set_option maxHeartbeats 4000000 in
theorem alive_any (w : World) (hL : LaidLens w) (hS : LaidShapes w) : Calls Tryd.prog 6 #[] w fun e w' => e = .returned (.bool true) ∧ Below w.heap.size w w' := by
  have h2 := lens_two hL
  have hn := bnew_yes 100 w (by decide)
  go_enter Tryd.func6, Tryd.ntmps6
  go_wp2_with fail
  refine hn.mono ?_
  rintro e w1 ⟨d, t, rfl, hD, hb1, hdB, htB⟩
  have hB : ∀ k, decS d t (.slice none 0 0) k → w.heap.size ≤ k := by
    rintro k (rfl | rfl | hk)
    · exact hdB
    · exact htB
    · cases hk
  have hb2 := bl_alloc hb1 (.cells (aB1.map bv).toArray 5)
  have hD2 := hD.below (bl_alloc (Below.refl w1.heap.size w1) (.cells (aB1.map bv).toArray 5))
  have hy := (alloc_bytes w1 aB1 5).imp (Q := fun k => ¬ decS d t (.slice none 0 0) k) fun k _ hk hs => by subst hk; have := hD.lt hs; omega
  have hd1 := dread_any w.heap.size d t _ _ 999 _ aB1 9 _ hD2 hB hb2.size h2 hy (by decide) (by decide) (by decide) (hL.below hb2) (hS.below hb2) (fun _ => False) (fun _ h => h.elim) _ a_1
  clear hD hn
  replace hD2 := Lib.hid hD2
  replace hy := Lib.hid hy
  go_wp2_with fail
  refine hd1.mono ?_
  clear hd1 hD2 hy
  rintro e w3 ⟨v1, x1, rfl, ho1, hD3, hB3, hb3, hK3, -⟩
  replace hb3 := hb2.trans hb3
  obtain ⟨A1, c1, rfl, -⟩ := own_shape ho1
  have hr1 := own_fread2 (l := [fMethod, fPath, fBc]) ho1 rfl
  have hb4 := bl_alloc hb3 (.cells (aB2.map bv).toArray 5)
  have hD4 := hD3.below (bl_alloc (Below.refl w3.heap.size w3) (.cells (aB2.map bv).toArray 5))
  have hy2 := (alloc_bytes w3 aB2 5).imp (Q := fun k => ¬ decS d t v1 k) fun k _ hk hs => by subst hk; have := hD3.lt hs; omega
  have hd2 := dread_any w.heap.size d t _ _ 70 _ aB2 2 _ hD4 hB3 hb4.size h2 hy2 (by decide) (by decide) (by decide) (hL.below hb4) (hS.below hb4) _ (fun k hk => by have := hK3 k hk; exact ⟨Nat.lt_of_lt_of_le this.1 (bl_alloc (Below.refl w3.heap.size w3) (.cells (aB2.map bv).toArray 5)).size, this.2⟩) _ a_2
  have hr2 := hr1.below (bl_alloc (Below.refl w3.heap.size w3) (.cells (aB2.map bv).toArray 5))
  clear hD3 hr1 ho1
  replace hD4 := Lib.hid hD4
  replace hy2 := Lib.hid hy2
  replace hr2 := Lib.hid hr2
  replace hK3 := Lib.hid hK3
  go_wp2_with fail
  refine hd2.mono ?_
  clear hd2 hD4 hy2
  rintro e w5 ⟨v2, x2, rfl, ho2, hD5, hB5, hb5, hK5, hk5⟩
  replace hb5 := hb4.trans hb5
  obtain ⟨A2, c2, rfl, -⟩ := own_shape ho2
  have hr3 := hr2.out.keep fun k hk _ => hk5 k (.inr hk)
  have hb6 := bl_alloc hb5 (.cells (aB3.map bv).toArray 5)
  have hD6 := hD5.below (bl_alloc (Below.refl w5.heap.size w5) (.cells (aB3.map bv).toArray 5))
  have hy3 := (alloc_bytes w5 aB3 5).imp (Q := fun k => ¬ decS d t v2 k) fun k _ hk hs => by subst hk; have := hD5.lt hs; omega
  have hd3 := dread_any w.heap.size d t _ _ 999 _ aB3 2 _ hD6 hB5 hb6.size h2 hy3 (by decide) (by decide) (by decide) (hL.below hb6) (hS.below hb6) _ (fun k hk => by have := hK5 k hk; exact ⟨Nat.lt_of_lt_of_le this.1 (bl_alloc (Below.refl w5.heap.size w5) (.cells (aB3.map bv).toArray 5)).size, this.2⟩) _ a_3
  have hr4 := hr3.below (bl_alloc (Below.refl w5.heap.size w5) (.cells (aB3.map bv).toArray 5))
  clear hD5 hr3 ho2 hr2 hk5 hK3
  replace hD6 := Lib.hid hD6
  replace hy3 := Lib.hid hy3
  replace hr4 := Lib.hid hr4
  replace hK5 := Lib.hid hK5
  go_wp2_with fail
  refine hd3.mono ?_
  clear hd3 hD6 hy3
  rintro e w7 ⟨v3, x3, rfl, ho3, hD7, hB7, hb7, hK7, hk7⟩
  replace hb7 := hb6.trans hb7
  obtain ⟨A3, c3, rfl, -⟩ := own_shape ho3
  have hr5 := hr4.out.keep fun k hk _ => hk7 k (.inl (.inr hk))
  have hb8 := bl_alloc hb7 (.cells (fcells [fMethod, fXy]).toArray 46)
  have hD8 := hD7.below (bl_alloc (Below.refl w7.heap.size w7) (.cells (fcells [fMethod, fXy]).toArray 46))
  have hr6 := hr5.below (bl_alloc (Below.refl w7.heap.size w7) (.cells (fcells [fMethod, fXy]).toArray 46))
  have hf : FRead (w7.alloc (.cells (fcells [fMethod, fXy]).toArray 46)) (fun k => k = w7.heap.size) (some ⟨w7.heap.size, 0, none⟩) [fMethod, fXy] := fun _ =>
    ⟨w7.heap.size, 0, rfl, rfl, fun j u hj => by rw [Nat.zero_add, cell_of_row _ _ _ _ _ _ (heap_alloc_new w7 _), List.getElem?_toArray]; exact hj⟩
  have hen := benc_any _ [fMethod, fXy] 2 true _ hf (by decide) (hL.below hb8) (hS.below hb8)
  rw [a_4] at hen
  clear hD7 hr4 hr5 hk7 hK5 hf ho3
  replace hD8 := Lib.hid hD8
  replace hr6 := Lib.hid hr6
  replace hK7 := Lib.hid hK7
  go_wp2_with fail
  refine hen.mono ?_
  clear hen
  rintro e w9 ⟨x4, rfl, ho4, hb9⟩
  obtain ⟨A4, c4, rfl, -⟩ := own_shape ho4
  have hbo := own_bytes ho4
  obtain ⟨b, off, rfl, -, hcl⟩ := hr6.out.below hb9 (by decide)
  have q0 := hcl 0 (.string fMethod.1) rfl
  have q1 := hcl 1 (.string fMethod.2) rfl
  have q2 := hcl 2 (.string fPath.1) rfl
  have q3 := hcl 3 (.string fPath.2) rfl
  have q4 := hcl 4 (.string fBc.1) rfl
  have q5 := hcl 5 (.string fBc.2) rfl
  have hb10 := bl_then hb8 hb9
  have hb11 := bl_alloc hb10 (.cells (aB4.map bv).toArray 5)
  have hsa := same_any _ _ aB4 aB4 c4 7 (w9.alloc (.cells (aB4.map bv).toArray 5)) (hbo.below (bl_alloc (Below.refl w9.heap.size w9) _)) (alloc_bytes w9 aB4 5) (by decide) (by decide)
  have hD10 := (hD8.out.below hb9).below (bl_alloc (Below.refl w9.heap.size w9) (.cells (aB4.map bv).toArray 5))
  clear hD8 hr6 hcl hb9 ho4 hbo
  replace hD10 := Lib.hid hD10
  simp only [fMethod, fPath, fBc, Nat.add_zero] at q0 q1 q2 q3 q4 q5
  go_wp2_with fail
  refine hsa.mono ?_
  clear hsa
  rintro e w11 ⟨rfl, hb12⟩
  have hb13 := bl_then hb11 hb12
  have hsz := bsize_any d t v3 aT3 w11 (hD10.out.below hb12)
  rw [show sumF aT3.f = 0 from rfl] at hsz
  go_wp2_with fail
  refine hsz.mono ?_
  rintro e w12 ⟨rfl, rfl⟩
  go_wp2_with fail
  go_ret
  exact ⟨rfl, hb13⟩
end Go.Proofs.YtfkpeahelhpelaaDoor
