/- BlockLimits, walked: whatever the block, what came ahead, and the two limits, it answers true. -/
import Derived.Test.YtfkpeahelhpelaaDoorAlive
import Derived.Test.YtfkpeahelhpelaaDoorLimP
namespace Go.Proofs.YtfkpeahelhpelaaDoor
set_option linter.all false
open Go.RowKit
attribute [local go_sem] Oper.semAt_some valueOf_ok

set_option maxRecDepth 100000 in
set_option maxHeartbeats 4000000 in
theorem lim_long (A1 A2 : Option Addr) (n1 n2 c1 c2 : Nat) (L1 L2 : Int) (w : World) (hlong : 300 < n1 ∨ 300 < n2) (hL : LaidLens w) (hS : LaidShapes w) :
    Calls Tryd.prog 5 #[.slice A1 n1 c1, .slice A2 n2 c2, .agg #[.int .i64 L1, .int .i64 L2]] w fun e w' => e = .returned (.bool true) ∧ Below w.heap.size w w' := by
  have hb0 := bl_alloc (Below.refl w.heap.size w) (.cells #[.int .i64 L1, .int .i64 L2] 51)
  have hal := alive_any (w.alloc (.cells #[.int .i64 L1, .int .i64 L2] 51)) (hL.below hb0) (hS.below hb0)
  by_cases h1 : 300 < n1
  · have h1' : (300 : Int) < n1 := by omega
    go_enter Tryd.func5, Tryd.ntmps5
    go_wp2_with fail
    refine hal.mono ?_
    rintro e w1 ⟨rfl, hb1⟩
    go_wp2_with fail
    go_ret
    exact ⟨rfl, bl_then hb0 hb1⟩
  · have h1' : (n1 : Int) ≤ 300 := by omega
    have h2' : (300 : Int) < n2 := by omega
    go_enter Tryd.func5, Tryd.ntmps5
    go_wp2_with fail
    refine hal.mono ?_
    rintro e w1 ⟨rfl, hb1⟩
    go_wp2_with fail
    go_ret
    exact ⟨rfl, bl_then hb0 hb1⟩
set_option maxRecDepth 100000 in
set_option maxHeartbeats 8000000 in
theorem lim_short (A1 A2 : Option Addr) (b ah : List UInt8) (k1 k2 : Nat) (L1 L2 : Int) (w : World) {P1 P2 : Nat → Prop} (hb : Bytes w P1 A1 b) (ha : Bytes w P2 A2 ah) (hb300 : b.length ≤ 300) (ha300 : ah.length ≤ 300) (hk1 : b.length ≤ k1) (hk2 : ah.length ≤ k2) (hm1 : k1 ≤ 140737488351232) (hm2 : k2 ≤ 140737488351232) (hL : LaidLens w) (hS : LaidShapes w) :
    Calls Tryd.prog 5 #[.slice A1 b.length k1, .slice A2 ah.length k2, .agg #[.int .i64 L1, .int .i64 L2]] w fun e w' => e = .returned (.bool true) ∧ Below w.heap.size w w' := by
  have i1 : (b.length : Int) ≤ 300 := by omega
  have i2 : (ah.length : Int) ≤ 300 := by omega
  have hb0 := bl_alloc (Below.refl w.heap.size w) (.cells #[.int .i64 L1, .int .i64 L2] 51)
  have hx := heap_alloc_new w (.cells #[.int .i64 L1, .int .i64 L2] 51)
  have h2 : 2 ≤ (w.alloc (.cells #[.int .i64 L1, .int .i64 L2] 51)).heap.size := Nat.le_trans (lens_two hL) hb0.size
  have hL0 := hL.below hb0
  have hS0 := hS.below hb0
  have hby := (hb.below hb0).imp (Q := fun k => k < (w.alloc (.cells #[.int .i64 L1, .int .i64 L2] 51)).heap.size) fun k hk _ => hk
  have hay := (ha.below hb0).imp (Q := fun k => k < (w.alloc (.cells #[.int .i64 L1, .int .i64 L2] 51)).heap.size) fun k hk _ => hk
  have hn := bnew_yes 200 (w.alloc (.cells #[.int .i64 L1, .int .i64 L2] 51)) (by decide)
  clear hb ha
  replace hby := Lib.hid hby
  replace hay := Lib.hid hay
  go_enter Tryd.func5, Tryd.ntmps5
  go_wp2_with fail
  refine hn.mono ?_
  clear hn
  generalize hw0 : w.alloc (.cells #[.int .i64 L1, .int .i64 L2] 51) = w0 at *
  clear hw0
  rintro e w1 ⟨d, t, rfl, hD1, hb1, hdB, htB⟩
  have hB1 : ∀ k, decS d t (.slice none 0 0) k → w0.heap.size ≤ k := by
    rintro k (rfl | rfl | hk)
    · exact hdB
    · exact htB
    · cases hk
  obtain ⟨⟨⟨G0, c0, e0⟩, T⟩, hR0⟩ : ∃ R, bdec 999 ah ⟨[], 200, 200⟩ = R := ⟨_, rfl⟩
  have hd1 := dread_any w0.heap.size d t _ _ 999 _ ah k2 _ hD1 hB1 hb1.size h2 ((hay.out.below hb1).imp fun k _ hk hs => by have := hB1 k hs; omega) hk2 hm2 (by omega) (hL0.below hb1) (hS0.below hb1) (fun _ => False) (fun _ h => h.elim) _ hR0
  clear hR0 hdB htB hD1
  replace hB1 := Lib.hid hB1
  go_wp2_with fail
  refine hd1.mono ?_
  clear hd1
  rintro e w2 ⟨v1, x0, rfl, -, hD2, hB2, hb2, -, -⟩
  replace hb2 := hb1.trans hb2
  clear hb1 hB1
  have hcl := bclone_any d t v1 T w2 hD2
  replace hD2 := Lib.hid hD2
  replace hB2 := Lib.hid hB2
  go_wp2_with fail
  refine hcl.mono ?_
  clear hcl
  rintro e w3 ⟨d', t', v', rfl, hE3, hbc, hF3⟩
  have hD3 := hD2.out.below hbc
  have hb3 := hb2.trans (hbc.mono hb2.size)
  have hapart : ∀ k, decS d' t' v' k → k < w3.heap.size ∧ ¬ decS d t v1 k := fun k hk => ⟨hE3.lt hk, fun hs => by have := hF3 k hk; have := hD2.out.lt hs; omega⟩
  obtain ⟨⟨⟨G1, c1, e1⟩, T1⟩, hR1⟩ : ∃ R, bdec L1 b T = R := ⟨_, rfl⟩
  obtain ⟨⟨⟨G2, c2, e2⟩, T2⟩, hR2⟩ : ∃ R, bdec L2 b T = R := ⟨_, rfl⟩
  have htwo := bdec_two L1 L2 b T
  rw [hR1, hR2] at htwo
  obtain ⟨hT, he, hbad, hgood⟩ := htwo
  simp only at hT he hbad hgood
  subst hT he
  have hd4 := dread_any w0.heap.size d t _ _ L1 _ b k1 _ hD3 hB2.out hb3.size h2 ((hby.out.below hb3).imp fun k _ hk hs => by have := hB2.out k hs; omega) hk1 hm1 (by omega) (hL0.below hb3) (hS0.below hb3) _ hapart _ hR1
  obtain ⟨y0, y1⟩ := cells_two (blk_below hx hb3)
  have hs23 := Nat.le_trans hb2.size (Nat.le_refl _)
  replace hF3 := Lib.hid hF3
  replace hE3 := Lib.hid hE3
  replace hR2 := Lib.hid hR2
  replace hbad := Lib.hid hbad
  replace hgood := Lib.hid hgood
  clear hR1 hD3 hD2 hbc
  go_wp2_with fail
  refine hd4.mono ?_
  clear hd4
  rintro e w4 ⟨v2, x1, rfl, ho4, hD4, hB4, hb4, hK4, hk4⟩
  replace hb4 := hb3.trans hb4
  obtain ⟨X1, z1, rfl, -⟩ := own_shape ho4
  have hE4 := hE3.out.keep fun k _ hs => hk4 k hs
  have hBE : ∀ k, decS d' t' v' k → w0.heap.size ≤ k := fun k hk => Nat.le_trans hb2.size (hF3.out k hk)
  have hap5 : ∀ k, decS d t v2 k ∨ (Value.slice X1 G1.length z1).ownBlock = some k → k < w4.heap.size ∧ ¬ decS d' t' v' k := by
    rintro k (hk | hk)
    · exact ⟨hD4.lt hk, fun hs => (hK4 k (.inl hs)).2 hk⟩
    · exact ⟨(hK4 k (.inr hk)).1, fun hs => by have := hE3.out.lt hs; have := own_block ho4 hk; omega⟩
  have hd5 := dread_any w0.heap.size d' t' _ _ L2 _ b k1 _ hE4 hBE hb4.size h2 ((hby.out.below hb4).imp fun k _ hk hs => by have := hBE k hs; omega) hk1 hm1 (by omega) (hL0.below hb4) (hS0.below hb4) _ hap5 _ hR2.out
  obtain ⟨y0, y1⟩ := cells_two (blk_below hx hb4)
  clear hE4 hE3 hk4 hK4 hapart hR2
  replace ho4 := Lib.hid ho4
  replace hD4 := Lib.hid hD4
  replace hB4 := Lib.hid hB4
  replace hF3 := Lib.hid hF3
  clear hBE
  go_wp2_with fail
  refine hd5.mono ?_
  clear hd5
  rintro e w5 ⟨v3, x2, rfl, ho5, hE5, hB5, hb5, hK5, hk5⟩
  replace hb5 := hb4.trans hb5
  obtain ⟨X2, z2, rfl, -⟩ := own_shape ho5
  have hD5 := hD4.out.keep fun k _ hs => hk5 k (.inl hs)
  have ho6 := own_same ho4.out fun g hg => hk5 g (.inr hg)
  have ht1 := btable_any d t v2 T1 w5 hD5
  have ht2 := fun W h => btable_any d' t' v3 T1 W h
  have hTR : T1.f.reverse.length ≤ 9223372036854775807 := by
    have h3 := len_sumF T1.f
    have h4 := hD5.tab.sum
    have h5 := hD5.tab.mb
    have h6 := hD5.tab.bb
    rw [List.length_reverse]
    omega
  generalize T1.f.reverse = TR at ht1 ht2 hTR
  replace hTR := Lib.hid hTR
  have hr1 := own_fread2 ho6 rfl
  have hr2 := own_fread2 ho5 rfl
  have hlen1 : G1.length ≤ 9223372036854775807 := by
    rcases ho6.2 with ⟨-, e⟩ | ⟨g, cap, cur, -, -, -, h3, h4, -⟩
    · omega
    · have := h4; simp only [maxLen] at this; omega
  have hlen2 : G2.length ≤ 9223372036854775807 := by
    rcases ho5.2 with ⟨-, e⟩ | ⟨g, cap, cur, -, -, -, h3, h4, -⟩
    · omega
    · have := h4; simp only [maxLen] at this; omega
  obtain ⟨y0, y1⟩ := cells_two (blk_below hx hb5)
  clear hap5 hk5 hK5 ho4 hD4 hB4 hB5 hF3 ho5 ho6
  replace hD5 := Lib.hid hD5
  replace hE5 := Lib.hid hE5
  replace hr1 := Lib.hid hr1
  replace hr2 := Lib.hid hr2
  replace hlen1 := Lib.hid hlen1
  replace hlen2 := Lib.hid hlen2
  go_wp2_with fail
  refine ht1.mono ?_
  clear ht1
  rintro e w6 ⟨u1, rfl, ho6, hb6⟩
  obtain ⟨U1, o1, rfl, -⟩ := own_shape ho6
  have ht3 := ht2 w6 (hE5.out.below hb6)
  clear ht2
  have hq1 := own_fread2 ho6 rfl
  clear ho6
  replace hq1 := Lib.hid hq1
  go_wp2_with fail
  refine ht3.mono ?_
  clear ht3
  rintro e w7 ⟨u2, rfl, ho7, hb7⟩
  obtain ⟨U2, o2, rfl, -⟩ := own_shape ho7
  have hq2 := own_fread2 ho7 rfl
  have hfe := fields_eq U1 U2 TR TR o1 o2 w7 (hq1.out.below hb7) hq2 hTR.out hTR.out
  rw [decide_eq_true rfl] at hfe
  replace hb7 := bl_then hb6 hb7
  clear ho7 hq1 hq2
  go_wp2_with fail
  refine hfe.mono ?_
  clear hfe
  rintro e w8 ⟨rfl, hb8⟩
  replace hb8 := bl_then hb7 hb8
  have hfl := fields_eq X1 X2 G1 G2 z1 z2 w8 (hr1.out.below hb8) (hr2.out.below hb8) hlen1.out hlen2.out
  clear hr1 hr2
  obtain ⟨D, hDD⟩ : ∃ D, D = decide (G1 = G2) := ⟨_, rfl⟩
  rw [← hDD] at hfl
  replace hDD := Lib.hid hDD
  go_wp2_with fail
  refine hfl.mono ?_
  clear hfl
  rintro e w9 ⟨rfl, hb9⟩
  replace hb9 := bl_then hb8 hb9
  have hz1 := bsize_any d t v2 T1 w9 (hD5.out.below hb9)
  have hz2 := bsize_any d' t' v3 T1 w9 (hE5.out.below hb9)
  generalize sumF T1.f = S at hz1 hz2
  replace hb9 := hb5.trans (hb9.mono hb5.size)
  obtain ⟨y0, y1⟩ := cells_two (blk_below hx hb9)
  have hal := alive_any w9 (hL0.below hb9) (hS0.below hb9)
  replace hb9 := hb0.trans (hb9.mono hb0.size)
  replace hb9 := Lib.hid hb9
  clear hb8 hb7 hb6 hb5 hD5 hE5
  by_cases he0 : e1 = 0
  · subst he0
    obtain ⟨n, G, ⟨rfl, rfl⟩, hg1, hg2⟩ := hgood.out rfl
    clear hgood hbad
    by_cases q1 : L1 < n <;> by_cases q2 : L2 < n
    · rw [decide_eq_true q1, decide_eq_true q2]
      clear q1 q2 hg1 hg2
      go_wp2_with fail
      refine hz1.mono ?_
      rintro e w10 ⟨rfl, rfl⟩
      go_wp2_with fail
      refine hz2.mono ?_
      rintro e w10 ⟨rfl, rfl⟩
      go_wp2_with fail
      refine hal.mono ?_
      rintro e w10 ⟨rfl, hb10⟩
      go_wp2_with fail
      go_ret
      exact ⟨rfl, bl_then hb9.out hb10⟩
    · rw [decide_eq_true q1, decide_eq_false q2]
      have q3 : L1 < L2 := by omega
      clear q1 q2 hg1 hg2
      go_wp2_with fail
      refine hz1.mono ?_
      rintro e w10 ⟨rfl, rfl⟩
      go_wp2_with fail
      refine hz2.mono ?_
      rintro e w10 ⟨rfl, rfl⟩
      go_wp2_with fail
      refine hal.mono ?_
      rintro e w10 ⟨rfl, hb10⟩
      go_wp2_with fail
      go_ret
      exact ⟨rfl, bl_then hb9.out hb10⟩
    · rw [decide_eq_false q1, decide_eq_true q2]
      have q3 : L2 < L1 := by omega
      clear q1 q2 hg1 hg2
      go_wp2_with fail
      refine hz1.mono ?_
      rintro e w10 ⟨rfl, rfl⟩
      go_wp2_with fail
      refine hz2.mono ?_
      rintro e w10 ⟨rfl, rfl⟩
      go_wp2_with fail
      refine hal.mono ?_
      rintro e w10 ⟨rfl, hb10⟩
      go_wp2_with fail
      go_ret
      exact ⟨rfl, bl_then hb9.out hb10⟩
    · rw [decide_eq_false q1, decide_eq_false q2]
      obtain rfl : D = true := by rw [hDD.out, hg1 (by omega), hg2 (by omega)]; exact decide_eq_true rfl
      clear q1 q2 hg1 hg2
      go_wp2_with fail
      refine hz1.mono ?_
      rintro e w10 ⟨rfl, rfl⟩
      go_wp2_with fail
      refine hz2.mono ?_
      rintro e w10 ⟨rfl, rfl⟩
      go_wp2_with fail
      refine hal.mono ?_
      rintro e w10 ⟨rfl, hb10⟩
      go_wp2_with fail
      go_ret
      exact ⟨rfl, bl_then hb9.out hb10⟩
  · obtain ⟨rfl, rfl, rfl, rfl⟩ := hbad.out he0
    obtain rfl : D = true := by rw [hDD.out]; exact decide_eq_true rfl
    have he1 : ¬ ((e1 : Int) = 0) := by omega
    clear hgood hbad
    go_wp2_with fail
    refine hz1.mono ?_
    rintro e w10 ⟨rfl, rfl⟩
    go_wp2_with fail
    refine hz2.mono ?_
    rintro e w10 ⟨rfl, rfl⟩
    go_wp2_with fail
    refine hal.mono ?_
    rintro e w10 ⟨rfl, hb10⟩
    go_wp2_with fail
    go_ret
    exact ⟨rfl, bl_then hb9.out hb10⟩
end Go.Proofs.YtfkpeahelhpelaaDoor
