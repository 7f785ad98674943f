/- No decoder (layer 9): what its methods come to. BlockReads, walked: whatever the bound, the blocks and the limits, it answers true. -/
import Derived.Test.YtfkpeahelhpelaaDoorRead
import Derived.Test.YtfkpeahelhpelaaDoorAlive
import Derived.Test.YtfkpeahelhpelaaDoorRbdec
namespace Go.Proofs.YtfkpeahelhpelaaDoor
set_option linter.all false
open Go.RowKit
attribute [local go_sem] Oper.semAt_some valueOf_ok

theorem nsize_any (w : World) : Calls Tryd.prog 14 #[.pointer none] w fun e w' => e = .returned (.int .i64 0) ∧ w = w' := by
  go_enter Tryd.func14, Tryd.ntmps14
  go_wp2_with fail
  go_ret
  exact ⟨rfl, rfl⟩
theorem ntable_any (w : World) : Calls Tryd.prog 13 #[.pointer none] w fun e w' => e = .returned (.slice none 0 0) ∧ w = w' := by
  go_enter Tryd.func13, Tryd.ntmps13
  go_wp2_with fail
  go_ret
  exact ⟨rfl, rfl⟩
theorem nclone_any (w : World) : Calls Tryd.prog 9 #[.pointer none] w fun e w' => e = .returned (.pointer none) ∧ w = w' := by
  go_enter Tryd.func9, Tryd.ntmps9
  go_wp2_with fail
  go_ret
  exact ⟨rfl, rfl⟩
set_option maxRecDepth 100000 in
theorem ndec_any (A : Option Addr) (n c : Nat) (limit : Int) (w : World) : Calls Tryd.prog 10 #[.pointer none, .slice A n c, .int .i64 limit] w fun e w' => e = .returned (.tuple #[.slice none 0 0, .bool false, .int .i64 1]) ∧ Below w.heap.size w w' := by
  have hb := bl_alloc (bl_alloc (Below.refl _ w) (.cells #[.pointer none] 24)) (.cells #[.int .i64 limit] 3)
  go_enter Tryd.func10, Tryd.ntmps10
  go_wp2_with fail
  go_step3
  go_wp2_with fail
  rw [Exit.noGoto_ret]
  go_ret3
  exact ⟨rfl, hb⟩
end Go.Proofs.YtfkpeahelhpelaaDoor

namespace Go.Proofs.YtfkpeahelhpelaaDoor
set_option linter.all false
open Go.RowKit
attribute [local go_sem] Oper.semAt_some valueOf_ok

/-- A block that came in, and a limit. -/
structure ReadS where
  A : Option Addr
  b : List UInt8
  c : Nat
  lim : Int
/-- The slice at A reads as these. -/
def RdRead (w : World) (A : Option Addr) (L : List ReadS) : Prop := 0 < L.length → ∃ b off, A = some ⟨b, off, none⟩ ∧ ∀ i x, L[i]? = some x → w.cell? ⟨b, off + i * 2, none⟩ = some (.slice x.A x.b.length x.c) ∧ w.cell? ⟨b, off + i * 2 + 1, none⟩ = some (.int .i64 x.lim)
theorem RdRead.below {w w' : World} {A : Option Addr} {L : List ReadS} (h : RdRead w A L) (hb : Below w.heap.size w w') : RdRead w' A L := fun hl => by
  obtain ⟨b, off, rfl, hc⟩ := h hl
  refine ⟨b, off, rfl, fun i x hx => ?_⟩
  have hbl : b < w.heap.size := World.block_lt_of_cell? w ⟨b, off + i * 2, none⟩ (hc i x hx).1
  exact ⟨((bcell hb).1 b _ hbl).trans (hc i x hx).1, ((bcell hb).1 b _ hbl).trans (hc i x hx).2⟩
/-- Each one's bytes. -/
def RdOk (w : World) (L : List ReadS) : Prop := ∀ x ∈ L, Bytes w (fun _ => True) x.A x.b ∧ x.b.length ≤ x.c ∧ x.c ≤ 140737488351232

set_option maxRecDepth 100000 in
theorem reads_many (m : Int) (A : Option Addr) (n c : Nat) (w : World) (hn : 20 < n) (hL : LaidLens w) (hS : LaidShapes w) :
    Calls Tryd.prog 3 #[.int .i64 m, .slice A n c] w fun e w' => e = .returned (.bool true) ∧ Below w.heap.size w w' := by
  have hal := alive_any w hL hS
  have h1' : (20 : Int) < n := by omega
  go_enter Tryd.func3, Tryd.ntmps3
  go_wp2_with fail
  refine hal.mono ?_
  rintro e w1 ⟨rfl, hb1⟩
  go_wp2_with fail
  go_ret
  exact ⟨rfl, hb1⟩
set_option maxRecDepth 100000 in
theorem reads_none (m : Int) (A : Option Addr) (n c : Nat) (w : World) (hn : n ≤ 20) (hm : ¬ (0 ≤ m ∧ m ≤ 4096)) (hL : LaidLens w) (hS : LaidShapes w) :
    Calls Tryd.prog 3 #[.int .i64 m, .slice A n c] w fun e w' => e = .returned (.bool true) ∧ Below w.heap.size w w' := by
  have hal := alive_any w hL hS
  have hnew := bnew_no m w hm
  have h1' : (n : Int) ≤ 20 := by omega
  have hcs : m < 0 ∨ ¬ m < 0 ∧ 4096 < m := by omega
  clear hm
  rcases hcs with h2 | ⟨h2, h3⟩
  all_goals
    go_enter Tryd.func3, Tryd.ntmps3
    go_wp2_with fail
    refine hnew.mono ?_
    rintro e w1 ⟨rfl, rfl⟩
    go_wp2_with fail
    refine hal.mono ?_
    rintro e w1 ⟨rfl, hb1⟩
    go_wp2_with fail
    go_ret
    exact ⟨rfl, hb1⟩
/-- What the loop keeps. -/
structure RwSt (w W : World) (d t tb : Nat) (v rv : Value) (T : Tb) : Prop where
  dec : Dec W d t v T
  dB : ∀ k, decS d t v k → w.heap.size ≤ k
  tab : RTab W tb rv T
  tB : ∀ k, tabS tb rv k → w.heap.size ≤ k
  ap : ∀ k, tabS tb rv k → ¬ decS d t v k
  bl : Below w.heap.size w W
theorem Below.dr {w : World} : Below w.heap.size w w.drew := bl_drew (Below.refl _ _)
theorem RwSt.below {w W W' : World} {d t tb : Nat} {v rv : Value} {T : Tb} (h : RwSt w W d t tb v rv T) (hb : Below W.heap.size W W') : RwSt w W' d t tb v rv T :=
  ⟨h.dec.below hb, h.dB, h.tab.below hb, h.tB, h.ap, h.bl.trans (hb.mono h.bl.size)⟩
set_option maxRecDepth 100000 in
set_option maxHeartbeats 8000000 in
theorem reads_walk (m : Nat) (A : Option Addr) (L : List ReadS) (c : Nat) (w : World) (hm : m ≤ 4096) (hn : L.length ≤ 20) (hr : RdRead w A L) (hok : RdOk w L) (hL : LaidLens w) (hS : LaidShapes w) :
    Calls Tryd.prog 3 #[.int .i64 (m : Int), .slice A L.length c] w fun e w' => e = .returned (.bool true) ∧ Below w.heap.size w w' := by
  have hnew := bnew_yes m w hm
  have i1 : (L.length : Int) ≤ 20 := by omega
  have i2 : (m : Int) ≤ 4096 := by omega
  have i3 : (0 : Int) ≤ m := by omega
  have h2 := lens_two hL
  replace hok := Lib.hid hok
  replace hr := Lib.hid hr
  go_enter Tryd.func3, Tryd.ntmps3
  go_wp2_with fail
  refine hnew.mono ?_
  clear hnew
  rintro e w1 ⟨d, t, rfl, hD1, hb1, hdB, htB⟩
  have hbeg := rbegin_any m w1 hm
  replace hD1 := Lib.hid hD1
  go_wp2_with fail
  refine hbeg.mono ?_
  clear hbeg
  rintro e w2 ⟨rfl, hT2, hb2⟩
  have hs12 := hb1.size
  have q1 : ∀ k, decS d t (.slice none 0 0) k → w.heap.size ≤ k := by
    rintro k (rfl | rfl | hk)
    · exact hdB
    · exact htB
    · cases hk
  have q2 : ∀ k, tabS w1.heap.size (.slice none 0 0) k → w.heap.size ≤ k := by
    rintro k (rfl | hk)
    · omega
    · cases hk
  have q3 : ∀ k, tabS w1.heap.size (.slice none 0 0) k → ¬ decS d t (.slice none 0 0) k := by
    rintro k (rfl | hk) (h | h | h)
    · have := hD1.out.lt (.inl rfl); omega
    · have := hD1.out.lt (.inr (.inl rfl)); omega
    · cases h
    · cases hk
    · cases hk
    · cases hk
  have hSt : Hid (RwSt w w2 d t w1.heap.size (.slice none 0 0) (.slice none 0 0) ⟨[], m, m⟩) := Lib.hid ⟨hD1.out.below hb2, q1, hT2, q2, q3, hb1.trans (hb2.mono hs12)⟩
  obtain ⟨tb, htb⟩ : ∃ tb, tb = w1.heap.size := ⟨_, rfl⟩
  rw [← htb] at hSt ⊢
  clear hD1 hT2 hb1 hb2 hdB htB q1 q2 q3 htb hs12
  go_wp2_with fail
  go_loopw [8] (fun i wr => ∃ (k : Nat) (v rv : Value) (T : Tb), k ≤ L.length ∧ i = .int .i64 (k : Int) ∧ Hid (RwSt w wr d t tb v rv T)) (fun i _ => L.length - (intOf i).toNat)
  case atStart => exact ⟨0, _, _, _, by omega, rfl, hSt⟩
  case round =>
    obtain ⟨k, v, rv, T, hk, rfl, hX⟩ := hrel
    clear hSt
    have hbl := hX.out.bl
    have hLr := Lib.hid (hL.below hbl)
    have hSr := Lib.hid (hS.below hbl)
    have hrr := Lib.hid (hr.out.below hbl)
    by_cases hlt : k < L.length
    · have hlt' : (k : Int) < L.length := by omega
      have k0 : (0 : Int) ≤ k := by omega
      obtain ⟨x, hx⟩ : ∃ x, L[k]? = some x := ⟨_, List.getElem?_eq_getElem hlt⟩
      obtain ⟨hby, hxc, hxm⟩ := hok.out x (List.mem_of_getElem? hx)
      obtain ⟨b, off, rfl, hcell⟩ := hrr.out (by omega)
      obtain ⟨c0, c1⟩ := hcell k x hx
      obtain ⟨XA, xb, xc, xl⟩ := x
      simp only at hby hxc hxm c0 c1
      have hbw : b < w.heap.size := by
        obtain ⟨b', off', e, hcell'⟩ := hr.out (by omega)
        cases e
        exact World.block_lt_of_cell? w ⟨b, off + k * 2, none⟩ (hcell' k _ hx).1
      clear hcell hx
      replace hby := Lib.hid (hby.imp (Q := fun k => k < w.heap.size) fun k hk _ => hk)
      by_cases hlong : 300 < xb.length
      · have hlong' : (300 : Int) < xb.length := by omega
        have hal := alive_any wr hLr.out hSr.out
        go_wp2_with fail
        refine hal.mono ?_
        rintro e w3 ⟨rfl, hb3⟩
        go_wp2_with fail
        go_ret
        exact ⟨rfl, hbl.trans (hb3.mono hbl.size)⟩
      · have hlong' : (xb.length : Int) ≤ 300 := by omega
        obtain ⟨R, hR⟩ : ∃ R, bdec xl xb T = R := ⟨_, rfl⟩
        have hR14 := Lib.hid hR
        clear hR hbl
        go_wp2_with fail
        refine region_plan_open (fun w' => w'.cell? ⟨b, off + k * 2, none⟩ = some (.slice XA xb.length xc) ∧ w'.cell? ⟨b, off + k * 2 + 1, none⟩ = some (.int .i64 xl))
          [12] [1, 12] [0, 2, 3, 4, 5, 6, 7, 8, 9, 10, 11, 1, 12] (by kernel_rfl) (by kernel_rfl) (by kernel_rfl) (by kernel_rfl) (by decide) ?_ ?_
        all_goals
          have X3 := Lib.hid (hX.out.below (bl_drew (Below.refl _ _)))
          have c0' : wr.drew.cell? ⟨b, off + k * 2, none⟩ = some (.slice XA xb.length xc) := c0
          have c1' : wr.drew.cell? ⟨b, off + k * 2 + 1, none⟩ = some (.int .i64 xl) := c1
          clear c0 c1 hX hLr hSr hrr
          generalize wr.drew = w3 at X3 c0' c1' ⊢
        · exact ⟨c0', c1'⟩
        iterate 11 (refine seq_v rfl rfl rfl (by rintro w' ⟨h1, h2⟩; go_simp) ?_; go_simp)
        have hcl := bclone_any d t v T w3 X3.out.dec
        refine seq_call (f := 9) (args := #[.pointer (some ⟨d, 0, none⟩)]) rfl (fun _ => trivial) rfl rfl rfl rfl (by go_simp) ?_
        refine (callsIn_wide.2 hcl).mono ?_
        clear hcl
        rintro e w4 ⟨d', t', v', rfl, hE, hb4, hF⟩
        have hbw3 : b < w3.heap.size := Nat.lt_of_lt_of_le hbw X3.out.bl.size
        refine ⟨_, rfl, fun _ => ⟨((bcell hb4).1 b _ hbw3).trans c0', ((bcell hb4).1 b _ hbw3).trans c1'⟩, ?_⟩
        have hB4 := X3.out.bl.trans (hb4.mono X3.out.bl.size)
        have hdc := dread_any w3.heap.size d' t' v' T xl XA xb xc w4 hE hF hb4.size (Nat.le_trans h2 X3.out.bl.size) ((hby.out.below hB4).imp fun k _ hk hs => by have := hF k hs; have := X3.out.bl.size; omega) hxc hxm (by omega) (hL.below hB4) (hS.below hB4) (fun _ => False) (fun _ h => h.elim) R hR14.out
        go_simp
        refine seq_call (f := 10) (args := #[.pointer (some ⟨d', 0, none⟩), .slice XA xb.length xc, .int .i64 xl]) rfl (fun _ => trivial) rfl rfl rfl rfl (by go_simp) ?_
        refine (callsIn_wide.2 hdc).mono ?_
        clear hdc
        rintro e w5 ⟨v2, vo, rfl, -, -, -, hb5, -, -⟩
        have hb35 := hb4.trans hb5
        have X5 := Lib.hid (X3.out.below hb35)
        have c0 := ((bcell hb35).1 b _ hbw3).trans c0'
        have c1 := ((bcell hb35).1 b _ hbw3).trans c1'
        refine ⟨_, rfl, fun h => absurd (by decide) h, ?_⟩
        go_simp
        refine seq_nil ?_
        clear hE hb4 hF hB4 hb5 hb35 X3 c0' c1' hbw3
        go_wp2_with fail
        obtain ⟨⟨⟨G, cut, er⟩, T'⟩, hRR⟩ : ∃ z, z = R := ⟨_, rfl⟩
        subst hRR
        refine region_plan_open (fun w' => w'.cell? ⟨b, off + k * 2, none⟩ = some (.slice XA xb.length xc) ∧ w'.cell? ⟨b, off + k * 2 + 1, none⟩ = some (.int .i64 xl))
          [] [11] [0, 1, 2, 3, 4, 5, 6, 7, 8, 9, 10, 11, 12, 13, 14, 15, 16, 17, 18] (by kernel_rfl) (by kernel_rfl) (by kernel_rfl) (by kernel_rfl) (by decide) ?_ ?_
        all_goals
          have X6 := Lib.hid (X5.out.below Below.dr)
          have c0' : w5.drew.cell? ⟨b, off + k * 2, none⟩ = some (.slice XA xb.length xc) := c0
          have c1' : w5.drew.cell? ⟨b, off + k * 2 + 1, none⟩ = some (.int .i64 xl) := c1
          clear c0 c1 X5
          generalize w5.drew = w6 at X6 c0' c1' ⊢
        · exact ⟨c0', c1'⟩
        iterate 11 (refine seq_v rfl rfl rfl (by rintro w' ⟨h1, h2⟩; go_simp) ?_; go_simp)
        have hdc := dread_any w.heap.size d t v T xl XA xb xc w6 X6.out.dec X6.out.dB X6.out.bl.size h2 ((hby.out.below X6.out.bl).imp fun k _ hk hs => by have := X6.out.dB k hs; omega) hxc hxm (by omega) (hL.below X6.out.bl) (hS.below X6.out.bl) (fun k => tabS tb rv k)
          (fun k hk => ⟨by rcases hk with rfl | hk; exact blk_lt X6.out.tab.blk; exact own_lt' X6.out.tab.own hk, X6.out.ap k hk⟩) _ hR14.out
        refine seq_call (f := 10) (args := #[.pointer (some ⟨d, 0, none⟩), .slice XA xb.length xc, .int .i64 xl]) rfl (fun _ => trivial) rfl rfl rfl rfl (by go_simp) ?_
        refine (callsIn_wide.2 hdc).mono ?_
        clear hdc
        rintro e w7 ⟨v7, vo, rfl, ho7, hD7, hB7, hb7, hK7, hk7⟩
        have hbw6 : b < w6.heap.size := Nat.lt_of_lt_of_le hbw X6.out.bl.size
        have c0 := ((World.cell?_of_block (w := w6) (a := ⟨b, off + k * 2, none⟩) (hb7.block b hbw)).trans c0')
        have c1 := ((World.cell?_of_block (w := w6) (a := ⟨b, off + k * 2 + 1, none⟩) (hb7.block b hbw)).trans c1')
        have hT7 : RTab w7 tb rv T := X6.out.tab.keep fun k _ hs => hk7 k hs
        have hbl7 := X6.out.bl.trans hb7
        refine ⟨_, rfl, fun _ => ⟨c0, c1⟩, ?_⟩
        go_simp
        iterate 7 (refine seq_v rfl rfl rfl (by rintro w' ⟨h1, h2⟩; go_simp) ?_; go_simp)
        refine seq_nil ?_
        have htB := Lib.hid X6.out.tB
        have hap7 : Hid (∀ k, tabS tb rv k → ¬ decS d t v7 k) := Lib.hid fun k hk => (hK7 k (.inl hk)).2
        have hvo7 : Hid (∀ g, vo.ownBlock = some g → ¬ decS d t v7 g) := Lib.hid fun g hg => (hK7 g (.inr hg)).2
        have htb6 : Hid (tb < w6.heap.size) := Lib.hid (blk_lt X6.out.tab.blk)
        obtain ⟨V1, C1, hvo, -⟩ := own_shape ho7
        subst hvo
        replace ho7 := Lib.hid ho7
        replace hD7 := Lib.hid hD7
        replace hB7 := Lib.hid hB7
        replace hT7 := Lib.hid hT7
        clear hb7 hK7 hk7 hbw6 c0' c1'
        simp only at ho7 hD7 ⊢
        go_wp2_with fail
        refine region_plan_open (fun w' => w'.cell? ⟨b, off + k * 2, none⟩ = some (.slice XA xb.length xc) ∧ w'.cell? ⟨b, off + k * 2 + 1, none⟩ = some (.int .i64 xl))
          [] [11] [0, 1, 2, 3, 4, 5, 6, 7, 8, 9, 10, 11, 12, 13, 14, 15, 16, 17, 18] (by kernel_rfl) (by kernel_rfl) (by kernel_rfl) (by kernel_rfl) (by decide) ?_ ?_
        all_goals
          have ho8 : Hid (w7.drew.ownsRow w6.heap.size 46 2 (.slice V1 G.length C1) G.length (fcells G)) := Lib.hid (own_keep ho7.out fun _ _ _ => rfl)
          have hD8 := Lib.hid (hD7.out.below Below.dr)
          have hT8 := Lib.hid (hT7.out.below Below.dr)
          have hbl8 := bl_drew hbl7
          have c0' : w7.drew.cell? ⟨b, off + k * 2, none⟩ = some (.slice XA xb.length xc) := c0
          have c1' : w7.drew.cell? ⟨b, off + k * 2 + 1, none⟩ = some (.int .i64 xl) := c1
          clear c0 c1 ho7 hD7 hT7 hbl7
          generalize w7.drew = w8 at ho8 hD8 hT8 hbl8 c0' c1' ⊢
        · exact ⟨c0', c1'⟩
        iterate 11 (refine seq_v rfl rfl rfl (by rintro w' ⟨h1, h2⟩; go_simp) ?_; go_simp)
        have hdc := rbdec_any tb rv T xl XA xb xc w8 hT8.out ((hby.out.below hbl8).imp fun k _ hk e => by have := htB.out tb (.inl rfl); omega) hxc hxm (by omega) _ hR14.out
        refine seq_call (f := 11) (args := #[.pointer (some ⟨tb, 0, none⟩), .slice XA xb.length xc, .int .i64 xl]) rfl (fun _ => trivial) rfl rfl rfl rfl (by go_simp) ?_
        refine (callsIn_wide.2 hdc).mono ?_
        clear hdc
        rintro e w9 ⟨rv9, vo2, rfl, ho9, hT9, hM9, hrv9, hvx9⟩
        simp only at ho9 hT9
        have htbB := htB.out tb (.inl rfl)
        have hbw8 : b < w8.heap.size := Nat.lt_of_lt_of_le hbw hbl8.size
        have c0 := ((World.cell?_of_block (w := w8) (a := ⟨b, off + k * 2, none⟩) (hM9.block b hbw8 (fun e => by omega))).trans c0')
        have c1 := ((World.cell?_of_block (w := w8) (a := ⟨b, off + k * 2 + 1, none⟩) (hM9.block b hbw8 (fun e => by omega))).trans c1')
        have hntb : ¬ decS d t v7 tb := hap7.out tb (.inl rfl)
        have hD9 := hD8.out.keep (w' := w9) fun k hk hs => hM9.block k hk (fun e => by subst e; exact hntb hs)
        have hoX := own_same (w' := w9) ho8.out fun g hg => hM9.block g (own_lt' ho8.out hg) (fun e => by have := own_block ho8.out hg; have := htb6.out; omega)
        have hbl9 : Below w.heap.size w w9 := ⟨hM9.os.trans hbl8.os, hM9.tape.trans hbl8.tape, hM9.output.trans hbl8.output, Nat.le_trans hbl8.size hM9.size, fun k hk => (hM9.block k (Nat.lt_of_lt_of_le hk hbl8.size) (fun e => by omega)).trans (hbl8.block k hk)⟩
        refine ⟨_, rfl, fun _ => ⟨c0, c1⟩, ?_⟩
        go_simp
        iterate 7 (refine seq_v rfl rfl rfl (by rintro w' ⟨h1, h2⟩; go_simp) ?_; go_simp)
        refine seq_nil ?_
        have hX9 : Hid (RwSt w w9 d t tb v7 rv9 T') := Lib.hid ⟨hD9, hB7.out, hT9, by
            rintro k (rfl | hk)
            · exact htbB
            · rcases hrv9 k hk with h | h
              · exact htB.out k (.inr h)
              · have := hbl8.size; omega, by
            rintro k (rfl | hk)
            · exact hntb
            · rcases hrv9 k hk with h | h
              · exact hap7.out k (.inr h)
              · intro hs; have := hD8.out.lt hs; omega, hbl9⟩
        obtain ⟨V2, C2, hvo, -⟩ := own_shape ho9
        subst hvo
        have hr1 := Lib.hid (own_fread2 hoX rfl)
        have hr2 := Lib.hid (own_fread2 ho9 rfl)
        have hlenG : Hid (G.length ≤ 9223372036854775807) := Lib.hid (by
          rcases ho9.2 with ⟨-, e⟩ | ⟨g, cap, cur, -, -, -, h3, h4, -⟩
          · omega
          · have := h4; simp only [maxLen] at this; omega)
        clear hD9 hoX hbl9 ho9 hT9 hM9 hrv9 hvx9 ho8 hD8 hT8 hbl8 hntb htb6 hap7 hvo7 hB7 X6 htB c0' c1' hbw8 htbB
        have hfl := fields_eq V1 V2 G G C1 C2 w9 hr1.out hr2.out hlenG.out hlenG.out
        rw [decide_eq_true rfl] at hfl
        go_wp2_with fail
        refine hfl.mono ?_
        clear hfl
        rintro e w10 ⟨rfl, hb10⟩
        have hX10 := Lib.hid (hX9.out.below hb10)
        clear hX9 hb10 hr1 hr2 hlenG c0 c1
        obtain ⟨RA, RC, hrv, -⟩ := own_shape hX10.out.tab.own
        subst hrv
        obtain ⟨TR, hTR⟩ : ∃ TR, TR = T'.f.reverse := ⟨_, rfl⟩
        have hTl : T'.f.length = TR.length := by rw [hTR, List.length_reverse]
        have hTS : Hid (sumF TR = sumF T'.f) := Lib.hid (by rw [hTR, sumF_reverse])
        have hTle : Hid (TR.length ≤ 4096 ∧ sumF TR ≤ 4096) := Lib.hid (by
          have h3 := len_sumF T'.f
          have h4 := hX10.out.dec.tab.sum
          have h5 := hX10.out.dec.tab.mb
          have h6 := hX10.out.dec.tab.bb
          rw [hTR, List.length_reverse, sumF_reverse]
          omega)
        rw [hTl] at hX10
        have hown10 : Hid (w10.ownsRow 0 46 2 (.slice RA TR.length RC) TR.length (fcells TR)) := Lib.hid (by have := hX10.out.tab.own; rw [← hTR, hTl] at this; exact this)
        have cr := hX10.out.tab.cells.1
        replace hTR := Lib.hid hTR
        replace hTl := Lib.hid hTl
        go_wp2_with fail
        refine region_plan_open (fun w' => w'.cell? ⟨tb, 0, none⟩ = some (.slice RA TR.length RC))
          [6, 7] [1, 6, 7] [0, 2, 3, 4, 5, 1, 6, 7] (by kernel_rfl) (by kernel_rfl) (by kernel_rfl) (by kernel_rfl) (by decide) ?_ ?_
        all_goals
          have hX11 := Lib.hid (hX10.out.below Below.dr)
          have hown11 : Hid (w10.drew.ownsRow 0 46 2 (.slice RA TR.length RC) TR.length (fcells TR)) := Lib.hid (own_keep hown10.out fun _ _ _ => rfl)
          have cr' : w10.drew.cell? ⟨tb, 0, none⟩ = some (.slice RA TR.length RC) := cr
          clear cr hX10 hown10
          generalize w10.drew = w11 at hX11 hown11 cr' ⊢
        · exact cr'
        iterate 5 (refine seq_v rfl rfl rfl (by rintro w' h1; go_simp) ?_; go_simp)
        have htbl := btable_any d t v7 T' w11 hX11.out.dec
        rw [← hTR.out] at htbl
        refine seq_call (f := 13) (args := #[.pointer (some ⟨d, 0, none⟩)]) rfl (fun _ => trivial) rfl rfl rfl rfl (by go_simp) ?_
        refine (callsIn_wide.2 htbl).mono ?_
        clear htbl
        rintro e w12 ⟨u1, rfl, ho12, hb12⟩
        have hX12 := Lib.hid (hX11.out.below hb12)
        have hown12 := Lib.hid (own_same (w' := w12) hown11.out fun g hg => hb12.block g (own_lt' hown11.out hg))
        have cr := hX12.out.tab.cells.1
        clear hX11 hown11 hb12 cr'
        obtain ⟨U1, O1, hu, -⟩ := own_shape ho12
        subst hu
        refine ⟨_, rfl, fun _ => cr, ?_⟩
        have hfl := fields_eq U1 RA TR TR O1 RC w12 (own_fread2 ho12 rfl) (own_fread2 hown12.out rfl) (by have := hTle.out; omega) (by have := hTle.out; omega)
        rw [decide_eq_true rfl] at hfl
        go_simp
        refine seq_call (f := 12) (args := #[.slice U1 TR.length O1, .slice RA TR.length RC]) rfl (fun _ => trivial) rfl rfl rfl rfl (by go_simp) ?_
        refine (callsIn_wide.2 hfl).mono ?_
        clear hfl ho12
        rintro e w13 ⟨rfl, hb13⟩
        have hX13 := Lib.hid (hX12.out.below hb13)
        have hown13 := Lib.hid (own_same (w' := w13) hown12.out fun g hg => hb13.block g (own_lt' hown12.out hg))
        clear hX12 hown12 hb13 cr
        have cr := hX13.out.tab.cells.1
        refine ⟨_, rfl, fun h => absurd (by decide) h, ?_⟩
        go_simp
        refine seq_dv rfl (fun _ => trivial) rfl rfl rfl (fun h => absurd (by decide) h) (by go_simp) ?_
        go_simp
        refine seq_nil ?_
        go_wp2_with fail
        refine region_plan_open (fun w' => w'.cell? ⟨tb, 0, none⟩ = some (.slice RA TR.length RC))
          [23, 24, 25] [18, 23, 24, 25] [0, 1, 2, 3, 4, 5, 6, 7, 8, 9, 10, 11, 12, 13, 14, 15, 16, 17, 19, 20, 21, 22, 18, 23, 24, 25] (by kernel_rfl) (by kernel_rfl) (by kernel_rfl) (by kernel_rfl) (by decide) ?_ ?_
        all_goals
          have hX14 := Lib.hid (hX13.out.below Below.dr)
          have hown14 : Hid (w13.drew.ownsRow 0 46 2 (.slice RA TR.length RC) TR.length (fcells TR)) := Lib.hid (own_keep hown13.out fun _ _ _ => rfl)
          have cr' : w13.drew.cell? ⟨tb, 0, none⟩ = some (.slice RA TR.length RC) := cr
          clear cr hX13 hown13
          generalize w13.drew = w14 at hX14 hown14 cr' ⊢
        · exact cr'
        iterate 22 (refine seq_v rfl rfl rfl (by rintro w' h1; go_simp) ?_; go_simp)
        have hsz := bsize_any d t v7 T' w14 hX14.out.dec
        refine seq_call (f := 14) (args := #[.pointer (some ⟨d, 0, none⟩)]) rfl (fun _ => trivial) rfl rfl rfl rfl (by go_simp) ?_
        refine (callsIn_wide.2 hsz).mono ?_
        clear hsz
        rintro e w15 ⟨rfl, rfl⟩
        refine ⟨_, rfl, fun _ => cr', ?_⟩
        have hsu := rsum_any RA TR RC w14 (own_fread2 hown14.out rfl) (by have := hTle.out; omega) (by have := hTle.out; omega)
        rw [hTS.out] at hsu
        go_simp
        refine seq_call (f := 15) (args := #[.slice RA TR.length RC]) rfl (fun _ => trivial) rfl rfl rfl rfl (by go_simp) ?_
        refine (callsIn_wide.2 hsu).mono ?_
        clear hsu
        rintro e w15 ⟨rfl, hb15⟩
        have hX15 := Lib.hid (hX14.out.below hb15)
        clear hX14 hown14 hb15 cr'
        refine ⟨_, rfl, fun h => absurd (by decide) h, ?_⟩
        go_simp
        iterate 2 (refine seq_dv rfl (fun _ => trivial) rfl rfl rfl (fun h => absurd (by decide) h) (by go_simp) ?_; go_simp)
        refine seq_nil ?_
        go_wp2_with fail
        go_roundw
        case rel => exact ⟨k + 1, v7, .slice RA TR.length RC, T', by omega, by go_num, hX15⟩
        case measure => simp [intOf]; omega
    · obtain rfl : k = L.length := by omega
      have hnd := ndec_any none 0 0 9 wr
      clear hrr
      go_wp2_with fail
      refine hnd.mono ?_
      clear hnd
      rintro e w3 ⟨rfl, hb3⟩
      have hal := alive_any w3 (hLr.out.below hb3) (hSr.out.below hb3)
      have hbl3 := hbl.trans (hb3.mono hbl.size)
      clear hb3 hbl
      go_wp2_with fail
      refine hal.mono ?_
      clear hal
      rintro e w4 ⟨rfl, hb4⟩
      have hbl4 := hbl3.trans (hb4.mono hbl3.size)
      clear hb4 hbl3
      have h5 := ntable_any w4
      have h6 := nsize_any w4
      have h7 := nclone_any w4
      replace hbl4 := Lib.hid hbl4
      go_wp2_with fail
      refine h5.mono ?_
      rintro e w5 ⟨rfl, rfl⟩
      go_wp2_with fail
      refine h6.mono ?_
      rintro e w5 ⟨rfl, rfl⟩
      go_wp2_with fail
      refine h7.mono ?_
      rintro e w5 ⟨rfl, rfl⟩
      go_wp2_with fail
      go_ret
      exact ⟨rfl, hbl4.out⟩
end Go.Proofs.YtfkpeahelhpelaaDoor
