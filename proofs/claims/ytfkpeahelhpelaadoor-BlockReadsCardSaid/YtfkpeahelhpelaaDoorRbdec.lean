/- Header lists as blocks, the document's way (ref09.Decode): it comes to what our own comes to. -/
import Derived.Test.YtfkpeahelhpelaaDoorRefNamed
namespace Go.Proofs.YtfkpeahelhpelaaDoor
set_option linter.all false
open Go.RowKit
attribute [local go_sem] Oper.semAt_some valueOf_ok

set_option maxRecDepth 100000 in
set_option maxHeartbeats 4000000 in
theorem rbdec_any (t : Nat) (v0 : Value) (T0 : Tb) (limit : Int) (A : Option Addr) (l : List UInt8) (c : Nat) (w : World) (h : RTab w t v0 T0) (hb : Bytes w (fun k => k ≠ t) A l)
    (hc : l.length ≤ c) (hcm : c ≤ 140737488351232) (hl : l.length ≤ 1000000) (R : BRes) (hR : bdec limit l T0 = R) :
    Calls Tryd.prog 11 #[.pointer (some ⟨t, 0, none⟩), .slice A l.length c, .int .i64 limit] w fun e w' => ∃ v vo, e = .returned (.tuple #[vo, .bool R.1.2.1, .int .i64 (R.1.2.2 : Int)]) ∧
      w'.ownsRow w.heap.size 46 2 vo R.1.1.length (fcells R.1.1) ∧ RTab w' t v R.2 ∧ Mod (fun k => k = t) w w' ∧ (∀ g, v.ownBlock = some g → v0.ownBlock = some g ∨ w.heap.size ≤ g) ∧ ∀ g, v.ownBlock = some g → vo.ownBlock ≠ some g := by
  have hP0 := RPl.begin limit l T0
  rw [hR] at hP0
  clear hR
  have htl := blk_lt h.blk
  have hR0 : RSt w w t v0 v0 (.slice none 0 0) T0 0 [] := ⟨h, World.ownsRow_nil _ _ _ _, Mod.refl _ _, htl, fun g hg => .inl hg, fun g hg => own_lt' h.own hg, fun g _ => by simp [Value.ownBlock]⟩
  clear h
  replace hb := Lib.hid hb
  go_enter Tryd.func11, Tryd.ntmps11
  go_wp2_with fail
  go_loopw [9, 10, 11] (fun o sz at_ wr => ∃ (s : BSt) (a : Nat) (v : Value) (O : List FieldS), sz = .int .i64 (s.sized : Int) ∧ at_ = .int .i64 (a : Int) ∧ RSt w wr t v0 v o s.T O.length (fcells O) ∧ RPl limit l R s a O) (fun _ _ at_ _ => l.length - (intOf at_).toNat)
  case atStart => exact ⟨_, 0, v0, [], rfl, rfl, hR0, hP0⟩
  case round =>
    obtain ⟨s, a, v, O, rfl, rfl, hS, hP⟩ := hrel
    clear hR0 hP0
    have hal := hP.al
    have hsz := hP.sz
    obtain ⟨htot, hOl⟩ := hP.total
    have hTs : sumF s.T.f ≤ 4096 := by have h1 := hS.tab.sum; have h2 := hS.tab.mb; have h3 := hS.tab.bb; omega
    have hTb : s.T.bound ≤ 4096 := hS.tab.bb
    obtain ⟨vA, vC, hsv, hvC⟩ := own_shape hS.out
    subst hsv
    have i1 : (0 : Int) ≤ a := by omega
    have i2 : (a : Int) ≤ l.length := by omega
    have i3 : (l.length : Int) ≤ 1000000 := by omega
    have i4 : (s.sized : Int) ≤ 2 := by omega
    by_cases ha : a < l.length
    · have ha' : (a : Int) < l.length := by omega
      have hbad := hP.bad ha
      have hnone := hP.none ha
      have hnosize := hP.nosize ha
      have hsize := hP.size ha
      have hput := fun h1 h2 h3 => hP.put ha h1 h2 h3 hTs
      have hfld := fun h1 => hP.field ha h1 hTs
      have hok := idec_ok _ (drop_ne ha)
      have hby := ((hb.out.keep fun k hk hl => hS.mod.block k hl hk).from_ a c hal hc)
      have hcall := ridec_any _ _ (c - a) wr hby (by simp only [List.length_drop]; omega) (by omega) (by simp only [List.length_drop]; omega)
      have hsl := Lib.hid (fun w ev o x y hx hy ho => ex_slice_from (P := Tryd.prog) (w := w) 30 5 (by kernel_rfl) (k := 1) (by kernel_rfl) A l.length c .i64 a hal ev o x y hx hy ho)
      rw [List.length_drop] at hcall
      obtain ⟨⟨⟨ik, inn, inm, ivl⟩, iat, ie⟩, hi⟩ : ∃ z, z = idec (l.drop a) := ⟨_, rfl⟩
      rw [← hi] at hbad hnone hnosize hsize hput hfld hok hcall
      simp only at hbad hnone hnosize hsize hput hfld hok hcall
      replace hi := Lib.hid hi
      rw [itemV, show strV inm = .string (strB inm) from rfl, show strV ivl = .string (strB ivl) from rfl] at hcall
      simp only at hcall
      obtain ⟨nm, hnm⟩ : ∃ nm, nm = strB inm := ⟨_, rfl⟩
      obtain ⟨vl, hvl⟩ : ∃ vl, vl = strB ivl := ⟨_, rfl⟩
      rw [← hnm, ← hvl] at hcall
      replace hnm := Lib.hid hnm
      replace hvl := Lib.hid hvl
      obtain ⟨⟨⟨f1, f2⟩, fe⟩, hfe⟩ : ∃ z, z = fieldS s.T.f ⟨ik, inn, inm, ivl⟩ := ⟨_, rfl⟩
      rw [← hfe] at hnone hput hfld
      simp only at hnone hput hfld
      replace hbad := Lib.hid hbad
      replace hnone := Lib.hid hnone
      replace hnosize := Lib.hid hnosize
      replace hsize := Lib.hid hsize
      replace hput := Lib.hid hput
      replace hfld := Lib.hid hfld
      replace hfe := Lib.hid hfe
      replace hok := Lib.hid hok
      replace hS := Lib.hid hS
      replace hP := Lib.hid hP
      clear hby htot
      go_wp2_with ((with_reducible refine at_slice 30 ?_); refine wl_val rfl (hsl.out _ _ _ _ _ rfl rfl rfl) ?_)
      refine hcall.mono ?_
      clear hcall hsl
      rintro e w1 ⟨rfl, hb1⟩
      have hS1 := Lib.hid (hS.out.below hb1)
      clear hS hb1
      by_cases hie : ie = 0
      · have e0 : ((ie : Int) != 0) = false := by simp [hie]
        subst hie
        obtain ⟨o1, o2, o3, o4, o5, o6⟩ := hok.out rfl
        simp only at o1 o2 o3 o4
        rw [List.length_drop] at o6
        have i5 : (iat : Int) ≤ l.length := by omega
        have i6 : (inn : Int) ≤ 16777215 := by omega
        have i7 : (0 : Int) ≤ inn := by omega
        clear hbad hok
        by_cases h4 : ik = 4
        · subst h4
          have hS2 := Lib.hid (hS1.out.alloc (.cells #[.int .i64 4, .int .i64 (inn : Int), .string nm, .string vl] 70))
          have hx := heap_alloc_new w1 (.cells #[.int .i64 4, .int .i64 (inn : Int), .string nm, .string vl] 70)
          have x0 := (cell_of_row _ _ 0 _ _ _ hx).trans (show _ = some (.int .i64 4) from rfl)
          have x1 := (cell_of_row _ _ 1 _ _ _ hx).trans (show _ = some (.int .i64 (inn : Int)) from rfl)
          have k4 : ((4 : Int) == 4) = true := rfl
          clear hx hS1 hnone hput hfld hfe
          by_cases hO : 0 < O.length
          · have hO1 : (0 : Int) < (O.length : Int) := by omega
            have hz := Lib.hid (hnosize.out rfl rfl (.inl hO))
            clear hnosize hsize
            go_wp2_with fail
            go_ret3
            rw [hz.out]
            exact ⟨v, _, rfl, World.ownsRow_nil _ _ _ _, hS2.out.tab, hS2.out.mod, hS2.out.vn, fun g _ => by simp [Value.ownBlock]⟩
          · have hO0 : O.length = 0 := by omega
            obtain rfl : O = [] := List.eq_nil_of_length_eq_zero hO0
            by_cases hs2 : 2 < s.sized + 1
            · have hs3 : (2 : Int) < (s.sized : Int) + 1 := by omega
              have hz := Lib.hid (hnosize.out rfl rfl (.inr (.inl hs2)))
              clear hnosize hsize hO
              go_wp2_with fail
              go_ret3
              rw [hz.out]
              exact ⟨v, _, rfl, World.ownsRow_nil _ _ _ _, hS2.out.tab, hS2.out.mod, hS2.out.vn, fun g _ => by simp [Value.ownBlock]⟩
            · have hs3 : (s.sized : Int) + 1 ≤ 2 := by omega
              by_cases hbd : s.T.bound < inn
              · have hz := Lib.hid (hnosize.out rfl rfl (.inr (.inr hbd)))
                have hcall := rsetMost_no t v s.T inn _ hS2.out.tab hbd o1
                clear hnosize hsize hO
                go_wp2_with fail
                refine hcall.mono ?_
                rintro e w3 ⟨rfl, rfl⟩
                go_wp2_with fail
                go_ret3
                rw [hz.out]
                exact ⟨v, _, rfl, World.ownsRow_nil _ _ _ _, hS2.out.tab, hS2.out.mod, hS2.out.vn, fun g _ => by simp [Value.ownBlock]⟩
              · have hz := Lib.hid (hsize.out rfl rfl hO0 (by omega) (by omega))
                have hcall := rsetMost_yes t v s.T inn _ hS2.out.tab (by omega)
                clear hnosize hsize hO
                go_wp2_with fail
                refine hcall.mono ?_
                clear hcall
                rintro e w3 ⟨v', rfl, hT3, hM3, hv3⟩
                have hS3 := Lib.hid (hS2.out.turn hM3 hT3 hv3)
                clear hT3 hM3 hv3 hS2
                go_wp2_with fail
                go_roundw
                case rel => exact ⟨bsz s inn, a + iat, v', [], by show _ = Value.int .i64 ((s.sized + 1 : Nat) : Int); go_num, by go_num, hS3.out, hz.out⟩
                case measure => simp [intOf]; omega
        · have k4 : ((ik : Int) == 4) = false := by simp; omega
          have hS3 := Lib.hid ((hS1.out.alloc (.cells #[.int .i64 (ik : Int), .int .i64 (inn : Int), .string nm, .string vl] 70)).alloc (.cells #[.string nm, .string vl] 46))
          have H := ((Hp.nil w1).alloc (.cells #[.int .i64 (ik : Int), .int .i64 (inn : Int), .string nm, .string vl] 70)).alloc (.cells #[.string nm, .string vl] 46)
          have hx := heap_alloc_new w1 (.cells #[.int .i64 (ik : Int), .int .i64 (inn : Int), .string nm, .string vl] 70)
          obtain ⟨x0, x1, x2, x3⟩ := four_of hx
          have hw1 := hS1.out.mod.size
          have hvo2 := Lib.hid (show v.ownBlock ≠ some (w1.heap.size + 1) ∧ (Value.slice vA O.length vC).ownBlock ≠ some (w1.heap.size + 1) from ⟨fun e => by have := hS1.out.vl e; omega, fun e => by have := hS1.out.ol e; omega⟩)
          clear hx hS1 hnosize hsize
          rw [List.nil_append, List.singleton_append, World.size_alloc] at H
          by_cases hn0 : inn = 0
          · subst hn0
            have n0 : ((0 : Int) < ((0 : Nat) : Int)) = False := by simp
            have hfe2 := hfe.out
            rw [fieldS, if_pos rfl] at hfe2
            rw [← hnm.out, ← hvl.out] at hfe2
            simp only [Prod.mk.injEq] at hfe2
            obtain ⟨⟨rfl, rfl⟩, rfl⟩ := hfe2
            have hz := Lib.hid (hput.out rfl h4 rfl)
            have hfsz := Lib.hid (hfld.out rfl)
            clear hnone hput hfld hfe
            have hF := Lib.hid (H.get 1 rfl)
            have xk := (H.cell 0 rfl 0).trans (show _ = some (.int .i64 (ik : Int)) from rfl)
            replace H := Lib.hid H
            by_cases h1 : ik = 1
            · have k1 : ((ik : Int) == 1) = true := by simp [h1]
              have hcall := radd_any t v s.T (f1, f2) ((w1.alloc (.cells #[.int .i64 (ik : Int), .int .i64 0, .string f1, .string f2] 70)).alloc (.cells #[.string f1, .string f2] 46)) hS3.out.tab hfsz.out
              rw [fV] at hcall
              simp only at hcall
              have hbT : (bput limit s ik (f1, f2)).T = s.T.add (f1, f2) := if_pos h1
              clear h1
              go_wp2_with ((with_reducible refine wl_load_row rfl 46 (.tmp 15) rfl (w1.heap.size + 1) rfl #[.string f1, .string f2] hF.out (by kernel_rfl) (k := 2) (by kernel_rfl) (by kernel_rfl) ?_))
              refine hcall.mono ?_
              clear hcall
              rintro e WE ⟨v', rfl, hT3, hM3, hv3⟩
              have hSE := Lib.hid (hS3.out.turn hM3 hT3 hv3)
              have hne : ((w1.heap.size + 1) : Nat) ≠ t := by have := hS3.out.tl; have := hS3.out.mod.size; omega
              have hF3 := Lib.hid ((hM3.block ((w1.heap.size + 1)) (blk_lt hF.out) hne).trans hF.out)
              clear hT3 hM3 hv3 hS3 hF xk
              have hoA := Lib.hid (own_alloc hSE.out.out (.cells #[.string f1, .string f2] 46))
              have hEs := hSE.out.mod.size
              have hap := (fun ev o x y => ex_append (P := Tryd.prog) field_info 33 (by kernel_rfl) (by decide) (by decide) w.heap.size _ _ _ hoA.out ⟨WE.heap.size, 0, none⟩ 1 1 [.string f1, .string f2] rfl (World.news_of_block (cs := #[.string f1, .string f2]) (t := 46) (fr := (0, 0)) (heap_alloc_new WE _)) (by simp [Value.oneCell']) (by simp only [maxLen]; omega) (by omega) (by rw [World.size_alloc]; omega) ev o x y)
              simp only [World.size_alloc, World.size_setCell] at hap
              replace hap := Lib.hid hap
              have hSA := Lib.hid (hSE.out.alloc (.cells #[.string f1, .string f2] 46))
              replace hbT := Lib.hid hbT
              go_wp2_with (first
                | ((with_reducible refine wl_load_row rfl 46 (.tmp 15) rfl (w1.heap.size + 1) rfl #[.string f1, .string f2] hF3.out (by kernel_rfl) (k := 2) (by kernel_rfl) (by kernel_rfl) ?_))
                | (((with_reducible refine at_append 33 ?_); refine wl_ex rfl (hap.out _ _ _ _ rfl rfl rfl) ?_; rintro v9 w9 ⟨ho9, hg9, hv9⟩; replace ho9 := Lib.hid ho9; replace hg9 := Lib.hid hg9; replace hv9 := Lib.hid hv9; clear hap)))
              go_roundw
              case rel =>
                have hSB := hSA.out.grow hg9.out ho9.out (by have := hv9.out; simpa only [World.size_alloc, World.size_setCell] using this)
                have e1 : (O ++ [(f1, f2)]).length = O.length + 1 := by simp
                refine ⟨bput limit s ik (f1, f2), a + iat, v', O ++ [(f1, f2)], rfl, by go_num, ?_, hz.out⟩
                rw [e1, fcells_append]
                exact by rw [hbT.out]; exact hSB
              case measure => simp [intOf]; omega

            · have k1 : ((ik : Int) == 1) = false := by simp; omega
              have hbT : (bput limit s ik (f1, f2)).T = s.T := if_neg h1
              have hSE := hS3
              clear h1 hS3
              have hoA := Lib.hid (own_alloc hSE.out.out (.cells #[.string f1, .string f2] 46))
              have hEs := hSE.out.mod.size
              have hap := (fun ev o x y => ex_append (P := Tryd.prog) field_info 33 (by kernel_rfl) (by decide) (by decide) w.heap.size _ _ _ hoA.out ⟨((w1.alloc (.cells #[.int .i64 (ik : Int), .int .i64 0, .string f1, .string f2] 70)).alloc (.cells #[.string f1, .string f2] 46)).heap.size, 0, none⟩ 1 1 [.string f1, .string f2] rfl (World.news_of_block (cs := #[.string f1, .string f2]) (t := 46) (fr := (0, 0)) (heap_alloc_new ((w1.alloc (.cells #[.int .i64 (ik : Int), .int .i64 0, .string f1, .string f2] 70)).alloc (.cells #[.string f1, .string f2] 46)) _)) (by simp [Value.oneCell']) (by simp only [maxLen]; omega) (by omega) (by rw [World.size_alloc]; omega) ev o x y)
              simp only [World.size_alloc, World.size_setCell] at hap
              replace hap := Lib.hid hap
              have hSA := Lib.hid (hSE.out.alloc (.cells #[.string f1, .string f2] 46))
              replace hbT := Lib.hid hbT
              go_wp2_with (first
                | ((with_reducible refine wl_load_row rfl 46 (.tmp 15) rfl (w1.heap.size + 1) rfl #[.string f1, .string f2] hF.out (by kernel_rfl) (k := 2) (by kernel_rfl) (by kernel_rfl) ?_))
                | (((with_reducible refine at_append 33 ?_); refine wl_ex rfl (hap.out _ _ _ _ rfl rfl rfl) ?_; rintro v9 w9 ⟨ho9, hg9, hv9⟩; replace ho9 := Lib.hid ho9; replace hg9 := Lib.hid hg9; replace hv9 := Lib.hid hv9; clear hap)))
              go_roundw
              case rel =>
                have hSB := hSA.out.grow hg9.out ho9.out (by have := hv9.out; simpa only [World.size_alloc, World.size_setCell] using this)
                have e1 : (O ++ [(f1, f2)]).length = O.length + 1 := by simp
                refine ⟨bput limit s ik (f1, f2), a + iat, v, O ++ [(f1, f2)], rfl, by go_num, ?_, hz.out⟩
                rw [e1, fcells_append]
                exact by rw [hbT.out]; exact hSB
              case measure => simp [intOf]; omega
          · have n0 : (0 : Int) < (inn : Int) := by omega
            have hcall := rnamed_any t v s.T (inn : Int) _ hS3.out.tab (by omega)
            have hfe2 := hfe.out
            rw [fieldS, if_neg hn0] at hfe2
            simp only at hfe2
            obtain ⟨⟨⟨g1, g2⟩, ge⟩, hge⟩ : ∃ z, z = namedS s.T.f (inn : Int) := ⟨_, rfl⟩
            rw [← hge] at hcall hfe2
            rw [fV] at hcall
            simp only at hcall hfe2
            rw [← hvl.out] at hfe2
            have hfsz := Lib.hid (hfld.out rfl)
            replace hge := Lib.hid hge
            have hput2 := Lib.hid (fun h3 => hput.out rfl h4 h3)
            replace hfe2 := Lib.hid hfe2
            have hxy := Lib.hid H
            clear hfld hfe hn0 H hput
            go_wp2_with fail
            refine hcall.mono ?_
            clear hcall
            rintro e w3 ⟨rfl, hb3⟩
            have hS4 := Lib.hid ((hS3.out.below hb3).alloc (.cells #[.string g1, .string g2] 46))
            have H4 := (hxy.out.below hb3).alloc (.cells #[.string g1, .string g2] 46)
            rw [show [(w1.heap.size, Obj.cells #[.int .i64 (ik : Int), .int .i64 (inn : Int), .string nm, .string vl] 70), (w1.heap.size + 1, Obj.cells #[.string nm, .string vl] 46)] ++ [(w3.heap.size, Obj.cells #[.string g1, .string g2] 46)] = [(w1.heap.size, Obj.cells #[.int .i64 (ik : Int), .int .i64 (inn : Int), .string nm, .string vl] 70), (w1.heap.size + 1, Obj.cells #[.string nm, .string vl] 46), (w3.heap.size, Obj.cells #[.string g1, .string g2] 46)] from rfl] at H4
            clear hS3 hb3 hxy x0 x1 x2 x3
            by_cases hg0 : ge = 0
            · have g0 : ((ge : Int) != 0) = false := by simp [hg0]
              subst hg0
              have x0 := (H4.cell 0 rfl 0).trans (show _ = some (.int .i64 (ik : Int)) from rfl)
              have q0 := (H4.cell 1 rfl 0).trans (show _ = some (.string nm) from rfl)
              have q1 := (H4.cell 1 rfl 1).trans (show _ = some (.string vl) from rfl)
              have z0 := H4.free 1 rfl 0
              have z1 := H4.free 1 rfl 1
              have y0 := (H4.cell 2 rfl 0).trans (show _ = some (.string g1) from rfl)
              have y1 := (H4.cell 2 rfl 1).trans (show _ = some (.string g2) from rfl)
              have H5 := H4.setCell 1 rfl 0 (.string g1)
              have xx0 := (H5.cell 0 rfl 0).trans (show _ = some (.int .i64 (ik : Int)) from rfl)
              have qq1 := (H5.cell 1 rfl 1).trans (show _ = some (.string vl) from rfl)
              have zz1 := H5.free 1 rfl 1
              have yy0 := (H5.cell 2 rfl 0).trans (show _ = some (.string g1) from rfl)
              have yy1 := (H5.cell 2 rfl 1).trans (show _ = some (.string g2) from rfl)
              have hM5 : Mod (fun k => k = w1.heap.size + 1) (w3.alloc (.cells #[.string g1, .string g2] 46)) ((w3.alloc (.cells #[.string g1, .string g2] 46)).setCell ⟨w1.heap.size + 1, 0, none⟩ (.string g1)) := ⟨rfl, rfl, rfl, by simp, fun k _ hk => heap_setCell_off hk _⟩
              have hvo := hvo2.out
              have hS5 := Lib.hid (hS4.out.off (w1.heap.size + 1) hM5 (by omega) hvo.1 hvo.2)
              by_cases hk0 : ik = 0
              · have k0 : ((ik : Int) == 0) = true := by simp [hk0]
                have hfe3 := hfe2.out
                rw [if_pos hk0] at hfe3
                simp only [Prod.mk.injEq] at hfe3
                obtain ⟨⟨rfl, rfl⟩, rfl⟩ := hfe3
                have hz := Lib.hid (hput2.out rfl)
                have H6 := H5.setCell 1 rfl 1 (.string f2)
                have xk := (H6.cell 0 rfl 0).trans (show _ = some (.int .i64 (ik : Int)) from rfl)
                have hF := Lib.hid ((H6.get 1 rfl).trans (show _ = some (Obj.cells #[.string f1, .string f2] 46 (0, 0)) from rfl))
                have hM6 : Mod (fun k => k = w1.heap.size + 1) ((w3.alloc (.cells #[.string f1, .string f2] 46)).setCell ⟨w1.heap.size + 1, 0, none⟩ (.string f1)) (((w3.alloc (.cells #[.string f1, .string f2] 46)).setCell ⟨w1.heap.size + 1, 0, none⟩ (.string f1)).setCell ⟨w1.heap.size + 1, 1, none⟩ (.string f2)) := ⟨rfl, rfl, rfl, by simp, fun k _ hk => heap_setCell_off hk _⟩
                have hS6 := Lib.hid (hS5.out.off (w1.heap.size + 1) hM6 (by omega) hvo.1 hvo.2)
                replace H4 := Lib.hid H4
                replace H5 := Lib.hid H5
                replace H6 := Lib.hid H6
                clear hS4 hM5 hM6 hnone hput2 hvo hS5 hk0
                by_cases h1 : ik = 1
                · have k1 : ((ik : Int) == 1) = true := by simp [h1]
                  have hcall := radd_any t v s.T (f1, f2) (((w3.alloc (.cells #[.string f1, .string f2] 46)).setCell ⟨w1.heap.size + 1, 0, none⟩ (.string f1)).setCell ⟨w1.heap.size + 1, 1, none⟩ (.string f2)) hS6.out.tab hfsz.out
                  rw [fV] at hcall
                  simp only at hcall
                  have hbT : (bput limit s ik (f1, f2)).T = s.T.add (f1, f2) := if_pos h1
                  clear h1
                  go_wp2_with ((with_reducible refine wl_load_row rfl 46 (.tmp 15) rfl (w1.heap.size + 1) rfl #[.string f1, .string f2] hF.out (by kernel_rfl) (k := 2) (by kernel_rfl) (by kernel_rfl) ?_))
                  refine hcall.mono ?_
                  clear hcall
                  rintro e WE ⟨v', rfl, hT3, hM3, hv3⟩
                  have hSE := Lib.hid (hS6.out.turn hM3 hT3 hv3)
                  have hne : ((w1.heap.size + 1) : Nat) ≠ t := by have := hS6.out.tl; have := hS6.out.mod.size; omega
                  have hF3 := Lib.hid ((hM3.block ((w1.heap.size + 1)) (blk_lt hF.out) hne).trans hF.out)
                  clear hT3 hM3 hv3 hS6 hF xk
                  have hoA := Lib.hid (own_alloc hSE.out.out (.cells #[.string f1, .string f2] 46))
                  have hEs := hSE.out.mod.size
                  have hap := (fun ev o x y => ex_append (P := Tryd.prog) field_info 33 (by kernel_rfl) (by decide) (by decide) w.heap.size _ _ _ hoA.out ⟨WE.heap.size, 0, none⟩ 1 1 [.string f1, .string f2] rfl (World.news_of_block (cs := #[.string f1, .string f2]) (t := 46) (fr := (0, 0)) (heap_alloc_new WE _)) (by simp [Value.oneCell']) (by simp only [maxLen]; omega) (by omega) (by rw [World.size_alloc]; omega) ev o x y)
                  simp only [World.size_alloc, World.size_setCell] at hap
                  replace hap := Lib.hid hap
                  have hSA := Lib.hid (hSE.out.alloc (.cells #[.string f1, .string f2] 46))
                  replace hbT := Lib.hid hbT
                  go_wp2_with (first
                    | ((with_reducible refine wl_load_row rfl 46 (.tmp 15) rfl (w1.heap.size + 1) rfl #[.string f1, .string f2] hF3.out (by kernel_rfl) (k := 2) (by kernel_rfl) (by kernel_rfl) ?_))
                    | (((with_reducible refine at_append 33 ?_); refine wl_ex rfl (hap.out _ _ _ _ rfl rfl rfl) ?_; rintro v9 w9 ⟨ho9, hg9, hv9⟩; replace ho9 := Lib.hid ho9; replace hg9 := Lib.hid hg9; replace hv9 := Lib.hid hv9; clear hap)))
                  go_roundw
                  case rel =>
                    have hSB := hSA.out.grow hg9.out ho9.out (by have := hv9.out; simpa only [World.size_alloc, World.size_setCell] using this)
                    have e1 : (O ++ [(f1, f2)]).length = O.length + 1 := by simp
                    refine ⟨bput limit s ik (f1, f2), a + iat, v', O ++ [(f1, f2)], rfl, by go_num, ?_, hz.out⟩
                    rw [e1, fcells_append]
                    exact by rw [hbT.out]; exact hSB
                  case measure => simp [intOf]; omega

                · have k1 : ((ik : Int) == 1) = false := by simp; omega
                  have hbT : (bput limit s ik (f1, f2)).T = s.T := if_neg h1
                  have hSE := hS6
                  clear h1 hS6
                  have hoA := Lib.hid (own_alloc hSE.out.out (.cells #[.string f1, .string f2] 46))
                  have hEs := hSE.out.mod.size
                  have hap := (fun ev o x y => ex_append (P := Tryd.prog) field_info 33 (by kernel_rfl) (by decide) (by decide) w.heap.size _ _ _ hoA.out ⟨(((w3.alloc (.cells #[.string f1, .string f2] 46)).setCell ⟨w1.heap.size + 1, 0, none⟩ (.string f1)).setCell ⟨w1.heap.size + 1, 1, none⟩ (.string f2)).heap.size, 0, none⟩ 1 1 [.string f1, .string f2] rfl (World.news_of_block (cs := #[.string f1, .string f2]) (t := 46) (fr := (0, 0)) (heap_alloc_new (((w3.alloc (.cells #[.string f1, .string f2] 46)).setCell ⟨w1.heap.size + 1, 0, none⟩ (.string f1)).setCell ⟨w1.heap.size + 1, 1, none⟩ (.string f2)) _)) (by simp [Value.oneCell']) (by simp only [maxLen]; omega) (by omega) (by rw [World.size_alloc]; omega) ev o x y)
                  simp only [World.size_alloc, World.size_setCell] at hap
                  replace hap := Lib.hid hap
                  have hSA := Lib.hid (hSE.out.alloc (.cells #[.string f1, .string f2] 46))
                  replace hbT := Lib.hid hbT
                  go_wp2_with (first
                    | ((with_reducible refine wl_load_row rfl 46 (.tmp 15) rfl (w1.heap.size + 1) rfl #[.string f1, .string f2] hF.out (by kernel_rfl) (k := 2) (by kernel_rfl) (by kernel_rfl) ?_))
                    | (((with_reducible refine at_append 33 ?_); refine wl_ex rfl (hap.out _ _ _ _ rfl rfl rfl) ?_; rintro v9 w9 ⟨ho9, hg9, hv9⟩; replace ho9 := Lib.hid ho9; replace hg9 := Lib.hid hg9; replace hv9 := Lib.hid hv9; clear hap)))
                  go_roundw
                  case rel =>
                    have hSB := hSA.out.grow hg9.out ho9.out (by have := hv9.out; simpa only [World.size_alloc, World.size_setCell] using this)
                    have e1 : (O ++ [(f1, f2)]).length = O.length + 1 := by simp
                    refine ⟨bput limit s ik (f1, f2), a + iat, v, O ++ [(f1, f2)], rfl, by go_num, ?_, hz.out⟩
                    rw [e1, fcells_append]
                    exact by rw [hbT.out]; exact hSB
                  case measure => simp [intOf]; omega
              · have k0 : ((ik : Int) == 0) = false := by simp; omega
                have hfe3 := hfe2.out
                rw [if_neg hk0] at hfe3
                simp only [Prod.mk.injEq] at hfe3
                obtain ⟨⟨rfl, rfl⟩, rfl⟩ := hfe3
                have hz := Lib.hid (hput2.out rfl)
                have hF := Lib.hid ((H5.get 1 rfl).trans (show _ = some (Obj.cells #[.string f1, .string f2] 46 (0, 0)) from rfl))
                have xk := xx0
                replace H4 := Lib.hid H4
                replace H5 := Lib.hid H5
                clear hS4 hM5 hnone hput2 hvo hk0
                by_cases h1 : ik = 1
                · have k1 : ((ik : Int) == 1) = true := by simp [h1]
                  have hcall := radd_any t v s.T (f1, f2) ((w3.alloc (.cells #[.string f1, .string g2] 46)).setCell ⟨w1.heap.size + 1, 0, none⟩ (.string f1)) hS5.out.tab hfsz.out
                  rw [fV] at hcall
                  simp only at hcall
                  have hbT : (bput limit s ik (f1, f2)).T = s.T.add (f1, f2) := if_pos h1
                  clear h1
                  go_wp2_with ((with_reducible refine wl_load_row rfl 46 (.tmp 15) rfl (w1.heap.size + 1) rfl #[.string f1, .string f2] hF.out (by kernel_rfl) (k := 2) (by kernel_rfl) (by kernel_rfl) ?_))
                  refine hcall.mono ?_
                  clear hcall
                  rintro e WE ⟨v', rfl, hT3, hM3, hv3⟩
                  have hSE := Lib.hid (hS5.out.turn hM3 hT3 hv3)
                  have hne : ((w1.heap.size + 1) : Nat) ≠ t := by have := hS5.out.tl; have := hS5.out.mod.size; omega
                  have hF3 := Lib.hid ((hM3.block ((w1.heap.size + 1)) (blk_lt hF.out) hne).trans hF.out)
                  clear hT3 hM3 hv3 hS5 hF xk
                  have hoA := Lib.hid (own_alloc hSE.out.out (.cells #[.string f1, .string f2] 46))
                  have hEs := hSE.out.mod.size
                  have hap := (fun ev o x y => ex_append (P := Tryd.prog) field_info 33 (by kernel_rfl) (by decide) (by decide) w.heap.size _ _ _ hoA.out ⟨WE.heap.size, 0, none⟩ 1 1 [.string f1, .string f2] rfl (World.news_of_block (cs := #[.string f1, .string f2]) (t := 46) (fr := (0, 0)) (heap_alloc_new WE _)) (by simp [Value.oneCell']) (by simp only [maxLen]; omega) (by omega) (by rw [World.size_alloc]; omega) ev o x y)
                  simp only [World.size_alloc, World.size_setCell] at hap
                  replace hap := Lib.hid hap
                  have hSA := Lib.hid (hSE.out.alloc (.cells #[.string f1, .string f2] 46))
                  replace hbT := Lib.hid hbT
                  go_wp2_with (first
                    | ((with_reducible refine wl_load_row rfl 46 (.tmp 15) rfl (w1.heap.size + 1) rfl #[.string f1, .string f2] hF3.out (by kernel_rfl) (k := 2) (by kernel_rfl) (by kernel_rfl) ?_))
                    | (((with_reducible refine at_append 33 ?_); refine wl_ex rfl (hap.out _ _ _ _ rfl rfl rfl) ?_; rintro v9 w9 ⟨ho9, hg9, hv9⟩; replace ho9 := Lib.hid ho9; replace hg9 := Lib.hid hg9; replace hv9 := Lib.hid hv9; clear hap)))
                  go_roundw
                  case rel =>
                    have hSB := hSA.out.grow hg9.out ho9.out (by have := hv9.out; simpa only [World.size_alloc, World.size_setCell] using this)
                    have e1 : (O ++ [(f1, f2)]).length = O.length + 1 := by simp
                    refine ⟨bput limit s ik (f1, f2), a + iat, v', O ++ [(f1, f2)], rfl, by go_num, ?_, hz.out⟩
                    rw [e1, fcells_append]
                    exact by rw [hbT.out]; exact hSB
                  case measure => simp [intOf]; omega

                · have k1 : ((ik : Int) == 1) = false := by simp; omega
                  have hbT : (bput limit s ik (f1, f2)).T = s.T := if_neg h1
                  have hSE := hS5
                  clear h1 hS5
                  have hoA := Lib.hid (own_alloc hSE.out.out (.cells #[.string f1, .string f2] 46))
                  have hEs := hSE.out.mod.size
                  have hap := (fun ev o x y => ex_append (P := Tryd.prog) field_info 33 (by kernel_rfl) (by decide) (by decide) w.heap.size _ _ _ hoA.out ⟨((w3.alloc (.cells #[.string f1, .string g2] 46)).setCell ⟨w1.heap.size + 1, 0, none⟩ (.string f1)).heap.size, 0, none⟩ 1 1 [.string f1, .string f2] rfl (World.news_of_block (cs := #[.string f1, .string f2]) (t := 46) (fr := (0, 0)) (heap_alloc_new ((w3.alloc (.cells #[.string f1, .string g2] 46)).setCell ⟨w1.heap.size + 1, 0, none⟩ (.string f1)) _)) (by simp [Value.oneCell']) (by simp only [maxLen]; omega) (by omega) (by rw [World.size_alloc]; omega) ev o x y)
                  simp only [World.size_alloc, World.size_setCell] at hap
                  replace hap := Lib.hid hap
                  have hSA := Lib.hid (hSE.out.alloc (.cells #[.string f1, .string f2] 46))
                  replace hbT := Lib.hid hbT
                  go_wp2_with (first
                    | ((with_reducible refine wl_load_row rfl 46 (.tmp 15) rfl (w1.heap.size + 1) rfl #[.string f1, .string f2] hF.out (by kernel_rfl) (k := 2) (by kernel_rfl) (by kernel_rfl) ?_))
                    | (((with_reducible refine at_append 33 ?_); refine wl_ex rfl (hap.out _ _ _ _ rfl rfl rfl) ?_; rintro v9 w9 ⟨ho9, hg9, hv9⟩; replace ho9 := Lib.hid ho9; replace hg9 := Lib.hid hg9; replace hv9 := Lib.hid hv9; clear hap)))
                  go_roundw
                  case rel =>
                    have hSB := hSA.out.grow hg9.out ho9.out (by have := hv9.out; simpa only [World.size_alloc, World.size_setCell] using this)
                    have e1 : (O ++ [(f1, f2)]).length = O.length + 1 := by simp
                    refine ⟨bput limit s ik (f1, f2), a + iat, v, O ++ [(f1, f2)], rfl, by go_num, ?_, hz.out⟩
                    rw [e1, fcells_append]
                    exact by rw [hbT.out]; exact hSB
                  case measure => simp [intOf]; omega
            · have g0 : ((ge : Int) != 0) = true := by simp [hg0]
              have hfe3 : fe = ge := by
                have := congrArg Prod.snd hfe2.out
                simp only at this
                rw [this]
                split <;> rfl
              have hz := Lib.hid (hnone.out h4 (by rw [hfe3]; exact hg0))
              clear hg0 hfe3 H4 hnone hput2
              go_wp2_with fail
              go_ret3
              rw [hz.out]
              exact ⟨v, _, rfl, World.ownsRow_nil _ _ _ _, hS4.out.tab, hS4.out.mod, hS4.out.vn, fun g _ => by simp [Value.ownBlock]⟩
      · have e0 : ((ie : Int) != 0) = true := by simp [hie]
        have hz := Lib.hid (hbad.out hie)
        clear hie
        go_wp2_with fail
        go_ret3
        rw [hz.out]
        have hS2 := hS1.out.alloc (.cells #[.int .i64 (ik : Int), .int .i64 (inn : Int), .string nm, .string vl] 70)
        exact ⟨v, _, rfl, World.ownsRow_nil _ _ _ _, hS2.tab, hS2.mod, hS2.vn, fun g _ => by simp [Value.ownBlock]⟩
    · obtain rfl : a = l.length := by omega
      have hz := Lib.hid hP.fin
      have hrs := rsum_any vA O vC wr (own_fread hS.out) (by omega) (by omega)
      replace hS := Lib.hid hS
      clear hP
      go_wp2_with fail
      refine hrs.mono ?_
      clear hrs
      rintro e w1 ⟨rfl, hb1⟩
      have hS1 := Lib.hid (hS.out.below hb1)
      clear hS hb1
      by_cases hcut : limit < (sumF O : Int)
      · have hz2 := hz.out
        rw [if_pos hcut] at hz2
        replace hz2 := Lib.hid hz2
        clear hz
        go_wp2_with fail
        go_ret3
        rw [hz2.out]
        exact ⟨v, _, rfl, World.ownsRow_nil _ _ _ _, hS1.out.tab, hS1.out.mod, hS1.out.vn, fun g _ => by simp [Value.ownBlock]⟩
      · have hcut' : (sumF O : Int) ≤ limit := by omega
        have hz2 := hz.out
        rw [if_neg hcut] at hz2
        replace hz2 := Lib.hid hz2
        clear hz hcut
        go_wp2_with fail
        go_ret3
        rw [hz2.out]
        exact ⟨v, _, rfl, hS1.out.out, hS1.out.tab, hS1.out.mod, hS1.out.vn, hS1.out.vx⟩
end Go.Proofs.YtfkpeahelhpelaaDoor
