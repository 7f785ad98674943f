/- BlockWrites, walked: whatever the list, the first block or not, and what came ahead, it answers true. -/
import Derived.Test.YtfkpeahelhpelaaDoorAlive
import Derived.Test.YtfkpeahelhpelaaDoorRbenc
import Derived.Test.YtfkpeahelhpelaaDoorBlockBack
namespace Go.Proofs.YtfkpeahelhpelaaDoor
set_option linter.all false
open Go.RowKit
attribute [local go_sem] Oper.semAt_some valueOf_ok

set_option maxRecDepth 100000 in
theorem writes_many (A1 A2 : Option Addr) (n1 n2 c1 c2 : Nat) (first : Bool) (w : World) (hn : 20 < n1 ∨ 300 < n2) (hL : LaidLens w) (hS : LaidShapes w) :
    Calls Tryd.prog 4 #[.slice A1 n1 c1, .bool first, .slice A2 n2 c2] w fun e w' => e = .returned (.bool true) ∧ Below w.heap.size w w' := by
  have hal := alive_any w hL hS
  by_cases h1 : 20 < n1
  · have h1' : (20 : Int) < n1 := by omega
    go_enter Tryd.func4, Tryd.ntmps4
    go_wp2_with fail
    refine hal.mono ?_
    rintro e w1 ⟨rfl, hb1⟩
    go_wp2_with fail
    go_ret
    exact ⟨rfl, hb1⟩
  · have h1' : (n1 : Int) ≤ 20 := by omega
    have h2' : (300 : Int) < n2 := by omega
    go_enter Tryd.func4, Tryd.ntmps4
    go_wp2_with fail
    refine hal.mono ?_
    rintro e w1 ⟨rfl, hb1⟩
    go_wp2_with fail
    go_ret
    exact ⟨rfl, hb1⟩
theorem wrapi_in (x : Int) (h : -9223372036854775808 ≤ x ∧ x ≤ 9223372036854775807) : IntKind.i64.wrap x = x := by rw [IntKind.wrap_i64]; omega
theorem short_ok (l : List FieldS) (h : ∀ f ∈ l, f.1.size ≤ 300 ∧ f.2.size ≤ 300) : l.all fokS = true ∧ sumF l ≤ 632 * l.length := by
  induction l with
  | nil => exact ⟨rfl, by simp [sumF]⟩
  | cons f r ih =>
    obtain ⟨h1, h2⟩ := ih fun x hx => h x (List.mem_cons_of_mem _ hx)
    obtain ⟨h3, h4⟩ := h f List.mem_cons_self
    refine ⟨?_, ?_⟩
    · rw [List.all_cons, h1, Bool.and_true]
      exact decide_eq_true ⟨by omega, by omega⟩
    · rw [sumF_cons, List.length_cons, fsz]; omega
theorem own_cap {w : World} {base : Nat} {e : TypeId} {size n : Nat} {A : Option Addr} {c : Nat} {xs : List Value} (h : w.ownsRow base e size (.slice A n c) n xs) : n ≤ c ∧ c ≤ 9223372036854775807 := by
  rcases h.2 with ⟨e, e2⟩ | ⟨g, cap, cur, e, -, -, h3, h4, -⟩
  · cases e; omega
  · cases e
    have := h4; simp only [maxLen] at this; omega
set_option maxRecDepth 100000 in
set_option maxHeartbeats 8000000 in
theorem writes_walk (A1 A2 : Option Addr) (l : List FieldS) (ah : List UInt8) (c1 c2 : Nat) (first : Bool) (w : World) {P1 P2 : Nat → Prop} (hr : FRead w P1 A1 l) (ha : Bytes w P2 A2 ah) (hl : l.length ≤ 20) (hah : ah.length ≤ 300) (hc2 : ah.length ≤ c2) (hm2 : c2 ≤ 140737488351232) (hL : LaidLens w) (hS : LaidShapes w) :
    Calls Tryd.prog 4 #[.slice A1 l.length c1, .bool first, .slice A2 ah.length c2] w fun e w' => e = .returned (.bool true) ∧ Below w.heap.size w w' := by
  have i1 : (l.length : Int) ≤ 20 := by omega
  have i2 : (ah.length : Int) ≤ 300 := by omega
  have h2 := lens_two hL
  replace hr := Lib.hid (hr.imp (Q := fun k => k < w.heap.size) fun k hk _ => hk)
  replace ha := Lib.hid (ha.imp (Q := fun k => k < w.heap.size) fun k hk _ => hk)
  go_enter Tryd.func4, Tryd.ntmps4
  go_wp2_with fail
  go_loopw [7, 8] (fun sm i wr => ∃ k : Nat, k ≤ l.length ∧ i = .int .i64 (k : Int) ∧ sm = .int .i64 (sumF (l.take k) : Int) ∧ Hid (∀ f ∈ l.take k, f.1.size ≤ 300 ∧ f.2.size ≤ 300) ∧ Below w.heap.size w wr) (fun _ i _ => l.length - (intOf i).toNat)
  case atStart => exact ⟨0, by omega, rfl, rfl, Lib.hid (fun f hf => by simp at hf), Below.refl _ _⟩
  case round =>
    obtain ⟨k, hk, rfl, rfl, hsh, hbl⟩ := hrel
    have k0 : (0 : Int) ≤ k := by omega
    have hsum := (short_ok _ hsh.out).2
    rw [List.length_take] at hsum
    by_cases hlt : k < l.length
    · have hlt' : (k : Int) < l.length := by omega
      obtain ⟨f, hfk⟩ : ∃ f, l[k]? = some f := ⟨_, List.getElem?_eq_getElem hlt⟩
      have hst := sumF_take l k f hfk
      have htk : l.take (k + 1) = l.take k ++ [f] := by rw [List.take_add_one, hfk]; rfl
      obtain ⟨b, off, rfl, -, q0, q1⟩ := (hr.out.below hbl).at_ hfk
      obtain ⟨fn, fv⟩ := f
      simp only at q0 q1
      obtain ⟨S, hS0⟩ : ∃ S, S = sumF (l.take k) := ⟨_, rfl⟩
      rw [← hS0] at hst hsum ⊢
      have hS1 : (S : Int) ≤ 20000 := by omega
      rw [fsz] at hst
      simp only at hst
      replace hst := Lib.hid hst
      replace htk := Lib.hid htk
      clear hfk hS0
      by_cases hbig : 300 < fn.size ∨ 300 < fv.size
      · have hal := alive_any wr (hL.below hbl) (hS.below hbl)
        have hcs : (300 : Int) < fn.size ∨ (fn.size : Int) ≤ 300 ∧ (300 : Int) < fv.size := by omega
        clear hbig
        rcases hcs with h3 | ⟨h3, h4⟩
        all_goals
          go_wp2_with fail
          refine hal.mono ?_
          rintro e w1 ⟨rfl, hb1⟩
          go_wp2_with fail
          go_ret
          exact ⟨rfl, hbl.trans (hb1.mono hbl.size)⟩
      · have h3 : (fn.size : Int) ≤ 300 := by omega
        have h4 : (fv.size : Int) ≤ 300 := by omega
        clear hbig
        go_wp2_with fail
        refine region_plan_open (fun w' => w'.cell? ⟨b, off + k * 2, none⟩ = some (.string fn) ∧ w'.cell? ⟨b, off + k * 2 + 1, none⟩ = some (.string fv))
          [] [] [0, 1, 2, 3, 4, 5, 6, 7, 8, 9, 10, 11, 12, 13, 14, 15, 16] (by kernel_rfl) (by kernel_rfl) (by kernel_rfl) (by kernel_rfl) (by decide) ?_ ?_
        all_goals
          have q0' : wr.drew.cell? ⟨b, off + k * 2, none⟩ = some (.string fn) := q0
          have q1' : wr.drew.cell? ⟨b, off + k * 2 + 1, none⟩ = some (.string fv) := q1
          have hbl2 := bl_drew hbl
          clear q0 q1 hbl
          generalize wr.drew = w3 at q0' q1' hbl2 ⊢
        · exact ⟨q0', q1'⟩
        iterate 17 (refine seq_v rfl rfl rfl (by rintro w' ⟨h1, h2⟩; go_simp) ?_; go_simp)
        refine seq_nil ?_
        go_wp2_with fail
        go_roundw
        case rel =>
          refine ⟨k + 1, by omega, by go_num, ?_, Lib.hid ?_, hbl2⟩
          · have e := hst.out
            rw [e]; congr 1; rw [wrapi_in ((S : Int) + (fn.size : Int)) (by omega), wrapi_in ((S : Int) + (fn.size : Int) + (fv.size : Int)) (by omega), wrapi_in ((S : Int) + (fn.size : Int) + (fv.size : Int) + 32) (by omega)]; omega
          · rw [htk.out]
            intro f hf
            rcases List.mem_append.1 hf with hf | hf
            · exact hsh.out f hf
            · obtain rfl := List.mem_singleton.1 hf
              exact ⟨by simp only; omega, by simp only; omega⟩
        case measure => simp [intOf]; omega
    · obtain rfl : k = l.length := by omega
      rw [List.take_length] at hsh hsum ⊢
      obtain ⟨hfo, -⟩ := short_ok l hsh.out
      have hS1 : (sumF l : Int) ≤ 20000 := by omega
      have hbe : benc l first = (bpre first l, 0) := if_pos hfo
      have hbn := benc_any A1 l c1 first wr (hr.out.below hbl) (by omega) (hL.below hbl) (hS.below hbl)
      rw [hbe] at hbn
      simp only at hbn
      have hbk1 := block_back (sumF l : Int) l first
      have hbk2 := fun T => block_back ((sumF l : Int) - 1) l first T hfo
      have hbl2 := bpre_len first l hfo
      have hrb := fun W h => rbenc_any (P := fun k => k < w.heap.size) A1 l c1 first W h (by omega) hfo
      replace hbk1 := fun T => hbk1 T hfo
      obtain ⟨B, hB⟩ : ∃ B, B = bpre first l := ⟨_, rfl⟩
      rw [← hB] at hbn hbl2
      simp only [← hB] at hrb hbk1 hbk2
      simp only [if_neg (show ¬ (sumF l : Int) < (sumF l : Int) by omega)] at hbk1
      simp only [if_pos (show (sumF l : Int) - 1 < (sumF l : Int) by omega)] at hbk2
      obtain ⟨SM, hSM⟩ : ∃ SM, SM = sumF l := ⟨_, rfl⟩
      rw [← hSM] at hS1 ⊢
      simp only [← hSM] at hbk1 hbk2
      have hBl : B.length ≤ 20000000 := by omega
      clear hB hSM hsum hbe hbl2 hsh hfo
      replace hrb := Lib.hid hrb
      replace hbk1 := Lib.hid hbk1
      replace hbk2 := Lib.hid hbk2
      go_wp2_with fail
      refine hbn.mono ?_
      clear hbn
      rintro e w1 ⟨v1, rfl, ho1, hb1⟩
      have hbl1 := hbl.trans (hb1.mono hbl.size)
      obtain ⟨X1, z1, hv, -⟩ := own_shape ho1
      subst hv
      replace ho1 := Lib.hid ho1
      have hr1 := hrb.out w1 (hr.out.below hbl1)
      clear hb1
      go_wp2_with fail
      refine hr1.mono ?_
      clear hr1 hrb
      rintro e w2 ⟨v2, rfl, ho2, hb2⟩
      have hbl2 := hbl1.trans (hb2.mono hbl1.size)
      have ho1' := own_keep (w' := w2) ho1.out fun g _ hg => hb2.block g hg
      obtain ⟨X2, z2, hv, -⟩ := own_shape ho2
      subst hv
      obtain ⟨hcp1, hcp2⟩ := own_cap ho1'
      have hby1 := own_bytes ho1'
      have hsame := same_any X1 X2 B B z1 z2 w2 hby1 (own_bytes ho2) (by omega) (by omega)
      rw [decide_eq_true rfl] at hsame
      replace hby1 := Lib.hid (hby1.imp (Q := fun k => k < w2.heap.size) fun k hk _ => hk)
      clear ho1 ho1' hb2 ho2 hbl1 hbl
      go_wp2_with fail
      refine hsame.mono ?_
      clear hsame
      rintro e w3 ⟨rfl, hb3⟩
      have hbl3 := hbl2.trans (hb3.mono hbl2.size)
      have hby3 := Lib.hid ((hby1.out.below hb3).imp (Q := fun k => k < w3.heap.size) fun k hk _ => hk)
      have hnew := bnew_yes 4096 w3 (by omega)
      clear hby1 hb3 hbl2
      go_wp2_with fail
      refine hnew.mono ?_
      clear hnew
      rintro e w4 ⟨d, t, rfl, hD4, hb4, hdB, htB⟩
      have hB4 : ∀ k, decS d t (.slice none 0 0) k → w3.heap.size ≤ k := by
        rintro k (rfl | rfl | hk)
        · exact hdB
        · exact htB
        · cases hk
      have h23 : 2 ≤ w3.heap.size := Nat.le_trans h2 hbl3.size
      have hLw3 := hL.below hbl3
      have hSw3 := hS.below hbl3
      have ha3 := Lib.hid ((ha.out.below hbl3).imp (Q := fun k => k < w3.heap.size) fun k hk _ => hk)
      have hr3 := Lib.hid ((hr.out.below hbl3).imp (Q := fun k => k < w3.heap.size) fun k hk _ => hk)
      obtain ⟨⟨⟨G0, c0, e0⟩, T⟩, hR0⟩ : ∃ R, bdec 999 ah ⟨[], 4096, 4096⟩ = R := ⟨_, rfl⟩
      have hd1 := dread_any w3.heap.size d t _ _ 999 A2 ah c2 w4 hD4 hB4 hb4.size h23 ((ha3.out.below hb4).imp fun k _ hk hs => by have := hB4 k hs; omega) hc2 hm2 (by omega) (hLw3.below hb4) (hSw3.below hb4) (fun _ => False) (fun _ h => h.elim) _ hR0
      clear hR0 hdB htB hD4
      replace hB4 := Lib.hid hB4
      replace hLw3 := Lib.hid hLw3
      replace hSw3 := Lib.hid hSw3
      go_wp2_with fail
      refine hd1.mono ?_
      clear hd1
      rintro e w5 ⟨v5, x5, rfl, -, hD5, hB5, hb5, -, -⟩
      replace hb5 := hb4.trans hb5
      clear hb4 hB4
      have htb := btable_any d t v5 T w5 hD5
      replace hD5 := Lib.hid hD5
      replace hB5 := Lib.hid hB5
      obtain ⟨TR, hTR⟩ : ∃ TR, TR = T.f.reverse := ⟨_, rfl⟩
      rw [← hTR] at htb
      replace hTR := Lib.hid hTR
      go_wp2_with fail
      refine htb.mono ?_
      clear htb
      rintro e w6 ⟨u6, rfl, ho6, hb6⟩
      obtain ⟨U, O, hu, -⟩ := own_shape ho6
      subst hu
      have hD6 := hD5.out.below hb6
      have hUd : ∀ k, (Value.slice U TR.length O).ownBlock = some k → k < w6.heap.size ∧ ¬ decS d t v5 k := fun k hk => ⟨own_lt' ho6 hk, fun hs => by have := own_block ho6 hk; have := hD5.out.lt hs; omega⟩
      have hb6' := hb5.trans (hb6.mono hb5.size)
      have hcl := bclone_any d t v5 T w6 hD6
      replace hD6 := Lib.hid hD6
      replace hUd := Lib.hid hUd
      replace ho6 := Lib.hid ho6
      clear hD5 hb6 hb5
      go_wp2_with fail
      refine hcl.mono ?_
      clear hcl
      rintro e w7 ⟨d', t', v', rfl, hE7, hb7, hF7⟩
      have hD7 := hD6.out.below hb7
      have hbl7 := hb6'.trans (hb7.mono hb6'.size)
      have ho7 := own_same (w' := w7) ho6.out fun g hg => hb7.block g (hUd.out g hg).1
      have hK7 : ∀ k, decS d' t' v' k ∨ (Value.slice U TR.length O).ownBlock = some k → k < w7.heap.size ∧ ¬ decS d t v5 k := by
        rintro k (hk | hk)
        · exact ⟨hE7.lt hk, fun hs => by have := hF7 k hk; have := hD6.out.lt hs; omega⟩
        · exact ⟨Nat.lt_of_lt_of_le (hUd.out k hk).1 hb7.size, (hUd.out k hk).2⟩
      have hUE : ∀ k, (Value.slice U TR.length O).ownBlock = some k → ¬ decS d' t' v' k := fun k hk hs => by have := (hUd.out k hk).1; have := hF7 k hs; omega
      have hEB : ∀ k, decS d' t' v' k → w3.heap.size ≤ k := fun k hk => Nat.le_trans hb6'.size (hF7 k hk)
      obtain ⟨T', hT'⟩ : ∃ T', T' = if first then T.setMost 0 else T := ⟨_, rfl⟩
      have hk1 := hbk1.out T
      have hk2 := hbk2.out T
      rw [← hT'] at hk1 hk2
      have hd8 := dread_wide w3.heap.size d t v5 T (SM : Int) X1 B z1 w7 hD7 hB5.out hbl7.size h23 ((hby3.out.below hbl7).imp fun k _ hk hs => by have := hB5.out k hs; omega) hcp1 hcp2 (by omega) (hLw3.out.below hbl7) (hSw3.out.below hbl7) _ hK7 _ hk1
      simp only at hd8
      replace hk2 := Lib.hid hk2
      replace hE7 := Lib.hid hE7
      replace hUE := Lib.hid hUE
      replace hEB := Lib.hid hEB
      replace ho7 := Lib.hid ho7
      replace hT' := Lib.hid hT'
      clear hD7 hD6 ho6 hUd hb6' hb7 hF7 hbk1 hbk2 hk1 hK7
      go_wp2_with fail
      refine hd8.mono ?_
      clear hd8
      rintro e w8 ⟨v8, x8, rfl, ho8, hD8, hB8, hb8, hK8, hk8⟩
      obtain ⟨X8, z8, hx, -⟩ := own_shape ho8
      subst hx
      have hE8 := hE7.out.keep (w' := w8) fun k _ hs => hk8 k (.inl hs)
      have ho8' := own_same (w' := w8) ho7.out fun g hg => hk8 g (.inr hg)
      have hbl8 := hbl7.trans hb8
      have hK8' : ∀ k, (decS d t v8 k ∨ (Value.slice U TR.length O).ownBlock = some k) ∨ (Value.slice X8 l.length z8).ownBlock = some k → k < w8.heap.size ∧ ¬ decS d' t' v' k := by
        rintro k ((hk | hk) | hk)
        · exact ⟨hD8.lt hk, fun hs => (hK8 k (.inl (.inl hs))).2 hk⟩
        · exact ⟨(hK8 k (.inl (.inr hk))).1, hUE.out k hk⟩
        · exact ⟨(hK8 k (.inr hk)).1, fun hs => by have := own_block ho8 hk; have := hE7.out.lt hs; omega⟩
      have hd9 := dread_wide w3.heap.size d' t' v' T ((SM : Int) - 1) X1 B z1 w8 hE8 hEB.out hbl8.size h23 ((hby3.out.below hbl8).imp fun k _ hk hs => by have := hEB.out k hs; omega) hcp1 hcp2 (by omega) (hLw3.out.below hbl8) (hSw3.out.below hbl8) _ hK8' _ hk2.out
      simp only at hd9
      replace ho8 := Lib.hid ho8
      replace ho8' := Lib.hid ho8'
      replace hD8 := Lib.hid hD8
      clear hE8 hE7 ho7 hUE hEB hK8 hk8 hK8' hk2 hbl7 hb8 hB8
      go_wp2_with fail
      refine hd9.mono ?_
      clear hd9
      rintro e w9 ⟨v9, x9, rfl, ho9, hE9, hB9, hb9, hK9, hk9⟩
      have hx9 : x9 = .slice none 0 0 ∨ ∃ A9 c9, x9 = .slice A9 0 c9 := by
        obtain ⟨A9, c9, hx, -⟩ := own_shape ho9
        exact .inr ⟨A9, c9, hx⟩
      obtain ⟨A9, c9, hx⟩ : ∃ A9 c9, x9 = .slice A9 0 c9 := by
        obtain ⟨A9, c9, hx, -⟩ := own_shape ho9
        exact ⟨A9, c9, hx⟩
      subst hx
      have hD9 := hD8.out.keep (w' := w9) fun k _ hs => hk9 k (.inl (.inl hs))
      have hoU := own_same (w' := w9) ho8'.out fun g hg => hk9 g (.inl (.inr hg))
      have hoX := own_same (w' := w9) ho8.out fun g hg => hk9 g (.inr hg)
      have hbl9 := hbl8.trans hb9
      clear hx9 ho9 hB9 hK9 hk9 hb9 hbl8 hD8 ho8 ho8'
      have hfl := fields_eq X8 A1 l l z8 c1 w9 (own_fread2 hoX rfl) (hr3.out.below hbl9) (by omega) (by omega)
      rw [decide_eq_true rfl] at hfl
      replace hD9 := Lib.hid hD9
      replace hE9 := Lib.hid hE9
      replace hoU := Lib.hid hoU
      clear hoX
      go_wp2_with fail
      refine hfl.mono ?_
      clear hfl
      rintro e wA ⟨rfl, hbA⟩
      have hDA := Lib.hid (hD9.out.below hbA)
      have hEA := Lib.hid (hE9.out.below hbA)
      have hoA := Lib.hid (own_same (w' := wA) hoU.out fun g hg => hbA.block g (own_lt' hoU.out hg))
      have hblA := hbl9.trans (hbA.mono hbl9.size)
      clear hD9 hE9 hoU hbA hbl9
      cases first with
      | true =>
        have hWL : T'.f.reverse = [] := by rw [hT'.out]; show (keepFrom 0 0 T.f).reverse = []; rw [keep_none]; rfl
        have hWr : Hid (FRead wA (fun _ => True) none []) := Lib.hid (FRead.nil _ _ _)
        have hWn : Hid (([] : List FieldS).length ≤ 9223372036854775807) := Lib.hid (by decide)
        clear hoA
        have htb1 := btable_any d t v8 T' wA hDA.out
        have htb2 := fun W h => btable_any d' t' v9 T' W h
        rw [hWL] at htb1
        simp only [hWL] at htb2
        replace hWL := Lib.hid hWL
        replace htb2 := Lib.hid htb2
        go_wp2_with fail
        refine htb1.mono ?_
        clear htb1
        rintro e wB ⟨uB, rfl, hoB, hbB⟩
        obtain ⟨UB, OB, hu, -⟩ := own_shape hoB
        subst hu
        have hf1 := fields_eq UB none [] [] OB 0 wB (own_fread2 hoB rfl) (hWr.out.below hbB) hWn.out hWn.out
        rw [decide_eq_true rfl] at hf1
        have hWrB := Lib.hid (hWr.out.below hbB)
        have hEB' := Lib.hid (hEA.out.below hbB)
        have hblB := hblA.trans (hbB.mono hblA.size)
        clear hoB hbB hWr hEA hDA hblA
        go_wp2_with fail
        refine hf1.mono ?_
        clear hf1
        rintro e wC ⟨rfl, hbC⟩
        have hWrC := Lib.hid (hWrB.out.below hbC)
        have hEC := hEB'.out.below hbC
        have hblC := hblB.trans (hbC.mono hblB.size)
        have htb3 := htb2.out wC hEC
        clear hWrB hEB' hblB hbC hEC htb2
        go_wp2_with fail
        refine htb3.mono ?_
        clear htb3
        rintro e wD ⟨uD, rfl, hoD, hbD⟩
        obtain ⟨UD, OD, hu, -⟩ := own_shape hoD
        subst hu
        have hf2 := fields_eq UD none [] [] OD 0 wD (own_fread2 hoD rfl) (hWrC.out.below hbD) hWn.out hWn.out
        rw [decide_eq_true rfl] at hf2
        have hblD := hblC.trans (hbD.mono hblC.size)
        clear hoD hbD hWrC hblC
        go_wp2_with fail
        refine hf2.mono ?_
        clear hf2
        rintro e wE ⟨rfl, hbE⟩
        have hblE := hblD.trans (hbE.mono hblD.size)
        have hal := alive_any wE (hLw3.out.below hblE) (hSw3.out.below hblE)
        clear hbE hblD
        go_wp2_with fail
        refine hal.mono ?_
        clear hal
        rintro e wF ⟨rfl, hbF⟩
        have hblF := hbl3.trans ((hblE.trans (hbF.mono hblE.size)).mono hbl3.size)
        go_wp2_with fail
        go_ret
        exact ⟨rfl, hblF⟩
      | false =>
        have hWL : T'.f.reverse = TR := by rw [hT'.out, hTR.out]; rfl
        have hWr := Lib.hid (own_fread2 hoA.out rfl)
        have hWn : Hid (TR.length ≤ 9223372036854775807) := Lib.hid (by have := own_cap hoA.out; omega)
        clear hoA
        have htb1 := btable_any d t v8 T' wA hDA.out
        have htb2 := fun W h => btable_any d' t' v9 T' W h
        rw [hWL] at htb1
        simp only [hWL] at htb2
        replace hWL := Lib.hid hWL
        replace htb2 := Lib.hid htb2
        go_wp2_with fail
        refine htb1.mono ?_
        clear htb1
        rintro e wB ⟨uB, rfl, hoB, hbB⟩
        obtain ⟨UB, OB, hu, -⟩ := own_shape hoB
        subst hu
        have hf1 := fields_eq UB U TR TR OB O wB (own_fread2 hoB rfl) (hWr.out.below hbB) hWn.out hWn.out
        rw [decide_eq_true rfl] at hf1
        have hWrB := Lib.hid (hWr.out.below hbB)
        have hEB' := Lib.hid (hEA.out.below hbB)
        have hblB := hblA.trans (hbB.mono hblA.size)
        clear hoB hbB hWr hEA hDA hblA
        go_wp2_with fail
        refine hf1.mono ?_
        clear hf1
        rintro e wC ⟨rfl, hbC⟩
        have hWrC := Lib.hid (hWrB.out.below hbC)
        have hEC := hEB'.out.below hbC
        have hblC := hblB.trans (hbC.mono hblB.size)
        have htb3 := htb2.out wC hEC
        clear hWrB hEB' hblB hbC hEC htb2
        go_wp2_with fail
        refine htb3.mono ?_
        clear htb3
        rintro e wD ⟨uD, rfl, hoD, hbD⟩
        obtain ⟨UD, OD, hu, -⟩ := own_shape hoD
        subst hu
        have hf2 := fields_eq UD U TR TR OD O wD (own_fread2 hoD rfl) (hWrC.out.below hbD) hWn.out hWn.out
        rw [decide_eq_true rfl] at hf2
        have hblD := hblC.trans (hbD.mono hblC.size)
        clear hoD hbD hWrC hblC
        go_wp2_with fail
        refine hf2.mono ?_
        clear hf2
        rintro e wE ⟨rfl, hbE⟩
        have hblE := hblD.trans (hbE.mono hblD.size)
        have hal := alive_any wE (hLw3.out.below hblE) (hSw3.out.below hblE)
        clear hbE hblD
        go_wp2_with fail
        refine hal.mono ?_
        clear hal
        rintro e wF ⟨rfl, hbF⟩
        have hblF := hbl3.trans ((hblE.trans (hbF.mono hblE.size)).mono hbl3.size)
        go_wp2_with fail
        go_ret
        exact ⟨rfl, hblF⟩
end Go.Proofs.YtfkpeahelhpelaaDoor
