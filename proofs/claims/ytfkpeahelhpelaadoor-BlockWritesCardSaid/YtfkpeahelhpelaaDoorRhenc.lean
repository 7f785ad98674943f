/- The text of bytes, the document's way (ref04.Encode): it comes to what our own comes to. -/
import Derived.Test.YtfkpeahelhpelaaDoorRhdec
import Derived.Test.YtfkpeahelhpelaaDoorLenc
namespace Go.Proofs.YtfkpeahelhpelaaDoor
set_option linter.all false
open Go.RowKit
attribute [local go_sem] Oper.semAt_some valueOf_ok

def bitsB (p : List Bool) : List UInt8 := p.map bitB
theorem bitsB_length (p : List Bool) : (bitsB p).length = p.length := by simp [bitsB]
theorem bitsB_append (p q : List Bool) : bitsB (p ++ q) = bitsB p ++ bitsB q := by simp [bitsB]
theorem spell_bits (c n : Nat) : spell c n = bitsB (lowBits c n) := rfl
theorem hbits_step (l : List UInt8) (k : Nat) (hk : k < l.length) : hbits (l.take (k + 1)) = hbits (l.take k) ++ lowBits (codeAt (l.getD k 0).toNat) (lenAt (l.getD k 0).toNat) := by
  have e : l.take (k + 1) = l.take k ++ [l.getD k 0] := by
    rw [List.take_succ_eq_append_getElem hk, List.getD_eq_getElem?_getD, List.getElem?_eq_getElem hk]
    rfl
  rw [e, hbits_append, hbits_one]
def pad8 (p : List Bool) : List Bool := p ++ List.replicate ((8 - p.length % 8) % 8) true
theorem pad8_mod (p : List Bool) : (pad8 p).length % 8 = 0 := by rw [pad8, List.length_append, List.length_replicate]; omega
theorem henc_pad (l : List UInt8) : henc l = (packG (pad8 (hbits l))).1 := by
  have h1 := packG_len _ (hbits l) (Nat.le_refl _)
  have h2 := packG_rest _ (hbits l) (Nat.le_refl _)
  have h3 := packG_app _ (hbits l) (List.replicate ((8 - (hbits l).length % 8) % 8) true) (Nat.le_refl _)
  rw [pad8, h3, henc]
  generalize hbits l = p at *
  generalize hp : packG p = g at *
  obtain ⟨a, r⟩ := g
  simp only at h1 h2 ⊢
  by_cases hr : r = []
  · subst hr
    rw [if_pos rfl]
    simp only [List.length_nil] at h1
    rw [show (8 - p.length % 8) % 8 = 0 by omega]
    simp [packG]
  · have hr0 : 0 < r.length := List.length_pos_iff.2 hr
    rw [if_neg hr, show (8 - p.length % 8) % 8 = 8 - r.length by omega]
    have h8 : (r ++ List.replicate (8 - r.length) true).length = 8 := by rw [List.length_append, List.length_replicate]; omega
    rw [packG_long _ (by omega), List.take_of_length_le (by omega), List.drop_of_length_le (by omega)]
    rfl
/-- One more byte. -/
theorem pack_step (p : List Bool) (j : Nat) (h : 8 * j + 8 ≤ p.length) : (packG (p.take (8 * (j + 1)))).1 = (packG (p.take (8 * j))).1 ++ [UInt8.ofNat (valP ((p.drop (8 * j)).take 8))] := by
  have e : p.take (8 * (j + 1)) = p.take (8 * j) ++ (p.drop (8 * j)).take 8 := by rw [show 8 * (j + 1) = 8 * j + 8 by omega, List.take_add]
  have h1 := packG_len _ (p.take (8 * j)) (Nat.le_refl _)
  have h2 := packG_rest _ (p.take (8 * j)) (Nat.le_refl _)
  have h3 : (p.take (8 * j)).length = 8 * j := by rw [List.length_take]; omega
  have h4 : (packG (p.take (8 * j))).2 = [] := List.eq_nil_of_length_eq_zero (by omega)
  have h5 : ((p.drop (8 * j)).take 8).length = 8 := by rw [List.length_take, List.length_drop]; omega
  rw [e, packG_app _ _ _ (Nat.le_refl _), h4, List.nil_append]
  generalize (p.drop (8 * j)).take 8 = X at h5 ⊢
  rw [packG_long X (by omega), List.take_of_length_le (l := X) (by omega), List.drop_of_length_le (l := X) (by omega)]
  rfl
theorem pack_len (p : List Bool) (j : Nat) (h : 8 * j ≤ p.length) : (packG (p.take (8 * j))).1.length = j := by
  have h1 := packG_len _ (p.take (8 * j)) (Nat.le_refl _)
  have h2 := packG_rest _ (p.take (8 * j)) (Nat.le_refl _)
  have h3 : (p.take (8 * j)).length = 8 * j := by rw [List.length_take]; omega
  omega
theorem valP_take (p : List Bool) (k : Nat) (b : Bool) (h : p[k]? = some b) : valP (p.take (k + 1)) = 2 * valP (p.take k) + (if b then 1 else 0) := by
  obtain ⟨hk, e⟩ := List.getElem?_eq_some_iff.1 h
  rw [List.take_succ_eq_append_getElem hk, e]
  simp [valP]
theorem bitsB_get (p : List Bool) (k : Nat) (b : Bool) (h : p[k]? = some b) : ((bitsB p).getD k 0).toNat = if b then 1 else 0 := by
  rw [bitsB, List.getD_eq_getElem?_getD, List.getElem?_map, h]
  cases b <;> rfl

set_option maxRecDepth 100000 in
set_option maxHeartbeats 4000000 in
theorem rhenc_any (A : Option Addr) (l : List UInt8) (c : Nat) (w : World) {P : Nat → Prop} (hb : Bytes w P A l) (hl : l.length ≤ 1000000000) :
    Calls Tryd.prog 81 #[.slice A l.length c] w fun e w' => ∃ v, e = .returned v ∧ w'.ownsRow w.heap.size 5 1 v (henc l).length ((henc l).map bv) ∧ Below w.heap.size w w' := by
  obtain ⟨Z, hZ⟩ : ∃ Z, Z = pad8 (hbits l) := ⟨_, rfl⟩
  rw [henc_pad, ← hZ]
  have hZl : Z.length % 8 = 0 := by rw [hZ]; exact pad8_mod _
  have hZb : Z.length ≤ 30 * l.length + 8 := by have := hbits_len l; rw [hZ, pad8, List.length_append, List.length_replicate]; omega
  replace hZ := Lib.hid hZ
  replace hZl := Lib.hid hZl
  replace hb := Lib.hid hb
  have hrl := rlengths_any w
  go_enter Tryd.func81, Tryd.ntmps81
  go_wp2_with fail
  refine hrl.mono ?_
  clear hrl
  rintro e w1 ⟨rfl, rfl⟩
  have hg1 := heap_alloc_new w (.cells (ints lens) 3)
  have hb1 := bl_alloc (Below.refl _ w) (.cells (ints lens) 3)
  have hrc := rcodes_any (w.alloc (.cells (ints lens) 3))
  go_wp2_with fail
  refine hrc.mono ?_
  clear hrc
  rintro e w2 ⟨B2, rfl, hg2, hB2, hb2⟩
  have hg1' := blk_below hg1 hb2
  have hbl := bl_then hb1 hb2
  have hB2' : w.heap.size < B2 := by rw [World.size_alloc] at hB2; omega
  have hB2l := blk_lt hg2
  clear hg1 hb1 hb2 hB2
  go_wp2_with fail
  go_loopw [5, 6] (fun bs i wr => ∃ k : Nat, k ≤ l.length ∧ i = .int .i64 (k : Int) ∧ wr.ownsRow w2.heap.size 5 1 bs (hbits (l.take k)).length ((bitsB (hbits (l.take k))).map bv) ∧ Below w.heap.size w wr ∧ w2.heap.size ≤ wr.heap.size ∧ wr.heap[w.heap.size]? = some (.cells (ints lens) 3 (0, 0)) ∧ wr.heap[B2]? = some (.cells (ints codesL) 3 (0, 0)))
    (fun _ i _ => l.length - (intOf i).toNat)
  case atStart => exact ⟨0, by omega, rfl, World.ownsRow_nil _ _ _ _, hbl, Nat.le_refl _, hg1', hg2⟩
  case round =>
    obtain ⟨k, hk, rfl, hown, hb3, hsz, g1, g2⟩ := hrel
    clear hg1' hg2 hbl
    have k0 : (0 : Int) ≤ k := by omega
    have hbk := hbits_len (l.take k)
    rw [List.length_take] at hbk
    obtain ⟨vA, vC, hsv, hvC⟩ := own_shape hown
    subst hsv
    by_cases hlt : k < l.length
    · have hlt' : (k : Int) < l.length := by omega
      have hst := hbits_step l k hlt
      have hbk1 := hbits_len (l.take (k + 1))
      rw [List.length_take] at hbk1
      obtain ⟨b, off, rfl, -, hcell⟩ := (hb.out.below hb3) (by omega)
      have hqc := hcell k hlt
      obtain ⟨ck, hck⟩ : ∃ ck, l.getD k 0 = ck := ⟨_, rfl⟩
      rw [hck] at hqc hst
      have h256 : ck.toNat < 256 := ck.toNat_lt
      have h256' : (ck.toNat : Int) < 257 := by omega
      obtain ⟨hc1, hc2⟩ := two_of g1 g2 ck.toNat (by omega)
      obtain ⟨hcl1, hcl2, hcl3⟩ := code_lt ⟨ck.toNat, by omega⟩
      simp only at hcl1 hcl2 hcl3
      have hpw : 2 ^ lenAt ck.toNat ≤ 2 ^ 30 := Nat.pow_le_pow_right (by omega) hcl2
      have hrs := fun w => rspell_any (codeAt ck.toNat) (lenAt ck.toNat) (by omega) (by omega) w
      replace hst := Lib.hid hst
      replace hown := Lib.hid hown
      clear hcell hck hpw hcl1
      obtain ⟨LN, hLN⟩ : ∃ LN, LN = lenAt ck.toNat := ⟨_, rfl⟩
      obtain ⟨CD, hCD⟩ : ∃ CD, CD = codeAt ck.toNat := ⟨_, rfl⟩
      rw [← hLN, ← hCD] at hst
      rw [← hLN] at hc1 hcl2 hcl3
      rw [← hCD] at hc2
      simp only [← hLN, ← hCD] at hrs
      clear hLN hCD
      replace hrs := Lib.hid hrs
      go_wp2_with fail
      refine region_plan_open (fun w' => w'.cell? ⟨b, off + k, none⟩ = some (.int .u8 (ck.toNat : Int)) ∧ w'.cell? ⟨w.heap.size, ck.toNat, none⟩ = some (.int .i64 (LN : Int)) ∧ w'.cell? ⟨B2, ck.toNat, none⟩ = some (.int .i64 (CD : Int)))
        [16, 17] [15, 16, 17] [0, 1, 2, 3, 4, 5, 6, 7, 8, 9, 10, 11, 12, 13, 14, 15, 16, 17] (by kernel_rfl) (by kernel_rfl) (by kernel_rfl) (by kernel_rfl) (by decide) ?_ ?_
      all_goals
        have q1 : wr.drew.cell? ⟨b, off + k, none⟩ = some (.int .u8 (ck.toNat : Int)) := hqc
        have q2 : wr.drew.cell? ⟨w.heap.size, ck.toNat, none⟩ = some (.int .i64 (LN : Int)) := hc1
        have q3 : wr.drew.cell? ⟨B2, ck.toNat, none⟩ = some (.int .i64 (CD : Int)) := hc2
        have ho4 : Hid (wr.drew.ownsRow w2.heap.size 5 1 (.slice vA (hbits (l.take k)).length vC) (hbits (l.take k)).length ((bitsB (hbits (l.take k))).map bv)) := Lib.hid (own_keep hown.out fun _ _ _ => rfl)
        have hb4 := bl_drew hb3
        have hz4 : w2.heap.size ≤ wr.drew.heap.size := hsz
        have g1' : wr.drew.heap[w.heap.size]? = some (.cells (ints lens) 3 (0, 0)) := g1
        have g2' : wr.drew.heap[B2]? = some (.cells (ints codesL) 3 (0, 0)) := g2
        clear hqc hc1 hc2 hown hb3 hsz g1 g2
        generalize wr.drew = w4 at q1 q2 q3 ho4 hb4 hz4 g1' g2' ⊢
      · exact ⟨q1, q2, q3⟩
      iterate 15 (refine seq_v rfl rfl rfl (by rintro w' ⟨h1, h2, h3⟩; go_simp) ?_; go_simp)
      refine seq_call (f := 75) (args := #[.int .i64 (CD : Int), .int .i64 (LN : Int)]) rfl (fun _ => trivial) rfl rfl rfl rfl (by go_simp) ?_
      refine (callsIn_wide.2 (hrs.out w4)).mono ?_
      rintro e w5 ⟨rfl, hg5, hb5⟩
      have hbw : b < w4.heap.size := World.block_lt_of_cell? w4 ⟨b, off + k, none⟩ q1
      refine ⟨_, rfl, fun _ => ⟨((bcell hb5).1 b _ hbw).trans q1, ((bcell hb5).1 _ _ (blk_lt g1')).trans q2, ((bcell hb5).1 _ _ (blk_lt g2')).trans q3⟩, ?_⟩
      have ho5 := Lib.hid (own_keep (w' := w5) ho4.out fun g _ hg => hb5.block g hg)
      have hb6 := bl_then hb4 hb5
      have g3 := blk_below g1' hb5
      have g4 := blk_below g2' hb5
      have hz5 := hb5.size
      have hby5 : Bytes w5 (fun _ => True) (some ⟨w4.heap.size, 0, none⟩) (spell CD LN) := fun _ => ⟨w4.heap.size, 0, rfl, trivial, fun j hj => by
        rw [Nat.zero_add, cell_of_row _ _ _ _ _ _ hg5, List.getElem?_toArray, List.getElem?_map, List.getElem?_eq_getElem hj, List.getD_eq_getElem?_getD, List.getElem?_eq_getElem hj]
        rfl⟩
      have hap := fun ev o x y => ex_append_bytes w2.heap.size _ _ _ ho5.out (some ⟨w4.heap.size, 0, none⟩) (spell CD LN) LN (.inr (by rw [spell_length]; omega)) hby5 (by rw [spell_length]; omega) (by omega) ev o x y
      rw [spell_length] at hap
      go_simp
      refine seq_ex rfl (fun _ => trivial) rfl rfl rfl (hap _ _ _ _ rfl rfl rfl) ?_
      clear hap
      rintro v6 w6 ⟨ho6, hg6, hv6⟩
      have hrow : ∀ g, (Value.slice vA (hbits (l.take k)).length vC).ownBlock = some g → w2.heap.size ≤ g := fun g hg => own_block ho5.out hg
      have hb7 := hb6.trans (grown_below hg6 hb6.size (fun g hg => by have := hrow g hg; have := blk_lt g4; omega))
      have g5 := grown_blk hg6 g3 (fun e => by have := hrow _ e.symm; omega)
      have g6 := grown_blk hg6 g4 (fun e => by have := hrow _ e.symm; omega)
      have hz6 := hg6.size
      refine ⟨fun h => absurd (by decide) h, ?_⟩
      go_simp
      refine seq_dv rfl (fun _ => trivial) rfl rfl rfl (fun h => absurd (by decide) h) (by go_simp) ?_
      go_simp
      refine seq_nil ?_
      replace ho6 := Lib.hid ho6
      clear hg6 hv6 hrow hb6 g3 g4 ho5 hby5 hg5 hb5 q1 q2 q3 g1' g2' ho4 hb4
      go_wp2_with fail
      go_roundw
      case rel =>
        refine ⟨k + 1, by omega, by go_num, ?_, hb7, by omega, g5, g6⟩
        rw [hst.out, bitsB_append, List.map_append, List.length_append, lowBits_size]
        exact ho6.out
      case measure => simp [intOf]; omega
    · obtain rfl : k = l.length := by omega
      rw [List.take_length] at hown hbk ⊢
      obtain ⟨H, hH⟩ : ∃ H, H = hbits l := ⟨_, rfl⟩
      rw [← hH] at hown hbk hZ ⊢
      clear hH
      replace hown := Lib.hid hown
      have hPd : Hid (Z = H ++ List.replicate ((8 - H.length % 8) % 8) true) := Lib.hid hZ.out
      obtain ⟨wo, rfl⟩ : ∃ wo : World, wo = wr := ⟨_, rfl⟩
      go_wp2_with fail
      go_loopw [5] (fun bs wr => ∃ j : Nat, j ≤ (8 - H.length % 8) % 8 ∧ wr.ownsRow w2.heap.size 5 1 bs (H.length + j) ((bitsB (H ++ List.replicate j true)).map bv) ∧ Below w.heap.size w wr ∧ w2.heap.size ≤ wr.heap.size)
        (fun bs _ => match bs with | .slice _ n _ => (8 - n % 8) % 8 | _ => 0)
      case atStart => exact ⟨0, by omega, by simpa using hown.out, hb3, hsz⟩
      case round =>
        obtain ⟨j, hj, hown2, hb4, hsz4⟩ := hrel
        clear hown hb3 hsz
        obtain ⟨vB, vD, hsv, hvD⟩ := own_shape hown2
        subst hsv
        replace hown2 := Lib.hid hown2
        by_cases hpj : j < (8 - H.length % 8) % 8
        · have hne : (((H.length + j : Nat) : Int) % 8 != 0) = true := by simp; omega
          have hx1 := Lib.hid (own_alloc hown2.out (.cells #[.int .u8 1] 5))
          have hbx := bl_alloc hb4 (.cells #[.int .u8 1] 5)
          have hap := Lib.hid (fun ev o x y => ex_append (P := Tryd.prog) u8info_s 30 (by kernel_rfl) (by decide) (by decide) w2.heap.size _ _ _ hx1.out ⟨wr.heap.size, 0, none⟩ 1 1 [.int .u8 1] rfl (World.news_of_block (cs := #[.int .u8 1]) (t := 5) (fr := (0, 0)) (heap_alloc_new wr _)) (by simp [Value.oneCell']) (by simp only [maxLen]; omega) (by omega) (by rw [World.size_alloc]; omega) ev o x y)
          go_wp2_with (((with_reducible refine at_append 30 ?_); refine wl_ex rfl (hap.out _ _ _ _ rfl rfl rfl) ?_; rintro v9 w9 ⟨ho9, hg9, hv9⟩; have hb9 := hbx.trans (grown_below hg9 hbx.size (fun g hg => by have := own_block hx1.out hg; omega)); have s9 := hg9.size; replace ho9 := Lib.hid ho9; clear hap hg9 hv9))
          rw [World.size_alloc] at s9
          obtain ⟨vE, vF, hsv, hvF⟩ := own_shape ho9.out
          subst hsv
          go_roundw
          case rel =>
            refine ⟨j + 1, by omega, ?_, hb9, by omega⟩
            have e1 : H ++ List.replicate (j + 1) true = (H ++ List.replicate j true) ++ [true] := by rw [List.replicate_succ', List.append_assoc]
            rw [e1, bitsB_append, List.map_append]
            exact ho9.out
          case measure =>
            show (8 - (H.length + j + 1) % 8) % 8 < (8 - (H.length + j) % 8) % 8
            omega
        · obtain rfl : j = (8 - H.length % 8) % 8 := by omega
          have hne : (((H.length + (8 - H.length % 8) % 8 : Nat) : Int) % 8 != 0) = false := by simp; omega
          have hZe := hPd.out
          have hZL : H.length + (8 - H.length % 8) % 8 = Z.length := by rw [hZe]; simp
          have hownZ := hown2.out
          rw [← hZe, hZL] at hownZ
          rw [hZL] at hne ⊢
          have hZm := hZl.out
          obtain ⟨m, hm⟩ : ∃ m, Z.length = 8 * m := ⟨Z.length / 8, by omega⟩
          clear hown2 hZe hZL hpj
          replace hownZ := Lib.hid hownZ
          replace hm := Lib.hid hm
          clear hZm
          have hZi : (Z.length : Int) ≤ 100000000000 := by omega
          obtain ⟨wo, rfl⟩ : ∃ wo : World, wo = wr := ⟨_, rfl⟩
          have hbyZ := (own_bytes hownZ.out).imp (Q := fun g => g < wo.heap.size) fun g hg _ => hg
          replace hbyZ := Lib.hid hbyZ
          go_wp2_with fail
          go_loopw [7, 8] (fun o i wr => ∃ j I : Nat, I = 8 * j ∧ I ≤ Z.length ∧ i = .int .i64 (I : Int) ∧ wr.ownsRow wo.heap.size 5 1 o j (((packG (Z.take I)).1).map bv) ∧ Below wo.heap.size wo wr) (fun _ i _ => Z.length - (intOf i).toNat)
          case atStart => exact ⟨0, 0, rfl, by omega, rfl, World.ownsRow_nil _ _ _ _, Below.refl _ _⟩
          case round =>
            obtain ⟨j, I, hI, hIle, rfl, hout, hb5⟩ := hrel
            obtain ⟨vO, vP, hsv, hvP⟩ := own_shape hout
            subst hsv
            have I0 : (0 : Int) ≤ I := by omega
            have I1 : (I : Int) ≤ Z.length := by omega
            have hmm := hm.out
            by_cases hIl : I < Z.length
            · have hIl' : (I : Int) < Z.length := by omega
              have hI8 : I + 8 ≤ Z.length := by omega
              have hps := pack_step Z j (by omega)
              rw [← hI, show 8 * (j + 1) = I + 8 by omega] at hps
              obtain ⟨b, off, hvb, -, hcell⟩ := (hbyZ.out.below hb5) (by rw [bitsB_length]; omega)
              subst hvb
              obtain ⟨D, hD⟩ : ∃ D, D = (Z.drop I).take 8 := ⟨_, rfl⟩
              have hDl : D.length = 8 := by rw [hD, List.length_take, List.length_drop]; omega
              have hDz : ∀ k b', D[k]? = some b' → Z[I + k]? = some b' := by
                intro k b' h
                have hk8 : k < 8 := by have := (List.getElem?_eq_some_iff.1 h).1; omega
                rw [hD, List.getElem?_take_of_lt hk8, List.getElem?_drop] at h
                exact h
              rw [← hD] at hps
              replace hps := Lib.hid hps
              replace hout := Lib.hid hout
              replace hDz := Lib.hid hDz
              replace hDl := Lib.hid hDl
              replace hcell := Lib.hid hcell
              replace hI := Lib.hid hI
              clear hD hmm
              obtain ⟨wi, rfl⟩ : ∃ wi : World, wi = wr := ⟨_, rfl⟩
              go_wp2_with fail
              go_loop [9, 10] (fun n k => ∃ kk : Nat, kk ≤ 8 ∧ k = .int .i64 (kk : Int) ∧ n = .int .u8 ((valP (D.take kk) : Nat) : Int)) (fun _ k => 8 - (intOf k).toNat)
              case atStart => exact ⟨0, by omega, rfl, rfl⟩
              case round =>
                obtain ⟨kk, hkk, rfl, rfl⟩ := hrel
                have kk0 : (0 : Int) ≤ kk := by omega
                by_cases hk8 : kk < 8
                · have hk8' : (kk : Int) < 8 := by omega
                  obtain ⟨bt, hbt⟩ : ∃ bt, D[kk]? = some bt := ⟨_, List.getElem?_eq_getElem (by have := hDl.out; omega)⟩
                  have hvt := valP_take D kk bt hbt
                  have hvl := valP_lt (D.take kk)
                  have h27 : 2 ^ (D.take kk).length ≤ 2 ^ 7 := Nat.pow_le_pow_right (by omega) (by rw [List.length_take]; omega)
                  have hzb := hDz.out kk bt hbt
                  have hq := hcell.out (I + kk) (by rw [bitsB_length]; exact (List.getElem?_eq_some_iff.1 hzb).1)
                  rw [bitsB_get Z _ bt hzb] at hq
                  obtain ⟨x, hx⟩ : ∃ x, x = valP (D.take kk) := ⟨_, rfl⟩
                  rw [← hx] at hvt hvl ⊢
                  have x1 : (x : Int) ≤ 127 := by omega
                  replace hvt := Lib.hid hvt
                  have hIk : ((I : Int) + (kk : Int)) < Z.length := by omega
                  clear hx hvl h27 hzb hbt
                  cases bt
                  all_goals
                    first
                    | replace hq := hq.trans (show _ = some (Value.int .u8 0) from rfl)
                    | replace hq := hq.trans (show _ = some (Value.int .u8 1) from rfl)
                    go_wp2_with fail
                    go_round
                    case rel => exact ⟨kk + 1, by omega, by go_num, by rw [hvt.out]; simp⟩
                    case measure => simp [intOf]; omega
                · obtain rfl : kk = 8 := by omega
                  have hvl := valP_lt D
                  rw [hDl.out] at hvl
                  have hvT : D.take 8 = D := List.take_of_length_le (by have := hDl.out; omega)
                  rw [hvT]
                  obtain ⟨x, hx⟩ : ∃ x, x = valP D := ⟨_, rfl⟩
                  rw [← hx] at hvl hps ⊢
                  have x1 : (x : Int) < 256 := by omega
                  have hx1 := Lib.hid (own_alloc hout.out (.cells #[.int .u8 (x : Int)] 5))
                  have hbx := hb5.alloc hb5.size (.cells #[.int .u8 (x : Int)] 5)
                  have hap := Lib.hid (fun ev o x' y => ex_append (P := Tryd.prog) u8info_s 30 (by kernel_rfl) (by decide) (by decide) wo.heap.size _ _ _ hx1.out ⟨wi.heap.size, 0, none⟩ 1 1 [.int .u8 (x : Int)] rfl (World.news_of_block (cs := #[.int .u8 (x : Int)]) (t := 5) (fr := (0, 0)) (heap_alloc_new wi _)) (by simp [Value.oneCell']) (by simp only [maxLen]; have := hI.out; omega) (by have := hI.out; omega) (by rw [World.size_alloc]; have := hb5.size; omega) ev o x' y)
                  clear hvT hx hvl
                  go_wp2_with (((with_reducible refine at_append 30 ?_); refine wl_ex rfl (hap.out _ _ _ _ rfl rfl rfl) ?_; rintro v9 w9 ⟨ho9, hg9, hv9⟩; have hb9 := hbx.trans (grown_below hg9 hbx.size (fun g hg => own_block hx1.out hg)); replace ho9 := Lib.hid ho9; clear hap hg9 hv9))
                  go_roundw
                  case rel =>
                    refine ⟨j + 1, I + 8, by have := hI.out; omega, by omega, by go_num, ?_, hb9⟩
                    rw [hps.out, List.map_append, List.map_cons, List.map_nil, bv_of _ (by omega)]
                    exact ho9.out
                  case measure => simp [intOf]; omega
            · obtain rfl : I = Z.length := by omega
              rw [List.take_length] at hout
              have hpl := pack_len Z j (by omega)
              rw [← hI, List.take_length] at hpl
              replace hout := Lib.hid hout
              replace hI := Lib.hid hI
              clear hmm
              go_wp2_with fail
              go_ret
              refine ⟨_, rfl, ?_, hb4.trans (hb5.mono hb4.size)⟩
              rw [hpl]
              exact own_mono hout.out hb4.size
end Go.Proofs.YtfkpeahelhpelaaDoor
