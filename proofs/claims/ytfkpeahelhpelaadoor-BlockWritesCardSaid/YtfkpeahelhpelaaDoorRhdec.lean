/- The text of bytes, the document's way (ref04.Decode): it comes to what our own comes to. -/
import Derived.Test.YtfkpeahelhpelaaDoorRefCodes
import Derived.Test.YtfkpeahelhpelaaDoorHdec
namespace Go.Proofs.YtfkpeahelhpelaaDoor
set_option linter.all false
open Go.RowKit

theorem bitsOf_at : ∀ (l : List UInt8) (q r : Nat), q < l.length → r < 8 → (bitsOf l)[8 * q + r]? = (lowBits (l.getD q 0).toNat 8)[r]?
  | [], q, r, hq, _ => absurd hq (by simp)
  | c :: t, 0, r, _, hr => by
    rw [bitsOf, Nat.mul_zero, Nat.zero_add, List.getElem?_append_left (by rw [lowBits_size]; exact hr)]
    rfl
  | c :: t, q + 1, r, hq, hr => by
    rw [bitsOf, List.getElem?_append_right (by rw [lowBits_size]; omega), lowBits_size, show 8 * (q + 1) + r - 8 = 8 * q + r by omega, bitsOf_at t q r (by simpa using hq) hr]
    rfl
theorem valP_snoc (p : List Bool) (b : Bool) : valP (p ++ [b]) = 2 * valP p + (if b then 1 else 0) := by simp [valP]
theorem valP_rev : ∀ q : List Bool, valP q.reverse + 1 ≤ 2 ^ q.length ∧ (q.all id = true ↔ valP q.reverse + 1 = 2 ^ q.length)
  | [] => by simp [valP]
  | b :: q => by
    obtain ⟨h1, h2⟩ := valP_rev q
    rw [List.reverse_cons, valP_snoc, List.length_cons, Nat.pow_succ, List.all_cons]
    cases b
    · simp; omega
    · simp [h2]; omega
theorem valP_bound (p : List Bool) : valP p + 1 ≤ 2 ^ p.length ∧ (p.all id = true ↔ valP p + 1 = 2 ^ p.length) := by
  have := valP_rev p.reverse
  rwa [List.reverse_reverse, List.length_reverse, List.all_reverse] at this
theorem ones_iff (p : List Bool) (h : p.length < 8) : codeP p = 2 ^ p.length - 1 ↔ p.all id = true := by
  obtain ⟨h1, h2⟩ := valP_bound p
  have h3 : 2 ^ p.length ≤ 2 ^ 7 := Nat.pow_le_pow_right (by omega) (by omega)
  rw [h2]
  have h4 : codeP p = (valP p : Int) := by unfold codeP wrap64; omega
  have h5 : ((2 : Int) ^ p.length) = ((2 ^ p.length : Nat) : Int) := by simp
  rw [h4, h5]
  omega
/-- What the end is. -/
theorem hgo_end {F : Int → Int → Option Nat} {most : Int} {p : List Bool} {out : List UInt8} {D : List UInt8 × Nat} (h : hgo F most [] p out = D) : D = if 7 < p.length ∨ p.all id = false then ([], 3) else (out, 0) := by
  rw [← h, hgo]
  by_cases h8 : 8 ≤ p.length
  · rw [if_pos (.inl h8), if_pos (.inl h8)]
  · by_cases h1 : p.all id = true
    · rw [if_neg (by rintro (h | h); exact h8 h; exact h ((ones_iff p (by omega)).2 h1)), if_neg (by rintro (h | h); omega; rw [h1] at h; cases h)]
    · rw [if_pos (.inr fun h => h1 ((ones_iff p (by omega)).1 h)), if_pos (.inr (by simpa using h1))]
/-- The doc's step: twice, and the bit. -/
theorem code_double (p : List Bool) (b : Bool) : wrap64 (wrap64 (2 * codeP p) + bitI b) = codeP (p ++ [b]) := by
  rw [codeP, codeP, valP_snoc]
  unfold wrap64 bitI
  cases b <;> simp <;> omega
theorem code_double0 (p : List Bool) : wrap64 (wrap64 (2 * codeP p)) = codeP (p ++ [false]) := by
  have := code_double p false
  simpa [bitI] using this
theorem code_double1 (p : List Bool) : wrap64 (wrap64 (2 * codeP p) + 1) = codeP (p ++ [true]) := by
  have := code_double p true
  simpa [bitI] using this
theorem two_of {w : World} {B1 B2 : Nat} (h1 : w.heap[B1]? = some (.cells (ints lens) 3 (0, 0))) (h2 : w.heap[B2]? = some (.cells (ints codesL) 3 (0, 0))) : Two4 w B1 B2 := fun j hj =>
  ⟨(cell_of_row _ _ j _ _ _ h1).trans (ints_get lens j (by rw [lens_length]; exact hj)), (cell_of_row _ _ j _ _ _ h2).trans (ints_get codesL j (by rw [codes_length]; exact hj))⟩
theorem findV_some {a b : Int} {c : Nat} (h : fit a b = some c) : findV a b = (c : Int) := by rw [findV, h]
theorem findV_none {a b : Int} (h : fit a b = none) : findV a b = -1 := by rw [findV, h]
theorem spell_at (c r : Nat) (hr : r < 8) : ((spell c 8).map bv)[r]? = some (bv (bitB ((lowBits c 8).getD r false))) := by
  rw [spell, List.map_map, List.getElem?_map, List.getD_eq_getElem?_getD, List.getElem?_eq_getElem (by rw [lowBits_size]; exact hr)]
  rfl
theorem bits_drop (l : List UInt8) (q r : Nat) (hq : q < l.length) (hr : r < 8) : (bitsOf l).drop (8 * q + r) = ((lowBits (l.getD q 0).toNat 8).getD r false) :: (bitsOf l).drop (8 * q + r + 1) := by
  have h := bitsOf_at l q r hq hr
  have hlen : r < (lowBits (l.getD q 0).toNat 8).length := by rw [lowBits_size]; exact hr
  rw [List.getElem?_eq_getElem hlen] at h
  obtain ⟨h1, h2⟩ := List.getElem?_eq_some_iff.1 h
  have e : (lowBits (l.getD q 0).toNat 8).getD r false = (lowBits (l.getD q 0).toNat 8)[r] := by rw [List.getD_eq_getElem?_getD, List.getElem?_eq_getElem hlen]; rfl
  rw [List.drop_eq_getElem_cons h1, h2, e]
theorem all_snoc (p : List Bool) (b : Bool) : (p ++ [b]).all id = (p.all id && b) := by simp
attribute [local irreducible] fit codeP

set_option maxRecDepth 100000 in
set_option maxHeartbeats 4000000 in
theorem rhdec_any (A : Option Addr) (l : List UInt8) (c : Nat) (most : Int) (w : World) {P : Nat → Prop} (hb : Bytes w P A l) (hc : l.length ≤ c) (hl : l.length ≤ 17592186044415) :
    Calls Tryd.prog 67 #[.slice A l.length c, .int .i64 most] w fun e w' => ∃ v, e = .returned (.tuple #[v, .int .i64 ((hdec most l).2 : Nat)]) ∧ w'.ownsRow w.heap.size 5 1 v (hdec most l).1.length ((hdec most l).1.map bv) ∧ Below w.heap.size w w' := by
  obtain ⟨Z, hZ⟩ : ∃ Z, Z = hdec most l := ⟨_, rfl⟩
  have hZ2 : Hid (hgo fit most ((bitsOf l).drop 0) [] [] = Z) := Lib.hid (by rw [hZ]; rfl)
  rw [← hZ]
  clear hZ
  replace hb := Lib.hid hb
  have hrl := rlengths_any w
  go_enter Tryd.func67, Tryd.ntmps67
  go_wp2_with fail
  refine hrl.mono ?_
  clear hrl
  rintro e w1 ⟨rfl, rfl⟩
  have hg1 := heap_alloc_new w (.cells (ints lens) 3)
  have hb1 := bl_alloc (Below.refl _ w) (.cells (ints lens) 3)
  have hrc := rcodes_any (w.alloc (.cells (ints lens) 3))
  go_wp2_with fail
  refine hrc.mono ?_
  clear hrc
  rintro e w2 ⟨B2, rfl, hg2, hB2, hb2⟩
  have hg1' := blk_below hg1 hb2
  have hbl := bl_then hb1 hb2
  have hB2' : w.heap.size < B2 := by rw [World.size_alloc] at hB2; omega
  have hB2l := blk_lt hg2
  have hcp := Lib.hid codeP_nil
  clear hg1 hb1 hb2 hB2
  go_wp2_with fail
  go_loopw [8, 9, 10, 11, 12] (fun o cd n on i wr => ∃ (k : Nat) (p : List Bool) (out : List UInt8), k ≤ 8 * l.length ∧ p.length ≤ k ∧ out.length ≤ k ∧ i = .int .i64 (k : Int) ∧ n = .int .i64 (p.length : Int) ∧ cd = .int .i64 (codeP p) ∧ on = .bool (p.all id) ∧
      wr.ownsRow w2.heap.size 5 1 o out.length (out.map bv) ∧ Below w.heap.size w wr ∧ w2.heap.size ≤ wr.heap.size ∧ wr.heap[w.heap.size]? = some (.cells (ints lens) 3 (0, 0)) ∧ wr.heap[B2]? = some (.cells (ints codesL) 3 (0, 0)) ∧ Hid (hgo fit most ((bitsOf l).drop k) p out = Z))
    (fun _ _ _ _ i _ => 8 * l.length - (intOf i).toNat)
  case atStart => exact ⟨0, [], [], by omega, by simp, by simp, rfl, rfl, by rw [hcp.out], rfl, World.ownsRow_nil _ _ _ _, hbl, Nat.le_refl _, hg1', hg2, hZ2⟩
  case round =>
    obtain ⟨k, p, out, hk, hpk, hok, rfl, rfl, rfl, rfl, hown, hb3, hsz, g1, g2, HG⟩ := hrel
    clear hg1' hg2 hbl hZ2
    have k0 : (0 : Int) ≤ k := by omega
    have kl : (l.length : Int) ≤ 17592186044415 := by omega
    by_cases hlt : k < 8 * l.length
    · have hlt' : (k : Int) < 8 * l.length := by omega
      obtain ⟨q, hq⟩ : ∃ q, q = k / 8 := ⟨_, rfl⟩
      obtain ⟨r, hr⟩ : ∃ r, r = k % 8 := ⟨_, rfl⟩
      have hkq : k = 8 * q + r := by omega
      have hr8 : r < 8 := by omega
      have hql : q < l.length := by omega
      have eq1 : (k : Int) / 8 = (q : Int) := by omega
      have eq2 : (k : Int) % 8 = (r : Int) := by omega
      have q0 : (0 : Int) ≤ q := by omega
      have q1 : (q : Int) < l.length := by omega
      have r0 : (0 : Int) ≤ r := by omega
      have r1 : (r : Int) < 8 := by omega
      obtain ⟨b, off, rfl, -, hcell⟩ := (hb.out.below hb3) (by omega)
      have hqc := hcell q hql
      have hdr := bits_drop l q r hql hr8
      rw [← hkq] at hdr
      obtain ⟨ck, hck⟩ : ∃ ck, l.getD q 0 = ck := ⟨_, rfl⟩
      rw [hck] at hqc hdr
      have hsp := spell_at ck.toNat r hr8
      obtain ⟨bt, hbt⟩ : ∃ bt, bt = (lowBits ck.toNat 8).getD r false := ⟨_, rfl⟩
      rw [← hbt] at hsp hdr
      have h256 : ck.toNat < 256 := ck.toNat_lt
      have hrs := rspell_any ck.toNat 8 (by omega) (by omega) wr
      have HG' : Hid (hgo fit most (bt :: (bitsOf l).drop (k + 1)) p out = Z) := Lib.hid (by rw [← hdr]; exact HG.out)
      clear HG hcell hck hbt hdr hq hr
      replace hsp := Lib.hid hsp
      replace hkq := Lib.hid hkq
      have pl : (p.length : Int) ≤ k := by omega
      have HC0 := Lib.hid (code_double0 p)
      have HC1 := Lib.hid (code_double1 p)
      have HA := Lib.hid (all_snoc p bt)
      replace hown := Lib.hid hown
      obtain ⟨vA, vC, hsv, hvC⟩ := own_shape hown.out
      subst hsv
      generalize codeP p = C at HC0 HC1 ⊢
      go_wp2_with fail
      refine hrs.mono ?_
      clear hrs
      rintro e w4 ⟨rfl, hg4, hb4⟩
      have hc4 : w4.cell? ⟨wr.heap.size, r, none⟩ = some (bv (bitB bt)) := (cell_of_row _ _ r _ _ _ hg4).trans (by rw [List.getElem?_toArray]; exact hsp.out)
      have hb5 := bl_then hb3 hb4
      have g5 := blk_below g1 hb4
      have g6 := blk_below g2 hb4
      have ho5 := Lib.hid (own_keep hown.out fun g _ hg => hb4.block g hg)
      have hs4 := hb4.size
      clear hown g1 g2 hb3 hb4 hg4 hsp
      have hfd := fun a b' => rfind_any w.heap.size B2 a b' w4 (two_of g5 g6)
      have hLn : Hid ((p.length : Int) + 1 = ((p ++ [bt]).length : Int)) := Lib.hid (by simp)
      have hLm : Hid ((p ++ [bt]).length ≤ k + 1) := Lib.hid (by simp; omega)
      generalize p.all id = on at HA ⊢
      cases bt <;> cases on
      all_goals
        first
        | (replace hc4 := hc4.trans (show _ = some (Value.int .u8 0) from rfl); have HC := HC0; clear HC0 HC1)
        | (replace hc4 := hc4.trans (show _ = some (Value.int .u8 1) from rfl); have HC := HC1; clear HC0 HC1)
        replace hc4 := hc4
        go_wp2_with fail
        rw [HC.out, hLn.out]
        first
        | (obtain ⟨p', hp'⟩ : ∃ p', p' = p ++ [false] := ⟨_, rfl⟩; rw [← hp'] at HC hLn hLm HA ⊢)
        | (obtain ⟨p', hp'⟩ : ∃ p', p' = p ++ [true] := ⟨_, rfl⟩; rw [← hp'] at HC hLn hLm HA ⊢)
        replace HA := HA.out
        simp only [Bool.and_true, Bool.and_false, Bool.true_and, Bool.false_and] at HA
        replace HA := Lib.hid HA
        have hn0 := hgo_none HG'.out hp'
        have hn1 := fun k' => hgo_some (k := k') HG'.out hp'
        clear HC hLn hp' HG' hc4
        replace hfd := hfd (codeP p') (p'.length : Int)
        cases hf : fit (codeP p') (p'.length : Int) with
        | none =>
          rw [findV_none hf] at hfd
          have HN := Lib.hid (hn0 hf)
          clear hn0 hn1 hf
          refine hfd.mono ?_
          rintro e w5 ⟨rfl, rfl⟩
          go_wp2_with fail
          go_roundw
          case rel => exact ⟨k + 1, p', out, by omega, hLm.out, by omega, by go_num, rfl, rfl, by rw [HA.out], ho5.out, hb5, by omega, g5, g6, HN⟩
          case measure => simp [intOf]; omega
        | some cc =>
          rw [findV_some hf] at hfd
          have hcc := fit_lt hf
          have HN := Lib.hid (hn1 cc hf)
          have cc0 : (0 : Int) ≤ cc := by omega
          have cc1 : (cc : Int) < 257 := by omega
          clear hn0 hn1 hf
          refine hfd.mono ?_
          rintro e w5 ⟨rfl, rfl⟩
          by_cases h256' : cc = 256
          · have e1 : ((cc : Int) == 256) = true := by simp; omega
            have hz := HN.out
            rw [if_pos h256'] at hz
            replace hz := Lib.hid hz
            clear h256' HN hfd
            go_wp2_with fail
            go_ret2
            rw [← hz.out]
            exact ⟨_, rfl, World.ownsRow_nil _ _ _ _, hb5⟩
          · have e1 : ((cc : Int) == 256) = false := by simp; omega
            have e2 : ((cc : Int) != 256) = true := by simp; omega
            have cc2 : (cc : Int) < 256 := by omega
            have cc3 : (cc : Int) % 256 = (cc : Int) := by omega
            by_cases hfull : most ≤ (out.length : Int)
            · have hz := HN.out
              rw [if_neg h256', if_pos hfull] at hz
              replace hz := Lib.hid hz
              clear h256' HN hfd cc3
              go_wp2_with fail
              go_ret2
              rw [← hz.out]
              exact ⟨_, rfl, World.ownsRow_nil _ _ _ _, hb5⟩
            · have hfull' : (out.length : Int) < most := by omega
              have hz := HN.out
              rw [if_neg h256', if_neg hfull] at hz
              replace hz := Lib.hid hz
              have ho6 := Lib.hid (own_alloc ho5.out (.cells #[.int .u8 (cc : Int)] 5))
              have hb6 := bl_alloc hb5 (.cells #[.int .u8 (cc : Int)] 5)
              have hap := Lib.hid (fun ev o x y => ex_append (P := Tryd.prog) u8info_s 30 (by kernel_rfl) (by decide) (by decide) w2.heap.size _ _ _ ho6.out ⟨w4.heap.size, 0, none⟩ 1 1 [.int .u8 (cc : Int)] rfl (World.news_of_block (cs := #[.int .u8 (cc : Int)]) (t := 5) (fr := (0, 0)) (heap_alloc_new w4 _)) (by simp [Value.oneCell']) (by simp only [maxLen]; omega) (by omega) (by rw [World.size_alloc]; omega) ev o x y)
              clear h256' HN hfd
              go_wp2_with (((with_reducible refine at_append 30 ?_); refine wl_ex rfl (hap.out _ _ _ _ rfl rfl rfl) ?_; rintro v9 w9 ⟨ho9, hg9, hv9⟩; have hb9 := hb6.trans (grown_below hg9 hb6.size (fun g hg => by have := own_block ho6.out hg; omega)); have s9 := hg9.size; have g7 := grown_blk hg9 (blk_alloc g5 _) (fun e => by have := own_block ho6.out e.symm; omega); have g8 := grown_blk hg9 (blk_alloc g6 _) (fun e => by have := own_block ho6.out e.symm; omega); replace ho9 := Lib.hid ho9; clear hap hg9 hv9))
              rw [World.size_alloc] at s9
              go_roundw
              case rel => exact ⟨k + 1, [], out ++ [UInt8.ofNat cc], by omega, by simp, by simp; omega, by go_num, rfl, by rw [hcp.out], rfl, own_snoc ho9.out (by omega), hb9, by omega, g7, g8, hz⟩
              case measure => simp [intOf]; omega
    · obtain rfl : k = 8 * l.length := by omega
      have hd : (bitsOf l).drop (8 * l.length) = [] := List.drop_of_length_le (by rw [bitsOf_length]; omega)
      have he := hgo_end (D := Z) (by rw [← hd]; exact HG.out)
      clear hd HG
      obtain ⟨vA, vC, hsv, hvC⟩ := own_shape hown
      subst hsv
      have hown2 := Lib.hid (own_mono hown (base' := w.heap.size) (by omega))
      clear hown
      by_cases h7 : 7 < p.length
      · have h7' : (7 : Int) < p.length := by omega
        rw [if_pos (.inl h7)] at he
        replace he := Lib.hid he
        go_wp2_with fail
        go_ret2
        rw [he.out]
        exact ⟨_, rfl, World.ownsRow_nil _ _ _ _, hb3⟩
      · have h7' : (p.length : Int) ≤ 7 := by omega
        cases hon : p.all id with
        | false =>
          rw [if_pos (.inr hon)] at he
          replace he := Lib.hid he
          clear hon
          go_wp2_with fail
          go_ret2
          rw [he.out]
          exact ⟨_, rfl, World.ownsRow_nil _ _ _ _, hb3⟩
        | true =>
          rw [if_neg (by rintro (h | h); exact h7 h; rw [hon] at h; cases h)] at he
          replace he := Lib.hid he
          clear hon
          go_wp2_with fail
          go_ret2
          rw [he.out]
          exact ⟨_, rfl, hown2.out, hb3⟩
end Go.Proofs.YtfkpeahelhpelaaDoor
