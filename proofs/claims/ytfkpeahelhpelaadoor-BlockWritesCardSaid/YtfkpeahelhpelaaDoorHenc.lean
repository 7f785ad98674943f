/- The bytes of a text (layer 4): what huff.Encode comes to. -/
import Derived.Test.YtfkpeahelhpelaaDoorHencP
import Derived.Test.YtfkpeahelhpelaaDoorPenc
import Derived.Test.YtfkpeahelhpelaaDoorPlan
namespace Go.Proofs.YtfkpeahelhpelaaDoor
set_option linter.all false
open Go.RowKit
attribute [local go_sem] Oper.semAt_some valueOf_ok

theorem pow_cast (n : Nat) : (2 : Int) ^ n = ((2 ^ n : Nat) : Int) := by rw [Int.natCast_pow]; rfl
theorem held_step (p : List Bool) (hp : p.length < 8) (x : Nat) (hx : x < 257) : bits .or .i64 (IntKind.i64.wrap ((valP p : Int) * 2 ^ lenAt x)) (codeAt x : Int) = ((valP (p ++ lowBits (codeAt x) (lenAt x)) : Nat) : Int) := by
  obtain ⟨h1, h2, h3⟩ := code_lt ⟨x, hx⟩
  simp only at h1 h2 h3
  have hv := valP_lt p
  have hv2 : valP p < 2 ^ 7 := Nat.lt_of_lt_of_le hv (Nat.pow_le_pow_right (by omega) (by omega))
  have hpw : 2 ^ lenAt x ≤ 2 ^ 30 := Nat.pow_le_pow_right (by omega) h2
  have hmul : valP p * 2 ^ lenAt x ≤ 2 ^ 7 * 2 ^ 30 := Nat.mul_le_mul (by omega) hpw
  rw [pow_cast, ← Int.natCast_mul, IntWalk.i64_in _ (by omega), i64_or_nat _ _ (by omega) (by omega), valP_append, lowBits_length, valP_lowBits, Nat.mod_eq_of_lt h1]
  congr 1
  have := Nat.shiftLeft_add_eq_or_of_lt h1 (valP p)
  rw [Nat.shiftLeft_eq] at this
  exact this.symm
theorem mask_val (V m : Nat) (hV : V < 137438953472) (hm : m ≤ 29) : bits .and .i64 (V : Int) (wrap64 (wrap64 (2 ^ m) - 1)) = ((V % 2 ^ m : Nat) : Int) := by
  have h1 : 2 ^ m ≤ 2 ^ 29 := Nat.pow_le_pow_right (by omega) hm
  have h2 := Nat.one_le_two_pow (n := m)
  have e : wrap64 (wrap64 (2 ^ m) - 1) = ((2 ^ m - 1 : Nat) : Int) := by
    rw [pow_cast]
    have e1 : wrap64 ((2 ^ m : Nat) : Int) = ((2 ^ m : Nat) : Int) := by unfold wrap64; omega
    rw [e1]
    unfold wrap64
    omega
  rw [e, and_mask _ _ (by omega) (by omega)]
theorem pad_val (p : List Bool) (m : Nat) (hp : p.length ≤ 7) (hm : m ≤ 7) : bits .or .i64 (IntKind.i64.wrap ((valP p : Int) * 2 ^ m)) (IntKind.i64.wrap (IntKind.i64.wrap (2 ^ m) - 1)) = ((valP (p ++ List.replicate m true) : Nat) : Int) := by
  have hv := valP_lt p
  have hv2 : valP p < 2 ^ 7 := Nat.lt_of_lt_of_le hv (Nat.pow_le_pow_right (by omega) hp)
  have hpw : 2 ^ m ≤ 2 ^ 7 := Nat.pow_le_pow_right (by omega) hm
  have hp1 := Nat.one_le_two_pow (n := m)
  have hmul : valP p * 2 ^ m ≤ 2 ^ 7 * 2 ^ 7 := Nat.mul_le_mul (by omega) hpw
  rw [pow_cast, ← Int.natCast_mul, IntWalk.i64_in _ (by omega), IntWalk.i64_in ((2 ^ m : Nat) : Int) (by omega), show (((2 ^ m : Nat) : Int) - 1) = ((2 ^ m - 1 : Nat) : Int) by omega, IntWalk.i64_in _ (by omega), i64_or_nat _ _ (by omega) (by omega), valP_append, List.length_replicate, valP_ones]
  congr 1
  have := Nat.shiftLeft_add_eq_or_of_lt (show 2 ^ m - 1 < 2 ^ m by omega) (valP p)
  rw [Nat.shiftLeft_eq] at this
  exact this.symm
theorem shr_val (V m : Nat) : (V : Int) / 2 ^ m % 256 = ((V / 2 ^ m % 256 : Nat) : Int) := by
  rw [pow_cast]
  omega
set_option maxRecDepth 100000 in
set_option maxHeartbeats 4000000 in
theorem henc_any (A : Option Addr) (l : List UInt8) (c : Nat) (w : World) {P : Nat → Prop} (hb : Bytes w P A l) (hl : l.length ≤ 1000000000) (hL : LaidLens w) :
    Calls Tryd.prog 79 #[.slice A l.length c] w fun e w' => ∃ v, e = .returned v ∧ w'.ownsRow w.heap.size 5 1 v (henc l).length ((henc l).map bv) ∧ Below w.heap.size w w' := by
  have hz0 := (zero_of_info (P := Tryd.prog) (t := 128) (v := .agg (ints (List.replicate 257 0))) (n := 257) (by kernel_rfl)).1
  obtain ⟨Z, hZ0⟩ : ∃ Z, Z = ints (List.replicate 257 0) := ⟨_, rfl⟩
  rw [← hZ0] at hz0
  have hZs : Hid (Z.size = 257) := Lib.hid (by rw [hZ0]; rfl)
  clear hZ0
  replace hb := Lib.hid hb
  go_enter Tryd.func79, Tryd.ntmps79
  go_wp2_with fail
  refine (codes_any _ hL).mono ?_
  rintro e w1 ⟨rfl, hb1⟩
  have hZ := Lib.hid (heap_alloc_new w1 (.cells Z 128))
  go_wp2_with ((with_reducible refine wpList_store_row rfl 128 (.tmp 3) (.tmp 9) rfl w1.heap.size _ (ints codesL) rfl rfl hZ.out (k := 257) (by kernel_rfl) hZs.out (by kernel_rfl) (ints_one _) rfl ?_))
  have hA := setRow_heap _ w1.heap.size _ (ints codesL) _ _ hZ.out
  have hbl := bl_setRow (bl_alloc hb1 (.cells Z 128)) hb1.size (ints codesL)
  clear hz0
  have hs1 := hb1.size
  go_loopw [4, 5, 6, 12] (fun o he nn i wr => ∃ k : Nat, k ≤ l.length ∧ i = .int .i64 k ∧ wr.ownsRow (w1.heap.size + 1) 5 1 o (packG (hbits (l.take k))).1.length ((packG (hbits (l.take k))).1.map bv) ∧
      he = .int .i64 (valP (packG (hbits (l.take k))).2 : Int) ∧ nn = .int .i64 ((packG (hbits (l.take k))).2.length : Int) ∧ wr.heap[w1.heap.size]? = some (.cells (ints codesL) 128 (0, 0)) ∧ Below w.heap.size w wr) (fun _ _ _ i _ => l.length - (intOf i).toNat)
  case atStart => exact ⟨0, by omega, rfl, World.ownsRow_nil _ _ _ _, rfl, rfl, hA, hbl⟩
  case round =>
    obtain ⟨k, hk, rfl, hown, rfl, rfl, hA2, hb2⟩ := hrel
    clear hA hbl hb1
    have hp8 := packG_rest _ (hbits (l.take k)) (Nat.le_refl _)
    have hpn := packG_len _ (hbits (l.take k)) (Nat.le_refl _)
    have hpb := hbits_len (l.take k)
    have hpk : (l.take k).length ≤ l.length := by rw [List.length_take]; omega
    by_cases hlt : k < l.length
    · have hlt' : (k : Int) < l.length := by omega
      have hk0 : (0 : Int) ≤ k := by omega
      obtain ⟨ck, hck⟩ : ∃ ck, l[k]? = some ck := ⟨_, List.getElem?_eq_getElem hlt⟩
      have htk : hbits (l.take (k + 1)) = hbits (l.take k) ++ lowBits (codeAt ck.toNat) (lenAt ck.toNat) := by
        rw [List.take_add_one, hck, hbits_append]
        show _ ++ hbits [ck] = _
        rw [hbits_one]
      have hpa := packG_app _ (hbits (l.take k)) (lowBits (codeAt ck.toNat) (lenAt ck.toNat)) (Nat.le_refl _)
      rw [← htk] at hpa
      obtain ⟨⟨go, gp⟩, hg⟩ : ∃ g, g = packG (hbits (l.take k)) := ⟨_, rfl⟩
      rw [← hg] at hown hp8 hpn hpa ⊢
      replace hg := Lib.hid hg
      replace htk := Lib.hid htk
      simp only at hown hp8 hpn hpa ⊢
      obtain ⟨b, off, rfl, -, hcell⟩ := hb.out.below hb2 (by omega)
      have hq := hcell k hlt
      rw [List.getD_eq_getElem?_getD, hck, Option.getD_some] at hq
      clear hcell hck
      have hc8 : ck.toNat < 256 := ck.toNat_lt
      obtain ⟨e1, e2, e3⟩ := code_lt ⟨ck.toNat, by omega⟩
      have hq2 := (hL.below hb2) ck.toNat _ (ints_get lens ck.toNat (by rw [lens_length]; omega))
      have hq3 := (cell_of_row _ _ ck.toNat _ _ _ hA2).trans (ints_get codesL ck.toNat (by rw [codes_length]; omega))
      rw [show lens.getD ck.toNat 0 = lenAt ck.toNat from rfl] at hq2
      rw [show codesL.getD ck.toNat 0 = codeAt ck.toNat from rfl] at hq3
      simp only at e1 e2 e3
      obtain ⟨va, vc, rfl, hvc⟩ := own_shape hown
      replace hown := Lib.hid hown
      replace hA2 := Lib.hid hA2
      replace hpa := Lib.hid hpa
      obtain ⟨x, hx⟩ : ∃ x, x = ck.toNat := ⟨_, rfl⟩
      rw [← hx] at hq hq2 hq3 e1 e2 e3 hc8
      replace hx := Lib.hid hx
      have j1 : (x : Int) < 257 := by omega
      have j0 : (0 : Int) ≤ x := by omega
      go_wp2_with fail
      refine region_plan_open (fun w' => w'.cell? ⟨1, x, none⟩ = some (.int .i64 (lenAt x : Int)) ∧ w'.cell? ⟨w1.heap.size, x, none⟩ = some (.int .i64 (codeAt x : Int))) [] [] [0, 1, 2, 3, 4, 5, 6, 7, 8, 9, 10, 11, 12, 13, 14, 15] (by kernel_rfl) (by kernel_rfl) (by kernel_rfl) (by kernel_rfl) (by decide) ⟨hq2, hq3⟩ ?_
      have hown' : Hid (wr.drew.ownsRow (w1.heap.size + 1) 5 1 (.slice va go.length vc) go.length (go.map bv)) := Lib.hid (own_keep hown.out fun _ _ _ => rfl)
      have hA2' : Hid (wr.drew.heap[w1.heap.size]? = some (.cells (ints codesL) 128 (0, 0))) := Lib.hid hA2.out
      have hb2' := bl_drew hb2
      have hq2' : wr.drew.cell? ⟨1, x, none⟩ = some (.int .i64 (lenAt x : Int)) := hq2
      have hq3' : wr.drew.cell? ⟨w1.heap.size, x, none⟩ = some (.int .i64 (codeAt x : Int)) := hq3
      clear hown hA2 hb2 hq2 hq3 hq
      generalize wr.drew = wr2 at hown' hA2' hb2' hq2' hq3' ⊢
      iterate 16 (refine seq_v rfl rfl rfl (by rintro w' ⟨h1, h2⟩; go_simp) ?_; go_simp)
      refine seq_nil ?_
      obtain ⟨q0, hq0⟩ : ∃ q0, q0 = gp ++ lowBits (codeAt x) (lenAt x) := ⟨_, rfl⟩
      have hq0l : q0.length = gp.length + lenAt x := by rw [hq0, List.length_append, lowBits_length]
      have e4 : IntKind.i64.wrap ((gp.length : Int) + (lenAt x : Int)) = (q0.length : Int) := by rw [IntWalk.i64_in _ (by omega), hq0l]; omega
      have hq0m : q0.length ≤ 37 := by omega
      rw [held_step gp hp8 x (by omega), ← hq0, e4]
      generalize IntKind.i64.wrap ((valP gp : Int) * 2 ^ lenAt x) = HW
      rw [hx.out] at hq0
      clear e1 e2 hq2' hq3' e4
      replace hq0 := Lib.hid hq0
      replace hq0l := Lib.hid hq0l
      go_wp2_with fail
      replace hpn := Lib.hid hpn
      replace hpb := Lib.hid hpb
      have hgl : go.length ≤ 4 * l.length := by have := hpn.out; have := hpb.out; omega
      go_loopw [4, 5, 6] (fun o he nn wr => ∃ (o' : List UInt8) (q : List Bool), wr.ownsRow (w1.heap.size + 1) 5 1 o (go ++ o').length ((go ++ o').map bv) ∧ he = .int .i64 (valP q : Int) ∧ nn = .int .i64 (q.length : Int) ∧ q.length ≤ 37 ∧ o'.length + q.length ≤ 38 ∧
          Hid (packG q0 = (o' ++ (packG q).1, (packG q).2)) ∧ wr.heap[w1.heap.size]? = some (.cells (ints codesL) 128 (0, 0)) ∧ Below w.heap.size w wr) (fun _ _ nn _ => (intOf nn).toNat)
      case atStart => exact ⟨[], q0, by rw [List.append_nil]; exact hown'.out, rfl, rfl, hq0m, by simp; omega, Lib.hid rfl, hA2'.out, hb2'⟩
      case round =>
        obtain ⟨o', q, hown, rfl, rfl, hqm, hom, hpq, hA3, hb3⟩ := hrel
        clear hown' hA2' hb2'
        obtain ⟨va, vc, rfl, hvc⟩ := own_shape hown
        have hgo : (go ++ o').length ≤ 4 * l.length + 38 := by rw [List.length_append]; omega
        replace hown := Lib.hid hown
        replace hA3 := Lib.hid hA3
        by_cases h8 : 8 ≤ q.length
        · obtain ⟨m, hm⟩ : ∃ m, q.length = m + 8 := ⟨q.length - 8, by omega⟩
          have hsp := valP_split q 8
          have hl1 := valP_lt (q.take 8)
          have hl2 := valP_lt (q.drop 8)
          have hl3 : valP q < 2 ^ 37 := Nat.lt_of_lt_of_le (valP_lt q) (Nat.pow_le_pow_right (by omega) hqm)
          have hpl := packG_long q h8
          rw [show q.length - 8 = m by omega] at hsp
          rw [List.length_take, Nat.min_eq_left h8] at hl1
          rw [List.length_drop, show q.length - 8 = m by omega] at hl2
          have e5 : ((q.length : Nat) : Int) = (m : Int) + 8 := by omega
          rw [e5]
          have i5 : (0 : Int) ≤ m := by omega
          have i6 : (m : Int) ≤ 29 := by omega
          obtain ⟨V, hV⟩ : ∃ V, V = valP q := ⟨_, rfl⟩
          rw [← hV] at hsp hl3 ⊢
          replace hV := Lib.hid hV
          replace hsp := Lib.hid hsp
          replace hpl := Lib.hid hpl
          replace hm := Lib.hid hm
          replace hl1 := Lib.hid hl1
          replace hl2 := Lib.hid hl2
          clear e5
          replace hl3 := Lib.hid hl3
          go_wp2_with (((with_reducible refine at_append 30 ?_); refine wl_ex rfl (ex_push (w1.heap.size + 1) _ _ _ hown.out _ (by omega) (blk_lt hA3.out) _ _ _ _ rfl rfl rfl) ?_; rintro v5 w5 ⟨ho5, hg5, hv5⟩; have hA5 := grown_blk hg5 (blk_alloc hA3.out _) (fun e => by have := own_block hown.out e.symm; omega); have hbl5 := (bl_alloc hb3 _).trans (grown_below hg5 (bl_alloc hb3 _).size (fun g hg => by have := own_block hown.out hg; omega)); replace ho5 := Lib.hid ho5; replace hA5 := Lib.hid hA5; clear hg5 hv5))
          have hV2 := hsp.out
          have e6 := mask_val V m hl3.out (by omega)
          rw [hV2.2] at e6
          have e7 := shr_val V m
          rw [hV2.1, Nat.mod_eq_of_lt hl1.out] at e7
          have ho6 := ho5.out
          rw [e7] at ho6
          replace ho6 := Lib.hid ho6
          replace e6 := Lib.hid e6
          clear e7
          have hpq2 := hpq.out
          rw [hpl.out] at hpq2
          replace hpq2 := Lib.hid hpq2
          go_roundw
          case rel =>
            refine ⟨o' ++ [UInt8.ofNat (valP (q.take 8))], q.drop 8, ?_, by rw [e6.out], by rw [List.length_drop]; have := hm.out; congr 1; omega, by rw [List.length_drop]; omega, by rw [List.length_drop, List.length_append, List.length_singleton]; omega, ?_, hA5.out, hbl5⟩
            · rw [← List.append_assoc, List.length_append, List.map_append, List.map_cons, List.map_nil, bv_of _ hl1.out, List.length_append]
              have := ho6.out
              rw [List.length_append] at this
              exact this
            · refine Lib.hid ?_
              rw [hpq2.out, List.append_assoc]
              rfl
          case measure => simp [intOf]; omega
        · have h8' : (q.length : Int) < 8 := by omega
          have hps := packG_short q (by omega)
          have hpq2 := hpq.out
          rw [hps, List.append_nil] at hpq2
          have hpa2 := hpa.out
          replace hpq2 := Lib.hid hpq2
          replace hpa2 := Lib.hid hpa2
          have hfin : packG (hbits (l.take (k + 1))) = (go ++ o', q) := by
            rw [hpa2.out, ← hq0.out, hpq2.out]
          replace hfin := Lib.hid hfin
          replace hps := Lib.hid hps
          go_wp2_with fail
          go_roundw
          case rel =>
            refine ⟨k + 1, ?_⟩
            rw [hfin.out]
            exact ⟨by omega, by go_num, hown.out, rfl, rfl, hA3.out, hb3⟩
          case measure => simp [intOf]; omega
    · obtain rfl : k = l.length := by omega
      rw [List.take_length] at hown hp8 hpn hpb ⊢
      have hz := henc.eq_1 l
      obtain ⟨⟨go, gp⟩, hg⟩ : ∃ g, g = packG (hbits l) := ⟨_, rfl⟩
      rw [← hg] at hown hp8 hpn hz ⊢
      simp only at hown hp8 hpn hz ⊢
      replace hg := Lib.hid hg
      obtain ⟨va, vc, rfl, hvc⟩ := own_shape hown
      have hgl : go.length ≤ 4 * l.length := by omega
      replace hpn := Lib.hid hpn
      replace hown := Lib.hid hown
      by_cases hgp : gp = []
      · subst hgp
        rw [if_pos rfl] at hz
        replace hz := Lib.hid hz
        go_wp2_with fail
        go_ret
        rw [hz.out]
        exact ⟨_, rfl, own_mono hown.out (by omega), hb2⟩
      · rw [if_neg hgp] at hz
        have hpos : 0 < gp.length := List.length_pos_iff.2 hgp
        have i1 : (0 : Int) < gp.length := by omega
        obtain ⟨m, hm⟩ : ∃ m, 8 - gp.length = m := ⟨_, rfl⟩
        rw [hm] at hz
        replace hz := Lib.hid hz
        have i2 : (m : Int) ≤ 7 := by omega
        have i3 : (0 : Int) ≤ m := by omega
        have hw8 : IntKind.i64.wrap (8 - (gp.length : Int)) = (m : Int) := by rw [IntWalk.i64_in _ (by omega)]; omega
        replace hm := Lib.hid hm
        go_wp2_with fail
        have hown' : Hid (wr.drew.ownsRow (w1.heap.size + 1) 5 1 (.slice va go.length vc) go.length (go.map bv)) := Lib.hid (own_keep hown.out fun _ _ _ => rfl)
        have hb2' := bl_drew hb2
        have hA2' := blk_lt hA2
        have hA2'' : w1.heap.size < wr.drew.heap.size := hA2'
        clear hown hb2 hA2
        refine region_plan_open (fun w' => True) [13] [11, 12, 13] [0, 1, 2, 3, 4, 5, 6, 7, 8, 9, 10, 11, 12, 13] (by kernel_rfl) (by kernel_rfl) (by kernel_rfl) (by kernel_rfl) (by decide) trivial ?_
        generalize wr.drew = wr2 at hown' hb2' hA2'' ⊢
        iterate 10 (refine seq_v rfl rfl rfl (by intro w' h1; go_simp) ?_; go_simp)
        have hpv := pad_val gp m (by omega) (by have := hm.out; omega)
        obtain ⟨X, hX⟩ : ∃ X, X = valP (gp ++ List.replicate m true) := ⟨_, rfl⟩
        have hX2 : X < 256 := by
          rw [hX]
          refine Nat.lt_of_lt_of_le (valP_lt _) ?_
          rw [List.length_append, List.length_replicate, ← hm.out, show gp.length + (8 - gp.length) = 8 by omega]
          decide
        rw [← hX] at hpv
        rw [hpv]
        have hz' := hz.out
        rw [← hX] at hz'
        replace hz' := Lib.hid hz'
        clear hX hpv
        refine seq_v rfl rfl rfl (by intro w' h1; go_simp) ?_
        go_simp
        rw [show IntKind.u8.wrap ((X : Nat) : Int) = (X : Int) from by show ((X : Nat) : Int) % 256 = X; omega]
        refine seq_do (v := .slice (some ⟨wr2.heap.size, 0, none⟩) 1 1) (w' := wr2.alloc (.cells #[.int .u8 (X : Int)] 5)) rfl (fun _ => trivial) rfl rfl rfl (by go_simp) (fun _ => trivial) ?_
        go_simp
        refine seq_ex rfl (fun _ => trivial) rfl rfl rfl (ex_push (w1.heap.size + 1) _ _ _ hown'.out (X : Int) (by omega) (by omega) _ _ _ _ rfl rfl rfl) ?_
        rintro v5 w5 ⟨ho5, hg5, hv5⟩
        have hbl5 := (bl_alloc hb2' _).trans (grown_below hg5 (bl_alloc hb2' _).size (fun g hg => by have := own_block hown'.out hg; omega))
        refine ⟨fun _ => trivial, ?_⟩
        go_simp
        refine seq_dv rfl (fun _ => trivial) rfl rfl rfl (fun h => absurd (by decide) h) (by go_simp) ?_
        go_simp
        refine seq_nil ?_
        go_wp2_with fail
        go_ret
        rw [hz'.out, List.length_append, List.map_append, List.map_cons, List.map_nil, bv_of _ hX2]
        exact ⟨_, rfl, own_mono ho5 (by omega), hbl5⟩
end Go.Proofs.YtfkpeahelhpelaaDoor
