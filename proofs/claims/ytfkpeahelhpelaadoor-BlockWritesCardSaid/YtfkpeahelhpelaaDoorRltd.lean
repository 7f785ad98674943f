/- Text in a literal, the document's way (ref05.Decode): it comes to what our own comes to. -/
import Derived.Test.YtfkpeahelhpelaaDoorRhdec
import Derived.Test.YtfkpeahelhpelaaDoorRef03
import Derived.Test.YtfkpeahelhpelaaDoorLit
import Derived.Test.YtfkpeahelhpelaaDoorOps
namespace Go.Proofs.YtfkpeahelhpelaaDoor
set_option linter.all false
open Go.RowKit
attribute [local go_sem] Oper.semAt_some

set_option maxRecDepth 100000 in
set_option maxHeartbeats 2000000 in
theorem rltd_any (A : Option Addr) (l : List UInt8) (c : Nat) (most : Int) (w : World) {P : Nat → Prop} (hb : Bytes w P A l) (hc : l.length ≤ c) (hcm : c ≤ 140737488351232) (hl : l.length ≤ 17592186044415) :
    Calls Tryd.prog 46 #[.slice A l.length c, .int .i64 most] w fun e w' => e = .returned (.tuple #[strV (ltd l most).1, .int .i64 ((ltd l most).2.1 : Nat), .int .i64 ((ltd l most).2.2 : Nat)]) ∧ Below w.heap.size w w' := by
  obtain ⟨f1, f2, f3, f4⟩ := pdec_facts 7 (by omega) l
  obtain ⟨sp, hsp⟩ : ∃ sp, sp = ltd l most := ⟨_, rfl⟩
  rw [← hsp]
  rw [ltd] at hsp
  have hp := rdec3_any A l c 7 w hb hc (by omega) ⟨by omega, by omega⟩
  generalize hn : (pdec 7 l).1 = n at *
  generalize hat : (pdec 7 l).2.1 = at_ at *
  generalize he : (pdec 7 l).2.2 = e at *
  have hsp' := Lib.hid hsp
  clear hsp hn hat he
  by_cases h0 : e = 0
  · subst h0
    obtain ⟨f5, f6⟩ := f3 rfl
    clear f3 f2
    have i1 : (0 : Int) < at_ := by omega
    have i2 : (at_ : Int) ≤ 5 := by omega
    have i3 : (n : Int) ≤ 16777215 := by omega
    by_cases h1 : l.length < at_ + n
    · have j1 : (l.length : Int) - at_ < n := by omega
      go_enter Tryd.func46, Tryd.ntmps46
      go_wp2_with fail
      refine hp.mono ?_
      rintro e w1 ⟨rfl, rfl⟩
      go_wp2_with fail
      refine bodyPost_ret (v := .tuple #[strV [], .int .i64 0, .int .i64 2]) (by simp [results, Tryd.results46, go_sem, strV, strB]) rfl ⟨?_, Below.refl _ _⟩
      rw [hsp'.out, if_neg (by simp), if_pos h1]
      rfl
    · have j1 : ¬ (l.length : Int) - at_ < n := by omega
      obtain ⟨b, off, rfl, -, hcell⟩ := id hb (by omega)
      have hq := hcell 0 (by omega)
      rw [Nat.add_zero] at hq
      obtain ⟨c0, hc0⟩ : ∃ c0, c0 = (l.getD 0 0).toNat := ⟨_, rfl⟩
      rw [← hc0] at hq hsp'
      clear hc0
      obtain ⟨m, hm⟩ : ∃ m, m = (l.drop at_).take n := ⟨_, rfl⟩
      rw [← hm] at hsp'
      have hlen : m.length = n := by rw [hm, List.length_take, List.length_drop]; omega
      have hb2 := (hb.from_ at_ c f6 hc).take n (by rw [List.length_drop]; omega)
      rw [← hm] at hb2
      have hsl := Lib.hid (fun ev o x y z hx hy hz ho => ex_slice_mid (P := Tryd.prog) (w := w) 30 5 (by kernel_rfl) (k := 1) (by kernel_rfl) (some ⟨b, off, none⟩) l.length c .i64 .i64 at_ (at_ + n) (by omega) (by omega) ev o x y z hx hy hz ho)
      replace hb := Lib.hid hb
      replace hcell := Lib.hid hcell
      clear hm
      subst hlen
      generalize adrFrom (some ⟨b, off, none⟩) c at_ 1 = A2 at hb2 hsl
      rw [Nat.add_sub_cancel_left] at hsl
      have hnc : m.length ≤ c - at_ := by omega
      have hat2 : ((at_ + m.length : Nat) : Int) = (at_ : Int) + (m.length : Int) := by omega
      rw [hat2] at hsl
      clear hat2
      by_cases h2 : c0 < 128
      · have j2 : (c0 : Int) < 128 := by omega
        by_cases h3 : max most 0 < (m.length : Int)
        · have j3 : (if most < 0 then (0 : Int) else most) < m.length := by split <;> omega
          replace h3 := Lib.hid h3
          go_enter Tryd.func46, Tryd.ntmps46
          go_wp2_with fail
          refine hp.mono ?_
          rintro e w1 ⟨rfl, rfl⟩
          go_wp2_with ((with_reducible refine at_slice 30 ?_); refine wl_val rfl (hsl.out _ _ _ _ _ rfl rfl rfl rfl) ?_)
          all_goals
            refine bodyPost_ret (v := .tuple #[strV [], .int .i64 0, .int .i64 4]) (by simp [results, Tryd.results46, go_sem, strV, strB]) rfl ⟨?_, Below.refl _ _⟩
            rw [hsp'.out, if_neg (by simp), if_neg h1, if_pos h2, if_pos h3.out]
            rfl
        · have j3 : ¬ (if most < 0 then (0 : Int) else most) < m.length := by split <;> omega
          replace h3 := Lib.hid h3
          go_enter Tryd.func46, Tryd.ntmps46
          go_wp2_with fail
          refine hp.mono ?_
          rintro e w1 ⟨rfl, rfl⟩
          go_wp2_with (first | ((with_reducible refine at_slice 30 ?_); refine wl_val rfl (hsl.out _ _ _ _ _ rfl rfl rfl rfl) ?_) | ((with_reducible refine at_convert 30 9 ?_); refine wl_val rfl (ex_str hb2 _ _ _ _ rfl) ?_))
          all_goals
            refine bodyPost_ret (v := .tuple #[strV m, .int .i64 ((at_ : Int) + m.length), .int .i64 0]) (by simp [results, Tryd.results46, go_sem, strV, strB]) rfl ⟨?_, Below.refl _ _⟩
            rw [hsp'.out, if_neg (by simp), if_neg h1, if_pos h2, if_neg (Int.not_lt.2 h3.out)]
            simp
      · have j2 : (128 : Int) ≤ c0 := by omega
        go_enter Tryd.func46, Tryd.ntmps46
        go_wp2_with fail
        refine hp.mono ?_
        rintro e w1 ⟨rfl, rfl⟩
        go_wp2_with ((with_reducible refine at_slice 30 ?_); refine wl_val rfl (hsl.out _ _ _ _ _ rfl rfl rfl rfl) ?_)
        refine (rhdec_any _ m _ most _ hb2 hnc (by omega)).mono ?_
        rintro e w1 ⟨v, rfl, hv, hbl⟩
        obtain ⟨dx, hdx⟩ : ∃ dx, dx = hdec most m := ⟨_, rfl⟩
        rw [← hdx] at hsp' hv ⊢
        clear hdx
        by_cases h4 : dx.2 = 0
        · have j4 : ((dx.2 : Nat) : Int) = 0 := by omega
          obtain ⟨va, vc, rfl, hvc⟩ := own_shape hv
          have hv' := bytes_own hv
          replace hv := Lib.hid hv
          go_wp2_with ((with_reducible refine at_convert 30 9 ?_); refine wl_val rfl (ex_str hv' _ _ _ _ rfl) ?_)
          refine bodyPost_ret (v := .tuple #[strV dx.1, .int .i64 ((at_ : Int) + m.length), .int .i64 0]) (by simp [results, Tryd.results46, go_sem, strV, strB]) rfl ⟨?_, hbl⟩
          rw [hsp'.out, if_neg (by simp), if_neg h1, if_neg h2, if_neg (by simpa using h4)]
          simp
        · have j4 : ¬ ((dx.2 : Nat) : Int) = 0 := by omega
          replace hv := Lib.hid hv
          go_wp2_with fail
          refine bodyPost_ret (v := .tuple #[strV [], .int .i64 0, .int .i64 ((dx.2 : Nat) : Int)]) (by simp [results, Tryd.results46, go_sem, strV, strB]) rfl ⟨?_, hbl⟩
          rw [hsp'.out, if_neg (by simp), if_neg h1, if_neg h2, if_pos h4]
          rfl
  · go_enter Tryd.func46, Tryd.ntmps46
    go_wp2_with fail
    refine hp.mono ?_
    rintro e w1 ⟨rfl, rfl⟩
    have j0 : ¬ (e : Int) = 0 := by omega
    go_wp2_with fail
    refine bodyPost_ret (v := .tuple #[strV [], .int .i64 0, .int .i64 (e : Int)]) (by simp [results, Tryd.results46, go_sem, strV, strB]) rfl ⟨?_, Below.refl _ _⟩
    rw [hsp'.out, if_pos h0]
    rfl
end Go.Proofs.YtfkpeahelhpelaaDoor
