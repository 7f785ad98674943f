/- Text in a literal, the document's way (ref05.Encode, ref05.Short): it comes to what our own comes to. -/
import Derived.Test.YtfkpeahelhpelaaDoorRhenc
import Derived.Test.YtfkpeahelhpelaaDoorRpenc
namespace Go.Proofs.YtfkpeahelhpelaaDoor
set_option linter.all false
open Go.RowKit
attribute [local go_sem] Oper.semAt_some valueOf_ok

set_option maxRecDepth 100000 in
set_option maxHeartbeats 1000000 in
theorem rlenc_any (s : ByteArray) (z : Bool) (w : World) (hs : s.size ≤ 65536) :
    Calls Tryd.prog 70 #[.string s, .bool z] w fun e w' => ∃ v, e = .returned (.tuple #[v, .int .i64 0]) ∧ w'.ownsRow w.heap.size 5 1 v (lenc s z).length ((lenc s z).map bv) ∧ Below w.heap.size w w' := by
  have i1 : (s.size : Int) ≤ 65536 := by omega
  have hlb := Lib.hid (lbody_len s z hs)
  cases z with
  | false =>
    have hlen : Hid (lenc s false = penc 7 0 (sb s).length ++ sb s) := Lib.hid rfl
    replace hlb : Hid ((sb s).length ≤ 262145) := hlb
    obtain ⟨b, hb⟩ : ∃ b, b = sb s := ⟨_, rfl⟩
    have hbx := fun w ev o x h1 h2 => ex_bytes w s ev o x h1 h2
    rw [← hb] at hlen hlb hbx
    clear hb
    replace hbx := Lib.hid hbx
    replace hlen := hlen.out
    replace hlen := Lib.hid hlen
    go_enter Tryd.func70, Tryd.ntmps70
    go_wp2_with ((with_reducible refine at_convert 9 30 ?_); refine wl_ex rfl (hbx.out _ _ _ _ rfl rfl) ?_; rintro v w1 ⟨⟨c, rfl⟩, hbb, hbl⟩)
    have hl2 : (b.length : Int) ≤ 262145 := by have := hlb.out; omega
    have hp := rpenc_any 7 b.length 0 w1 (by omega) (by have := hlb.out; omega) (by omega) rfl
    go_wp2_with fail
    refine hp.mono ?_
    rintro e w4 ⟨v, rfl, ho2, hbl2⟩
    have hb2 := hbb.below hbl2
    have hpl := penc_len 7 0 b.length
    have hpp := penc_pos 7 0 b.length
    clear hp
    generalize hP : penc 7 0 b.length = pp at ho2 hpl hpp ⊢
    replace hP := Lib.hid hP
    have hbl3 := bl_then hbl hbl2
    have ho3 := own_mono ho2 hbl.size
    have hs2 : w.heap.size ≤ w4.heap.size := hbl3.size
    clear ho2 hbl2
    replace ho3 := Lib.hid ho3
    go_wp2_with (((with_reducible refine at_append 30 ?_); refine wl_ex rfl (ex_append_bytes w.heap.size _ _ _ ho3.out (some ⟨w.heap.size, 0, none⟩) b c (.inl hpp) hb2 (by have := hlb.out; omega) hs2 _ _ _ _ rfl rfl rfl) ?_; rintro v5 w5 ⟨ho5, hg5, hv5⟩; have hbl5 := hbl3.trans (grown_below hg5 hs2 (fun g hg => own_block ho3.out hg))))
    go_ret2
    rw [hlen.out, hP.out, List.length_append, List.map_append]
    exact ⟨v5, rfl, ho5, hbl5⟩
  | true =>
    have hlen : Hid (lenc s true = penc 7 128 (henc (sb s)).length ++ henc (sb s)) := Lib.hid rfl
    replace hlb : Hid ((henc (sb s)).length ≤ 262145) := hlb
    have hsl : (sb s).length ≤ 1000000000 := by rw [sb_len]; omega
    obtain ⟨b0, hb0⟩ : ∃ b0, b0 = sb s := ⟨_, rfl⟩
    have hbx := fun w ev o x h1 h2 => ex_bytes w s ev o x h1 h2
    replace hlen := hlen.out
    rw [← hb0] at hlen hlb hbx hsl
    clear hb0
    obtain ⟨b, hb⟩ : ∃ b, b = henc b0 := ⟨_, rfl⟩
    rw [← hb] at hlen hlb
    have hrh := fun A c w P h => rhenc_any (P := P) A b0 c w h hsl
    rw [← hb] at hrh
    clear hb hsl
    replace hbx := Lib.hid hbx
    replace hrh := Lib.hid hrh
    replace hlen := Lib.hid hlen
    go_enter Tryd.func70, Tryd.ntmps70
    have tok1 : True := trivial
    go_wp2_with (first
      | ((with_reducible refine at_convert 9 30 ?_); have _t := tok1; refine wl_ex rfl (hbx.out _ _ _ _ rfl rfl) ?_; rintro v w1 ⟨⟨c1, rfl⟩, -, hbl1⟩; clear tok1)
      | ((with_reducible refine at_convert 9 30 ?_); refine wl_ex rfl (hbx.out _ _ _ _ rfl rfl) ?_; rintro v w2 ⟨⟨c2, rfl⟩, hbb2, hbl2'⟩))
    refine (hrh.out _ _ w2 _ hbb2).mono ?_
    rintro e w3 ⟨v3, rfl, ho3', hbl3'⟩
    obtain ⟨vA, vC, rfl, hvC⟩ := own_shape ho3'
    have hbb := own_bytes ho3'
    have hbl := bl_then (bl_then hbl1 hbl2') hbl3'
    replace ho3' := Lib.hid ho3'
    clear hbl1 hbl2' hbl3' hbb2
    have hl2 : (b.length : Int) ≤ 262145 := by have := hlb.out; omega
    have hp := rpenc_any 7 b.length 128 w3 (by omega) (by have := hlb.out; omega) (by omega) rfl
    go_wp2_with fail
    refine hp.mono ?_
    rintro e w4 ⟨v, rfl, ho2, hbl2⟩
    have hb2 := hbb.below hbl2
    have hpl := penc_len 7 128 b.length
    have hpp := penc_pos 7 128 b.length
    clear hp
    generalize hP : penc 7 128 b.length = pp at ho2 hpl hpp ⊢
    replace hP := Lib.hid hP
    have hbl3 := bl_then hbl hbl2
    have ho3 := own_mono ho2 hbl.size
    have hs2 : w.heap.size ≤ w4.heap.size := hbl3.size
    clear ho2 hbl2
    replace ho3 := Lib.hid ho3
    go_wp2_with (((with_reducible refine at_append 30 ?_); refine wl_ex rfl (ex_append_bytes w.heap.size _ _ _ ho3.out vA b vC (.inl hpp) hb2 (by have := hlb.out; omega) hs2 _ _ _ _ rfl rfl rfl) ?_; rintro v5 w5 ⟨ho5, hg5, hv5⟩; have hbl5 := hbl3.trans (grown_below hg5 hs2 (fun g hg => own_block ho3.out hg))))
    go_ret2
    rw [hlen.out, hP.out, List.length_append, List.map_append]
    exact ⟨v5, rfl, ho5, hbl5⟩
set_option maxRecDepth 100000 in
set_option maxHeartbeats 1000000 in
theorem rshort_any (s : ByteArray) (w : World) (hs : s.size ≤ 65536) :
    Calls Tryd.prog 60 #[.string s] w fun e w' => ∃ v, e = .returned v ∧ w'.ownsRow w.heap.size 5 1 v (shenc s).length ((shenc s).map bv) ∧ Below w.heap.size w w' := by
  have h1 := rlenc_any s false w hs
  have hl1 := lenc_len s false hs
  have hl2 := lenc_len s true hs
  rw [shenc]
  generalize lenc s false = p at h1 hl1 ⊢
  generalize hq : lenc s true = q at hl2 ⊢
  generalize hr : (if p.length ≤ q.length then p else q) = r
  replace hr := Lib.hid hr
  go_enter Tryd.func60, Tryd.ntmps60
  go_wp2_with fail
  refine h1.mono ?_
  rintro e w1 ⟨v, rfl, ho1, hbl1⟩
  obtain ⟨A, c, rfl, hc1⟩ := own_shape ho1
  have h2 := rlenc_any s true w1 hs
  rw [hq] at h2
  replace ho1 := Lib.hid ho1
  go_wp2_with fail
  refine h2.mono ?_
  rintro e w2 ⟨v2, rfl, ho2, hbl2⟩
  obtain ⟨A2, c2, rfl, hc2⟩ := own_shape ho2
  have ho3 : w2.ownsRow w.heap.size 5 1 (.slice A p.length c) p.length (p.map bv) := own_keep ho1.out fun k _ hk => hbl2.block k hk
  have ho4 := own_mono ho2 hbl1.size
  have hbl3 := bl_then hbl1 hbl2
  clear ho1 ho2 hbl1 hbl2 h1 h2
  replace ho3 := Lib.hid ho3
  replace ho4 := Lib.hid ho4
  by_cases hle : p.length ≤ q.length
  · have hle' : (p.length : Int) ≤ q.length := by omega
    go_wp2_with fail
    go_ret
    have e := hr.out
    rw [if_pos hle] at e
    subst e
    exact ⟨_, rfl, ho3.out, hbl3⟩
  · have hle' : (q.length : Int) < p.length := by omega
    go_wp2_with fail
    go_ret
    have e := hr.out
    rw [if_neg hle] at e
    subst e
    exact ⟨_, rfl, ho4.out, hbl3⟩
end Go.Proofs.YtfkpeahelhpelaaDoor
