/- The document's table (ref07), plainly: the newest first, as many as there is room for, is the reverse of ours. The document's table (ref07), walked: fit. -/
import Derived.Test.YtfkpeahelhpelaaDoorTab
import Derived.Test.YtfkpeahelhpelaaDoorRef78
import Derived.Test.YtfkpeahelhpelaaDoorPlan
import Derived.Test.YtfkpeahelhpelaaDoorOps
namespace Go.Proofs.YtfkpeahelhpelaaDoor
set_option linter.all false
open Go.RowKit

def roomGo (most acc : Nat) : List FieldS → List FieldS
  | [] => []
  | f :: r => if most < acc + fsz f then [] else f :: roomGo most (acc + fsz f) r
theorem roomGo_append (most : Nat) (b : List FieldS) : ∀ (a : List FieldS) (acc : Nat), roomGo most acc (a ++ b) = if a = [] ∨ acc + sumF a ≤ most then a ++ roomGo most (acc + sumF a) b else roomGo most acc a
  | [], acc => by rw [if_pos (.inl rfl)]; simp [sumF]
  | f :: r, acc => by
    have h0 : sumF (f :: r) = fsz f + sumF r := sumF_cons f r
    by_cases h1 : most < acc + fsz f
    · rw [if_neg (by rintro (h | h); cases h; omega)]
      simp [roomGo, h1]
    · have ih := roomGo_append most b r (acc + fsz f)
      rw [List.cons_append, roomGo, if_neg h1, ih]
      by_cases h2 : acc + sumF (f :: r) ≤ most
      · rw [if_pos (.inr (by omega)), if_pos (.inr h2), h0, Nat.add_assoc]
        rfl
      · by_cases hr : r = []
        · subst hr
          exact absurd (show acc + sumF [f] ≤ most by rw [h0, sumF_nil]; omega) h2
        · rw [if_neg (by rintro (h | h); exact hr h; omega), if_neg (by rintro (h | h); cases h; exact h2 h), roomGo, if_neg h1]
theorem roomGo_all (most acc : Nat) (a : List FieldS) (h : acc + sumF a ≤ most) : roomGo most acc a = a := by
  have := roomGo_append most [] a acc
  rw [List.append_nil, if_pos (.inr h), roomGo, List.append_nil] at this
  exact this
theorem sumF_reverse (l : List FieldS) : sumF l.reverse = sumF l := by
  unfold sumF
  rw [List.map_reverse, List.sum_reverse]
theorem roomGo_keep (most room : Nat) : ∀ F : List FieldS, roomGo most room F.reverse = (keepFrom most room F).reverse
  | [] => rfl
  | f :: r => by
    have ih := roomGo_keep most room r
    have h0 : sumF (f :: r) = fsz f + sumF r := sumF_cons f r
    rw [keepFrom]
    split
    · rename_i h
      exact roomGo_all _ _ _ (by rw [sumF_reverse]; omega)
    · rename_i h
      rw [← ih, List.reverse_cons, roomGo_append, sumF_reverse]
      by_cases h2 : r.reverse = [] ∨ room + sumF r ≤ most
      · rw [if_pos h2]
        have e1 : roomGo most (room + sumF r) [f] = [] := by rw [roomGo, if_pos (by omega)]
        rw [e1, List.append_nil]
        rcases h2 with h2 | h2
        · rw [h2]; rfl
        · exact (roomGo_all _ _ _ (by rw [sumF_reverse]; omega)).symm
      · rw [if_neg h2]
theorem fit_add (T : Tb) (f : FieldS) : roomGo T.most 0 (f :: T.f.reverse) = (T.add f).f.reverse := by
  rw [roomGo, Nat.zero_add, roomGo_keep]
  show _ = (if fsz f ≤ T.most then keepFrom T.most (fsz f) T.f ++ [f] else keepFrom T.most (fsz f) T.f).reverse
  by_cases h : fsz f ≤ T.most
  · rw [if_neg (by omega), if_pos h, List.reverse_append]
    rfl
  · rw [if_pos (by omega), if_neg h]
    rcases keepFrom_sum T.most (fsz f) T.f with e | e
    · rw [e]; rfl
    · omega
theorem fit_setMost (T : Tb) (n : Nat) : roomGo n 0 T.f.reverse = (T.setMost n).f.reverse := roomGo_keep n 0 T.f
end Go.Proofs.YtfkpeahelhpelaaDoor

namespace Go.Proofs.YtfkpeahelhpelaaDoor
set_option linter.all false
open Go.RowKit
attribute [local go_sem] Oper.semAt_some valueOf_ok

theorem FRead.take {w : World} {P : Nat → Prop} {A : Option Addr} {l : List FieldS} (h : FRead w P A l) (n : Nat) : FRead w P A (l.take n) := fun hl => by
  obtain ⟨b, off, e, hP, hc⟩ := h (by rw [List.length_take] at hl; omega)
  refine ⟨b, off, e, hP, fun j u hj => hc j u ?_⟩
  have hsp : fcells l = fcells (l.take n) ++ fcells (l.drop n) := by rw [← fcells_append, List.take_append_drop]
  rw [hsp, List.getElem?_append_left (List.getElem?_eq_some_iff.1 hj).1]
  exact hj
theorem roomGo_stop (most : Nat) (l : List FieldS) (k : Nat) (f : FieldS) (hf : l[k]? = some f) (h1 : sumF (l.take k) ≤ most) (h2 : most < sumF (l.take k) + fsz f) : roomGo most 0 l = l.take k := by
  have hd : l.drop k = f :: l.drop (k + 1) := by
    obtain ⟨hk, e⟩ := List.getElem?_eq_some_iff.1 hf
    rw [List.drop_eq_getElem_cons hk, e]
  have h := roomGo_append most (l.drop k) (l.take k) 0
  rw [List.take_append_drop, if_pos (.inr (by omega)), hd, roomGo, if_pos (by omega), List.append_nil] at h
  exact h
set_option maxRecDepth 100000 in
set_option maxHeartbeats 1000000 in
theorem rfit_any (A : Option Addr) (l : List FieldS) (c : Nat) (most : Nat) (w : World) {P : Nat → Prop} (hr : FRead w P A l) (hs : sumF l ≤ 140737488351232) (hl : l.length ≤ 100000) (hc : l.length ≤ c) (hmost : most ≤ 4096) :
    Calls Tryd.prog 47 #[.slice A l.length c, .int .i64 most] w fun e w' => ∃ v, e = .returned v ∧ w'.ownsRow w.heap.size 46 2 v (roomGo most 0 l).length (fcells (roomGo most 0 l)) ∧ Below w.heap.size w w' := by
  replace hr := Lib.hid hr
  obtain ⟨Z, hZ⟩ : ∃ Z, Z = roomGo most 0 l := ⟨_, rfl⟩
  rw [← hZ]
  replace hZ := Lib.hid hZ
  go_enter Tryd.func47, Tryd.ntmps47
  go_wp2_with fail
  go_loopw [5, 6] (fun o i wr => ∃ k : Nat, k ≤ l.length ∧ i = .int .i64 (k : Int) ∧ wr.ownsRow w.heap.size 46 2 o k (fcells (l.take k)) ∧ sumF (l.take k) ≤ most ∧ Below w.heap.size w wr) (fun _ i _ => l.length - (intOf i).toNat)
  case atStart => exact ⟨0, by omega, rfl, World.ownsRow_nil _ _ _ _, by rw [List.take_zero, sumF_nil]; omega, Below.refl _ _⟩
  case round =>
    obtain ⟨k, hk, rfl, hown, hsum, hbl⟩ := hrel
    by_cases hlt : k < l.length
    · have hlt' : (k : Int) < l.length := by omega
      have hk0 : (0 : Int) ≤ k := by omega
      have hkc : k + 1 ≤ c := by omega
      obtain ⟨f, hf⟩ : ∃ f, l[k]? = some f := ⟨_, List.getElem?_eq_getElem hlt⟩
      have hst := sumF_take l k f hf
      have hle := sumF_take_le l (k + 1)
      have hsm := rsum_any A (l.take (k + 1)) c wr ((hr.out.below hbl).take _) (by omega) (by rw [List.length_take]; omega)
      rw [List.length_take, Nat.min_eq_left (by omega)] at hsm
      have hstop := roomGo_stop most l k f hf hsum
      replace hown := Lib.hid hown
      replace hf := Lib.hid hf
      rw [hst] at hsm
      obtain ⟨S, hS⟩ : ∃ S, S = sumF (l.take k) + fsz f := ⟨_, rfl⟩
      rw [← hS] at hsm hstop
      have hS2 : S ≤ 140737488351232 := by omega
      replace hS := Lib.hid hS
      replace hstop := Lib.hid hstop
      go_wp2_with (((with_reducible refine at_slice 33 ?_); refine wl_val rfl (ex_slice_to 33 46 (by kernel_rfl) (k := 2) (by kernel_rfl) A _ c .i64 (k + 1) hkc _ _ _ _ rfl rfl rfl) ?_))
      refine hsm.mono ?_
      clear hsm
      rintro e w2 ⟨rfl, hb2⟩
      have hb3 := bl_then hbl hb2
      have ho2 : Hid (w2.ownsRow w.heap.size 46 2 u5 k (fcells (l.take k))) := Lib.hid (own_keep hown.out fun g _ hg => hb2.block g hg)
      by_cases hcut : most < S
      · have hcut' : (most : Int) < S := by omega
        have e : Z = l.take k := by rw [hZ.out, hstop.out hcut]
        have hlk : (l.take k).length = k := by rw [List.length_take]; omega
        replace e := Lib.hid e
        replace hlk := Lib.hid hlk
        obtain ⟨va, vc, rfl, -⟩ := own_shape ho2.out
        go_wp2_with fail
        go_ret
        rw [e.out, hlk.out]
        exact ⟨_, rfl, ho2.out, hb3⟩
      · have hcut' : (S : Int) ≤ most := by omega
        obtain ⟨b, off, rfl, -, q0, q1⟩ := (hr.out.below hb3).at_ hf.out
        obtain ⟨n, v⟩ := f
        simp only at q0 q1
        have hnews := World.news_of_block (cs := #[.string n, .string v]) (t := 46) (fr := (0, 0)) (heap_alloc_new w2 (.cells #[.string n, .string v] 46))
        have hoa := own_alloc ho2.out (.cells #[.string n, .string v] 46)
        have hs2 := hb3.size
        have hap := Lib.hid (fun ev o x y => ex_append (P := Tryd.prog) field_info 33 (by kernel_rfl) (by decide) (by decide) w.heap.size _ _ _ hoa _ 1 1 [.string n, .string v] rfl hnews (by simp [Value.oneCell']) (by simp only [maxLen]; omega) (by omega) (by rw [World.size_alloc]; omega) ev o x y)
        have hbl4 := bl_alloc hb3 (.cells #[.string n, .string v] 46)
        clear hnews
        replace hoa := Lib.hid hoa
        go_wp2_with (((with_reducible refine at_append 33 ?_); refine wl_ex rfl (hap.out _ _ _ _ rfl rfl rfl) ?_; rintro v9 w9 ⟨ho9, hg9, hv9⟩; have hbl9 := hbl4.trans (grown_below hg9 hbl4.size (fun g hg => own_block hoa.out hg)); replace ho9 := Lib.hid ho9; clear hap hg9 hv9))
        go_roundw
        case rel =>
          refine ⟨k + 1, by omega, by go_num, ?_, by rw [hst, ← hS.out]; omega, hbl9⟩
          rw [List.take_add_one, hf.out, fcells_append]
          exact ho9.out
        case measure => simp [intOf]; omega
    · obtain rfl : k = l.length := by omega
      rw [List.take_length] at hown hsum
      have e : Z = l := by rw [hZ.out, roomGo_all _ _ _ (by omega)]
      obtain ⟨va, vc, rfl, hvc⟩ := own_shape hown
      replace hown := Lib.hid hown
      go_wp2_with fail
      go_ret
      rw [e]
      exact ⟨_, rfl, hown.out, hbl⟩
end Go.Proofs.YtfkpeahelhpelaaDoor
