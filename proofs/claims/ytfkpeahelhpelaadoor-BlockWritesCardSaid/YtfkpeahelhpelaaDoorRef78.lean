/- Small ones of the document's way: the kinds and prefixes of items (ref08), the sizes of fields (ref07). -/
import Derived.Test.YtfkpeahelhpelaaDoorItem
import Derived.Test.YtfkpeahelhpelaaDoorDyn
import Derived.Test.YtfkpeahelhpelaaDoorTab
namespace Go.Proofs.YtfkpeahelhpelaaDoor
set_option linter.all false
open Go.RowKit

set_option maxRecDepth 100000 in
theorem rkind_any (c : Nat) (hc : c < 256) (w : World) : Calls Tryd.prog 43 #[.int .u8 c] w fun e w' => e = .returned (.int .i64 (kindOf c : Int)) ∧ w = w' := by
  have hk := kindOf.eq_1 c
  obtain ⟨k, hk2⟩ : ∃ k, k = kindOf c := ⟨_, rfl⟩
  rw [← hk2] at hk ⊢
  clear hk2
  by_cases h1 : 128 ≤ c
  · have i1 : (128 : Int) ≤ c := by omega
    rw [if_pos h1] at hk; subst hk
    go_enter Tryd.func43, Tryd.ntmps43
    go_wp2_with fail
    go_ret
    exact ⟨rfl, rfl⟩
  have i1 : (c : Int) < 128 := by omega
  rw [if_neg h1] at hk
  by_cases h2 : 64 ≤ c
  · have i2 : (64 : Int) ≤ c := by omega
    rw [if_pos h2] at hk; subst hk
    go_enter Tryd.func43, Tryd.ntmps43
    go_wp2_with fail
    go_ret
    exact ⟨rfl, rfl⟩
  have i2 : (c : Int) < 64 := by omega
  rw [if_neg h2] at hk
  by_cases h3 : 32 ≤ c
  · have i3 : (32 : Int) ≤ c := by omega
    rw [if_pos h3] at hk; subst hk
    go_enter Tryd.func43, Tryd.ntmps43
    go_wp2_with fail
    go_ret
    exact ⟨rfl, rfl⟩
  have i3 : (c : Int) < 32 := by omega
  rw [if_neg h3] at hk
  by_cases h4 : 16 ≤ c
  · have i4 : (16 : Int) ≤ c := by omega
    rw [if_pos h4] at hk; subst hk
    go_enter Tryd.func43, Tryd.ntmps43
    go_wp2_with fail
    go_ret
    exact ⟨rfl, rfl⟩
  have i4 : (c : Int) < 16 := by omega
  rw [if_neg h4] at hk; subst hk
  go_enter Tryd.func43, Tryd.ntmps43
  go_wp2_with fail
  go_ret
  exact ⟨rfl, rfl⟩
set_option maxRecDepth 100000 in
theorem rbits_any (k : Nat) (hk : k < 5) (w : World) : Calls Tryd.prog 45 #[.int .i64 k] w fun e w' => e = .returned (.int .i64 (shBits k : Int)) ∧ w = w' := by
  obtain rfl | rfl | rfl | rfl | rfl : k = 0 ∨ k = 1 ∨ k = 2 ∨ k = 3 ∨ k = 4 := by omega
  all_goals
    go_enter Tryd.func45, Tryd.ntmps45
    go_wp2_with fail
    go_ret
    exact ⟨rfl, rfl⟩
set_option maxRecDepth 100000 in
theorem rsize_any (f : FieldS) (w : World) (h : fsz f ≤ 281474976710656) : Calls Tryd.prog 33 #[fV f] w fun e w' => e = .returned (.int .i64 (fsz f : Int)) ∧ Below w.heap.size w w' := by
  have h1 : (f.1.size : Int) ≤ 281474976710656 := by unfold fsz at h; omega
  have h2 : (f.2.size : Int) ≤ 281474976710656 := by unfold fsz at h; omega
  unfold fV
  go_enter Tryd.func33, Tryd.ntmps33
  go_wp2
  go_ret
  exact ⟨ret_int (by unfold fsz; omega), bl_alloc (Below.refl _ _) _⟩
theorem sumF_take (l : List FieldS) (k : Nat) (f : FieldS) (hf : l[k]? = some f) : sumF (l.take (k + 1)) = sumF (l.take k) + fsz f := by
  rw [List.take_add_one, hf]
  simp [sumF]
theorem sumF_take_le (l : List FieldS) (k : Nat) : sumF (l.take k) ≤ sumF l := by
  have h := congrArg sumF (List.take_append_drop k l)
  have h2 : ∀ a b : List FieldS, sumF (a ++ b) = sumF a + sumF b := fun a b => by simp [sumF]
  rw [h2] at h
  omega
set_option maxRecDepth 100000 in
set_option maxHeartbeats 1000000 in
theorem rsum_any (A : Option Addr) (l : List FieldS) (c : Nat) (w : World) {P : Nat → Prop} (hr : FRead w P A l) (hs : sumF l ≤ 140737488351232) (hl : l.length ≤ 140737488351232) :
    Calls Tryd.prog 15 #[.slice A l.length c] w fun e w' => e = .returned (.int .i64 (sumF l : Int)) ∧ Below w.heap.size w w' := by
  replace hr := Lib.hid hr
  obtain ⟨Z, hZ⟩ : ∃ Z, Z = sumF l := ⟨_, rfl⟩
  rw [← hZ] at hs ⊢
  replace hZ := Lib.hid hZ
  go_enter Tryd.func15, Tryd.ntmps15
  go_wp2_with fail
  go_loopw [3, 4] (fun n i wr => ∃ k S : Nat, k ≤ l.length ∧ n = .int .i64 (S : Int) ∧ i = .int .i64 (k : Int) ∧ Hid (S = sumF (l.take k)) ∧ S ≤ Z ∧ Below w.heap.size w wr) (fun _ i _ => l.length - (intOf i).toNat)
  case atStart => exact ⟨0, 0, by omega, rfl, rfl, Lib.hid rfl, by omega, Below.refl _ _⟩
  case round =>
    obtain ⟨k, S, hk, rfl, rfl, hS, hSZ, hbl⟩ := hrel
    by_cases hlt : k < l.length
    · have hlt' : (k : Int) < l.length := by omega
      have hk0 : (0 : Int) ≤ k := by omega
      obtain ⟨f, hf⟩ : ∃ f, l[k]? = some f := ⟨_, List.getElem?_eq_getElem hlt⟩
      obtain ⟨b, off, rfl, -, q0, q1⟩ := (hr.out.below hbl).at_ hf
      have hst := sumF_take l k f hf
      have hle := sumF_take_le l (k + 1)
      rw [hst, ← hS.out, ← hZ.out] at hle
      rw [← hS.out] at hst
      replace hst := Lib.hid hst
      have hsz := rsize_any f wr (by omega)
      rw [fV] at hsz
      clear hf
      have i5 : (S : Int) + (fsz f : Int) ≤ 140737488351232 := by omega
      generalize hF : fsz f = F at hsz hle hst i5
      clear hF
      go_wp2_with fail
      refine hsz.mono ?_
      rintro e w2 ⟨rfl, hb2⟩
      go_wp2_with fail
      go_roundw
      case rel => exact ⟨k + 1, S + F, by omega, by go_num, by go_num, Lib.hid hst.out.symm, hle, bl_then hbl hb2⟩
      case measure => simp [intOf]; omega
    · obtain rfl : k = l.length := by omega
      have e : Z = S := by rw [hZ.out, hS.out, List.take_length]
      subst e
      go_wp2_with fail
      go_ret
      exact ⟨rfl, hbl⟩
set_option maxRecDepth 100000 in
theorem rabove_any (k : Nat) (hk : k < 5) (w : World) : Calls Tryd.prog 59 #[.int .i64 k] w fun e w' => e = .returned (.int .i64 (shAbove k : Int)) ∧ w = w' := by
  obtain rfl | rfl | rfl | rfl | rfl : k = 0 ∨ k = 1 ∨ k = 2 ∨ k = 3 ∨ k = 4 := by omega
  all_goals
    go_enter Tryd.func59, Tryd.ntmps59
    go_wp2_with fail
    go_ret
    exact ⟨rfl, rfl⟩
end Go.Proofs.YtfkpeahelhpelaaDoor
