/- Numbers in a part of a byte (layer 3): what Decode and Encode come to. -/
import Derived.Test.YtfkpeahelhpelaaDoorBase
namespace Go.Proofs.YtfkpeahelhpelaaDoor
set_option linter.all false
open Go.RowKit

def pdecGo : Nat → List UInt8 → Nat → Nat → Nat × Nat × Nat
  | 0, _, _, _ => (0, 0, 3)
  | _ + 1, [], _, _ => (0, 0, 2)
  | f + 1, c :: r, n, at_ =>
    if 16777215 < n + (c.toNat % 128) * 2 ^ (7 * (at_ - 1)) then (0, 0, 3)
    else if 128 ≤ c.toNat then pdecGo f r (n + (c.toNat % 128) * 2 ^ (7 * (at_ - 1))) (at_ + 1)
    else (n + (c.toNat % 128) * 2 ^ (7 * (at_ - 1)), at_ + 1, 0)
def pdec (nb : Nat) : List UInt8 → Nat × Nat × Nat
  | [] => (0, 0, 2)
  | c :: r => if c.toNat % 2 ^ nb < 2 ^ nb - 1 then (c.toNat % 2 ^ nb, 1, 0) else pdecGo 4 r (2 ^ nb - 1) 1

theorem right_any (n : Nat) (hn : 1 ≤ n ∧ n ≤ 8) (w : World) : Calls Tryd.prog 68 #[.int .i64 n] w fun e w' => e = .returned (.bool true) ∧ w = w' := by
  obtain ⟨h1, h2⟩ := hn
  have i1 : (1 : Int) ≤ n := by omega
  have i2 : (n : Int) ≤ 8 := by omega
  go_enter Tryd.func68, Tryd.ntmps68
  go_wp2
  go_ret
  exact ⟨by simp, rfl⟩

theorem pdec_sum (N c k : Nat) (hN : N ≤ 16777215) (hk : k < 4) : wrap64 ((N : Int) + wrap64 ((c : Int) % 128 * 2 ^ (7 * k))) = ((N + c % 128 * 2 ^ (7 * k) : Nat) : Int) := by
  obtain rfl | rfl | rfl | rfl : k = 0 ∨ k = 1 ∨ k = 2 ∨ k = 3 := by omega
  all_goals simp [wrap64]; omega
theorem pdecGo_at {r : List UInt8} {k N : Nat} {c : UInt8} {z : Nat × Nat × Nat} (hk : k < 4) (hkl : k < r.length) (hc : r[k]? = some c) (h : pdecGo (4 - k) (r.drop k) N (k + 1) = z) :
    (if 16777215 < N + c.toNat % 128 * 2 ^ (7 * k) then (0, 0, 3) else if 128 ≤ c.toNat then pdecGo (4 - (k + 1)) (r.drop (k + 1)) (N + c.toNat % 128 * 2 ^ (7 * k)) (k + 1 + 1) else (N + c.toNat % 128 * 2 ^ (7 * k), k + 1 + 1, 0)) = z := by
  have e : r.drop k = c :: r.drop (k + 1) := by
    obtain ⟨_, hc⟩ := List.getElem?_eq_some_iff.1 hc
    rw [List.drop_eq_getElem_cons hkl, hc]
  rw [e, show 4 - k = (4 - (k + 1)) + 1 by omega, pdecGo] at h
  exact h

set_option maxRecDepth 100000 in
set_option maxHeartbeats 4000000 in
theorem pdec_any (A : Option Addr) (l : List UInt8) (c nb : Nat) (w : World) {P : Nat → Prop} (hb : Bytes w P A l) (hc : l.length ≤ c) (hl : l.length ≤ 140737488351232) (hnb : 4 ≤ nb ∧ nb ≤ 7) :
    Calls Tryd.prog 62 #[.slice A l.length c, .int .i64 nb] w fun e w' => e = .returned (.tuple #[.int .i64 (pdec nb l).1, .int .i64 (pdec nb l).2.1, .int .i64 (pdec nb l).2.2]) ∧ w = w' := by
  cases l with
  | nil =>
    have hr := Lib.hid (right_any nb (by omega))
    obtain ⟨b1, b2⟩ := hnb
    go_enter Tryd.func62, Tryd.ntmps62
    go_wp2_with fail
    go_step3
    go_wp2_with fail
    refine (hr.out _).mono ?_
    rintro e w' ⟨rfl, rfl⟩
    go_wp2_with fail
    try rw [Exit.noGoto_ret]
    go_ret3
    exact ⟨rfl, rfl⟩
  | cons c0 r =>
    have hr := Lib.hid (right_any nb (by omega))
    obtain ⟨b, off, rfl, -, hcell⟩ := hb (by simp)
    have hc0 : w.cell? ⟨b, off, none⟩ = some (.int .u8 (c0.toNat : Int)) := by simpa using hcell 0 (by simp)
    have hne : (((c0 :: r).length : Int) == 0) = false := by simp; omega
    have h256 : c0.toNat < 256 := c0.toNat_lt
    obtain ⟨z, hz⟩ : ∃ z, pdec nb (c0 :: r) = z := ⟨_, rfl⟩
    rw [hz]
    have HZ := Lib.hid hz
    clear hz
    obtain rfl | rfl | rfl | rfl : nb = 4 ∨ nb = 5 ∨ nb = 6 ∨ nb = 7 := by omega
    · have hm : bits .and .i64 (c0.toNat : Int) 15 = ((c0.toNat % 16 : Nat) : Int) := and_mask c0.toNat 4 (by omega) (by omega)
      go_enter Tryd.func62, Tryd.ntmps62
      go_wp2_with fail
      go_step3
      go_wp2_with fail
      refine (hr.out _).mono ?_
      rintro e w' ⟨rfl, rfl⟩
      go_wp2_with fail
      · have e : z = (c0.toNat % 16, 1, 0) := by
          rw [← HZ.out]
          simp only [pdec]
          exact if_pos (by omega)
        subst e
        try rw [Exit.noGoto_ret]
        go_ret3
        exact ⟨rfl, rfl⟩
      · have HG : Hid (pdecGo 4 r 15 1 = z) := by
          have h := HZ.out
          simp only [pdec] at h
          rw [if_neg (by omega)] at h
          exact h
        rw [show (c0.toNat : Int) % 16 = 15 by omega]
        go_step3
        go_wp2_with fail
        clear hm
        go_loop [8, 9, 10] (fun n at_ sh => ∃ k N : Nat, k ≤ 4 ∧ N ≤ 16777215 ∧ n = .int .i64 N ∧ at_ = .int .i64 ((k : Int) + 1) ∧ sh = .int .i64 (7 * (k : Int)) ∧ Hid (pdecGo (4 - k) (r.drop k) N (k + 1) = z) ∧ k ≤ r.length) (fun _ at_ _ => 5 - (intOf at_).toNat)
        case atStart => exact ⟨0, 15, by omega, by omega, rfl, rfl, rfl, HG, by omega⟩
        case round =>
          obtain ⟨k, N, hk, hN, rfl, rfl, rfl, hg, hkl⟩ := hrel
          clear HG HZ hc0
          by_cases h4 : k = 4
          · have h4' : (((k : Int) + 1) == 5) = true := by simp; omega
            have e : z = (0, 0, 3) := by have := hg.out; rw [h4] at this; exact this.symm
            subst e
            clear h4 hg
            go_wp2_with fail
            try rw [Exit.noGoto_ret]
            go_ret3
            exact ⟨rfl, rfl⟩
          · have h4' : (((k : Int) + 1) == 5) = false := by simp; omega
            by_cases hend : k = r.length
            · have hend' : (((k : Int) + 1) == ((r.length : Int) + 1)) = true := by simp; omega
              have e : z = (0, 0, 2) := by
                have := hg.out
                rw [List.drop_of_length_le (by omega), show 4 - k = (4 - (k + 1)) + 1 by omega] at this
                exact this.symm
              subst e
              clear hend hg
              go_wp2_with fail
              try rw [Exit.noGoto_ret]
              go_ret3
              exact ⟨rfl, rfl⟩
            · have hend' : (((k : Int) + 1) == ((r.length : Int) + 1)) = false := by simp; omega
              have hq := hcell (k + 1) (by simp; omega)
              obtain ⟨ck, hck⟩ : ∃ ck, (c0 :: r).getD (k + 1) 0 = ck := ⟨_, rfl⟩
              rw [hck] at hq
              have hq2 : ck.toNat < 256 := ck.toNat_lt
              have HS := Lib.hid (pdec_sum N ck.toNat k hN (by omega))
              have HG := Lib.hid (pdecGo_at (c := ck) (by omega) (by omega) (by rw [← hck]; simp [List.getD_eq_getElem?_getD, List.getElem?_eq_getElem (show k < r.length by omega)]) hg.out)
              clear hck hcell hg
              go_wp2_with fail
              · have h := HG.out
                have ht := ‹16777215 < wrap64 _›
                rw [HS.out] at ht
                rw [if_pos (by omega)] at h
                subst h
                try rw [Exit.noGoto_ret]
                go_ret3
                exact ⟨rfl, rfl⟩
              · have h := HG.out
                have ht := ‹wrap64 _ ≤ 16777215›
                have h128 : (128 : Int) ≤ ck.toNat := ‹_›
                rw [HS.out] at ht ⊢
                rw [if_neg (by omega), if_pos (by omega)] at h
                go_round
                case rel => exact ⟨k + 1, N + ck.toNat % 128 * 2 ^ (7 * k), by omega, by omega, rfl, by go_num, by go_num, h, by omega⟩
                case measure => simp [intOf]; omega
              · have h := HG.out
                have ht := ‹wrap64 _ ≤ 16777215›
                have h128 : (ck.toNat : Int) < 128 := ‹_›
                rw [HS.out] at ht ⊢
                rw [if_neg (by omega), if_neg (by omega)] at h
                subst h
                try rw [Exit.noGoto_ret]
                go_ret3
                exact ⟨rfl, rfl⟩
    · have hm : bits .and .i64 (c0.toNat : Int) 31 = ((c0.toNat % 32 : Nat) : Int) := and_mask c0.toNat 5 (by omega) (by omega)
      go_enter Tryd.func62, Tryd.ntmps62
      go_wp2_with fail
      go_step3
      go_wp2_with fail
      refine (hr.out _).mono ?_
      rintro e w' ⟨rfl, rfl⟩
      go_wp2_with fail
      · have e : z = (c0.toNat % 32, 1, 0) := by
          rw [← HZ.out]
          simp only [pdec]
          exact if_pos (by omega)
        subst e
        try rw [Exit.noGoto_ret]
        go_ret3
        exact ⟨rfl, rfl⟩
      · have HG : Hid (pdecGo 4 r 31 1 = z) := by
          have h := HZ.out
          simp only [pdec] at h
          rw [if_neg (by omega)] at h
          exact h
        rw [show (c0.toNat : Int) % 32 = 31 by omega]
        go_step3
        go_wp2_with fail
        clear hm
        go_loop [8, 9, 10] (fun n at_ sh => ∃ k N : Nat, k ≤ 4 ∧ N ≤ 16777215 ∧ n = .int .i64 N ∧ at_ = .int .i64 ((k : Int) + 1) ∧ sh = .int .i64 (7 * (k : Int)) ∧ Hid (pdecGo (4 - k) (r.drop k) N (k + 1) = z) ∧ k ≤ r.length) (fun _ at_ _ => 5 - (intOf at_).toNat)
        case atStart => exact ⟨0, 31, by omega, by omega, rfl, rfl, rfl, HG, by omega⟩
        case round =>
          obtain ⟨k, N, hk, hN, rfl, rfl, rfl, hg, hkl⟩ := hrel
          clear HG HZ hc0
          by_cases h4 : k = 4
          · have h4' : (((k : Int) + 1) == 5) = true := by simp; omega
            have e : z = (0, 0, 3) := by have := hg.out; rw [h4] at this; exact this.symm
            subst e
            clear h4 hg
            go_wp2_with fail
            try rw [Exit.noGoto_ret]
            go_ret3
            exact ⟨rfl, rfl⟩
          · have h4' : (((k : Int) + 1) == 5) = false := by simp; omega
            by_cases hend : k = r.length
            · have hend' : (((k : Int) + 1) == ((r.length : Int) + 1)) = true := by simp; omega
              have e : z = (0, 0, 2) := by
                have := hg.out
                rw [List.drop_of_length_le (by omega), show 4 - k = (4 - (k + 1)) + 1 by omega] at this
                exact this.symm
              subst e
              clear hend hg
              go_wp2_with fail
              try rw [Exit.noGoto_ret]
              go_ret3
              exact ⟨rfl, rfl⟩
            · have hend' : (((k : Int) + 1) == ((r.length : Int) + 1)) = false := by simp; omega
              have hq := hcell (k + 1) (by simp; omega)
              obtain ⟨ck, hck⟩ : ∃ ck, (c0 :: r).getD (k + 1) 0 = ck := ⟨_, rfl⟩
              rw [hck] at hq
              have hq2 : ck.toNat < 256 := ck.toNat_lt
              have HS := Lib.hid (pdec_sum N ck.toNat k hN (by omega))
              have HG := Lib.hid (pdecGo_at (c := ck) (by omega) (by omega) (by rw [← hck]; simp [List.getD_eq_getElem?_getD, List.getElem?_eq_getElem (show k < r.length by omega)]) hg.out)
              clear hck hcell hg
              go_wp2_with fail
              · have h := HG.out
                have ht := ‹16777215 < wrap64 _›
                rw [HS.out] at ht
                rw [if_pos (by omega)] at h
                subst h
                try rw [Exit.noGoto_ret]
                go_ret3
                exact ⟨rfl, rfl⟩
              · have h := HG.out
                have ht := ‹wrap64 _ ≤ 16777215›
                have h128 : (128 : Int) ≤ ck.toNat := ‹_›
                rw [HS.out] at ht ⊢
                rw [if_neg (by omega), if_pos (by omega)] at h
                go_round
                case rel => exact ⟨k + 1, N + ck.toNat % 128 * 2 ^ (7 * k), by omega, by omega, rfl, by go_num, by go_num, h, by omega⟩
                case measure => simp [intOf]; omega
              · have h := HG.out
                have ht := ‹wrap64 _ ≤ 16777215›
                have h128 : (ck.toNat : Int) < 128 := ‹_›
                rw [HS.out] at ht ⊢
                rw [if_neg (by omega), if_neg (by omega)] at h
                subst h
                try rw [Exit.noGoto_ret]
                go_ret3
                exact ⟨rfl, rfl⟩
    · have hm : bits .and .i64 (c0.toNat : Int) 63 = ((c0.toNat % 64 : Nat) : Int) := and_mask c0.toNat 6 (by omega) (by omega)
      go_enter Tryd.func62, Tryd.ntmps62
      go_wp2_with fail
      go_step3
      go_wp2_with fail
      refine (hr.out _).mono ?_
      rintro e w' ⟨rfl, rfl⟩
      go_wp2_with fail
      · have e : z = (c0.toNat % 64, 1, 0) := by
          rw [← HZ.out]
          simp only [pdec]
          exact if_pos (by omega)
        subst e
        try rw [Exit.noGoto_ret]
        go_ret3
        exact ⟨rfl, rfl⟩
      · have HG : Hid (pdecGo 4 r 63 1 = z) := by
          have h := HZ.out
          simp only [pdec] at h
          rw [if_neg (by omega)] at h
          exact h
        rw [show (c0.toNat : Int) % 64 = 63 by omega]
        go_step3
        go_wp2_with fail
        clear hm
        go_loop [8, 9, 10] (fun n at_ sh => ∃ k N : Nat, k ≤ 4 ∧ N ≤ 16777215 ∧ n = .int .i64 N ∧ at_ = .int .i64 ((k : Int) + 1) ∧ sh = .int .i64 (7 * (k : Int)) ∧ Hid (pdecGo (4 - k) (r.drop k) N (k + 1) = z) ∧ k ≤ r.length) (fun _ at_ _ => 5 - (intOf at_).toNat)
        case atStart => exact ⟨0, 63, by omega, by omega, rfl, rfl, rfl, HG, by omega⟩
        case round =>
          obtain ⟨k, N, hk, hN, rfl, rfl, rfl, hg, hkl⟩ := hrel
          clear HG HZ hc0
          by_cases h4 : k = 4
          · have h4' : (((k : Int) + 1) == 5) = true := by simp; omega
            have e : z = (0, 0, 3) := by have := hg.out; rw [h4] at this; exact this.symm
            subst e
            clear h4 hg
            go_wp2_with fail
            try rw [Exit.noGoto_ret]
            go_ret3
            exact ⟨rfl, rfl⟩
          · have h4' : (((k : Int) + 1) == 5) = false := by simp; omega
            by_cases hend : k = r.length
            · have hend' : (((k : Int) + 1) == ((r.length : Int) + 1)) = true := by simp; omega
              have e : z = (0, 0, 2) := by
                have := hg.out
                rw [List.drop_of_length_le (by omega), show 4 - k = (4 - (k + 1)) + 1 by omega] at this
                exact this.symm
              subst e
              clear hend hg
              go_wp2_with fail
              try rw [Exit.noGoto_ret]
              go_ret3
              exact ⟨rfl, rfl⟩
            · have hend' : (((k : Int) + 1) == ((r.length : Int) + 1)) = false := by simp; omega
              have hq := hcell (k + 1) (by simp; omega)
              obtain ⟨ck, hck⟩ : ∃ ck, (c0 :: r).getD (k + 1) 0 = ck := ⟨_, rfl⟩
              rw [hck] at hq
              have hq2 : ck.toNat < 256 := ck.toNat_lt
              have HS := Lib.hid (pdec_sum N ck.toNat k hN (by omega))
              have HG := Lib.hid (pdecGo_at (c := ck) (by omega) (by omega) (by rw [← hck]; simp [List.getD_eq_getElem?_getD, List.getElem?_eq_getElem (show k < r.length by omega)]) hg.out)
              clear hck hcell hg
              go_wp2_with fail
              · have h := HG.out
                have ht := ‹16777215 < wrap64 _›
                rw [HS.out] at ht
                rw [if_pos (by omega)] at h
                subst h
                try rw [Exit.noGoto_ret]
                go_ret3
                exact ⟨rfl, rfl⟩
              · have h := HG.out
                have ht := ‹wrap64 _ ≤ 16777215›
                have h128 : (128 : Int) ≤ ck.toNat := ‹_›
                rw [HS.out] at ht ⊢
                rw [if_neg (by omega), if_pos (by omega)] at h
                go_round
                case rel => exact ⟨k + 1, N + ck.toNat % 128 * 2 ^ (7 * k), by omega, by omega, rfl, by go_num, by go_num, h, by omega⟩
                case measure => simp [intOf]; omega
              · have h := HG.out
                have ht := ‹wrap64 _ ≤ 16777215›
                have h128 : (ck.toNat : Int) < 128 := ‹_›
                rw [HS.out] at ht ⊢
                rw [if_neg (by omega), if_neg (by omega)] at h
                subst h
                try rw [Exit.noGoto_ret]
                go_ret3
                exact ⟨rfl, rfl⟩
    · have hm : bits .and .i64 (c0.toNat : Int) 127 = ((c0.toNat % 128 : Nat) : Int) := and_mask c0.toNat 7 (by omega) (by omega)
      go_enter Tryd.func62, Tryd.ntmps62
      go_wp2_with fail
      go_step3
      go_wp2_with fail
      refine (hr.out _).mono ?_
      rintro e w' ⟨rfl, rfl⟩
      go_wp2_with fail
      · have e : z = (c0.toNat % 128, 1, 0) := by
          rw [← HZ.out]
          simp only [pdec]
          exact if_pos (by omega)
        subst e
        try rw [Exit.noGoto_ret]
        go_ret3
        exact ⟨rfl, rfl⟩
      · have HG : Hid (pdecGo 4 r 127 1 = z) := by
          have h := HZ.out
          simp only [pdec] at h
          rw [if_neg (by omega)] at h
          exact h
        rw [show (c0.toNat : Int) % 128 = 127 by omega]
        go_step3
        go_wp2_with fail
        clear hm
        go_loop [8, 9, 10] (fun n at_ sh => ∃ k N : Nat, k ≤ 4 ∧ N ≤ 16777215 ∧ n = .int .i64 N ∧ at_ = .int .i64 ((k : Int) + 1) ∧ sh = .int .i64 (7 * (k : Int)) ∧ Hid (pdecGo (4 - k) (r.drop k) N (k + 1) = z) ∧ k ≤ r.length) (fun _ at_ _ => 5 - (intOf at_).toNat)
        case atStart => exact ⟨0, 127, by omega, by omega, rfl, rfl, rfl, HG, by omega⟩
        case round =>
          obtain ⟨k, N, hk, hN, rfl, rfl, rfl, hg, hkl⟩ := hrel
          clear HG HZ hc0
          by_cases h4 : k = 4
          · have h4' : (((k : Int) + 1) == 5) = true := by simp; omega
            have e : z = (0, 0, 3) := by have := hg.out; rw [h4] at this; exact this.symm
            subst e
            clear h4 hg
            go_wp2_with fail
            try rw [Exit.noGoto_ret]
            go_ret3
            exact ⟨rfl, rfl⟩
          · have h4' : (((k : Int) + 1) == 5) = false := by simp; omega
            by_cases hend : k = r.length
            · have hend' : (((k : Int) + 1) == ((r.length : Int) + 1)) = true := by simp; omega
              have e : z = (0, 0, 2) := by
                have := hg.out
                rw [List.drop_of_length_le (by omega), show 4 - k = (4 - (k + 1)) + 1 by omega] at this
                exact this.symm
              subst e
              clear hend hg
              go_wp2_with fail
              try rw [Exit.noGoto_ret]
              go_ret3
              exact ⟨rfl, rfl⟩
            · have hend' : (((k : Int) + 1) == ((r.length : Int) + 1)) = false := by simp; omega
              have hq := hcell (k + 1) (by simp; omega)
              obtain ⟨ck, hck⟩ : ∃ ck, (c0 :: r).getD (k + 1) 0 = ck := ⟨_, rfl⟩
              rw [hck] at hq
              have hq2 : ck.toNat < 256 := ck.toNat_lt
              have HS := Lib.hid (pdec_sum N ck.toNat k hN (by omega))
              have HG := Lib.hid (pdecGo_at (c := ck) (by omega) (by omega) (by rw [← hck]; simp [List.getD_eq_getElem?_getD, List.getElem?_eq_getElem (show k < r.length by omega)]) hg.out)
              clear hck hcell hg
              go_wp2_with fail
              · have h := HG.out
                have ht := ‹16777215 < wrap64 _›
                rw [HS.out] at ht
                rw [if_pos (by omega)] at h
                subst h
                try rw [Exit.noGoto_ret]
                go_ret3
                exact ⟨rfl, rfl⟩
              · have h := HG.out
                have ht := ‹wrap64 _ ≤ 16777215›
                have h128 : (128 : Int) ≤ ck.toNat := ‹_›
                rw [HS.out] at ht ⊢
                rw [if_neg (by omega), if_pos (by omega)] at h
                go_round
                case rel => exact ⟨k + 1, N + ck.toNat % 128 * 2 ^ (7 * k), by omega, by omega, rfl, by go_num, by go_num, h, by omega⟩
                case measure => simp [intOf]; omega
              · have h := HG.out
                have ht := ‹wrap64 _ ≤ 16777215›
                have h128 : (ck.toNat : Int) < 128 := ‹_›
                rw [HS.out] at ht ⊢
                rw [if_neg (by omega), if_neg (by omega)] at h
                subst h
                try rw [Exit.noGoto_ret]
                go_ret3
                exact ⟨rfl, rfl⟩
end Go.Proofs.YtfkpeahelhpelaaDoor
