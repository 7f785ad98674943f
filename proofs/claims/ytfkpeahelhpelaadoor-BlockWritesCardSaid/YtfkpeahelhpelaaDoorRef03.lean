/- Numbers in a part of a byte, the document's way (ref03). -/
import Derived.Test.YtfkpeahelhpelaaDoorPrefix
namespace Go.Proofs.YtfkpeahelhpelaaDoor
set_option linter.all false
open Go.RowKit

theorem w64_in (x : Int) (h : -9223372036854775808 ≤ x ∧ x ≤ 9223372036854775807) : wrap64 x = x := by unfold wrap64; omega
set_option maxRecDepth 100000 in
theorem power_any (n : Nat) (hn : n ≤ 8) (w : World) : Calls Tryd.prog 66 #[.int .i64 n] w fun e w' => e = .returned (.int .i64 ((2 ^ n : Nat) : Int)) ∧ w = w' := by
  obtain ⟨z, hz⟩ : ∃ z, z = 2 ^ n := ⟨_, rfl⟩
  rw [← hz]
  replace hz := Lib.hid hz
  have i1 : (n : Int) ≤ 8 := by omega
  go_enter Tryd.func66, Tryd.ntmps66
  go_wp2_with fail
  go_loop [3, 4] (fun p i => ∃ k y : Nat, k ≤ n ∧ p = .int .i64 (y : Int) ∧ i = .int .i64 (k : Int) ∧ y ≤ 256 ∧ Hid (y = 2 ^ k)) (fun _ i => n - (intOf i).toNat)
  case atStart => exact ⟨0, 1, by omega, rfl, rfl, by omega, Lib.hid rfl⟩
  case round =>
    obtain ⟨k, y, hk, rfl, rfl, hy, hp⟩ := hrel
    by_cases hlt : k < n
    · have hlt' : (k : Int) < n := by omega
      have hy2 : 2 * y ≤ 256 ∧ 2 * y = 2 ^ (k + 1) := by
        have h1 := hp.out
        have h2 : 2 ^ (k + 1) ≤ 2 ^ 8 := Nat.pow_le_pow_right (by omega) (by omega)
        rw [Nat.pow_succ] at h2 ⊢
        omega
      go_wp2_with fail
      go_round
      case rel => exact ⟨k + 1, 2 * y, by omega, by go_num, by go_num, hy2.1, Lib.hid hy2.2⟩
      case measure => simp [intOf]; omega
    · obtain rfl : k = n := by omega
      have e : z = y := by rw [hz.out, hp.out]
      subst e
      go_wp2_with fail
      go_ret
      exact ⟨rfl, rfl⟩
set_option maxRecDepth 100000 in
set_option maxHeartbeats 400000 in
theorem rdec3_any (A : Option Addr) (l : List UInt8) (c nb : Nat) (w : World) {P : Nat → Prop} (hb : Bytes w P A l) (hc : l.length ≤ c) (hl : l.length ≤ 140737488351232) (hnb : 4 ≤ nb ∧ nb ≤ 7) :
    Calls Tryd.prog 44 #[.slice A l.length c, .int .i64 nb] w fun e w' => e = .returned (.tuple #[.int .i64 (pdec nb l).1, .int .i64 (pdec nb l).2.1, .int .i64 (pdec nb l).2.2]) ∧ w = w' := by
  obtain ⟨b1, b2⟩ := hnb
  have n1 : (4 : Int) ≤ nb := by omega
  have n2 : (nb : Int) ≤ 7 := by omega
  cases l with
  | nil =>
    go_enter Tryd.func44, Tryd.ntmps44
    go_wp2_with fail
    go_ret3
    exact ⟨rfl, rfl⟩
  | cons c0 r =>
    have hpw := power_any nb (by omega) w
    obtain ⟨b, off, rfl, -, hcell⟩ := hb (by simp)
    have hc0 : w.cell? ⟨b, off, none⟩ = some (.int .u8 (c0.toNat : Int)) := by simpa using hcell 0 (by simp)
    have h256 : c0.toNat < 256 := c0.toNat_lt
    obtain ⟨z, hz⟩ : ∃ z, pdec nb (c0 :: r) = z := ⟨_, rfl⟩
    rw [hz]
    have HZ := Lib.hid hz
    clear hz
    have hlen : ((c0 :: r).length : Int) = (r.length : Int) + 1 := by simp
    have hM1 : 2 ^ nb = 2 ^ nb - 1 + 1 := by have := Nat.one_le_two_pow (n := nb); omega
    have hM2 : 2 ^ nb ≤ 2 ^ 7 := Nat.pow_le_pow_right (by omega) b2
    have hM3 : 2 ^ 4 ≤ 2 ^ nb := Nat.pow_le_pow_right (by omega) b1
    have hzz : pdec nb (c0 :: r) = if c0.toNat % 2 ^ nb < 2 ^ nb - 1 then (c0.toNat % 2 ^ nb, 1, 0) else pdecGo 4 r (2 ^ nb - 1) 1 := rfl
    rw [HZ.out] at hzz
    generalize hM : 2 ^ nb - 1 = M at hzz hM1
    rw [hM1] at hpw hzz hM2 hM3
    clear hM hM1
    obtain ⟨D, hD⟩ : ∃ D, D = c0.toNat % (M + 1) := ⟨_, rfl⟩
    have hDl : D ≤ M := by have := Nat.mod_lt c0.toNat (show 0 < M + 1 by omega); omega
    rw [← hD] at hzz
    have hrem : Int.tmod (c0.toNat : Int) ((M : Int) + 1) = (D : Int) := by rw [hD]; rfl
    replace hD := Lib.hid hD
    replace hzz := Lib.hid hzz
    go_enter Tryd.func44, Tryd.ntmps44
    go_wp2_with fail
    refine hpw.mono ?_
    rintro e w' ⟨rfl, rfl⟩
    by_cases hlt : D < M
    · have hlt' : (D : Int) < M := by omega
      go_wp2_with fail
      have e := hzz.out
      rw [if_pos hlt] at e
      rw [e]
      go_ret3
      exact ⟨rfl, rfl⟩
    · have hDM : D = M := by omega
      subst hDM
      have HG := hzz.out
      rw [if_neg hlt] at HG
      replace HG := Lib.hid HG.symm
      go_wp2_with fail
      clear hzz hD hpw hrem HZ hc0
      go_loop [8, 9, 10] (fun n ti i => ∃ k N : Nat, k ≤ 4 ∧ N ≤ 16777215 ∧ n = .int .i64 N ∧ ti = .int .i64 ((128 ^ k : Nat) : Int) ∧ i = .int .i64 ((k : Int) + 1) ∧ Hid (pdecGo (4 - k) (r.drop k) N (k + 1) = z) ∧ k ≤ r.length) (fun _ _ i => 5 - (intOf i).toNat)
      case atStart => exact ⟨0, D, by omega, by omega, rfl, rfl, rfl, HG, by omega⟩
      case round =>
        obtain ⟨k, N, hk, hN, rfl, rfl, rfl, hg, hkl⟩ := hrel
        clear HG
        by_cases h4 : k = 4
        · subst h4
          have e : z = (0, 0, 3) := hg.out.symm
          rw [e]
          go_wp2_with fail
          go_ret3
          exact ⟨rfl, rfl⟩
        by_cases hend : k = r.length
        · have e : z = (0, 0, 2) := by
            have := hg.out
            rw [List.drop_of_length_le (by omega), show 4 - k = (4 - (k + 1)) + 1 by omega] at this
            exact this.symm
          rw [e]
          have hk4 : (k : Int) < 4 := by omega
          rw [← hend]
          go_wp2_with fail
          go_ret3
          exact ⟨rfl, rfl⟩
        have hcases : k = 0 ∨ k = 1 ∨ k = 2 ∨ k = 3 := by omega
        rcases hcases with rfl | rfl | rfl | rfl
        · have hq := hcell 1 (by simp; omega)
          obtain ⟨ck, hck⟩ : ∃ ck, (c0 :: r).getD 1 0 = ck := ⟨_, rfl⟩
          rw [hck] at hq
          have hq2 : ck.toNat < 256 := ck.toNat_lt
          have HG := pdecGo_at (k := 0) (c := ck) (by omega) (by omega) (by rw [← hck]; simp [List.getD_eq_getElem?_getD, List.getElem?_eq_getElem (show 0 < r.length by omega)]) hg.out
          obtain ⟨S, hS⟩ : ∃ S, S = N + ck.toNat % 128 * 2 ^ (7 * 0) := ⟨_, rfl⟩
          rw [← hS] at HG
          have hSi : wrap64 ((N : Int) + wrap64 (1 * ((ck.toNat : Int) % 128))) = (S : Int) := by rw [w64_in (1 * ((ck.toNat : Int) % 128)) (by omega), w64_in _ (by omega), hS]; omega
          have hSi2 : (N : Int) + 1 * ((ck.toNat : Int) % 128) = (S : Int) := by rw [hS]; omega
          have hSi3 : (N : Int) + (ck.toNat : Int) % 128 = (S : Int) := by omega
          have hrl : (0 : Int) < r.length := by omega
          clear hck hcell hg hS
          replace HG := Lib.hid HG
          by_cases h16 : 16777215 < S
          · have h16' : (16777215 : Int) < S := by omega
            have h := HG.out
            rw [if_pos h16] at h
            replace h := Lib.hid h
            go_wp2_with fail
            rw [← h.out]
            go_ret3
            exact ⟨rfl, rfl⟩
          · have h16' : (S : Int) ≤ 16777215 := by omega
            by_cases h128 : 128 ≤ ck.toNat
            · have h128' : (128 : Int) ≤ ck.toNat := by omega
              have h := HG.out
              rw [if_neg h16, if_pos h128] at h
              replace h := Lib.hid h
              go_wp2_with fail
              go_round
              case rel => exact ⟨1, S, by omega, by omega, by go_num, by go_num, by go_num, h, by omega⟩
              case measure => simp [intOf]
            · have h128' : (ck.toNat : Int) < 128 := by omega
              have h := HG.out
              rw [if_neg h16, if_neg h128] at h
              replace h := Lib.hid h
              go_wp2_with fail
              rw [← h.out]
              go_ret3
              exact ⟨rfl, rfl⟩
        · have hq := hcell 2 (by simp; omega)
          obtain ⟨ck, hck⟩ : ∃ ck, (c0 :: r).getD 2 0 = ck := ⟨_, rfl⟩
          rw [hck] at hq
          have hq2 : ck.toNat < 256 := ck.toNat_lt
          have HG := pdecGo_at (k := 1) (c := ck) (by omega) (by omega) (by rw [← hck]; simp [List.getD_eq_getElem?_getD, List.getElem?_eq_getElem (show 1 < r.length by omega)]) hg.out
          obtain ⟨S, hS⟩ : ∃ S, S = N + ck.toNat % 128 * 2 ^ (7 * 1) := ⟨_, rfl⟩
          rw [← hS] at HG
          have hSi : wrap64 ((N : Int) + wrap64 (128 * ((ck.toNat : Int) % 128))) = (S : Int) := by rw [w64_in (128 * ((ck.toNat : Int) % 128)) (by omega), w64_in _ (by omega), hS]; omega
          have hSi2 : (N : Int) + 128 * ((ck.toNat : Int) % 128) = (S : Int) := by rw [hS]; omega
          have hrl : (1 : Int) < r.length := by omega
          clear hck hcell hg hS
          replace HG := Lib.hid HG
          by_cases h16 : 16777215 < S
          · have h16' : (16777215 : Int) < S := by omega
            have h := HG.out
            rw [if_pos h16] at h
            replace h := Lib.hid h
            go_wp2_with fail
            rw [← h.out]
            go_ret3
            exact ⟨rfl, rfl⟩
          · have h16' : (S : Int) ≤ 16777215 := by omega
            by_cases h128 : 128 ≤ ck.toNat
            · have h128' : (128 : Int) ≤ ck.toNat := by omega
              have h := HG.out
              rw [if_neg h16, if_pos h128] at h
              replace h := Lib.hid h
              go_wp2_with fail
              go_round
              case rel => exact ⟨2, S, by omega, by omega, by go_num, by go_num, by go_num, h, by omega⟩
              case measure => simp [intOf]
            · have h128' : (ck.toNat : Int) < 128 := by omega
              have h := HG.out
              rw [if_neg h16, if_neg h128] at h
              replace h := Lib.hid h
              go_wp2_with fail
              rw [← h.out]
              go_ret3
              exact ⟨rfl, rfl⟩
        · have hq := hcell 3 (by simp; omega)
          obtain ⟨ck, hck⟩ : ∃ ck, (c0 :: r).getD 3 0 = ck := ⟨_, rfl⟩
          rw [hck] at hq
          have hq2 : ck.toNat < 256 := ck.toNat_lt
          have HG := pdecGo_at (k := 2) (c := ck) (by omega) (by omega) (by rw [← hck]; simp [List.getD_eq_getElem?_getD, List.getElem?_eq_getElem (show 2 < r.length by omega)]) hg.out
          obtain ⟨S, hS⟩ : ∃ S, S = N + ck.toNat % 128 * 2 ^ (7 * 2) := ⟨_, rfl⟩
          rw [← hS] at HG
          have hSi : wrap64 ((N : Int) + wrap64 (16384 * ((ck.toNat : Int) % 128))) = (S : Int) := by rw [w64_in (16384 * ((ck.toNat : Int) % 128)) (by omega), w64_in _ (by omega), hS]; omega
          have hSi2 : (N : Int) + 16384 * ((ck.toNat : Int) % 128) = (S : Int) := by rw [hS]; omega
          have hrl : (2 : Int) < r.length := by omega
          clear hck hcell hg hS
          replace HG := Lib.hid HG
          by_cases h16 : 16777215 < S
          · have h16' : (16777215 : Int) < S := by omega
            have h := HG.out
            rw [if_pos h16] at h
            replace h := Lib.hid h
            go_wp2_with fail
            rw [← h.out]
            go_ret3
            exact ⟨rfl, rfl⟩
          · have h16' : (S : Int) ≤ 16777215 := by omega
            by_cases h128 : 128 ≤ ck.toNat
            · have h128' : (128 : Int) ≤ ck.toNat := by omega
              have h := HG.out
              rw [if_neg h16, if_pos h128] at h
              replace h := Lib.hid h
              go_wp2_with fail
              go_round
              case rel => exact ⟨3, S, by omega, by omega, by go_num, by go_num, by go_num, h, by omega⟩
              case measure => simp [intOf]
            · have h128' : (ck.toNat : Int) < 128 := by omega
              have h := HG.out
              rw [if_neg h16, if_neg h128] at h
              replace h := Lib.hid h
              go_wp2_with fail
              rw [← h.out]
              go_ret3
              exact ⟨rfl, rfl⟩
        · have hq := hcell 4 (by simp; omega)
          obtain ⟨ck, hck⟩ : ∃ ck, (c0 :: r).getD 4 0 = ck := ⟨_, rfl⟩
          rw [hck] at hq
          have hq2 : ck.toNat < 256 := ck.toNat_lt
          have HG := pdecGo_at (k := 3) (c := ck) (by omega) (by omega) (by rw [← hck]; simp [List.getD_eq_getElem?_getD, List.getElem?_eq_getElem (show 3 < r.length by omega)]) hg.out
          obtain ⟨S, hS⟩ : ∃ S, S = N + ck.toNat % 128 * 2 ^ (7 * 3) := ⟨_, rfl⟩
          rw [← hS] at HG
          have hSi : wrap64 ((N : Int) + wrap64 (2097152 * ((ck.toNat : Int) % 128))) = (S : Int) := by rw [w64_in (2097152 * ((ck.toNat : Int) % 128)) (by omega), w64_in _ (by omega), hS]; omega
          have hSi2 : (N : Int) + 2097152 * ((ck.toNat : Int) % 128) = (S : Int) := by rw [hS]; omega
          have hrl : (3 : Int) < r.length := by omega
          clear hck hcell hg hS
          replace HG := Lib.hid HG
          by_cases h16 : 16777215 < S
          · have h16' : (16777215 : Int) < S := by omega
            have h := HG.out
            rw [if_pos h16] at h
            replace h := Lib.hid h
            go_wp2_with fail
            rw [← h.out]
            go_ret3
            exact ⟨rfl, rfl⟩
          · have h16' : (S : Int) ≤ 16777215 := by omega
            by_cases h128 : 128 ≤ ck.toNat
            · have h128' : (128 : Int) ≤ ck.toNat := by omega
              have h := HG.out
              rw [if_neg h16, if_pos h128] at h
              replace h := Lib.hid h
              go_wp2_with fail
              go_round
              case rel => exact ⟨4, S, by omega, by omega, by go_num, by go_num, by go_num, h, by omega⟩
              case measure => simp [intOf]
            · have h128' : (ck.toNat : Int) < 128 := by omega
              have h := HG.out
              rw [if_neg h16, if_neg h128] at h
              replace h := Lib.hid h
              go_wp2_with fail
              rw [← h.out]
              go_ret3
              exact ⟨rfl, rfl⟩
end Go.Proofs.YtfkpeahelhpelaaDoor
