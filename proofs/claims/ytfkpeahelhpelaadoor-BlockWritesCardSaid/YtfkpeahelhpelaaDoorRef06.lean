/- The document's static table (layer 6): what its Get and Find come to. -/
import Derived.Test.YtfkpeahelhpelaaDoorStatic
namespace Go.Proofs.YtfkpeahelhpelaaDoor
set_option linter.all false
open Go.RowKit

def nmCells : Array Value := (fld.map fun p => Value.string p.1).toArray
theorem nmCells_get (k : Nat) (hk : k < 61) : nmCells[k]? = some (.string (nm k)) := by
  have hl := fld_length
  simp [nmCells, nm, List.getD_eq_getElem?_getD, List.getElem?_eq_getElem (show k < fld.length by omega)]

set_option maxRecDepth 100000 in
theorem names_any (w : World) : Calls Tryd.prog 55 #[] w fun e w' => e = .returned (.slice (some ⟨w.heap.size, 0, none⟩) 61 61) ∧ w' = w.alloc (.cells nmCells 9) := by
  go_enter Tryd.func55, Tryd.ntmps55
  iterate 11 go_step
  refine fast_step 1 (w.alloc (.cells nmCells 9)) (by kernel_rfl) ?_
  intro T hT
  have h1 : T[1]?.getD undef = .slice (some ⟨w.heap.size, 0, none⟩) 61 61 := by rw [← hT]; kernel_rfl
  have h2 : T.size = 2 := by rw [← hT]; kernel_rfl
  clear hT
  obtain ⟨T⟩ := T
  match T, h2 with
  | [t0, t1], _ =>
    have h3 : t1 = .slice (some ⟨w.heap.size, 0, none⟩) 61 61 := h1
    subst h3
    simp only [List.drop_succ_cons, List.drop_zero]
    go_wp2
    go_ret
    exact ⟨rfl, rfl⟩

theorem vl_default (k : Nat) (hk : k < 61) (h : k < 1 ∨ 13 < k) (h' : k ≠ 15) : vl k = ⟨#[]⟩ := by
  have h : ∀ k : Fin 61, (k.val < 1 ∨ 13 < k.val) → k.val ≠ 15 → vl k = ⟨#[]⟩ := by decide +kernel
  exact h ⟨k, hk⟩ ‹_› h'

set_option maxHeartbeats 1000000 in
theorem value_any (k : Nat) (hk : k < 61) (w : World) : Calls Tryd.prog 56 #[.int .i64 ((k : Int) + 1)] w fun e w' => e = .returned (.string (vl k)) ∧ w = w' := by
  obtain ⟨v, hv⟩ : ∃ v, vl k = v := ⟨_, rfl⟩
  rw [hv]
  have HV := Lib.hid hv
  clear hv
  go_enter Tryd.func56, Tryd.ntmps56
  go_wp2
  · obtain rfl : k = 1 := by have := eq_of_beq ‹((k : Int) + 1 == 2) = true›; omega
    go_ret
    exact ⟨by rw [← HV.out]; rfl, rfl⟩
  · obtain rfl : k = 2 := by have := eq_of_beq ‹((k : Int) + 1 == 3) = true›; omega
    go_ret
    exact ⟨by rw [← HV.out]; rfl, rfl⟩
  · obtain rfl : k = 3 := by have := eq_of_beq ‹((k : Int) + 1 == 4) = true›; omega
    go_ret
    exact ⟨by rw [← HV.out]; rfl, rfl⟩
  · obtain rfl : k = 4 := by have := eq_of_beq ‹((k : Int) + 1 == 5) = true›; omega
    go_ret
    exact ⟨by rw [← HV.out]; rfl, rfl⟩
  · obtain rfl : k = 5 := by have := eq_of_beq ‹((k : Int) + 1 == 6) = true›; omega
    go_ret
    exact ⟨by rw [← HV.out]; rfl, rfl⟩
  · obtain rfl : k = 6 := by have := eq_of_beq ‹((k : Int) + 1 == 7) = true›; omega
    go_ret
    exact ⟨by rw [← HV.out]; rfl, rfl⟩
  · obtain rfl : k = 7 := by have := eq_of_beq ‹((k : Int) + 1 == 8) = true›; omega
    go_ret
    exact ⟨by rw [← HV.out]; rfl, rfl⟩
  · obtain rfl : k = 8 := by have := eq_of_beq ‹((k : Int) + 1 == 9) = true›; omega
    go_ret
    exact ⟨by rw [← HV.out]; rfl, rfl⟩
  · obtain rfl : k = 9 := by have := eq_of_beq ‹((k : Int) + 1 == 10) = true›; omega
    go_ret
    exact ⟨by rw [← HV.out]; rfl, rfl⟩
  · obtain rfl : k = 10 := by have := eq_of_beq ‹((k : Int) + 1 == 11) = true›; omega
    go_ret
    exact ⟨by rw [← HV.out]; rfl, rfl⟩
  · obtain rfl : k = 11 := by have := eq_of_beq ‹((k : Int) + 1 == 12) = true›; omega
    go_ret
    exact ⟨by rw [← HV.out]; rfl, rfl⟩
  · obtain rfl : k = 12 := by have := eq_of_beq ‹((k : Int) + 1 == 13) = true›; omega
    go_ret
    exact ⟨by rw [← HV.out]; rfl, rfl⟩
  · obtain rfl : k = 13 := by have := eq_of_beq ‹((k : Int) + 1 == 14) = true›; omega
    go_ret
    exact ⟨by rw [← HV.out]; rfl, rfl⟩
  · obtain rfl : k = 15 := by have := eq_of_beq ‹((k : Int) + 1 == 16) = true›; omega
    go_ret
    exact ⟨by rw [← HV.out]; rfl, rfl⟩
  · have e : vl k = ⟨#[]⟩ := by
      simp only [beq_eq_false_iff_ne] at *
      exact vl_default k hk (by omega) (by omega)
    go_ret
    exact ⟨by rw [← HV.out, e]; rfl, rfl⟩

/-- The first of the names from k on that is n; 0: there is none. -/
def firstFrom (n : ByteArray) : Nat → Nat → Nat
  | 0, _ => 0
  | d + 1, k => if nm k = n then k + 1 else firstFrom n d (k + 1)
/-- The document's second loop, from k on. -/
def pairFrom (n v : ByteArray) (named : Nat) : Nat → Nat → Nat × Bool
  | 0, _ => (named, false)
  | d + 1, k => if nm k = n ∧ vl k = v then (k + 1, true) else pairFrom n v named d (k + 1)

theorem findGo_pair (n v : ByteArray) : ∀ (d k c : Nat), k + d = 61 → findGo n v k c (fld.drop k) = pairFrom n v (if c = 0 then firstFrom n d k else c) d k := by
  intro d
  induction d with
  | zero =>
    intro k c hk
    obtain rfl : k = 61 := by omega
    have e : fld.drop 61 = [] := List.drop_of_length_le (by rw [fld_length]; omega)
    rw [e]
    simp only [findGo, pairFrom, firstFrom]
    split
    · rename_i h; rw [h]
    · rfl
  | succ d ih =>
    intro k c hk
    rw [drop_fld k (by omega), findGo, pairFrom]
    by_cases h : nm k = n ∧ vl k = v
    · rw [if_pos h, if_pos h]
    · rw [if_neg h, if_neg h, ih (k + 1) _ (by omega)]
      congr 1
      simp only [firstFrom]
      by_cases hc : c = 0 <;> by_cases hn : nm k = n <;> simp [hc, hn]
theorem findS_pair (n v : ByteArray) : findS n v = pairFrom n v (firstFrom n 61 0) 61 0 := by
  have := findGo_pair n v 61 0 0 rfl
  rw [List.drop_zero] at this
  exact this

/-- The names' cells in a world behind which nothing old has turned. -/
def NmRow (w : World) (g : Nat) : Prop := ∀ k : Nat, k < 61 → w.cell? ⟨g, k, none⟩ = some (.string (nm k))
theorem NmRow.new (w : World) : NmRow (w.alloc (.cells nmCells 9)) w.heap.size := fun k hk => by
  rw [cell_of_row _ _ k nmCells _ (0, 0) (heap_alloc_new w _)]
  exact nmCells_get k hk
theorem names_row (w : World) : Calls Tryd.prog 55 #[] w fun e w' => ∃ g, e = .returned (.slice (some ⟨g, 0, none⟩) 61 61) ∧ NmRow w' g ∧ g < w'.heap.size ∧ Below w.heap.size w w' := by
  refine (names_any w).mono ?_
  rintro e w' ⟨rfl, rfl⟩
  exact ⟨_, rfl, NmRow.new w, by rw [World.size_alloc]; omega, bl_alloc (Below.refl _ _) _⟩
theorem NmRow.below {w w1 : World} {g : Nat} (h : NmRow w g) (hg : g < w.heap.size) (hb : Below w.heap.size w w1) : NmRow w1 g := fun k hk => (hb.cell (p := ⟨g, k, none⟩) hg).trans (h k hk)

set_option maxRecDepth 100000 in
set_option maxHeartbeats 1000000 in
theorem ref_get_any (i : Int) (w : World) (hi : -9223372036854775808 ≤ i ∧ i ≤ 9223372036854775807) : Calls Tryd.prog 48 #[.int .i64 i] w fun e w' => e = .returned (.tuple #[.agg #[.string (getN i), .string (getV i)], .int .i64 (getE i)]) ∧ Below w.heap.size w w' := by
  obtain ⟨n, hn⟩ : ∃ n, getN i = n := ⟨_, rfl⟩
  obtain ⟨v, hv⟩ : ∃ v, getV i = v := ⟨_, rfl⟩
  obtain ⟨c, hc⟩ : ∃ c, getE i = c := ⟨_, rfl⟩
  rw [hn, hv, hc]
  by_cases h : 1 ≤ i ∧ i ≤ 61
  · obtain ⟨h1, h2⟩ := h
    rw [getN, if_pos ⟨h1, h2⟩] at hn
    rw [getV, if_pos ⟨h1, h2⟩] at hv
    rw [getE, if_pos ⟨h1, h2⟩] at hc
    subst hn hv hc
    obtain ⟨k, rfl⟩ : ∃ k : Nat, i = (k : Int) + 1 := ⟨i.toNat - 1, by omega⟩
    have hk : k < 61 := by omega
    have e1 : ((k : Int) + 1).toNat - 1 = k := by omega
    rw [e1]
    clear e1
    have V := Lib.hid (value_any k hk)
    go_enter Tryd.func48, Tryd.ntmps48
    go_wp2_with fail
    refine (names_row _).mono ?_
    rintro e w1 ⟨g, rfl, hrow, hgl, hb1⟩
    have hq := hrow k hk
    have q2 := blk_below (heap_alloc_new _ _) hb1
    obtain ⟨c0, c1⟩ := cells_two q2
    have f0 := frozen_of_row _ _ 0 _ _ q2
    have f1 := frozen_of_row _ _ 1 _ _ q2
    have hk2 : (k : Int) < 61 := by omega
    go_wp2_with fail
    have hw0 : IntKind.i64.wrap (k : Int) = k := IntWalk.i64_in _ (by omega)
    have hk0 : (0 : Int) ≤ k := by omega
    go_still_tail 8, (by kernel_rfl)
    clear hw0
    still_call ((V.out _).mono fun _ _ h => ⟨h.1, h.2.symm⟩)
    repeat still_step
    refine wpStill_nil ?_
    clear hq
    change wpList _ _ _ _ _ _
    go_wp2
    refine bodyPost_ret (v := .tuple #[.agg #[.string (nm k), .string (vl k)], .int .i64 0]) ?_ rfl ⟨rfl, bl_set (bl_set (bl_drew (bl_then (bl_alloc (Below.refl _ _) _) hb1)) (Nat.le_refl _) _) (Nat.le_refl _) _⟩
    simp [results, Tryd.results48, go_sem, c0, c1]
  · rw [getN, if_neg h] at hn
    rw [getV, if_neg h] at hv
    rw [getE, if_neg h] at hc
    subst hn hv hc
    rcases (show i < 1 ∨ 1 ≤ i from by omega) with h1 | h1
    · go_enter Tryd.func48, Tryd.ntmps48
      go_wp2_with (go_at_call 55; refine (names_any _).mono ?_; rintro e w1 ⟨rfl, rfl⟩)
      exact bodyPost_ret (v := .tuple #[.agg #[.string ⟨#[]⟩, .string ⟨#[]⟩], .int .i64 5]) (by simp [results, Tryd.results48, go_sem]) rfl ⟨rfl, bl_alloc (bl_alloc (Below.refl _ _) _) _⟩
    · have h2 : 61 < i := by omega
      go_enter Tryd.func48, Tryd.ntmps48
      go_wp2_with (go_at_call 55; refine (names_any _).mono ?_; rintro e w1 ⟨rfl, rfl⟩)
      exact bodyPost_ret (v := .tuple #[.agg #[.string ⟨#[]⟩, .string ⟨#[]⟩], .int .i64 5]) (by simp [results, Tryd.results48, go_sem]) rfl ⟨rfl, bl_alloc (bl_alloc (Below.refl _ _) _) _⟩

set_option maxRecDepth 100000 in
set_option maxHeartbeats 2000000 in
theorem ref_find_any (n v : ByteArray) (w : World) : Calls Tryd.prog 36 #[.agg #[.string n, .string v]] w fun e w' => (e = .returned (.tuple #[.int .i64 (findS n v).1, .bool (findS n v).2])) ∧ Below w.heap.size w w' := by
  obtain ⟨z, hz⟩ : ∃ z, findS n v = z := ⟨_, rfl⟩
  rw [hz]
  rw [findS_pair] at hz
  have HZ := Lib.hid hz
  clear hz
  go_enter Tryd.func36, Tryd.ntmps36
  go_wp2_with fail
  refine (names_row _).mono ?_
  rintro e w1 ⟨g, rfl, hrow, hgl, hb1⟩
  have q2 := blk_below (heap_alloc_new _ _) hb1
  obtain ⟨c0, c1⟩ := cells_two q2
  clear q2
  go_wp2_with fail
  go_loopw [5, 6] (fun m i wr => ∃ k d : Nat, k ≤ 61 ∧ i = .int .i64 k ∧ m = .int .i64 (firstFrom n (61 - k) k) ∧ wr = w1.drewN d)
    (fun _ i _ => (intOf i).toNat)
  case atStart => exact ⟨61, 0, by omega, rfl, rfl, rfl⟩
  case round =>
    obtain ⟨k, d, hk, rfl, rfl, rfl⟩ := hrel
    by_cases hlt : 1 ≤ k
    · obtain ⟨j, rfl⟩ : ∃ j, k = j + 1 := ⟨k - 1, by omega⟩
      have hlt' : (1 : Int) ≤ ((j + 1 : Nat) : Int) := by omega
      have hq := hrow j (by omega)
      have hj0 : (0 : Int) ≤ j := by omega
      have hj1 : (j : Int) < 61 := by omega
      obtain ⟨F, hF⟩ : ∃ F, firstFrom n (61 - (j + 1)) (j + 1) = F := ⟨_, rfl⟩
      have HF := Lib.hid hF
      rw [hF]
      clear hF
      go_wp2_with fail
      have hw0 : IntKind.i64.wrap (j : Int) = j := IntWalk.i64_in _ (by omega)
      go_quiet (fail)
      clear hw0
      go_wp2_with fail
      · have e := bytes_ext (eq_of_beq ‹((nm j).toList == n.toList) = true›)
        go_roundw
        case rel => exact ⟨j, d + nq, by omega, rfl, by rw [show 61 - j = (61 - (j + 1)) + 1 by omega, firstFrom, if_pos e], rfl⟩
        case measure => simp [intOf]
      · have e : ¬ nm j = n := fun h => by have h2 := ‹((nm j).toList == n.toList) = false›; rw [h] at h2; simp at h2
        go_roundw
        case rel => exact ⟨j, d + nq, by omega, rfl, by rw [show 61 - j = (61 - (j + 1)) + 1 by omega, firstFrom, if_neg e, HF.out], rfl⟩
        case measure => simp [intOf]
    · obtain rfl : k = 0 := by omega
      rw [show ((0 : Nat) : Int) = (0 : Int) from rfl]
      obtain ⟨N, hN⟩ : ∃ N, firstFrom n 61 0 = N := ⟨_, rfl⟩
      have HN := Lib.hid hN
      rw [hN]
      clear hN
      go_wp2_with fail
      go_loopw [7] (fun i wr => ∃ k d : Nat, k ≤ 61 ∧ i = .int .i64 ((k : Int) + 1) ∧ Hid (pairFrom n v N (61 - k) k = z) ∧ wr = w1.drewN d)
        (fun i _ => 62 - (intOf i).toNat)
      case atStart => exact ⟨0, d, by omega, rfl, Lib.hid (by have := HZ.out; rw [HN.out] at this; exact this), rfl⟩
      case round =>
        obtain ⟨k, d2, hk, rfl, hp, rfl⟩ := hrel
        by_cases hlt : k < 61
        · have hlt' : (k : Int) + 1 ≤ 61 := by omega
          have hq := hrow k hlt
          have hj0 : (0 : Int) ≤ k := by omega
          have hj1 : (k : Int) < 61 := by omega
          have V := Lib.hid (value_any k hlt)
          go_wp2_with fail
          refine (V.out _).mono ?_
          rintro e w2 ⟨rfl, rfl⟩
          go_wp2_with fail
          have hw0 : IntKind.i64.wrap (k : Int) = k := IntWalk.i64_in _ (by omega)
          by_cases hn : ((nm k).toList == n.toList) = true
          · have en := bytes_ext (eq_of_beq hn)
            go_quiet (fail)
            clear hw0
            go_wp2_with fail
            · have ev := bytes_ext (eq_of_beq ‹((vl k).toList == v.toList) = true›)
              have hp' := hp.out
              rw [show 61 - k = (61 - (k + 1)) + 1 by omega, pairFrom, if_pos ⟨en, ev⟩] at hp'
              subst hp'
              go_ret2
              exact ⟨rfl, by first | exact bl_drewN (bl_then (bl_alloc (Below.refl _ _) _) hb1) _ | exact bl_drewN (bl_drewN (bl_then (bl_alloc (Below.refl _ _) _) hb1) _) _⟩
            · have ev : ¬(nm k = n ∧ vl k = v) := fun h => by have h2 := ‹((vl k).toList == v.toList) = false›; rw [h.2] at h2; simp at h2
              go_roundw
              case rel => exact ⟨k + 1, d2 + nq, by omega, by go_num, Lib.hid (by have hp' := hp.out; rw [show 61 - k = (61 - (k + 1)) + 1 by omega, pairFrom, if_neg ev] at hp'; exact hp'), rfl⟩
              case measure => simp [intOf]; omega
          · have hn : ((nm k).toList == n.toList) = false := by simpa using hn
            have ev : ¬(nm k = n ∧ vl k = v) := fun h => by rw [h.1] at hn; simp at hn
            go_quiet (fail)
            clear hw0
            go_wp2_with fail
            go_roundw
            case rel => exact ⟨k + 1, d2 + nq, by omega, by go_num, Lib.hid (by have hp' := hp.out; rw [show 61 - k = (61 - (k + 1)) + 1 by omega, pairFrom, if_neg ev] at hp'; exact hp'), rfl⟩
            case measure => simp [intOf]; omega
        · obtain rfl : k = 61 := by omega
          have hp' := hp.out
          simp only [Nat.sub_self, pairFrom] at hp'
          subst hp'
          go_wp2_with fail
          go_ret2
          exact ⟨rfl, by first | exact bl_drewN (bl_then (bl_alloc (Below.refl _ _) _) hb1) _ | exact bl_drewN (bl_drewN (bl_then (bl_alloc (Below.refl _ _) _) hb1) _) _⟩
end Go.Proofs.YtfkpeahelhpelaaDoor
