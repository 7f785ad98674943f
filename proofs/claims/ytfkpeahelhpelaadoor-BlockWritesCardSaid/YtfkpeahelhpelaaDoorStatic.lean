/- The static table: what the program's Find and Get come to, as plain functions of the 61 fields. -/
import Derived.Test.YtfkpeahelhpelaaDoorBase
namespace Go.Proofs.YtfkpeahelhpelaaDoor
set_option linter.all false
open Go.RowKit

def fld : List (ByteArray × ByteArray) := [
  (⟨#[58, 97, 117, 116, 104, 111, 114, 105, 116, 121]⟩, ⟨#[]⟩),
  (⟨#[58, 109, 101, 116, 104, 111, 100]⟩, ⟨#[71, 69, 84]⟩),
  (⟨#[58, 109, 101, 116, 104, 111, 100]⟩, ⟨#[80, 79, 83, 84]⟩),
  (⟨#[58, 112, 97, 116, 104]⟩, ⟨#[47]⟩),
  (⟨#[58, 112, 97, 116, 104]⟩, ⟨#[47, 105, 110, 100, 101, 120, 46, 104, 116, 109, 108]⟩),
  (⟨#[58, 115, 99, 104, 101, 109, 101]⟩, ⟨#[104, 116, 116, 112]⟩),
  (⟨#[58, 115, 99, 104, 101, 109, 101]⟩, ⟨#[104, 116, 116, 112, 115]⟩),
  (⟨#[58, 115, 116, 97, 116, 117, 115]⟩, ⟨#[50, 48, 48]⟩),
  (⟨#[58, 115, 116, 97, 116, 117, 115]⟩, ⟨#[50, 48, 52]⟩),
  (⟨#[58, 115, 116, 97, 116, 117, 115]⟩, ⟨#[50, 48, 54]⟩),
  (⟨#[58, 115, 116, 97, 116, 117, 115]⟩, ⟨#[51, 48, 52]⟩),
  (⟨#[58, 115, 116, 97, 116, 117, 115]⟩, ⟨#[52, 48, 48]⟩),
  (⟨#[58, 115, 116, 97, 116, 117, 115]⟩, ⟨#[52, 48, 52]⟩),
  (⟨#[58, 115, 116, 97, 116, 117, 115]⟩, ⟨#[53, 48, 48]⟩),
  (⟨#[97, 99, 99, 101, 112, 116, 45, 99, 104, 97, 114, 115, 101, 116]⟩, ⟨#[]⟩),
  (⟨#[97, 99, 99, 101, 112, 116, 45, 101, 110, 99, 111, 100, 105, 110, 103]⟩, ⟨#[103, 122, 105, 112, 44, 32, 100, 101, 102, 108, 97, 116, 101]⟩),
  (⟨#[97, 99, 99, 101, 112, 116, 45, 108, 97, 110, 103, 117, 97, 103, 101]⟩, ⟨#[]⟩),
  (⟨#[97, 99, 99, 101, 112, 116, 45, 114, 97, 110, 103, 101, 115]⟩, ⟨#[]⟩),
  (⟨#[97, 99, 99, 101, 112, 116]⟩, ⟨#[]⟩),
  (⟨#[97, 99, 99, 101, 115, 115, 45, 99, 111, 110, 116, 114, 111, 108, 45, 97, 108, 108, 111, 119, 45, 111, 114, 105, 103, 105, 110]⟩, ⟨#[]⟩),
  (⟨#[97, 103, 101]⟩, ⟨#[]⟩),
  (⟨#[97, 108, 108, 111, 119]⟩, ⟨#[]⟩),
  (⟨#[97, 117, 116, 104, 111, 114, 105, 122, 97, 116, 105, 111, 110]⟩, ⟨#[]⟩),
  (⟨#[99, 97, 99, 104, 101, 45, 99, 111, 110, 116, 114, 111, 108]⟩, ⟨#[]⟩),
  (⟨#[99, 111, 110, 116, 101, 110, 116, 45, 100, 105, 115, 112, 111, 115, 105, 116, 105, 111, 110]⟩, ⟨#[]⟩),
  (⟨#[99, 111, 110, 116, 101, 110, 116, 45, 101, 110, 99, 111, 100, 105, 110, 103]⟩, ⟨#[]⟩),
  (⟨#[99, 111, 110, 116, 101, 110, 116, 45, 108, 97, 110, 103, 117, 97, 103, 101]⟩, ⟨#[]⟩),
  (⟨#[99, 111, 110, 116, 101, 110, 116, 45, 108, 101, 110, 103, 116, 104]⟩, ⟨#[]⟩),
  (⟨#[99, 111, 110, 116, 101, 110, 116, 45, 108, 111, 99, 97, 116, 105, 111, 110]⟩, ⟨#[]⟩),
  (⟨#[99, 111, 110, 116, 101, 110, 116, 45, 114, 97, 110, 103, 101]⟩, ⟨#[]⟩),
  (⟨#[99, 111, 110, 116, 101, 110, 116, 45, 116, 121, 112, 101]⟩, ⟨#[]⟩),
  (⟨#[99, 111, 111, 107, 105, 101]⟩, ⟨#[]⟩),
  (⟨#[100, 97, 116, 101]⟩, ⟨#[]⟩),
  (⟨#[101, 116, 97, 103]⟩, ⟨#[]⟩),
  (⟨#[101, 120, 112, 101, 99, 116]⟩, ⟨#[]⟩),
  (⟨#[101, 120, 112, 105, 114, 101, 115]⟩, ⟨#[]⟩),
  (⟨#[102, 114, 111, 109]⟩, ⟨#[]⟩),
  (⟨#[104, 111, 115, 116]⟩, ⟨#[]⟩),
  (⟨#[105, 102, 45, 109, 97, 116, 99, 104]⟩, ⟨#[]⟩),
  (⟨#[105, 102, 45, 109, 111, 100, 105, 102, 105, 101, 100, 45, 115, 105, 110, 99, 101]⟩, ⟨#[]⟩),
  (⟨#[105, 102, 45, 110, 111, 110, 101, 45, 109, 97, 116, 99, 104]⟩, ⟨#[]⟩),
  (⟨#[105, 102, 45, 114, 97, 110, 103, 101]⟩, ⟨#[]⟩),
  (⟨#[105, 102, 45, 117, 110, 109, 111, 100, 105, 102, 105, 101, 100, 45, 115, 105, 110, 99, 101]⟩, ⟨#[]⟩),
  (⟨#[108, 97, 115, 116, 45, 109, 111, 100, 105, 102, 105, 101, 100]⟩, ⟨#[]⟩),
  (⟨#[108, 105, 110, 107]⟩, ⟨#[]⟩),
  (⟨#[108, 111, 99, 97, 116, 105, 111, 110]⟩, ⟨#[]⟩),
  (⟨#[109, 97, 120, 45, 102, 111, 114, 119, 97, 114, 100, 115]⟩, ⟨#[]⟩),
  (⟨#[112, 114, 111, 120, 121, 45, 97, 117, 116, 104, 101, 110, 116, 105, 99, 97, 116, 101]⟩, ⟨#[]⟩),
  (⟨#[112, 114, 111, 120, 121, 45, 97, 117, 116, 104, 111, 114, 105, 122, 97, 116, 105, 111, 110]⟩, ⟨#[]⟩),
  (⟨#[114, 97, 110, 103, 101]⟩, ⟨#[]⟩),
  (⟨#[114, 101, 102, 101, 114, 101, 114]⟩, ⟨#[]⟩),
  (⟨#[114, 101, 102, 114, 101, 115, 104]⟩, ⟨#[]⟩),
  (⟨#[114, 101, 116, 114, 121, 45, 97, 102, 116, 101, 114]⟩, ⟨#[]⟩),
  (⟨#[115, 101, 114, 118, 101, 114]⟩, ⟨#[]⟩),
  (⟨#[115, 101, 116, 45, 99, 111, 111, 107, 105, 101]⟩, ⟨#[]⟩),
  (⟨#[115, 116, 114, 105, 99, 116, 45, 116, 114, 97, 110, 115, 112, 111, 114, 116, 45, 115, 101, 99, 117, 114, 105, 116, 121]⟩, ⟨#[]⟩),
  (⟨#[116, 114, 97, 110, 115, 102, 101, 114, 45, 101, 110, 99, 111, 100, 105, 110, 103]⟩, ⟨#[]⟩),
  (⟨#[117, 115, 101, 114, 45, 97, 103, 101, 110, 116]⟩, ⟨#[]⟩),
  (⟨#[118, 97, 114, 121]⟩, ⟨#[]⟩),
  (⟨#[118, 105, 97]⟩, ⟨#[]⟩),
  (⟨#[119, 119, 119, 45, 97, 117, 116, 104, 101, 110, 116, 105, 99, 97, 116, 101]⟩, ⟨#[]⟩)]

def fldCells : Array Value := (fld.flatMap fun p => [Value.string p.1, Value.string p.2]).toArray
def nm (i : Nat) : ByteArray := (fld.getD i ((⟨#[]⟩, ⟨#[]⟩) : ByteArray × ByteArray)).1
def vl (i : Nat) : ByteArray := (fld.getD i ((⟨#[]⟩, ⟨#[]⟩) : ByteArray × ByteArray)).2
theorem fld_length : fld.length = 61 := by decide

set_option maxRecDepth 100000 in
theorem fields_any (w : World) : Calls Tryd.prog 54 #[] w fun e w' => e = .returned (.agg fldCells) ∧ w' = w.alloc (.cells fldCells 101) := by
  have hz0 := (zero_of_info (P := Tryd.prog) (t := 101) (v := .agg (List.replicate 122 (Value.string ⟨#[]⟩)).toArray) (n := 122) (by kernel_rfl)).1
  go_enter Tryd.func54, Tryd.ntmps54
  iterate 11 go_step
  clear hz0
  refine fast_step0 62 (by kernel_rfl) ?_
  intro T hT
  have h0 : T.getD 0 undef = .pointer (some ⟨w.heap.size, 0, none⟩) := by rw [← hT]; kernel_rfl
  have h1 : T.getD 62 undef = .agg fldCells := by rw [← hT]; kernel_rfl
  clear hT
  simp only [List.drop_succ_cons, List.drop_zero]
  refine wpList_store_new rfl 101 (.tmp 0) (.tmp 62) rfl _ fldCells (by simpa [Act.eval] using h0) (by simpa [Act.eval] using h1) (by kernel_rfl) (by kernel_rfl) (by kernel_rfl) rfl ?_
  iterate 4 go_step
  have hr : (results Tryd.f54 T).run Tryd.prog (w.alloc (.cells fldCells 101)) = .ok (.agg fldCells) (w.alloc (.cells fldCells 101)) :=
    results_cell_row (p := 0) rfl T _ w.heap.size 101 fldCells (0, 0) (.array 61 46) h0 (heap_alloc_new _ _) (by kernel_rfl) rfl (by kernel_rfl)
  exact bodyPost_ret hr rfl ⟨rfl, rfl⟩

theorem index_fld (i : Nat) (hi : i < 61) (w : World) : (Instr.index 101 (.agg fldCells) (.int .i64 i)).run Tryd.prog w = .ok (.agg #[.string (nm i), .string (vl i)]) w := by
  rw [run_index_agg 101 46 61 2 (by kernel_rfl) (by kernel_rfl) (by kernel_rfl) _ _ i hi]
  have hl : fld.length = 61 := fld_length
  have := flat_two (fun p : ByteArray × ByteArray => Value.string p.1) (fun p => Value.string p.2) fld i (fld.getD i (⟨#[]⟩, ⟨#[]⟩)) (by rw [List.getD_eq_getElem?_getD, List.getElem?_eq_getElem (by omega)]; rfl)
  unfold fldCells
  rw [this]; rfl

attribute [irreducible] fldCells

/-- What Find comes to. -/
def findGo (n v : ByteArray) : Nat → Nat → List (ByteArray × ByteArray) → Nat × Bool
  | _, named, [] => (named, false)
  | i, named, p :: r => if p.1 = n ∧ p.2 = v then (i + 1, true) else findGo n v (i + 1) (if named = 0 ∧ p.1 = n then i + 1 else named) r
def findS (n v : ByteArray) : Nat × Bool := findGo n v 0 0 fld

theorem drop_fld (k : Nat) (hk : k < 61) : fld.drop k = (nm k, vl k) :: fld.drop (k + 1) := by
  have hl := fld_length
  rw [List.drop_eq_getElem_cons (by omega)]
  congr 1
  simp [nm, vl, List.getD_eq_getElem?_getD, List.getElem?_eq_getElem (show k < fld.length by omega)]

theorem findGo_hit {n v : ByteArray} {k c : Nat} {z : Nat × Bool} (hk : k < 61) (h : findGo n v k c (fld.drop k) = z) (h1 : (nm k).toList = n.toList) (h2 : (vl k).toList = v.toList) : z = (k + 1, true) := by
  rw [drop_fld k hk, findGo, if_pos ⟨bytes_ext h1, bytes_ext h2⟩] at h
  exact h.symm
theorem findGo_miss {n v : ByteArray} {k c : Nat} {z : Nat × Bool} (hk : k < 61) (h : findGo n v k c (fld.drop k) = z) (hn : ¬((nm k).toList = n.toList ∧ (vl k).toList = v.toList)) (c' : Nat) (hc : c' = if c = 0 ∧ (nm k).toList = n.toList then k + 1 else c) :
    findGo n v (k + 1) c' (fld.drop (k + 1)) = z := by
  rw [drop_fld k hk, findGo, if_neg (fun e => hn ⟨by rw [← e.1], by rw [← e.2]⟩)] at h
  rw [hc]
  have e1 : ((nm k).toList = n.toList) = (nm k = n) := propext ⟨bytes_ext, fun e => by rw [e]⟩
  simpa only [e1] using h

set_option maxHeartbeats 1000000 in
theorem find_any (n v : ByteArray) (w : World) : Calls Tryd.prog 35 #[.agg #[.string n, .string v]] w fun e w' => (e = .returned (.tuple #[.int .i64 (findS n v).1, .bool (findS n v).2])) ∧ Below w.heap.size w w' := by
  have hix := index_fld
  obtain ⟨z, hz⟩ : ∃ z, findS n v = z := ⟨_, rfl⟩
  rw [hz]
  have HZ := Lib.hid hz
  clear hz
  go_enter Tryd.func35, Tryd.ntmps35
  go_wp2_with (first
    | (go_at_call 54; refine (fields_any _).mono ?_; rintro e w' ⟨rfl, rfl⟩))
  go_loopw [4, 8] (fun m i wr => ∃ k c : Nat, k ≤ 61 ∧ c ≤ 61 ∧ i = .int .i64 k ∧ m = .int .i64 c ∧ Hid (findGo n v k c (fld.drop k) = z) ∧ Below w.heap.size w wr ∧ w.heap.size < wr.heap.size ∧
      wr.cell? ⟨w.heap.size, 0, none⟩ = some (.string n) ∧ wr.cell? ⟨w.heap.size, 1, none⟩ = some (.string v))
    (fun _ i _ => 61 - (intOf i).toNat)
  case atStart => exact ⟨0, 0, by omega, by omega, rfl, rfl, HZ, ((Below.refl _ _).alloc (Nat.le_refl _) _).alloc (by simp) _, by simp only [World.size_alloc]; omega, by simp, by simp⟩
  case round =>
    obtain ⟨k, c, hk, hc, rfl, rfl, hg, hb, hsz, h0, h1⟩ := hrel
    have hs2 : w.heap.size ≤ wr.heap.size := hb.size
    by_cases hlt : k < 61
    · have hlt' : (k : Int) < 61 := by omega
      go_wp2
      · have e := findGo_hit hlt hg.out ‹_› ‹_›
        go_ret2
        exact ⟨by rw [e]; rfl, (hb.alloc hs2 _)⟩
      · go_roundw
        case rel => exact ⟨k + 1, k + 1, by omega, by omega, by go_num, by go_num, findGo_miss hlt hg.out (fun h => absurd h.2 ‹_›) (k + 1) (by rw [if_pos ⟨‹_›, ‹_›⟩]), hb.alloc hs2 _, by simp only [World.size_alloc]; omega, by rw [World.cell?_alloc_lt _ _ _ hsz]; exact h0, by rw [World.cell?_alloc_lt _ _ _ hsz]; exact h1⟩
        case measure => simp [intOf]; omega
      · go_roundw
        case rel => exact ⟨k + 1, c, by omega, hc, by go_num, by go_num, findGo_miss hlt hg.out (fun h => absurd h.2 ‹_›) c (by rw [if_neg (fun h => absurd h.1 ‹_›)]), hb.alloc hs2 _, by simp only [World.size_alloc]; omega, by rw [World.cell?_alloc_lt _ _ _ hsz]; exact h0, by rw [World.cell?_alloc_lt _ _ _ hsz]; exact h1⟩
        case measure => simp [intOf]; omega
      · exfalso
        have e := eq_of_beq ‹((nm k).toList == n.toList) = true›
        contradiction
      · go_roundw
        case rel => exact ⟨k + 1, c, by omega, hc, by go_num, by go_num, findGo_miss hlt hg.out (fun h => absurd h.1 ‹_›) c (by rw [if_neg (fun h => absurd h.2 ‹_›)]), hb.alloc hs2 _, by simp only [World.size_alloc]; omega, by rw [World.cell?_alloc_lt _ _ _ hsz]; exact h0, by rw [World.cell?_alloc_lt _ _ _ hsz]; exact h1⟩
        case measure => simp [intOf]; omega
      · go_roundw
        case rel => exact ⟨k + 1, c, by omega, hc, by go_num, by go_num, findGo_miss hlt hg.out (fun h => absurd h.1 ‹_›) c (by rw [if_neg (fun h => absurd h.1 ‹_›)]), hb.alloc hs2 _, by simp only [World.size_alloc]; omega, by rw [World.cell?_alloc_lt _ _ _ hsz]; exact h0, by rw [World.cell?_alloc_lt _ _ _ hsz]; exact h1⟩
        case measure => simp [intOf]; omega
    · go_wp2
      go_ret2
      have hk' : k = 61 := by omega
      have e : z = (c, false) := by
        have := hg.out
        rw [hk', List.drop_of_length_le (by rw [fld_length]; omega)] at this
        exact this.symm
      subst e
      exact ⟨rfl, hb⟩

/-- What Get comes to. -/
def getN (i : Int) : ByteArray := if 1 ≤ i ∧ i ≤ 61 then nm (i.toNat - 1) else ⟨#[]⟩
def getV (i : Int) : ByteArray := if 1 ≤ i ∧ i ≤ 61 then vl (i.toNat - 1) else ⟨#[]⟩
def getE (i : Int) : Int := if 1 ≤ i ∧ i ≤ 61 then 0 else 5
set_option maxHeartbeats 1000000 in
theorem get_any (i : Int) (w : World) (hi : -9223372036854775808 ≤ i ∧ i ≤ 9223372036854775807) : Calls Tryd.prog 65 #[.int .i64 i] w fun e w' => e = .returned (.tuple #[.agg #[.string (getN i), .string (getV i)], .int .i64 (getE i)]) ∧ Below w.heap.size w w' := by
  have hix := index_fld
  obtain ⟨n, hn⟩ : ∃ n, getN i = n := ⟨_, rfl⟩
  obtain ⟨v, hv⟩ : ∃ v, getV i = v := ⟨_, rfl⟩
  obtain ⟨c, hc⟩ : ∃ c, getE i = c := ⟨_, rfl⟩
  rw [hn, hv, hc]
  by_cases h : 1 ≤ i ∧ i ≤ 61
  · obtain ⟨h1, h2⟩ := h
    rw [getN, if_pos ⟨h1, h2⟩] at hn
    rw [getV, if_pos ⟨h1, h2⟩] at hv
    rw [getE, if_pos ⟨h1, h2⟩] at hc
    subst hn hv hc
    obtain ⟨k, rfl⟩ : ∃ k : Nat, i = (k : Int) + 1 := ⟨i.toNat - 1, by omega⟩
    have hk : k < 61 := by omega
    go_enter Tryd.func65, Tryd.ntmps65
    go_wp2_with (first
      | (go_at_call 54; refine (fields_any _).mono ?_; rintro e w' ⟨rfl, rfl⟩))
    exact bodyPost_ret (v := .tuple #[.agg #[.string (nm k), .string (vl k)], .int .i64 0]) (by simp [results, Tryd.results65, go_sem]) rfl ⟨by simp, (((Below.refl _ _).alloc (Nat.le_refl _) _).alloc (by simp) _)⟩
  · rw [getN, if_neg h] at hn
    rw [getV, if_neg h] at hv
    rw [getE, if_neg h] at hc
    subst hn hv hc
    rcases (show i < 1 ∨ 1 ≤ i from by omega) with h1 | h1
    · go_enter Tryd.func65, Tryd.ntmps65
      go_wp2
      exact bodyPost_ret (v := .tuple #[.agg #[.string ⟨#[]⟩, .string ⟨#[]⟩], .int .i64 5]) (by simp [results, Tryd.results65, go_sem]) rfl ⟨rfl, (Below.refl _ _).alloc (Nat.le_refl _) _⟩
    · have h2 : 61 < i := by omega
      go_enter Tryd.func65, Tryd.ntmps65
      go_wp2
      exact bodyPost_ret (v := .tuple #[.agg #[.string ⟨#[]⟩, .string ⟨#[]⟩], .int .i64 5]) (by simp [results, Tryd.results65, go_sem]) rfl ⟨rfl, (Below.refl _ _).alloc (Nat.le_refl _) _⟩
end Go.Proofs.YtfkpeahelhpelaaDoor
