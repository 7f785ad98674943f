/- The Huffman code's table by codes (layer 4): what texts() makes, and what a look-up in it comes to. -/
import Derived.Test.YtfkpeahelhpelaaDoorHuff
import Derived.Test.YtfkpeahelhpelaaDoorMapKey
namespace Go.Proofs.YtfkpeahelhpelaaDoor
set_option linter.all false
open Go.RowKit

def codeAt (c : Nat) : Nat := codesL.getD c 0
theorem codes_length : codesL.length = 257 := by decide +kernel
theorem pairs_nodup : (codesL.zip lens).Nodup := by decide +kernel
theorem pair_ne (i j : Nat) (hi : i < 257) (hj : j < 257) (h : codeAt i = codeAt j) (h' : lenAt i = lenAt j) : i = j := by
  have hl := codes_length
  have hl2 := lens_length
  have hz : (codesL.zip lens).length = 257 := by rw [List.length_zip, hl, hl2]; rfl
  refine (List.getElem?_inj (by omega) pairs_nodup).1 ?_
  rw [List.getElem?_eq_getElem (by omega), List.getElem?_eq_getElem (by omega), List.getElem_zip, List.getElem_zip]
  simp only [codeAt, lenAt, List.getD_eq_getElem?_getD, List.getElem?_eq_getElem (show i < codesL.length by omega), List.getElem?_eq_getElem (show j < codesL.length by omega), List.getElem?_eq_getElem (show i < lens.length by omega), List.getElem?_eq_getElem (show j < lens.length by omega), Option.getD_some] at h h'
  rw [h, h']
theorem codes_index (c : Nat) (hc : c < 257) (w : World) : (Instr.index 128 (.agg (ints codesL)) (.int .i64 c)).run Tryd.prog w = .ok (.int .i64 (codeAt c : Int)) w :=
  run_index_plain 128 3 257 (by kernel_rfl) (by kernel_rfl) (by kernel_rfl) _ _ c hc _ (ints_get codesL c (by rw [codes_length]; exact hc)) w

def keyV (a b : Nat) : Value := .agg #[.int .i64 (a : Int), .int .i64 (b : Int)]
def keyPart (j : Nat) (v : Value) : Int := intOf (v.cells.getD j undef)
theorem keyPart0 (a b : Nat) : keyPart 0 (keyV a b) = a := rfl
theorem keyPart1 (a b : Nat) : keyPart 1 (keyV a b) = b := rfl
def tabEntry (i : Nat) : MapEntry := { key := keyV (codeAt i) (lenAt i), val := .int .i64 (i : Int), born := i }
def tabE (k : Nat) : Array MapEntry := ((List.range k).map tabEntry).toArray
theorem tabE_succ (k : Nat) : tabE (k + 1) = (tabE k).push (tabEntry k) := by simp [tabE, List.range_succ]
theorem mem_tabE {k : Nat} {e : MapEntry} (h : e ∈ (tabE k).toList) : ∃ i, i < k ∧ e = tabEntry i := by
  simp only [tabE, List.mem_map, List.mem_range] at h
  obtain ⟨i, hi, rfl⟩ := h
  exact ⟨i, hi, rfl⟩

theorem key_equal (a b c d : Nat) (w : World) : (Op.equal 125 (keyV a b) (keyV c d)).run Tryd.prog w = .ok (((a : Int) == c) && ((b : Int) == d)) w := by
  have h1 : (Op.equalIn 10000 125 (keyV a b) (keyV c d)).run Tryd.prog w = (Op.eqFields 9999 #[.int .i64 (a : Int), .int .i64 (b : Int)] #[.int .i64 (c : Int), .int .i64 (d : Int)] (Tryd.prog.fieldsOf 125).toList).run Tryd.prog w :=
    run_equalIn_agg w 9999 125 _ _ (by kernel_rfl) (by kernel_rfl)
  show (Op.equalIn 10000 125 (keyV a b) (keyV c d)).run Tryd.prog w = _
  rw [h1]
  go_simp
  by_cases h : (a : Int) = c <;> by_cases h' : (b : Int) = d <;> simp [h, h']
theorem key_check (b : Bool) (a c : Nat) (w : World) : (Instr.checkKey b 10000 125 (keyV a c)).run Tryd.prog w = .ok () w := by kernel_rfl

theorem tab_update (k M : Nat) (hk : k < 257) (w : World) (hM : w.heap[M]? = some (.map (tabE k) k)) :
    (Instr.mapUpdate 122 (.map (some M)) (.agg #[.int .i64 (codeAt k : Int), .int .i64 (lenAt k : Int)]) (.int .i64 (k : Int))).run Tryd.prog w = .ok () (w.putObj M (.map (tabE (k + 1)) (k + 1))) := by
  have := run_mapUpdate_new (P := Tryd.prog) (T := 122) (K := 125) (E := 3) (w := w) (by kernel_rfl) (by kernel_rfl) hM (fun b => key_check b (codeAt k) (lenAt k) w) (fun e he => by
    obtain ⟨i, hi, rfl⟩ := mem_tabE he
    refine (key_equal (codeAt k) (lenAt k) (codeAt i) (lenAt i) w).trans ?_
    congr 1
    by_cases h : (codeAt k : Int) = codeAt i <;> by_cases h' : (lenAt k : Int) = lenAt i
    · exact absurd (pair_ne k i hk (by omega) (by omega) (by omega)) (by omega)
    · simp [h']
    · simp [h]
    · simp [h]) (.int .i64 (k : Int))
  rw [tabE_succ]
  exact this

set_option maxRecDepth 100000 in
set_option maxHeartbeats 4000000 in
theorem texts_any (w : World) (hL : LaidLens w) : Calls Tryd.prog 82 #[] w fun e w' => ∃ M, e = .returned (.map (some M)) ∧ w'.heap[M]? = some (.map (tabE 257) 257) ∧ w.heap.size ≤ M ∧ Below w.heap.size w w' := by
  have hmm := @run_makeMap Tryd.prog
  have hix := codes_index
  go_enter Tryd.func82, Tryd.ntmps82
  go_wp2_with fail
  clear hmm
  refine (codes_any _ (hL.below (bl_alloc (Below.refl _ _) _))).mono ?_
  rintro e w1 ⟨rfl, hb1⟩
  have hM := blk_below (heap_alloc_new w (.map #[] 0)) hb1
  have hbl := bl_then (bl_alloc (Below.refl _ w) (.map #[] 0)) hb1
  go_wp2_with fail
  go_loopw [6] (fun c wr => ∃ k : Nat, k ≤ 257 ∧ c = .int .i64 k ∧ wr.heap[w.heap.size]? = some (.map (tabE k) k) ∧ Below w.heap.size w wr) (fun c _ => 257 - (intOf c).toNat)
  case atStart => exact ⟨0, by omega, rfl, hM, hbl⟩
  case round =>
    obtain ⟨k, hk, rfl, h0, hb⟩ := hrel
    clear hM hbl hb1
    by_cases hlt : k < 257
    · have hlt' : (k : Int) < 257 := by omega
      have hk0 : (0 : Int) ≤ k := by omega
      have hcell := (hL.below hb) k _ (ints_get lens k (by rw [lens_length]; exact hlt))
      rw [show lens.getD k 0 = lenAt k from rfl] at hcell
      have hup := tab_update k w.heap.size hlt wr h0
      go_wp2_with fail
      go_roundw
      case rel => exact ⟨k + 1, by omega, by go_num, World.putObj_heap_same (blk_lt h0), bl_putObj hb (Nat.le_refl _) _⟩
      case measure => simp [intOf]; omega
    · obtain rfl : k = 257 := by omega
      go_wp2_with fail
      go_ret
      exact ⟨_, rfl, h0, Nat.le_refl _, hb⟩

/-- The byte, or the end, of a code. -/
def fitGo (a b : Int) : Nat → Nat → Option Nat
  | 0, _ => none
  | d + 1, i => if (codeAt i : Int) = a ∧ (lenAt i : Int) = b then some i else fitGo a b d (i + 1)
def fit (a b : Int) : Option Nat := fitGo a b 257 0
theorem fitGo_lt (a b : Int) : ∀ (d i c : Nat), fitGo a b d i = some c → c < i + d := by
  intro d
  induction d with
  | zero => intro i c h; cases h
  | succ d ih =>
    intro i c h
    simp only [fitGo] at h
    split at h
    · cases h; omega
    · have := ih _ _ h; omega
theorem fit_lt {a b : Int} {c : Nat} (h : fit a b = some c) : c < 257 := by have := fitGo_lt a b 257 0 c h; omega
def keyI (a b : Int) : Value := .agg #[.int .i64 a, .int .i64 b]
theorem keyI_equal (a b : Int) (c d : Nat) (w : World) : (Op.equal 125 (keyI a b) (keyV c d)).run Tryd.prog w = .ok ((a == c) && (b == d)) w := by
  have h1 : (Op.equalIn 10000 125 (keyI a b) (keyV c d)).run Tryd.prog w = (Op.eqFields 9999 #[.int .i64 a, .int .i64 b] #[.int .i64 (c : Int), .int .i64 (d : Int)] (Tryd.prog.fieldsOf 125).toList).run Tryd.prog w :=
    run_equalIn_agg w 9999 125 _ _ (by kernel_rfl) (by kernel_rfl)
  show (Op.equalIn 10000 125 (keyI a b) (keyV c d)).run Tryd.prog w = _
  rw [h1]
  go_simp
  by_cases h : a = c <;> by_cases h' : b = d <;> simp [h, h']
theorem keyI_check (b : Bool) (a c : Int) (w : World) : (Instr.checkKey b 10000 125 (keyI a c)).run Tryd.prog w = .ok () w := by kernel_rfl
theorem firstFit_tab (a b : Int) : ∀ (d i : Nat) (l : List Nat), l = List.range' i d →
    firstFit (fun e => (a == keyPart 0 e.key) && (b == keyPart 1 e.key)) (l.map tabEntry) i = (fitGo a b d i).map fun c : Nat => (c, Value.int .i64 (c : Int)) := by
  intro d
  induction d with
  | zero => intro i l hl; subst hl; rfl
  | succ d ih =>
    intro i l hl
    subst hl
    rw [List.range'_succ, List.map_cons, firstFit, fitGo]
    simp only [tabEntry, keyPart0, keyPart1]
    by_cases h : (codeAt i : Int) = a ∧ (lenAt i : Int) = b
    · have hc : ((a == (codeAt i : Int)) && (b == (lenAt i : Int))) = true := by rw [h.1, h.2]; simp
      rw [if_pos h]
      simp only [hc]
      rfl
    · have hc : ¬ ((a == (codeAt i : Int)) && (b == (lenAt i : Int))) = true := fun hc => h (by
        simp only [Bool.and_eq_true, beq_iff_eq] at hc
        exact ⟨hc.1.symm, hc.2.symm⟩)
      rw [if_neg h]
      simp only [Bool.eq_false_iff.2 hc]
      exact ih (i + 1) _ rfl
theorem tab_lookup (a b : Int) (M : Nat) (w : World) (hM : w.heap[M]? = some (.map (tabE 257) 257)) :
    (Instr.lookup 122 (.map (some M)) (.agg #[.int .i64 a, .int .i64 b]) true).run Tryd.prog w = .ok (.tuple #[.int .i64 (((fit a b).getD 0 : Nat) : Int), .bool (fit a b).isSome]) w := by
  have := run_lookup_struct (P := Tryd.prog) (T := 122) (K := 125) (E := 3) (w := w) (k := keyI a b) (by kernel_rfl) (by kernel_rfl) hM (fun c => keyI_check c a b w)
    (p := fun e => (a == keyPart 0 e.key) && (b == keyPart 1 e.key))
    (fun e he => by
      obtain ⟨i, hi, rfl⟩ := mem_tabE he
      exact keyI_equal a b (codeAt i) (lenAt i) w) (.int .i64 0) (by kernel_rfl)
  refine this.trans ?_
  have e : (tabE 257).toList = (List.range' 0 257).map tabEntry := by simp [tabE, List.range_eq_range']
  rw [e, firstFit_tab a b 257 0 _ rfl]
  show _ = Result.ok (Value.tuple #[.int .i64 (((fitGo a b 257 0).getD 0 : Nat) : Int), .bool (fitGo a b 257 0).isSome]) w
  cases fitGo a b 257 0 <;> rfl
end Go.Proofs.YtfkpeahelhpelaaDoor
