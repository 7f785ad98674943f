/- Text in a literal (layer 5): what literal.Decode comes to. -/
import Derived.Test.YtfkpeahelhpelaaDoorPrefix
import Derived.Test.YtfkpeahelhpelaaDoorHdec
import Derived.Laws.BytesString
namespace Go.Proofs.YtfkpeahelhpelaaDoor
set_option linter.all false
open Go.RowKit
attribute [local go_sem] Oper.semAt_some

/-- A text's value. -/
def strB (l : List UInt8) : ByteArray := ⟨l.toArray⟩
def strV (l : List UInt8) : Value := .string (strB l)
theorem fold_push : ∀ (l : List UInt8) (r : ByteArray), (l.map fun b => ((b.toNat : Nat) : Int)).foldl (fun r n => r.push (UInt8.ofNat n.toNat)) r = ⟨r.data ++ l.toArray⟩
  | [], r => by simp
  | b :: l, r => by
    rw [List.map_cons, List.foldl_cons, fold_push l]
    simp [ByteArray.push]
theorem run_bytes_str {P : Program} {w : World} {Q : Nat → Prop} {A : Option Addr} {l : List UInt8} (hb : Bytes w Q A l) (c : Nat) : (Conv.bytesToString (.slice A l.length c)).run P w = .ok (strV l) w := by
  cases l with
  | nil =>
    cases A with
    | none => simp [Conv.bytesToString, strV, strB, Sem.run_pure]; rfl
    | some a =>
      have := run_bytesToString (P := P) w a 0 c [] (by simp [loadCells, loadCellsFrom, Sem.run_pure])
      exact this
  | cons b l =>
    obtain ⟨g, off, rfl, -, hc⟩ := hb (by simp)
    have hl : (loadCells ⟨g, off, none⟩ ((b :: l).map bv).length).run P w = .ok ((b :: l).map bv).toArray w :=
      run_loadCells_list (P := P) w ⟨g, off, none⟩ _ (fun j v hv => by
        have hadd : (⟨g, off, none⟩ : Addr).add j = ⟨g, off + j, none⟩ := by unfold Addr.add; split <;> simp_all
        rw [hadd]
        rw [List.getElem?_map] at hv
        cases hq : (b :: l)[j]? with
        | none => rw [hq] at hv; cases hv
        | some x =>
          rw [hq] at hv
          have hj := (List.getElem?_eq_some_iff.1 hq).1
          rw [hc j hj, List.getD_eq_getElem?_getD, hq]
          exact hv)
    rw [List.length_map] at hl
    have := run_bytesToString (P := P) w ⟨g, off, none⟩ (b :: l).length c ((b :: l).map fun b => ((b.toNat : Nat) : Int)) (by rw [hl, List.map_map]; rfl)
    rw [this, fold_push]
    simp [strV, strB]
theorem ex_str {w : World} {Q : Nat → Prop} {A : Option Addr} {l : List UInt8} (hb : Bytes w Q A l) (c : Nat) (ev : Operand → Value) (o : Oper) (x : Operand) (hx : ev x = .slice A l.length c) (ho : o.op = .convert 30 9 x := by rfl) :
    (execOp ev o).run Tryd.prog w = .ok (.value (strV l)) w := by
  unfold execOp
  simp only [ho, hx, Sem.run_bind, run_convert_bytes_string (P := Tryd.prog) w 30 9 5 A l.length c (by kernel_rfl) (by kernel_rfl) (by kernel_rfl), run_bytes_str hb c, Result.andThen_ok, Sem.run_pure]

def ltd (l : List UInt8) (most : Int) : List UInt8 × Nat × Nat :=
  if (pdec 7 l).2.2 ≠ 0 then ([], 0, (pdec 7 l).2.2)
  else if l.length < (pdec 7 l).2.1 + (pdec 7 l).1 then ([], 0, 2)
  else if (l.getD 0 0).toNat < 128 then
    if max most 0 < ((pdec 7 l).1 : Int) then ([], 0, 4) else ((l.drop (pdec 7 l).2.1).take (pdec 7 l).1, (pdec 7 l).2.1 + (pdec 7 l).1, 0)
  else if (hdec most ((l.drop (pdec 7 l).2.1).take (pdec 7 l).1)).2 ≠ 0 then ([], 0, (hdec most ((l.drop (pdec 7 l).2.1).take (pdec 7 l).1)).2)
  else ((hdec most ((l.drop (pdec 7 l).2.1).take (pdec 7 l).1)).1, (pdec 7 l).2.1 + (pdec 7 l).1, 0)

theorem pdecGo_facts : ∀ (f : Nat) (r : List UInt8) (n a : Nat), n ≤ 16777215 → (pdecGo f r n a).1 ≤ 16777215 ∧ (pdecGo f r n a).2.2 ≤ 3 ∧ ((pdecGo f r n a).2.2 = 0 → a < (pdecGo f r n a).2.1 ∧ (pdecGo f r n a).2.1 ≤ a + r.length ∧ (pdecGo f r n a).2.1 ≤ a + f) ∧ (pdecGo f r n a).2.1 ≤ a + f
  | 0, r, n, a, h => by simp [pdecGo]
  | f + 1, [], n, a, h => by simp [pdecGo]
  | f + 1, c :: r, n, a, h => by
    simp only [pdecGo]
    split
    · simp
    · split
      · obtain ⟨h1, h2, h3, h4⟩ := pdecGo_facts f r (n + (c.toNat % 128) * 2 ^ (7 * (a - 1))) (a + 1) (by omega)
        refine ⟨h1, h2, fun h0 => ?_, by omega⟩
        have := h3 h0
        simp only [List.length_cons]
        omega
      · simp only [List.length_cons]
        omega
theorem pdec_facts (nb : Nat) (hnb : nb ≤ 8) (l : List UInt8) : (pdec nb l).1 ≤ 16777215 ∧ (pdec nb l).2.2 ≤ 3 ∧ ((pdec nb l).2.2 = 0 → 0 < (pdec nb l).2.1 ∧ (pdec nb l).2.1 ≤ l.length) ∧ (pdec nb l).2.1 ≤ 5 := by
  have h2 : 2 ^ nb ≤ 2 ^ 8 := Nat.pow_le_pow_right (by omega) hnb
  cases l with
  | nil => simp [pdec]
  | cons c r =>
    simp only [pdec]
    split
    · simp only [List.length_cons]
      omega
    · obtain ⟨h1, h2, h3, h4⟩ := pdecGo_facts 4 r (2 ^ nb - 1) 1 (by omega)
      refine ⟨h1, h2, fun h0 => ?_, by omega⟩
      have := h3 h0
      simp only [List.length_cons]
      omega

theorem bytes_own {W : World} {B n c : Nat} {va : Option Addr} {l : List UInt8} (h : W.ownsRow B 5 1 (.slice va n c) l.length (l.map bv)) : Bytes W (fun _ => True) va l := by
  intro hl
  rcases h.2 with ⟨hv, h0⟩ | ⟨g, cap, cur, hv, -, hg, -, -, -, ht⟩
  · omega
  · cases hv
    refine ⟨g, 0, rfl, trivial, fun j hj => ?_⟩
    rw [Nat.zero_add, cell_of_row _ _ _ _ _ _ hg]
    have : (cur.toList.take (l.length * 1))[j]? = (l.map bv)[j]? := by rw [ht]
    rw [Nat.mul_one, List.getElem?_take_of_lt hj, List.getElem?_map, List.getElem?_eq_getElem hj] at this
    rw [← Array.getElem?_toList, this, List.getD_eq_getElem?_getD, List.getElem?_eq_getElem hj]
    rfl
set_option maxRecDepth 100000 in
set_option maxHeartbeats 2000000 in
theorem ltd_any (A : Option Addr) (l : List UInt8) (c : Nat) (most : Int) (w : World) {P : Nat → Prop} (hb : Bytes w P A l) (hc : l.length ≤ c) (hcm : c ≤ 9223372036854775807) (hl : l.length ≤ 17592186044415) (hL : LaidLens w) :
    Calls Tryd.prog 63 #[.slice A l.length c, .int .i64 most] w fun e w' => e = .returned (.tuple #[strV (ltd l most).1, .int .i64 ((ltd l most).2.1 : Nat), .int .i64 ((ltd l most).2.2 : Nat)]) ∧ Below w.heap.size w w' := by
  obtain ⟨f1, f2, f3, f4⟩ := pdec_facts 7 (by omega) l
  obtain ⟨sp, hsp⟩ : ∃ sp, sp = ltd l most := ⟨_, rfl⟩
  rw [← hsp]
  rw [ltd] at hsp
  have hp := pdec_any A l c 7 w hb hc (by omega) (by omega)
  generalize hn : (pdec 7 l).1 = n at *
  generalize hat : (pdec 7 l).2.1 = at_ at *
  generalize he : (pdec 7 l).2.2 = e at *
  have hsp' := Lib.hid hsp
  clear hsp hn hat he
  by_cases h0 : e = 0
  · subst h0
    obtain ⟨f5, f6⟩ := f3 rfl
    clear f3 f2
    have i1 : (0 : Int) < at_ := by omega
    have i2 : (at_ : Int) ≤ 5 := by omega
    have i3 : (n : Int) ≤ 16777215 := by omega
    by_cases h1 : l.length < at_ + n
    · have j1 : (l.length : Int) - at_ < n := by omega
      go_enter Tryd.func63, Tryd.ntmps63
      go_wp2_with fail
      refine hp.mono ?_
      rintro e w1 ⟨rfl, rfl⟩
      go_wp2_with fail
      refine bodyPost_ret (v := .tuple #[strV [], .int .i64 0, .int .i64 2]) (by simp [results, Tryd.results63, go_sem, strV, strB]) rfl ⟨?_, Below.refl _ _⟩
      rw [hsp'.out, if_neg (by simp), if_pos h1]
      rfl
    · have j1 : ¬ (l.length : Int) - at_ < n := by omega
      obtain ⟨b, off, rfl, -, hcell⟩ := id hb (by omega)
      have hq := hcell 0 (by omega)
      rw [Nat.add_zero] at hq
      obtain ⟨c0, hc0⟩ : ∃ c0, c0 = (l.getD 0 0).toNat := ⟨_, rfl⟩
      rw [← hc0] at hq hsp'
      clear hc0
      obtain ⟨m, hm⟩ : ∃ m, m = (l.drop at_).take n := ⟨_, rfl⟩
      rw [← hm] at hsp'
      have hlen : m.length = n := by rw [hm, List.length_take, List.length_drop]; omega
      have hb2 := (hb.drop at_ c f6 hc).take n (by rw [List.length_drop]; omega)
      rw [← hm] at hb2
      replace hb := Lib.hid hb
      replace hcell := Lib.hid hcell
      clear hm
      subst hlen
      by_cases hca : c = at_
      · rw [if_pos hca] at hb2
        have hb' := hb2
        have hca' := hca.symm
        subst hca'
        by_cases h2 : c0 < 128
        · have j2 : (c0 : Int) < 128 := by omega
          by_cases h3 : max most 0 < (m.length : Int)
          · exfalso
            omega
          · have j3 : ¬ (if most < 0 then (0 : Int) else most) < m.length := by split <;> omega
            replace h3 := Lib.hid h3
            go_enter Tryd.func63, Tryd.ntmps63
            go_wp2_with fail
            refine hp.mono ?_
            rintro e w1 ⟨rfl, rfl⟩
            go_wp2_with ((with_reducible refine at_convert 30 9 ?_); (try simp only [Nat.add_sub_cancel_left]); refine wl_val rfl (ex_str hb' _ _ _ _ rfl) ?_)
            all_goals
              refine bodyPost_ret (v := .tuple #[strV m, .int .i64 ((at_ : Int) + m.length), .int .i64 0]) (by simp [results, Tryd.results63, go_sem, strV, strB]) rfl ⟨?_, Below.refl _ _⟩
              rw [hsp'.out, if_neg (by simp), if_neg h1, if_pos h2, if_neg (Int.not_lt.2 h3.out)]
              simp
        · have j2 : ¬ (c0 : Int) < 128 := by omega
          go_enter Tryd.func63, Tryd.ntmps63
          go_wp2_with fail
          refine hp.mono ?_
          rintro e w1 ⟨rfl, rfl⟩
          go_wp2_with fail
          try simp only [Nat.add_sub_cancel_left]
          refine (hdec_any _ m _ most _ hb' (by omega) (by omega) hL).mono ?_
          rintro e w1 ⟨v, rfl, hv, hbl⟩
          obtain ⟨dx, hdx⟩ : ∃ dx, dx = hdec most m := ⟨_, rfl⟩
          rw [← hdx] at hsp' hv ⊢
          clear hdx
          by_cases h4 : dx.2 = 0
          · have j4 : ((dx.2 : Nat) : Int) = 0 := by omega
            obtain ⟨va, vc, rfl, hvc⟩ := own_shape hv
            have hv' := bytes_own hv
            replace hv := Lib.hid hv
            go_wp2_with ((with_reducible refine at_convert 30 9 ?_); refine wl_val rfl (ex_str hv' _ _ _ _ rfl) ?_)
            refine bodyPost_ret (v := .tuple #[strV dx.1, .int .i64 ((at_ : Int) + m.length), .int .i64 0]) (by simp [results, Tryd.results63, go_sem, strV, strB]) rfl ⟨?_, hbl⟩
            rw [hsp'.out, if_neg (by simp), if_neg h1, if_neg h2, if_neg (by simpa using h4)]
            simp
          · have j4 : ¬ ((dx.2 : Nat) : Int) = 0 := by omega
            replace hv := Lib.hid hv
            go_wp2_with fail
            refine bodyPost_ret (v := .tuple #[strV [], .int .i64 0, .int .i64 ((dx.2 : Nat) : Int)]) (by simp [results, Tryd.results63, go_sem, strV, strB]) rfl ⟨?_, hbl⟩
            rw [hsp'.out, if_neg (by simp), if_neg h1, if_neg h2, if_pos h4]
            rfl
      · have e : (some (⟨b, off, none⟩ : Addr)).map (·.add at_) = some ⟨b, off + at_, none⟩ := by
          simp only [Option.map_some, Addr.add]
          split <;> simp_all
        rw [if_neg hca, e] at hb2
        have hb' := hb2
        have k1 : (at_ : Int) < c := by omega
        by_cases h2 : c0 < 128
        · have j2 : (c0 : Int) < 128 := by omega
          by_cases h3 : max most 0 < (m.length : Int)
          · have j3 : (if most < 0 then (0 : Int) else most) < m.length := by split <;> omega
            replace h3 := Lib.hid h3
            go_enter Tryd.func63, Tryd.ntmps63
            go_wp2_with fail
            refine hp.mono ?_
            rintro e w1 ⟨rfl, rfl⟩
            go_wp2_with fail
            all_goals
              refine bodyPost_ret (v := .tuple #[strV [], .int .i64 0, .int .i64 4]) (by simp [results, Tryd.results63, go_sem, strV, strB]) rfl ⟨?_, Below.refl _ _⟩
              rw [hsp'.out, if_neg (by simp), if_neg h1, if_pos h2, if_pos h3.out]
              rfl
          · have j3 : ¬ (if most < 0 then (0 : Int) else most) < m.length := by split <;> omega
            replace h3 := Lib.hid h3
            go_enter Tryd.func63, Tryd.ntmps63
            go_wp2_with fail
            refine hp.mono ?_
            rintro e w1 ⟨rfl, rfl⟩
            go_wp2_with ((with_reducible refine at_convert 30 9 ?_); (try simp only [Nat.add_sub_cancel_left]); refine wl_val rfl (ex_str hb' _ _ _ _ rfl) ?_)
            all_goals
              refine bodyPost_ret (v := .tuple #[strV m, .int .i64 ((at_ : Int) + m.length), .int .i64 0]) (by simp [results, Tryd.results63, go_sem, strV, strB]) rfl ⟨?_, Below.refl _ _⟩
              rw [hsp'.out, if_neg (by simp), if_neg h1, if_pos h2, if_neg (Int.not_lt.2 h3.out)]
              simp
        · have j2 : ¬ (c0 : Int) < 128 := by omega
          go_enter Tryd.func63, Tryd.ntmps63
          go_wp2_with fail
          refine hp.mono ?_
          rintro e w1 ⟨rfl, rfl⟩
          go_wp2_with fail
          try simp only [Nat.add_sub_cancel_left]
          refine (hdec_any _ m _ most _ hb' (by omega) (by omega) hL).mono ?_
          rintro e w1 ⟨v, rfl, hv, hbl⟩
          obtain ⟨dx, hdx⟩ : ∃ dx, dx = hdec most m := ⟨_, rfl⟩
          rw [← hdx] at hsp' hv ⊢
          clear hdx
          by_cases h4 : dx.2 = 0
          · have j4 : ((dx.2 : Nat) : Int) = 0 := by omega
            obtain ⟨va, vc, rfl, hvc⟩ := own_shape hv
            have hv' := bytes_own hv
            replace hv := Lib.hid hv
            go_wp2_with ((with_reducible refine at_convert 30 9 ?_); refine wl_val rfl (ex_str hv' _ _ _ _ rfl) ?_)
            refine bodyPost_ret (v := .tuple #[strV dx.1, .int .i64 ((at_ : Int) + m.length), .int .i64 0]) (by simp [results, Tryd.results63, go_sem, strV, strB]) rfl ⟨?_, hbl⟩
            rw [hsp'.out, if_neg (by simp), if_neg h1, if_neg h2, if_neg (by simpa using h4)]
            simp
          · have j4 : ¬ ((dx.2 : Nat) : Int) = 0 := by omega
            replace hv := Lib.hid hv
            go_wp2_with fail
            refine bodyPost_ret (v := .tuple #[strV [], .int .i64 0, .int .i64 ((dx.2 : Nat) : Int)]) (by simp [results, Tryd.results63, go_sem, strV, strB]) rfl ⟨?_, hbl⟩
            rw [hsp'.out, if_neg (by simp), if_neg h1, if_neg h2, if_pos h4]
            rfl
  · go_enter Tryd.func63, Tryd.ntmps63
    go_wp2_with fail
    refine hp.mono ?_
    rintro e w1 ⟨rfl, rfl⟩
    have j0 : ¬ (e : Int) = 0 := by omega
    go_wp2_with fail
    refine bodyPost_ret (v := .tuple #[strV [], .int .i64 0, .int .i64 (e : Int)]) (by simp [results, Tryd.results63, go_sem, strV, strB]) rfl ⟨?_, Below.refl _ _⟩
    rw [hsp'.out, if_pos h0]
    rfl
end Go.Proofs.YtfkpeahelhpelaaDoor
