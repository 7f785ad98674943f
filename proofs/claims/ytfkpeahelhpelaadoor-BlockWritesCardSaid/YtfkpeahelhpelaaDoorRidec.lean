/- An item of a header block, the document's way (ref08.Decode): it comes to what our own comes to. -/
import Derived.Test.YtfkpeahelhpelaaDoorRltd
import Derived.Test.YtfkpeahelhpelaaDoorRef78
import Derived.Test.YtfkpeahelhpelaaDoorIdec
import Derived.Test.YtfkpeahelhpelaaDoorHeap
namespace Go.Proofs.YtfkpeahelhpelaaDoor
set_option linter.all false
open Go.RowKit
attribute [local go_sem] Oper.semAt_some

/-- An item, by its kind and its number. -/
def idecB (l : List UInt8) (k : Nat) (p : Nat × Nat × Nat) : ItemS × Nat × Nat :=
  let tx := decide (1 ≤ k ∧ k ≤ 3)
  let s1 := itext l (!tx || decide (0 < p.1)) p.2.1 p.2.2
  let s2 := itext l (!tx) s1.2.1 s1.2.2
  let e := if s2.2.2 = 0 ∧ k = 0 ∧ p.1 = 0 then 3 else s2.2.2
  if e ≠ 0 then (⟨0, 0, [], []⟩, 0, e) else (⟨k, p.1, s1.1, s2.1⟩, s2.2.1, 0)
theorem idec_b {c0 : UInt8} {r l : List UInt8} {k : Nat} (hl : l = c0 :: r) (hk : k = kindOf c0.toNat) : idec l = idecB l k (pdec (shBits k) l) := by
  subst hl hk
  rfl
theorem idec_err {c0 : UInt8} {r l : List UInt8} {k : Nat} (hl : l = c0 :: r) (hk : k = kindOf c0.toNat) (h : (pdec (shBits k) l).2.2 ≠ 0) : idec l = (⟨0, 0, [], []⟩, 0, (pdec (shBits k) l).2.2) := by
  rw [idec_b hl hk]
  generalize pdec (shBits k) l = p at h ⊢
  simp [idecB, itext, h]
theorem idec_form {c0 : UInt8} {r l : List UInt8} {k : Nat} (hl : l = c0 :: r) (hk : k = kindOf c0.toNat) (h : (pdec (shBits k) l).2.2 = 0) (h0 : k = 0) (hn : (pdec (shBits k) l).1 = 0) : idec l = (⟨0, 0, [], []⟩, 0, 3) := by
  rw [idec_b hl hk]
  generalize pdec (shBits k) l = p at h hn ⊢
  simp [idecB, itext, h, h0, hn]
theorem idec_bare {c0 : UInt8} {r l : List UInt8} {k : Nat} (hl : l = c0 :: r) (hk : k = kindOf c0.toNat) (h : (pdec (shBits k) l).2.2 = 0) (h0 : k = 0 ∧ (pdec (shBits k) l).1 ≠ 0 ∨ k = 4) : idec l = (⟨k, (pdec (shBits k) l).1, [], []⟩, (pdec (shBits k) l).2.1, 0) := by
  rw [idec_b hl hk]
  generalize pdec (shBits k) l = p at h h0 ⊢
  rcases h0 with ⟨h0, hn⟩ | h0
  · simp [idecB, itext, h, h0, hn]
  · simp [idecB, itext, h, h0]
/-- One with a text, the value; at a: where it begins. -/
theorem idec_value {c0 : UInt8} {r l : List UInt8} {k n a : Nat} (hl : l = c0 :: r) (hk : k = kindOf c0.toNat) (h : (pdec (shBits k) l).2.2 = 0) (hn : (pdec (shBits k) l).1 = n) (ha : (pdec (shBits k) l).2.1 = a) (h1 : 1 ≤ k ∧ k ≤ 3) (h2 : 0 < n) :
    idec l = if (ltd (l.drop a) 65536).2.2 ≠ 0 then (⟨0, 0, [], []⟩, 0, (ltd (l.drop a) 65536).2.2) else (⟨k, n, [], (ltd (l.drop a) 65536).1⟩, a + (ltd (l.drop a) 65536).2.1, 0) := by
  rw [idec_b hl hk]
  generalize pdec (shBits k) l = p at h hn ha ⊢
  subst hn ha
  have h3 : ¬ k = 0 := by omega
  simp [idecB, itext, h, h1, h2, h3]
/-- One with a name that fails. -/
theorem idec_name {c0 : UInt8} {r l : List UInt8} {k a : Nat} (hl : l = c0 :: r) (hk : k = kindOf c0.toNat) (h : (pdec (shBits k) l).2.2 = 0) (hn : (pdec (shBits k) l).1 = 0) (ha : (pdec (shBits k) l).2.1 = a) (h1 : 1 ≤ k ∧ k ≤ 3) (h2 : (ltd (l.drop a) 65536).2.2 ≠ 0) :
    idec l = (⟨0, 0, [], []⟩, 0, (ltd (l.drop a) 65536).2.2) := by
  rw [idec_b hl hk]
  generalize pdec (shBits k) l = p at h hn ha ⊢
  subst ha
  have h3 : ¬ k = 0 := by omega
  simp [idecB, itext, h, h1, h2, h3, hn]
/-- One with both. -/
theorem idec_both {c0 : UInt8} {r l : List UInt8} {k a a2 : Nat} (hl : l = c0 :: r) (hk : k = kindOf c0.toNat) (h : (pdec (shBits k) l).2.2 = 0) (hn : (pdec (shBits k) l).1 = 0) (ha : (pdec (shBits k) l).2.1 = a) (h1 : 1 ≤ k ∧ k ≤ 3) (h2 : (ltd (l.drop a) 65536).2.2 = 0) (ha2 : a2 = a + (ltd (l.drop a) 65536).2.1) :
    idec l = if (ltd (l.drop a2) 65536).2.2 ≠ 0 then (⟨0, 0, [], []⟩, 0, (ltd (l.drop a2) 65536).2.2) else (⟨k, 0, (ltd (l.drop a) 65536).1, (ltd (l.drop a2) 65536).1⟩, a2 + (ltd (l.drop a2) 65536).2.1, 0) := by
  rw [idec_b hl hk]
  generalize pdec (shBits k) l = p at h hn ha ⊢
  subst ha ha2
  have h3 : ¬ k = 0 := by omega
  simp [idecB, itext, h, h1, h2, h3, hn]
def itZ : Array Value := #[.int .i64 0, .int .i64 0, .string ⟨#[]⟩, .string ⟨#[]⟩]
def itC (k n : Nat) (a b : List UInt8) : Array Value := #[.int .i64 (k : Int), .int .i64 (n : Int), strV a, strV b]
theorem four_of {w : World} {g : Nat} {a b c d : Value} {t : TypeId} (h : w.heap[g]? = some (.cells #[a, b, c, d] t)) : w.cell? ⟨g, 0, none⟩ = some a ∧ w.cell? ⟨g, 1, none⟩ = some b ∧ w.cell? ⟨g, 2, none⟩ = some c ∧ w.cell? ⟨g, 3, none⟩ = some d :=
  ⟨(cell_of_row _ _ 0 _ _ _ h).trans rfl, (cell_of_row _ _ 1 _ _ _ h).trans rfl, (cell_of_row _ _ 2 _ _ _ h).trans rfl, (cell_of_row _ _ 3 _ _ _ h).trans rfl⟩
set_option maxRecDepth 100000 in
set_option maxHeartbeats 2000000 in
theorem ridec_any (A : Option Addr) (l : List UInt8) (c : Nat) (w : World) {P : Nat → Prop} (hb : Bytes w P A l) (hc : l.length ≤ c) (hcm : c ≤ 140737488351232) (hl : l.length ≤ 17592186044415) :
    Calls Tryd.prog 26 #[.slice A l.length c, .int .i64 65536] w fun e w' => e = .returned (.tuple #[itemV (idec l).1, .int .i64 ((idec l).2.1 : Nat), .int .i64 ((idec l).2.2 : Nat)]) ∧ Below w.heap.size w w' := by
  cases l with
  | nil =>
    go_enter Tryd.func26, Tryd.ntmps26
    go_wp2_with fail
    obtain ⟨g0, g1, g2, g3⟩ := four_of (heap_alloc_new w (.cells #[.int .i64 0, .int .i64 0, .string ⟨#[]⟩, .string ⟨#[]⟩] 70))
    exact bodyPost_ret (v := .tuple #[itemV ⟨0, 0, [], []⟩, .int .i64 0, .int .i64 2]) (by simp [results, Tryd.results26, go_sem, g0, g1, g2, g3, itemV, strV, strB]) rfl ⟨rfl, bl_alloc (Below.refl _ _) _⟩
  | cons b0 r =>
    obtain ⟨b, off, rfl, -, hcell⟩ := id hb (by simp)
    have hq := hcell 0 (by simp)
    rw [Nat.add_zero] at hq
    simp only [List.getD_cons_zero] at hq
    have hbw : b < w.heap.size := World.block_lt_of_cell? w _ hq
    obtain ⟨l, hl0⟩ : ∃ l, l = b0 :: r := ⟨_, rfl⟩
    have hlen : ¬ (l.length : Int) = 0 := by rw [hl0]; simp; omega
    have hlp : (0 : Int) < (l.length : Int) := by rw [hl0]; simp
    rw [← hl0] at hb hc hl ⊢
    clear hcell
    replace hl0 := Lib.hid hl0
    have hBW := hb.below (bl_alloc (Below.refl _ w) (.cells #[.int .i64 0, .int .i64 0, .string ⟨#[]⟩, .string ⟨#[]⟩] 70))
    replace hb := Lib.hid hb
    have h256 : b0.toNat < 256 := b0.toNat_lt
    obtain ⟨k, hk⟩ : ∃ k, k = kindOf b0.toNat := ⟨_, rfl⟩
    have hk5 : k < 5 := by rw [hk]; unfold kindOf; split <;> (try split) <;> (try split) <;> (try split) <;> omega
    have hsb : 4 ≤ shBits k ∧ shBits k ≤ 7 := by
      have h : ∀ k : Fin 5, 4 ≤ shBits k.val ∧ shBits k.val ≤ 7 := by decide
      exact h ⟨k, hk5⟩
    have hrk := rkind_any b0.toNat h256 (w.alloc (.cells #[.int .i64 0, .int .i64 0, .string ⟨#[]⟩, .string ⟨#[]⟩] 70))
    have hrb := rbits_any k hk5 (w.alloc (.cells #[.int .i64 0, .int .i64 0, .string ⟨#[]⟩, .string ⟨#[]⟩] 70))
    have hrd := rdec3_any _ l c (shBits k) _ hBW hc (by omega) hsb
    rw [← hk] at hrk
    obtain ⟨f1, f2, f3, f4⟩ := pdec_facts (shBits k) (by omega) l
    have e1 := Lib.hid (idec_err hl0.out hk)
    have e2 := Lib.hid (idec_form hl0.out hk)
    have e3 := Lib.hid (idec_bare hl0.out hk)
    have e4 := Lib.hid (fun n a => idec_value (n := n) (a := a) hl0.out hk)
    have e5 := Lib.hid (fun a => idec_name (a := a) hl0.out hk)
    have e6 := Lib.hid (fun a a2 => idec_both (a := a) (a2 := a2) hl0.out hk)
    generalize hn : (pdec (shBits k) l).1 = n at *
    generalize hat : (pdec (shBits k) l).2.1 = a0 at *
    generalize he : (pdec (shBits k) l).2.2 = x0 at *
    replace hn := Lib.hid hn
    replace hat := Lib.hid hat
    replace he := Lib.hid he
    replace hk := Lib.hid hk
    have hk5' : (k : Int) < 5 := by omega
    have hk0 : (0 : Int) ≤ k := by omega
    obtain ⟨sb, hsb2⟩ : ∃ sb, sb = shBits k := ⟨_, rfl⟩
    rw [← hsb2] at hrb hrd
    replace hsb2 := Lib.hid hsb2
    clear hsb hBW
    go_enter Tryd.func26, Tryd.ntmps26
    go_wp2_with fail
    refine hrk.mono ?_
    rintro e w' ⟨rfl, rfl⟩
    go_wp2_with fail
    refine hrb.mono ?_
    rintro e w' ⟨rfl, rfl⟩
    go_wp2_with fail
    refine hrd.mono ?_
    rintro e w' ⟨rfl, rfl⟩
    clear hrk hrb hrd
    by_cases hx : x0 = 0
    · have hx1 : ((x0 : Int) != 0) = false := by simp [hx]
      by_cases hform : k = 0 ∧ n = 0
      · obtain ⟨h1, h2⟩ := hform
        have E := Lib.hid (e2.out hx h1 h2)
        have hk1 : ((k : Int) == 0) = true := by simp [h1]
        have hn1 : ((n : Int) == 0) = true := by simp [h2]
        clear hx h1 h2
        go_wp2_with fail
        obtain ⟨g0, g1, g2, g3⟩ := four_of (heap_alloc_new w (.cells #[.int .i64 0, .int .i64 0, .string ⟨#[]⟩, .string ⟨#[]⟩] 70))
        rw [E.out]
        exact bodyPost_ret (v := .tuple #[itemV ⟨0, 0, [], []⟩, .int .i64 0, .int .i64 3]) (by simp [results, Tryd.results26, go_sem, g0, g1, g2, g3, itemV, strV, strB]) rfl ⟨rfl, bl_alloc (Below.refl _ _) _⟩
      · have hx0 := Lib.hid hx
        clear hx
        have hf3 := f3 hx0.out
        have a1 : (0 : Int) ≤ a0 := by omega
        have a2 : (a0 : Int) ≤ l.length := by omega
        have a3 : (n : Int) ≤ 16777215 := by omega
        clear e1 e2 f3 f2
        have G0 := Lib.hid (blk_alloc (heap_alloc_new w (.cells #[.int .i64 0, .int .i64 0, .string ⟨#[]⟩, .string ⟨#[]⟩] 70)) (.cells #[.int .i64 (k : Int), .int .i64 (n : Int), .string ⟨#[]⟩, .string ⟨#[]⟩] 70))
        have G1 := Lib.hid (heap_alloc2_new w (.cells #[.int .i64 0, .int .i64 0, .string ⟨#[]⟩, .string ⟨#[]⟩] 70) (.cells #[.int .i64 (k : Int), .int .i64 (n : Int), .string ⟨#[]⟩, .string ⟨#[]⟩] 70))
        have hbl := bl_alloc (bl_alloc (Below.refl _ w) (.cells #[.int .i64 0, .int .i64 0, .string ⟨#[]⟩, .string ⟨#[]⟩] 70)) (.cells #[.int .i64 (k : Int), .int .i64 (n : Int), .string ⟨#[]⟩, .string ⟨#[]⟩] 70)
        by_cases hbare : k = 0 ∨ k = 4
        · have hcs : ((k : Int) == 0) = true ∧ ((n : Int) == 0) = false ∨ ((k : Int) == 0) = false ∧ ((k : Int) == 4) = true := by
            rcases hbare with h | h
            · exact .inl ⟨by simp [h], by simp; omega⟩
            · exact .inr ⟨by simp [h], by simp [h]⟩
          have E := Lib.hid (e3.out hx0.out (by omega))
          clear hbare hform e3 e4 e5 e6
          rcases hcs with ⟨k1, n1⟩ | ⟨k1, n1⟩
          all_goals
            go_wp2_with (first
              | ((with_reducible refine wpList_store_row rfl 70 (.tmp 4) (.tmp 55) rfl w.heap.size _ #[.int .i64 (k : Int), .int .i64 (n : Int), .string ⟨#[]⟩, .string ⟨#[]⟩] rfl rfl G0.out (k := 4) (by kernel_rfl) (by kernel_rfl) (by kernel_rfl) (by kernel_rfl) rfl ?_))
              | ((with_reducible refine wl_load_row rfl 70 (.tmp 11) rfl (w.heap.size + 1) rfl #[.int .i64 (k : Int), .int .i64 (n : Int), .string ⟨#[]⟩, .string ⟨#[]⟩] G1.out (by kernel_rfl) (k := 4) (by kernel_rfl) (by kernel_rfl) ?_)))
            obtain ⟨g0, g1, g2, g3⟩ := four_of (setRow_heap _ w.heap.size _ #[.int .i64 (k : Int), .int .i64 (n : Int), .string ⟨#[]⟩, .string ⟨#[]⟩] _ _ G0.out)
            rw [E.out]
            exact bodyPost_ret (v := .tuple #[itemV ⟨k, n, [], []⟩, .int .i64 (a0 : Int), .int .i64 0]) (by simp [results, Tryd.results26, go_sem, g0, g1, g2, g3, itemV, strV, strB]) rfl ⟨rfl, bl_setRow hbl (Nat.le_refl _) _⟩
        · have k1 : ((k : Int) == 0) = false := by simp; omega
          have k2 : ((k : Int) == 4) = false := by simp; omega
          have hk13 : 1 ≤ k ∧ k ≤ 3 := by omega
          clear hbare hform e3
          by_cases hn0 : n = 0
          · subst hn0
            have hcall := rltd_any _ _ (c - a0) 65536 _ ((hb.out.below hbl).from_ a0 c hf3.2 hc) (by simp only [List.length_drop]; omega) (by omega) (by simp only [List.length_drop]; omega)
            have hsl := Lib.hid (fun w ev o x y hx hy ho => ex_slice_from (P := Tryd.prog) (w := w) 30 5 (by kernel_rfl) (k := 1) (by kernel_rfl) (some ⟨b, off, none⟩) l.length c .i64 a0 hf3.2 ev o x y hx hy ho)
            have n1 : (((0 : Nat) : Int) == 0) = true := rfl
            have n9 : ((0 : Int) == 0) = true := rfl
            rw [List.length_drop] at hcall
            have E5 := e5.out a0 hx0.out rfl rfl hk13
            have E6 := fun a2 => e6.out a0 a2 hx0.out rfl rfl hk13
            obtain ⟨⟨s1, u1, y1⟩, hs⟩ : ∃ z, z = ltd (l.drop a0) 65536 := ⟨_, rfl⟩
            have hus := ltd_le (l.drop a0) 65536
            rw [← hs] at E5 hcall hus
            simp only [← hs] at E6
            rw [List.length_drop] at hus
            simp only at E5 E6 hcall hus
            replace hs := Lib.hid hs
            replace E5 := Lib.hid E5
            replace E6 := Lib.hid E6
            clear e4 e5 e6
            go_wp2_with ((with_reducible refine at_slice 30 ?_); refine wl_val rfl (hsl.out _ _ _ _ _ rfl rfl rfl) ?_)
            refine hcall.mono ?_
            clear hcall hsl
            rintro e w2 ⟨rfl, hbx⟩
            have X0 := blk_below G0.out hbx
            have X1 := blk_below G1.out hbx
            have hb2 := bl_then hbl hbx
            clear G0 G1
            by_cases hy : y1 = 0
            · have hy1 : ((y1 : Int) != 0) = false := by simp [hy]
              obtain ⟨a1, ha1⟩ : ∃ a1, a1 = a0 + u1 := ⟨_, rfl⟩
              have E := E6.out a1 hy ha1
              have hle : a1 ≤ l.length := by omega
              have ha1' : (a0 : Int) + (u1 : Int) = (a1 : Int) := by omega
              have a4 : (0 : Int) ≤ a1 := by omega
              have a5 : (a1 : Int) ≤ l.length := by omega
              replace ha1 := Lib.hid ha1
              have n3 := (cell_of_row _ _ 2 _ _ _ X1).trans (show _ = some (.string ⟨#[]⟩) from rfl)
              have z3 : w2.frozen? ⟨w.heap.size + 1, 2, none⟩ = false := frozen_of_row _ _ _ _ _ X1
              have G1 : Hid ((w2.setCell ⟨w.heap.size + 1, 2, none⟩ (.string (strB s1))).heap[w.heap.size + 1]? = some (.cells #[.int .i64 (k : Int), .int .i64 0, .string (strB s1), .string ⟨#[]⟩] 70 (0, 0))) := Lib.hid (heap_setCell_mod (o := 2) X1 (.string (strB s1)))
              have G0 := Lib.hid ((heap_setCell_off (w := w2) (p := ⟨w.heap.size + 1, 2, none⟩) (k := w.heap.size) (by simp) (.string (strB s1))).trans X0)
              have hb3 := bl_set hb2 (p := ⟨w.heap.size + 1, 2, none⟩) (by show w.heap.size ≤ w.heap.size + 1; omega) (.string (strB s1))
              clear hy E5 E6
              replace X0 := Lib.hid X0
              replace X1 := Lib.hid X1
              have hcall := rltd_any _ _ (c - a1) 65536 _ ((hb.out.below hb3).from_ a1 c hle hc) (by simp only [List.length_drop]; omega) (by omega) (by simp only [List.length_drop]; omega)
              have hsl := Lib.hid (fun w ev o x y hx hy ho => ex_slice_from (P := Tryd.prog) (w := w) 30 5 (by kernel_rfl) (k := 1) (by kernel_rfl) (some ⟨b, off, none⟩) l.length c .i64 a1 hle ev o x y hx hy ho)
              rw [List.length_drop] at hcall
              rw [show strV s1 = .string (strB s1) from rfl]
              obtain ⟨⟨s2, u2, y2⟩, hs2⟩ : ∃ z, z = ltd (l.drop a1) 65536 := ⟨_, rfl⟩
              have hus2 := ltd_le (l.drop a1) 65536
              rw [← hs2] at E hcall hus2
              rw [List.length_drop] at hus2
              simp only at E hcall hus2
              replace hs2 := Lib.hid hs2
              replace E := Lib.hid E
              go_wp2_with ((with_reducible refine at_slice 30 ?_); refine wl_val rfl (hsl.out _ _ _ _ _ rfl rfl rfl) ?_)
              refine hcall.mono ?_
              clear hcall hsl
              rintro e w4 ⟨rfl, hbz⟩
              have Y0 := blk_below G0.out hbz
              have Y1 := blk_below G1.out hbz
              have hb4 := bl_then hb3 hbz
              by_cases hy : y2 = 0
              · have hy1 : ((y2 : Int) != 0) = false := by simp [hy]
                have E2 := E.out
                rw [if_neg (fun h => h hy)] at E2
                replace E2 := Lib.hid E2
                have n3 := (cell_of_row _ _ 3 _ _ _ Y1).trans (show _ = some (.string ⟨#[]⟩) from rfl)
                have z3 : w4.frozen? ⟨w.heap.size + 1, 3, none⟩ = false := frozen_of_row _ _ _ _ _ Y1
                have K1 : Hid ((w4.setCell ⟨w.heap.size + 1, 3, none⟩ (.string (strB s2))).heap[w.heap.size + 1]? = some (.cells #[.int .i64 (k : Int), .int .i64 0, .string (strB s1), .string (strB s2)] 70 (0, 0))) := Lib.hid (heap_setCell_mod (o := 3) Y1 (.string (strB s2)))
                have K0 := Lib.hid ((heap_setCell_off (w := w4) (p := ⟨w.heap.size + 1, 3, none⟩) (k := w.heap.size) (by simp) (.string (strB s2))).trans Y0)
                have hb5 := bl_set hb4 (p := ⟨w.heap.size + 1, 3, none⟩) (by show w.heap.size ≤ w.heap.size + 1; omega) (.string (strB s2))
                clear hy E
                replace Y0 := Lib.hid Y0
                replace Y1 := Lib.hid Y1
                rw [show strV s2 = .string (strB s2) from rfl]
                go_wp2_with (first
                  | ((with_reducible refine wpList_store_row rfl 70 (.tmp 4) (.tmp 94) rfl w.heap.size _ #[.int .i64 (k : Int), .int .i64 0, .string (strB s1), .string (strB s2)] rfl rfl K0.out (k := 4) (by kernel_rfl) (by kernel_rfl) (by kernel_rfl) (by kernel_rfl) rfl ?_))
                  | ((with_reducible refine wl_load_row rfl 70 (.tmp 11) rfl (w.heap.size + 1) rfl #[.int .i64 (k : Int), .int .i64 0, .string (strB s1), .string (strB s2)] K1.out (by kernel_rfl) (k := 4) (by kernel_rfl) (by kernel_rfl) ?_)))
                obtain ⟨g0, g1, g2, g3⟩ := four_of (setRow_heap _ w.heap.size _ #[.int .i64 (k : Int), .int .i64 0, .string (strB s1), .string (strB s2)] _ _ K0.out)
                rw [E2.out]
                exact bodyPost_ret (v := .tuple #[itemV ⟨k, 0, s1, s2⟩, .int .i64 ((a1 : Nat) + u2 : Int), .int .i64 0]) (by simp [results, Tryd.results26, go_sem, g0, g1, g2, g3, itemV, strV, show strB [] = ⟨#[]⟩ from rfl]) rfl ⟨rfl, bl_setRow hb5 (Nat.le_refl _) _⟩
              · have hy1 : ((y2 : Int) != 0) = true := by simp [hy]
                have E2 := E.out
                rw [if_pos hy] at E2
                replace E2 := Lib.hid E2
                clear hy E
                replace Y0 := Lib.hid Y0
                go_wp2_with (first
                  | ((with_reducible refine wpList_store_row rfl 70 (.tmp 4) (.tmp 90) rfl w.heap.size _ #[.int .i64 0, .int .i64 0, .string ⟨#[]⟩, .string ⟨#[]⟩] rfl rfl Y0.out (k := 4) (by kernel_rfl) (by kernel_rfl) (by kernel_rfl) (by kernel_rfl) rfl ?_)))
                obtain ⟨g0, g1, g2, g3⟩ := four_of (setRow_heap _ w.heap.size _ #[.int .i64 0, .int .i64 0, .string ⟨#[]⟩, .string ⟨#[]⟩] _ _ Y0.out)
                rw [E2.out]
                exact bodyPost_ret (v := .tuple #[itemV ⟨0, 0, [], []⟩, .int .i64 0, .int .i64 (y2 : Int)]) (by simp [results, Tryd.results26, go_sem, g0, g1, g2, g3, itemV, strV, strB]) rfl ⟨rfl, bl_setRow hb4 (Nat.le_refl _) _⟩
            · have hy1 : ((y1 : Int) != 0) = true := by simp [hy]
              have E2 := Lib.hid (E5.out hy)
              clear hy E5 E6
              replace X0 := Lib.hid X0
              go_wp2_with (first
                | ((with_reducible refine wpList_store_row rfl 70 (.tmp 4) (.tmp 72) rfl w.heap.size _ #[.int .i64 0, .int .i64 0, .string ⟨#[]⟩, .string ⟨#[]⟩] rfl rfl X0.out (k := 4) (by kernel_rfl) (by kernel_rfl) (by kernel_rfl) (by kernel_rfl) rfl ?_)))
              obtain ⟨g0, g1, g2, g3⟩ := four_of (setRow_heap _ w.heap.size _ #[.int .i64 0, .int .i64 0, .string ⟨#[]⟩, .string ⟨#[]⟩] _ _ X0.out)
              rw [E2.out]
              exact bodyPost_ret (v := .tuple #[itemV ⟨0, 0, [], []⟩, .int .i64 0, .int .i64 (y1 : Int)]) (by simp [results, Tryd.results26, go_sem, g0, g1, g2, g3, itemV, strV, strB]) rfl ⟨rfl, bl_setRow hb2 (Nat.le_refl _) _⟩
          · have n0 : (0 : Int) < n := by omega
            have n1 : ((n : Int) == 0) = false := by simp; omega
            have E := e4.out n a0 hx0.out rfl rfl hk13 (by omega)
            clear e4 e5 e6 hn0
            have hcall := rltd_any _ _ (c - a0) 65536 _ ((hb.out.below hbl).from_ a0 c hf3.2 hc) (by simp only [List.length_drop]; omega) (by omega) (by simp only [List.length_drop]; omega)
            have hsl := Lib.hid (fun w ev o x y hx hy ho => ex_slice_from (P := Tryd.prog) (w := w) 30 5 (by kernel_rfl) (k := 1) (by kernel_rfl) (some ⟨b, off, none⟩) l.length c .i64 a0 hf3.2 ev o x y hx hy ho)
            rw [List.length_drop] at hcall
            obtain ⟨⟨s2, u2, y2⟩, hs2⟩ : ∃ z, z = ltd (l.drop a0) 65536 := ⟨_, rfl⟩
            have hus2 := ltd_le (l.drop a0) 65536
            rw [← hs2] at E hcall hus2
            rw [List.length_drop] at hus2
            simp only at E hcall hus2
            replace hs2 := Lib.hid hs2
            replace E := Lib.hid E
            go_wp2_with ((with_reducible refine at_slice 30 ?_); refine wl_val rfl (hsl.out _ _ _ _ _ rfl rfl rfl) ?_)
            refine hcall.mono ?_
            clear hcall hsl
            rintro e w4 ⟨rfl, hbz⟩
            have Y0 := blk_below G0.out hbz
            have Y1 := blk_below G1.out hbz
            have hb4 := bl_then hbl hbz
            by_cases hy : y2 = 0
            · have hy1 : ((y2 : Int) != 0) = false := by simp [hy]
              have E2 := E.out
              rw [if_neg (fun h => h hy)] at E2
              replace E2 := Lib.hid E2
              have n3 := (cell_of_row _ _ 3 _ _ _ Y1).trans (show _ = some (.string ⟨#[]⟩) from rfl)
              have z3 : w4.frozen? ⟨w.heap.size + 1, 3, none⟩ = false := frozen_of_row _ _ _ _ _ Y1
              have K1 : Hid ((w4.setCell ⟨w.heap.size + 1, 3, none⟩ (.string (strB s2))).heap[w.heap.size + 1]? = some (.cells #[.int .i64 (k : Int), .int .i64 (n : Int), .string ⟨#[]⟩, .string (strB s2)] 70 (0, 0))) := Lib.hid (heap_setCell_mod (o := 3) Y1 (.string (strB s2)))
              have K0 := Lib.hid ((heap_setCell_off (w := w4) (p := ⟨w.heap.size + 1, 3, none⟩) (k := w.heap.size) (by simp) (.string (strB s2))).trans Y0)
              have hb5 := bl_set hb4 (p := ⟨w.heap.size + 1, 3, none⟩) (by show w.heap.size ≤ w.heap.size + 1; omega) (.string (strB s2))
              clear hy E
              replace Y0 := Lib.hid Y0
              replace Y1 := Lib.hid Y1
              rw [show strV s2 = .string (strB s2) from rfl]
              go_wp2_with (first
                | ((with_reducible refine wpList_store_row rfl 70 (.tmp 4) (.tmp 94) rfl w.heap.size _ #[.int .i64 (k : Int), .int .i64 (n : Int), .string ⟨#[]⟩, .string (strB s2)] rfl rfl K0.out (k := 4) (by kernel_rfl) (by kernel_rfl) (by kernel_rfl) (by kernel_rfl) rfl ?_))
                | ((with_reducible refine wl_load_row rfl 70 (.tmp 11) rfl (w.heap.size + 1) rfl #[.int .i64 (k : Int), .int .i64 (n : Int), .string ⟨#[]⟩, .string (strB s2)] K1.out (by kernel_rfl) (k := 4) (by kernel_rfl) (by kernel_rfl) ?_)))
              obtain ⟨g0, g1, g2, g3⟩ := four_of (setRow_heap _ w.heap.size _ #[.int .i64 (k : Int), .int .i64 (n : Int), .string ⟨#[]⟩, .string (strB s2)] _ _ K0.out)
              rw [E2.out]
              exact bodyPost_ret (v := .tuple #[itemV ⟨k, n, [], s2⟩, .int .i64 ((a0 : Nat) + u2 : Int), .int .i64 0]) (by simp [results, Tryd.results26, go_sem, g0, g1, g2, g3, itemV, strV, show strB [] = ⟨#[]⟩ from rfl]) rfl ⟨rfl, bl_setRow hb5 (Nat.le_refl _) _⟩
            · have hy1 : ((y2 : Int) != 0) = true := by simp [hy]
              have E2 := E.out
              rw [if_pos hy] at E2
              replace E2 := Lib.hid E2
              clear hy E
              replace Y0 := Lib.hid Y0
              go_wp2_with (first
                | ((with_reducible refine wpList_store_row rfl 70 (.tmp 4) (.tmp 90) rfl w.heap.size _ #[.int .i64 0, .int .i64 0, .string ⟨#[]⟩, .string ⟨#[]⟩] rfl rfl Y0.out (k := 4) (by kernel_rfl) (by kernel_rfl) (by kernel_rfl) (by kernel_rfl) rfl ?_)))
              obtain ⟨g0, g1, g2, g3⟩ := four_of (setRow_heap _ w.heap.size _ #[.int .i64 0, .int .i64 0, .string ⟨#[]⟩, .string ⟨#[]⟩] _ _ Y0.out)
              rw [E2.out]
              exact bodyPost_ret (v := .tuple #[itemV ⟨0, 0, [], []⟩, .int .i64 0, .int .i64 (y2 : Int)]) (by simp [results, Tryd.results26, go_sem, g0, g1, g2, g3, itemV, strV, strB]) rfl ⟨rfl, bl_setRow hb4 (Nat.le_refl _) _⟩
    · have hx1 : ((x0 : Int) != 0) = true := by simp [hx]
      have E := Lib.hid (e1.out hx)
      clear hx
      go_wp2_with fail
      obtain ⟨g0, g1, g2, g3⟩ := four_of (heap_alloc_new w (.cells #[.int .i64 0, .int .i64 0, .string ⟨#[]⟩, .string ⟨#[]⟩] 70))
      rw [E.out]
      exact bodyPost_ret (v := .tuple #[itemV ⟨0, 0, [], []⟩, .int .i64 0, .int .i64 (x0 : Int)]) (by simp [results, Tryd.results26, go_sem, g0, g1, g2, g3, itemV, strV, strB]) rfl ⟨rfl, bl_alloc (Below.refl _ _) _⟩
end Go.Proofs.YtfkpeahelhpelaaDoor
