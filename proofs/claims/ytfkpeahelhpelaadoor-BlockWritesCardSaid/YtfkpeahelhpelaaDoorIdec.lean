/- An item of a header block (layer 6): what item.Decode comes to. -/
import Derived.Test.YtfkpeahelhpelaaDoorItem
import Derived.Test.YtfkpeahelhpelaaDoorOps
namespace Go.Proofs.YtfkpeahelhpelaaDoor
set_option linter.all false
open Go.RowKit
attribute [local go_sem] Oper.semAt_some

/-- What the loop over name and value carries: the text so far, where, and the error. -/
def itext (l : List UInt8) (skip : Bool) (at_ e : Nat) : List UInt8 × Nat × Nat :=
  if e ≠ 0 ∨ skip = true then ([], at_, e) else ((ltd (l.drop at_) 65536).1, at_ + (ltd (l.drop at_) 65536).2.1, (ltd (l.drop at_) 65536).2.2)
structure ItemS where
  kind : Nat
  n : Nat
  name : List UInt8
  value : List UInt8
def idec (l : List UInt8) : ItemS × Nat × Nat :=
  match l with
  | [] => (⟨0, 0, [], []⟩, 0, 2)
  | c :: _ =>
    let k := kindOf c.toNat
    let p := pdec (shBits k) l
    let tx := decide (1 ≤ k ∧ k ≤ 3)
    let s1 := itext l (!tx || decide (0 < p.1)) p.2.1 p.2.2
    let s2 := itext l (!tx) s1.2.1 s1.2.2
    let e := if s2.2.2 = 0 ∧ k = 0 ∧ p.1 = 0 then 3 else s2.2.2
    if e ≠ 0 then (⟨0, 0, [], []⟩, 0, e) else (⟨k, p.1, s1.1, s2.1⟩, s2.2.1, 0)
theorem ltd_le (l : List UInt8) (most : Int) : (ltd l most).2.1 ≤ l.length := by
  have h := pdec_facts 7 (by omega) l
  rw [ltd]
  repeat' split
  all_goals simp_all
  all_goals omega
/-- The state of the loop over name and value, behind j rounds. -/
def ISt (l : List UInt8) (tx : Bool) (n a0 x0 : Nat) (j a x : Nat) (nm vl : List UInt8) : Prop :=
  match j with
  | 0 => nm = [] ∧ vl = [] ∧ a = a0 ∧ x = x0 ∧ (x = 0 → a ≤ l.length)
  | 1 => (nm, a, x) = itext l (!tx || decide (0 < n)) a0 x0 ∧ vl = [] ∧ (x = 0 → a ≤ l.length)
  | _ => ∃ a1 x1, (nm, a1, x1) = itext l (!tx || decide (0 < n)) a0 x0 ∧ (vl, a, x) = itext l (!tx) a1 x1
section
variable {l : List UInt8} {tx : Bool} {n a0 x0 a x : Nat} {nm vl : List UInt8}
theorem ISt.skip0 (h : ISt l tx n a0 x0 0 a x nm vl) (hs : x ≠ 0 ∨ tx = false ∨ 0 < n) : ISt l tx n a0 x0 1 a x nm vl := by
  obtain ⟨rfl, rfl, rfl, rfl, h5⟩ := h
  refine ⟨?_, rfl, h5⟩
  rw [itext, if_pos]
  rcases hs with hs | hs | hs
  · exact .inl hs
  · exact .inr (by simp [hs])
  · exact .inr (by simp [hs])
theorem ISt.step0 (h : ISt l tx n a0 x0 0 a 0 nm vl) (ht : tx = true) (hn : n = 0) : ISt l tx n a0 x0 1 (a + (ltd (l.drop a) 65536).2.1) (ltd (l.drop a) 65536).2.2 (ltd (l.drop a) 65536).1 vl := by
  obtain ⟨rfl, rfl, rfl, rfl, h5⟩ := h
  refine ⟨?_, rfl, fun h0 => ?_⟩
  · rw [itext, if_neg (by simp [ht, hn])]
  · have := ltd_le (l.drop a) 65536
    have := h5 rfl
    rw [List.length_drop] at *
    omega
theorem ISt.skip1 (h : ISt l tx n a0 x0 1 a x nm vl) (hs : x ≠ 0 ∨ tx = false) : ISt l tx n a0 x0 2 a x nm vl := by
  obtain ⟨h1, rfl, h5⟩ := h
  refine ⟨a, x, h1, ?_⟩
  rw [itext, if_pos]
  rcases hs with hs | hs
  · exact .inl hs
  · exact .inr (by simp [hs])
theorem ISt.step1 (h : ISt l tx n a0 x0 1 a 0 nm vl) (ht : tx = true) : ISt l tx n a0 x0 2 (a + (ltd (l.drop a) 65536).2.1) (ltd (l.drop a) 65536).2.2 nm (ltd (l.drop a) 65536).1 := by
  obtain ⟨h1, rfl, h5⟩ := h
  refine ⟨a, 0, h1, ?_⟩
  rw [itext, if_neg (by simp [ht])]
theorem ISt.fin {b0 : UInt8} {r : List UInt8} {k : Nat} (h : ISt l tx n a0 x0 2 a x nm vl) (hl : l = b0 :: r) (hk : k = kindOf b0.toNat) (ht : tx = decide (1 ≤ k ∧ k ≤ 3)) (hn : (pdec (shBits k) l).1 = n) (ha : (pdec (shBits k) l).2.1 = a0) (hx : (pdec (shBits k) l).2.2 = x0) :
    idec l = if (if x = 0 ∧ k = 0 ∧ n = 0 then 3 else x) ≠ 0 then (⟨0, 0, [], []⟩, 0, (if x = 0 ∧ k = 0 ∧ n = 0 then 3 else x)) else (⟨k, n, nm, vl⟩, a, 0) := by
  obtain ⟨a1, x1, h1, h2⟩ := h
  have e : idec l = (let p := pdec (shBits k) l
    let s1 := itext l (!tx || decide (0 < p.1)) p.2.1 p.2.2
    let s2 := itext l (!tx) s1.2.1 s1.2.2
    let e := if s2.2.2 = 0 ∧ k = 0 ∧ p.1 = 0 then 3 else s2.2.2
    if e ≠ 0 then (⟨0, 0, [], []⟩, 0, e) else (⟨k, p.1, s1.1, s2.1⟩, s2.2.1, 0)) := by
    subst hl hk ht
    rfl
  rw [e]
  simp only [hn, ha, hx, ← h1, ← h2]
theorem fin_form {x k n : Nat} {X Y : ItemS × Nat × Nat} {Z : ItemS} (h : X = if (if x = 0 ∧ k = 0 ∧ n = 0 then 3 else x) ≠ 0 then (Z, 0, (if x = 0 ∧ k = 0 ∧ n = 0 then 3 else x)) else Y) (hx : x = 0) (hk : k = 0) (hn : n = 0) : X = (Z, 0, 3) := by
  rw [h]
  simp [hx, hk, hn]
theorem fin_err {x k n : Nat} {X Y : ItemS × Nat × Nat} {Z : ItemS} (h : X = if (if x = 0 ∧ k = 0 ∧ n = 0 then 3 else x) ≠ 0 then (Z, 0, (if x = 0 ∧ k = 0 ∧ n = 0 then 3 else x)) else Y) (hx : x ≠ 0) : X = (Z, 0, x) := by
  rw [h]
  simp [hx]
theorem fin_ok {x k n : Nat} {X Y : ItemS × Nat × Nat} {Z : ItemS} (h : X = if (if x = 0 ∧ k = 0 ∧ n = 0 then 3 else x) ≠ 0 then (Z, 0, (if x = 0 ∧ k = 0 ∧ n = 0 then 3 else x)) else Y) (hx : x = 0) (hk : ¬ (k = 0 ∧ n = 0)) : X = Y := by
  rw [h]
  simp only [hx, true_and]
  rw [if_neg hk]
  simp
theorem ISt.le0 (h : ISt l tx n a0 x0 0 a x nm vl) : x = 0 → a ≤ l.length := h.2.2.2.2
theorem ISt.le1 (h : ISt l tx n a0 x0 1 a x nm vl) : x = 0 → a ≤ l.length := h.2.2
end
def itemV (x : ItemS) : Value := .agg #[.int .i64 (x.kind : Int), .int .i64 (x.n : Int), strV x.name, strV x.value]

set_option maxRecDepth 100000 in
set_option maxHeartbeats 2000000 in
theorem idec_any (A : Option Addr) (l : List UInt8) (c : Nat) (w : World) {P : Nat → Prop} (hb : Bytes w P A l) (hc : l.length ≤ c) (hcm : c ≤ 9223372036854775807) (hl : l.length ≤ 17592186044415) (hL : LaidLens w) (hS : LaidShapes w) :
    Calls Tryd.prog 40 #[.slice A l.length c, .int .i64 65536] w fun e w' => e = .returned (.tuple #[itemV (idec l).1, .int .i64 ((idec l).2.1 : Nat), .int .i64 ((idec l).2.2 : Nat)]) ∧ Below w.heap.size w w' := by
  cases l with
  | nil =>
    go_enter Tryd.func40, Tryd.ntmps40
    go_wp2_with fail
    have hg := heap_alloc_new w (.cells #[.int .i64 0, .int .i64 0, .string ⟨#[]⟩, .string ⟨#[]⟩] 62)
    have g0 := (cell_of_row _ _ 0 _ _ _ hg).trans (show _ = some _ from rfl)
    have g1 := (cell_of_row _ _ 1 _ _ _ hg).trans (show _ = some _ from rfl)
    have g2 := (cell_of_row _ _ 2 _ _ _ hg).trans (show _ = some _ from rfl)
    have g3 := (cell_of_row _ _ 3 _ _ _ hg).trans (show _ = some _ from rfl)
    exact bodyPost_ret (v := .tuple #[itemV ⟨0, 0, [], []⟩, .int .i64 0, .int .i64 2]) (by simp [results, Tryd.results40, go_sem, g0, g1, g2, g3, itemV, strV, strB]) rfl ⟨rfl, bl_alloc (Below.refl _ _) _⟩
  | cons b0 r =>
    obtain ⟨b, off, rfl, -, hcell⟩ := id hb (by simp)
    have hq := hcell 0 (by simp)
    rw [Nat.add_zero] at hq
    simp only [List.getD_cons_zero] at hq
    have hlen : ¬ ((b0 :: r).length : Int) = 0 := by simp; omega
    have hlp : (0 : Int) < ((b0 :: r).length : Int) := by simp
    have hne : ((b0 :: r).length == 0) = false := by simp
    have hbw : b < w.heap.size := World.block_lt_of_cell? w _ hq
    clear hlen hlp hne
    obtain ⟨l, hl0⟩ : ∃ l, l = b0 :: r := ⟨_, rfl⟩
    have hlen : ¬ (l.length : Int) = 0 := by rw [hl0]; simp; omega
    have hlp : (0 : Int) < (l.length : Int) := by rw [hl0]; simp
    rw [← hl0] at hb hc hl hcell ⊢
    replace hl0 := Lib.hid hl0
    replace hcell := Lib.hid hcell
    replace hb := Lib.hid hb
    have h256 : b0.toNat < 256 := b0.toNat_lt
    go_enter Tryd.func40, Tryd.ntmps40
    go_wp2_with fail
    refine (kind_any b0.toNat h256 _ (hS.below (bl_alloc (Below.refl _ _) _))).mono ?_
    rintro e w1 ⟨rfl, hb1⟩
    obtain ⟨k, hk⟩ : ∃ k, k = kindOf b0.toNat := ⟨_, rfl⟩
    have hk5 : k < 5 := by rw [hk]; unfold kindOf; split <;> (try split) <;> (try split) <;> (try split) <;> omega
    rw [← hk]
    replace hk := Lib.hid hk
    have hk5' : (k : Int) < 5 := by omega
    have hk0 : (0 : Int) ≤ k := by omega
    have hS1 := ((hS.below (bl_alloc (Below.refl _ w) (.cells #[.int .i64 0, .int .i64 0, .string ⟨#[]⟩, .string ⟨#[]⟩] 62))).below hb1).below (bl_alloc (Below.refl _ w1) (.cells #[.int .i64 (k : Int), .int .i64 0, .string ⟨#[]⟩, .string ⟨#[]⟩] 62))
    have hsh := hS1 (k * 2) (.int .i64 (shBits k : Int)) (by
      have h : ∀ k : Fin 5, (ints shapesL)[k.val * 2]? = some (.int .i64 (shBits k.val : Int)) := by
        intro k
        match k with
        | 0 => rfl
        | 1 => rfl
        | 2 => rfl
        | 3 => rfl
        | 4 => rfl
      exact h ⟨k, hk5⟩)
    replace hS1 := Lib.hid hS1
    have hBW := ((hb.out.below (bl_alloc (Below.refl _ w) (.cells #[.int .i64 0, .int .i64 0, .string ⟨#[]⟩, .string ⟨#[]⟩] 62))).below hb1).below (bl_alloc (Below.refl _ w1) (.cells #[.int .i64 (k : Int), .int .i64 0, .string ⟨#[]⟩, .string ⟨#[]⟩] 62))
    have hsb : 4 ≤ shBits k ∧ shBits k ≤ 7 := by
      have h : ∀ k : Fin 5, 4 ≤ shBits k.val ∧ shBits k.val ≤ 7 := by decide
      exact h ⟨k, hk5⟩
    replace hBW := Lib.hid hBW
    go_wp2_with fail
    refine (pdec_any _ _ _ _ _ hBW.out hc (by omega) hsb).mono ?_
    rintro e w' ⟨rfl, rfl⟩
    obtain ⟨f1, f2, f3, f4⟩ := pdec_facts (shBits k) (by omega) l
    generalize hn : (pdec (shBits k) l).1 = n at *
    generalize hat : (pdec (shBits k) l).2.1 = a0 at *
    generalize he : (pdec (shBits k) l).2.2 = x0 at *
    replace hn := Lib.hid hn
    replace hat := Lib.hid hat
    replace he := Lib.hid he
    replace hsh := Lib.hid hsh
    clear hq
    go_wp2_with fail
    obtain ⟨tx, htx⟩ : ∃ tx, tx = decide (1 ≤ k ∧ k ≤ 3) := ⟨_, rfl⟩
    have hbl : Below w.heap.size w ((w1.alloc (.cells #[.int .i64 (k : Int), .int .i64 (n : Int), .string ⟨#[]⟩, .string ⟨#[]⟩] 62)).alloc (.cells #[.pointer (some ⟨w1.heap.size, 2, none⟩), .pointer (some ⟨w1.heap.size, 3, none⟩)] 107)) :=
      bl_alloc (bl_alloc (bl_then (bl_alloc (Below.refl _ _) _) hb1) _) _
    have hn1 : w.heap.size < w1.heap.size := by have := hb1.size; rw [World.size_alloc] at this; omega
    have hr0 : ((w1.alloc (.cells #[.int .i64 (k : Int), .int .i64 (n : Int), .string ⟨#[]⟩, .string ⟨#[]⟩] 62)).alloc (.cells #[.pointer (some ⟨w1.heap.size, 2, none⟩), .pointer (some ⟨w1.heap.size, 3, none⟩)] 107)).heap[w.heap.size]? = some (.cells #[.int .i64 0, .int .i64 0, .string ⟨#[]⟩, .string ⟨#[]⟩] 62) :=
      blk_alloc (blk_alloc (blk_below (heap_alloc_new _ _) hb1) _) _
    go_loopw [9, 10, 42] (fun at_ e i wr => ∃ (j a x : Nat) (nm vl : List UInt8), j ≤ 2 ∧ i = .int .i64 j ∧ at_ = .int .i64 a ∧ e = .int .i64 x ∧ ISt l tx n a0 x0 j a x nm vl ∧
        wr.heap[w1.heap.size]? = some (.cells #[.int .i64 (k : Int), .int .i64 (n : Int), strV nm, strV vl] 62) ∧
        wr.heap[w1.heap.size + 1]? = some (.cells #[.pointer (some ⟨w1.heap.size, 2, none⟩), .pointer (some ⟨w1.heap.size, 3, none⟩)] 107) ∧
        wr.heap[w.heap.size]? = some (.cells #[.int .i64 0, .int .i64 0, .string ⟨#[]⟩, .string ⟨#[]⟩] 62) ∧ Below w.heap.size w wr) (fun _ _ i _ => 2 - (intOf i).toNat)
    case atStart => exact ⟨0, a0, x0, [], [], by omega, rfl, rfl, rfl, ⟨rfl, rfl, rfl, rfl, fun h => (f3 h).2⟩, blk_alloc (heap_alloc_new _ _) _, by have := heap_alloc_new (w1.alloc (.cells #[.int .i64 (k : Int), .int .i64 (n : Int), .string ⟨#[]⟩, .string ⟨#[]⟩] 62)) (.cells #[.pointer (some ⟨w1.heap.size, 2, none⟩), .pointer (some ⟨w1.heap.size, 3, none⟩)] 107); rwa [World.size_alloc] at this, hr0, hbl⟩
    case round =>
      obtain ⟨j, a, x, nm, vl, hj, rfl, rfl, rfl, hI, g1, g2, g0, hb2⟩ := hrel
      clear hbl hr0
      have hk2 := kinds_any k (by omega)
      rw [← htx] at hk2
      replace hk2 := Lib.hid hk2
      replace htx := Lib.hid htx
      have q0 := (cell_of_row _ _ 0 _ _ _ g1).trans (show _ = some (.int .i64 (k : Int)) from rfl)
      have r0 := (cell_of_row _ _ 0 _ _ _ g2).trans (show _ = some (.pointer (some ⟨w1.heap.size, 2, none⟩)) from rfl)
      have r1 := (cell_of_row _ _ 1 _ _ _ g2).trans (show _ = some (.pointer (some ⟨w1.heap.size, 3, none⟩)) from rfl)
      have n2 := (cell_of_row _ _ 2 _ _ _ g1).trans (show _ = some (strV nm) from rfl)
      have n3 := (cell_of_row _ _ 3 _ _ _ g1).trans (show _ = some (strV vl) from rfl)
      have z2 : wr.frozen? ⟨w1.heap.size, 2, none⟩ = false := frozen_of_row _ _ _ _ _ g1
      have z3 : wr.frozen? ⟨w1.heap.size, 3, none⟩ = false := frozen_of_row _ _ _ _ _ g1
      clear hsh
      have e22 := eql_ptr_same (P := Tryd.prog) (tp := 107) (te := 9) (by kernel_rfl) (by kernel_rfl) ⟨w1.heap.size, 2, none⟩
      have e32 := eql_ptr_other (P := Tryd.prog) (tp := 107) (te := 9) (by kernel_rfl) (k := 0) (by kernel_rfl) (a := ⟨w1.heap.size, 3, none⟩) (b := ⟨w1.heap.size, 2, none⟩) (by simp) g1 g1
      replace g0 := Lib.hid g0
      replace g1 := Lib.hid g1
      replace g2 := Lib.hid g2
      replace hI := Lib.hid hI
      have t0 : j = 0 ∨ j = 1 ∨ j = 2 := by omega
      rcases t0 with t0 | t0 | t0
      · subst t0
        by_cases hx : x = 0
        · have hx1 : ((x : Int) != 0) = false := by simp [hx]
          replace hx := Lib.hid hx
          cases tx with
          | false =>
            go_wp2_with ((go_at_call 52; refine (hk2.out _).mono ?_; rintro e w' ⟨rfl, rfl⟩))
            go_roundw
            case rel => exact ⟨1, a, x, nm, vl, by omega, rfl, rfl, rfl, hI.out.skip0 (.inr (.inl rfl)), g1.out, g2.out, g0.out, hb2⟩
            case measure => simp [intOf]
          | true =>
            by_cases hn0 : 0 < n
            · have hn1 : (0 : Int) < n := by omega
              go_wp2_with ((go_at_call 52; refine (hk2.out _).mono ?_; rintro e w' ⟨rfl, rfl⟩))
              go_roundw
              case rel => exact ⟨1, a, x, nm, vl, by omega, rfl, rfl, rfl, hI.out.skip0 (.inr (.inr hn0)), g1.out, g2.out, g0.out, hb2⟩
              case measure => simp [intOf]
            · have hn1 : ¬ (0 : Int) < n := by omega
              obtain rfl : x = 0 := hx.out
              have hal := hI.out.le0 rfl
              have i1 : (0 : Int) ≤ a := by omega
              have i2 : (a : Int) ≤ l.length := by omega
              clear hx hx1
              replace hal := Lib.hid hal
              go_wp2_with (first | ((go_at_call 52; refine (hk2.out _).mono ?_; rintro e w' ⟨rfl, rfl⟩)) | (((with_reducible refine at_slice 30 ?_); refine wl_val rfl (ex_slice_from 30 5 (by kernel_rfl) (k := 1) (by kernel_rfl) _ _ _ .i64 a hal.out _ _ _ _ rfl rfl rfl) ?_)))
              rw [← List.length_drop]
              have hcall := ltd_any _ _ (c - a) 65536 _ ((hb.out.below hb2).from_ a c hal.out hc) (by simp only [List.length_drop]; omega) (by omega) (by simp only [List.length_drop]; omega) (hL.below hb2)
              with_reducible refine hcall.mono ?_
              clear hcall
              rintro e w2 ⟨rfl, hbx⟩
              have hst := hI.out.step0 rfl (by omega)
              obtain ⟨⟨s1, u1, y1⟩, hs⟩ : ∃ z, z = ltd (l.drop a) 65536 := ⟨_, rfl⟩
              rw [← hs] at hst ⊢
              have hus := ltd_le (l.drop a) 65536
              rw [← hs, List.length_drop] at hus
              simp only at hst hus ⊢
              replace hst := Lib.hid hst
              replace hs := Lib.hid hs
              clear q0 r0 r1 n2 n3 z2 z3
              have G1 := blk_below g1.out hbx
              have G2 := blk_below g2.out hbx
              have G0 := blk_below g0.out hbx
              have n2 := (cell_of_row _ _ 2 _ _ _ G1).trans (show _ = some (strV nm) from rfl)
              have z2 : w2.frozen? ⟨w1.heap.size, 2, none⟩ = false := frozen_of_row _ _ _ _ _ G1
              have hb3 : Below w.heap.size w (w2.setCell ⟨w1.heap.size, 2, none⟩ (strV s1)) := bl_set (bl_then hb2 hbx) (by show w.heap.size ≤ w1.heap.size; omega) _
              have K1 := heap_setCell_mod (o := 2) G1 (strV s1)
              have K2 := (heap_setCell_off (w := w2) (p := ⟨w1.heap.size, 2, none⟩) (k := w1.heap.size + 1) (by simp) (strV s1)).trans G2
              have K0 := (heap_setCell_off (w := w2) (p := ⟨w1.heap.size, 2, none⟩) (k := w.heap.size) (by show _ ≠ w1.heap.size; omega) (strV s1)).trans G0
              replace G0 := Lib.hid G0
              replace G1 := Lib.hid G1
              replace G2 := Lib.hid G2
              replace K0 := Lib.hid K0
              replace K1 := Lib.hid K1
              replace K2 := Lib.hid K2
              rw [show strV s1 = .string (strB s1) from rfl]
              go_wp2_with fail
              go_roundw
              case rel => exact ⟨1, a + u1, y1, s1, vl, by omega, rfl, by go_num, rfl, hst.out, K1.out, K2.out, K0.out, hb3⟩
              case measure => simp [intOf]
        · have hx1 : ((x : Int) != 0) = true := by simp [hx]
          replace hx := Lib.hid hx
          go_wp2_with fail
          go_roundw
          case rel => exact ⟨1, a, x, nm, vl, by omega, rfl, rfl, rfl, hI.out.skip0 (.inl hx.out), g1.out, g2.out, g0.out, hb2⟩
          case measure => simp [intOf]
      · subst t0
        by_cases hx : x = 0
        · have hx1 : ((x : Int) != 0) = false := by simp [hx]
          replace hx := Lib.hid hx
          cases tx with
          | false =>
            go_wp2_with ((go_at_call 52; refine (hk2.out _).mono ?_; rintro e w' ⟨rfl, rfl⟩))
            go_roundw
            case rel => exact ⟨2, a, x, nm, vl, by omega, rfl, rfl, rfl, hI.out.skip1 (.inr rfl), g1.out, g2.out, g0.out, hb2⟩
            case measure => simp [intOf]
          | true =>
            obtain rfl : x = 0 := hx.out
            have hal := hI.out.le1 rfl
            have i1 : (0 : Int) ≤ a := by omega
            have i2 : (a : Int) ≤ l.length := by omega
            clear hx hx1
            replace hal := Lib.hid hal
            go_wp2_with (first | ((go_at_call 52; refine (hk2.out _).mono ?_; rintro e w' ⟨rfl, rfl⟩)) | (((with_reducible refine at_slice 30 ?_); refine wl_val rfl (ex_slice_from 30 5 (by kernel_rfl) (k := 1) (by kernel_rfl) _ _ _ .i64 a hal.out _ _ _ _ rfl rfl rfl) ?_)))
            rw [← List.length_drop]
            have hcall := ltd_any _ _ (c - a) 65536 _ ((hb.out.below hb2).from_ a c hal.out hc) (by simp only [List.length_drop]; omega) (by omega) (by simp only [List.length_drop]; omega) (hL.below hb2)
            with_reducible refine hcall.mono ?_
            clear hcall
            rintro e w2 ⟨rfl, hbx⟩
            have hst := hI.out.step1 rfl
            obtain ⟨⟨s1, u1, y1⟩, hs⟩ : ∃ z, z = ltd (l.drop a) 65536 := ⟨_, rfl⟩
            rw [← hs] at hst ⊢
            have hus := ltd_le (l.drop a) 65536
            rw [← hs, List.length_drop] at hus
            simp only at hst hus ⊢
            replace hst := Lib.hid hst
            replace hs := Lib.hid hs
            clear q0 r0 r1 n2 n3 z2 z3
            have G1 := blk_below g1.out hbx
            have G2 := blk_below g2.out hbx
            have G0 := blk_below g0.out hbx
            have n3 := (cell_of_row _ _ 3 _ _ _ G1).trans (show _ = some (strV vl) from rfl)
            have z3 : w2.frozen? ⟨w1.heap.size, 3, none⟩ = false := frozen_of_row _ _ _ _ _ G1
            have hb3 : Below w.heap.size w (w2.setCell ⟨w1.heap.size, 3, none⟩ (strV s1)) := bl_set (bl_then hb2 hbx) (by show w.heap.size ≤ w1.heap.size; omega) _
            have K1 := heap_setCell_mod (o := 3) G1 (strV s1)
            have K2 := (heap_setCell_off (w := w2) (p := ⟨w1.heap.size, 3, none⟩) (k := w1.heap.size + 1) (by simp) (strV s1)).trans G2
            have K0 := (heap_setCell_off (w := w2) (p := ⟨w1.heap.size, 3, none⟩) (k := w.heap.size) (by show _ ≠ w1.heap.size; omega) (strV s1)).trans G0
            replace G0 := Lib.hid G0
            replace G1 := Lib.hid G1
            replace G2 := Lib.hid G2
            replace K0 := Lib.hid K0
            replace K1 := Lib.hid K1
            replace K2 := Lib.hid K2
            rw [show strV s1 = .string (strB s1) from rfl]
            go_wp2_with fail
            go_roundw
            case rel => exact ⟨2, a + u1, y1, nm, s1, by omega, rfl, by go_num, rfl, hst.out, K1.out, K2.out, K0.out, hb3⟩
            case measure => simp [intOf]
        · have hx1 : ((x : Int) != 0) = true := by simp [hx]
          replace hx := Lib.hid hx
          go_wp2_with fail
          go_roundw
          case rel => exact ⟨2, a, x, nm, vl, by omega, rfl, rfl, rfl, hI.out.skip1 (.inl hx.out), g1.out, g2.out, g0.out, hb2⟩
          case measure => simp [intOf]
      · subst t0
        have hfin := hI.out.fin hl0.out hk.out htx.out hn.out hat.out he.out
        have G0 := Lib.hid g0.out
        have G1 := Lib.hid g1.out
        have hkn : w.heap.size ≠ w1.heap.size := by omega
        by_cases hx : x = 0
        · have hx1 : ((x : Int) == 0) = true := by simp [hx]
          have hx2 : ((x : Int) != 0) = false := by simp [hx]
          by_cases hk0 : k = 0
          · have hk01 : ((k : Int) == 0) = true := by simp [hk0]
            by_cases hn0 : n = 0
            · have hn01 : ((n : Int) == 0) = true := by simp [hn0]
              replace hfin := Lib.hid (fin_form hfin hx hk0 hn0)
              clear hx hk0 hn0 hkn
              go_wp2_with ((with_reducible refine wpList_store_row rfl 62 (.tmp 4) (.tmp 94) rfl w.heap.size _ #[.int .i64 0, .int .i64 0, .string ⟨#[]⟩, .string ⟨#[]⟩] rfl rfl G0.out (k := 4) (by kernel_rfl) (by kernel_rfl) (by kernel_rfl) (by kernel_rfl) rfl ?_))
              have F := setRow_heap wr w.heap.size #[.int .i64 0, .int .i64 0, .string ⟨#[]⟩, .string ⟨#[]⟩] #[.int .i64 0, .int .i64 0, .string ⟨#[]⟩, .string ⟨#[]⟩] _ _ G0.out
              have F0 := (cell_of_row _ _ 0 _ _ _ F).trans (show _ = some (.int .i64 0) from rfl)
              have F1 := (cell_of_row _ _ 1 _ _ _ F).trans (show _ = some (.int .i64 0) from rfl)
              have F2 := (cell_of_row _ _ 2 _ _ _ F).trans (show _ = some (.string ⟨#[]⟩) from rfl)
              have F3 := (cell_of_row _ _ 3 _ _ _ F).trans (show _ = some (.string ⟨#[]⟩) from rfl)
              rw [hfin.out]
              exact bodyPost_ret (v := .tuple #[itemV ⟨0, 0, [], []⟩, .int .i64 0, .int .i64 3]) (by simp [results, Tryd.results40, go_sem, F0, F1, F2, F3, itemV, strV, strB]) rfl ⟨rfl, bl_setRow hb2 (Nat.le_refl _) _⟩
            · have hn01 : ((n : Int) == 0) = false := by simp [hn0]
              replace hfin := Lib.hid (fin_ok hfin hx (fun h => hn0 h.2))
              clear hx hk0 hn0 hkn
              go_wp2_with (first
                | ((with_reducible refine wpList_store_row rfl 62 (.tmp 4) (.tmp 96) rfl w.heap.size _ #[.int .i64 (k : Int), .int .i64 (n : Int), strV nm, strV vl] rfl rfl G0.out (k := 4) (by kernel_rfl) (by kernel_rfl) (by kernel_rfl) (by kernel_rfl) rfl ?_))
                | ((with_reducible refine wl_load_row rfl 62 (.tmp 7) rfl w1.heap.size rfl #[.int .i64 (k : Int), .int .i64 (n : Int), strV nm, strV vl] G1.out (by kernel_rfl) (k := 4) (by kernel_rfl) (by kernel_rfl) ?_)))
              have F := setRow_heap wr w.heap.size #[.int .i64 0, .int .i64 0, .string ⟨#[]⟩, .string ⟨#[]⟩] #[.int .i64 (k : Int), .int .i64 (n : Int), strV nm, strV vl] _ _ G0.out
              have F0 := (cell_of_row _ _ 0 _ _ _ F).trans (show _ = some (.int .i64 (k : Int)) from rfl)
              have F1 := (cell_of_row _ _ 1 _ _ _ F).trans (show _ = some (.int .i64 (n : Int)) from rfl)
              have F2 := (cell_of_row _ _ 2 _ _ _ F).trans (show _ = some (strV nm) from rfl)
              have F3 := (cell_of_row _ _ 3 _ _ _ F).trans (show _ = some (strV vl) from rfl)
              rw [hfin.out]
              exact bodyPost_ret (v := .tuple #[itemV ⟨k, n, nm, vl⟩, .int .i64 (a : Int), .int .i64 0]) (by simp [results, Tryd.results40, go_sem, F0, F1, F2, F3, itemV]) rfl ⟨rfl, bl_setRow hb2 (Nat.le_refl _) _⟩
          · have hk01 : ((k : Int) == 0) = false := by simp [hk0]
            replace hfin := Lib.hid (fin_ok hfin hx (fun h => hk0 h.1))
            clear hx hk0 hkn
            go_wp2_with (first
              | ((with_reducible refine wpList_store_row rfl 62 (.tmp 4) (.tmp 96) rfl w.heap.size _ #[.int .i64 (k : Int), .int .i64 (n : Int), strV nm, strV vl] rfl rfl G0.out (k := 4) (by kernel_rfl) (by kernel_rfl) (by kernel_rfl) (by kernel_rfl) rfl ?_))
              | ((with_reducible refine wl_load_row rfl 62 (.tmp 7) rfl w1.heap.size rfl #[.int .i64 (k : Int), .int .i64 (n : Int), strV nm, strV vl] G1.out (by kernel_rfl) (k := 4) (by kernel_rfl) (by kernel_rfl) ?_)))
            have F := setRow_heap wr w.heap.size #[.int .i64 0, .int .i64 0, .string ⟨#[]⟩, .string ⟨#[]⟩] #[.int .i64 (k : Int), .int .i64 (n : Int), strV nm, strV vl] _ _ G0.out
            have F0 := (cell_of_row _ _ 0 _ _ _ F).trans (show _ = some (.int .i64 (k : Int)) from rfl)
            have F1 := (cell_of_row _ _ 1 _ _ _ F).trans (show _ = some (.int .i64 (n : Int)) from rfl)
            have F2 := (cell_of_row _ _ 2 _ _ _ F).trans (show _ = some (strV nm) from rfl)
            have F3 := (cell_of_row _ _ 3 _ _ _ F).trans (show _ = some (strV vl) from rfl)
            rw [hfin.out]
            exact bodyPost_ret (v := .tuple #[itemV ⟨k, n, nm, vl⟩, .int .i64 (a : Int), .int .i64 0]) (by simp [results, Tryd.results40, go_sem, F0, F1, F2, F3, itemV]) rfl ⟨rfl, bl_setRow hb2 (Nat.le_refl _) _⟩
        · have hx1 : ((x : Int) == 0) = false := by simp [hx]
          have hx2 : ((x : Int) != 0) = true := by simp [hx]
          replace hfin := Lib.hid (fin_err hfin hx)
          clear hx hkn
          go_wp2_with ((with_reducible refine wpList_store_row rfl 62 (.tmp 4) (.tmp 94) rfl w.heap.size _ #[.int .i64 0, .int .i64 0, .string ⟨#[]⟩, .string ⟨#[]⟩] rfl rfl G0.out (k := 4) (by kernel_rfl) (by kernel_rfl) (by kernel_rfl) (by kernel_rfl) rfl ?_))
          have F := setRow_heap wr w.heap.size #[.int .i64 0, .int .i64 0, .string ⟨#[]⟩, .string ⟨#[]⟩] #[.int .i64 0, .int .i64 0, .string ⟨#[]⟩, .string ⟨#[]⟩] _ _ G0.out
          have F0 := (cell_of_row _ _ 0 _ _ _ F).trans (show _ = some (.int .i64 0) from rfl)
          have F1 := (cell_of_row _ _ 1 _ _ _ F).trans (show _ = some (.int .i64 0) from rfl)
          have F2 := (cell_of_row _ _ 2 _ _ _ F).trans (show _ = some (.string ⟨#[]⟩) from rfl)
          have F3 := (cell_of_row _ _ 3 _ _ _ F).trans (show _ = some (.string ⟨#[]⟩) from rfl)
          rw [hfin.out]
          exact bodyPost_ret (v := .tuple #[itemV ⟨0, 0, [], []⟩, .int .i64 0, .int .i64 (x : Int)]) (by simp [results, Tryd.results40, go_sem, F0, F1, F2, F3, itemV, strV, strB]) rfl ⟨rfl, bl_setRow hb2 (Nat.le_refl _) _⟩
end Go.Proofs.YtfkpeahelhpelaaDoor
