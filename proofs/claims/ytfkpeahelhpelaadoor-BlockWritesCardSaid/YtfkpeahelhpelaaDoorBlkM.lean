/- Header lists as blocks (layer 9): the decoder's state and its small methods. Header lists as blocks (layer 9): the field of an item, and the table as a list. -/
import Derived.Test.YtfkpeahelhpelaaDoorTabM
import Derived.Test.YtfkpeahelhpelaaDoorIdec
import Derived.Test.YtfkpeahelhpelaaDoorStatic
import Derived.Deep.AppendLies
namespace Go.Proofs.YtfkpeahelhpelaaDoor
set_option linter.all false
open Go.RowKit Go.Shelf
attribute [local go_sem] Oper.semAt_some valueOf_ok

structure Dec (w : World) (d t : Nat) (v : Value) (T : Tb) : Prop where
  blk : w.heap[d]? = some (.cells #[.pointer (some ⟨t, 0, none⟩)] 57)
  tab : Tab w t v T
  ne : d ≠ t
  nr : v.ownBlock ≠ some d
def decS (d t : Nat) (v : Value) (k : Nat) : Prop := k = d ∨ tabS t v k
theorem Dec.keep {w w' : World} {d t : Nat} {v : Value} {T : Tb} (h : Dec w d t v T) (hk : ∀ k, k < w.heap.size → decS d t v k → w'.heap[k]? = w.heap[k]?) : Dec w' d t v T :=
  ⟨(hk d (blk_lt h.blk) (.inl rfl)).trans h.blk, h.tab.keep fun k hl hs => hk k hl (.inr hs), h.ne, h.nr⟩
theorem Dec.below {w w' : World} {d t : Nat} {v : Value} {T : Tb} (h : Dec w d t v T) (hb : Below w.heap.size w w') : Dec w' d t v T := h.keep fun k hk _ => hb.block k hk
theorem Dec.cell {w : World} {d t : Nat} {v : Value} {T : Tb} (h : Dec w d t v T) : w.cell? ⟨d, 0, none⟩ = some (.pointer (some ⟨t, 0, none⟩)) := (cell_of_row _ _ 0 _ _ _ h.blk).trans rfl
theorem Dec.lt {w : World} {d t : Nat} {v : Value} {T : Tb} (h : Dec w d t v T) {k : Nat} (hk : decS d t v k) : k < w.heap.size := by
  rcases hk with rfl | rfl | hk
  · exact blk_lt h.blk
  · exact blk_lt h.tab.blk
  · exact own_lt' h.tab.own hk

theorem bsize_any (d t : Nat) (v : Value) (T : Tb) (w : World) (h : Dec w d t v T) : Calls Tryd.prog 14 #[.pointer (some ⟨d, 0, none⟩)] w fun e w' => e = .returned (.int .i64 (sumF T.f : Int)) ∧ w = w' := by
  have c0 := h.cell
  have hs := tsize_any t v T w h.tab
  clear h
  go_enter Tryd.func14, Tryd.ntmps14
  go_wp2_with fail
  refine hs.mono ?_
  rintro e w' ⟨rfl, rfl⟩
  go_wp2_with fail
  go_ret
  exact ⟨rfl, rfl⟩
theorem bnew_no (n : Int) (w : World) (hn : ¬ (0 ≤ n ∧ n ≤ 4096)) : Calls Tryd.prog 7 #[.int .i64 n] w fun e w' => e = .returned (.tuple #[.pointer none, .int .i64 1]) ∧ w = w' := by
  have hs := Lib.hid (tnew_no n w hn)
  go_enter Tryd.func7, Tryd.ntmps7
  go_wp2_with fail
  refine hs.out.mono ?_
  rintro e w' ⟨rfl, rfl⟩
  go_wp2_with fail
  go_ret2
  exact ⟨rfl, rfl⟩
theorem bnew_yes (n : Nat) (w : World) (hn : n ≤ 4096) : Calls Tryd.prog 7 #[.int .i64 (n : Int)] w fun e w' => ∃ d t : Nat, e = .returned (.tuple #[.pointer (some ⟨d, 0, none⟩), .int .i64 0]) ∧ Dec w' d t (.slice none 0 0) ⟨[], n, n⟩ ∧ Below w.heap.size w w' ∧ w.heap.size ≤ d ∧ w.heap.size ≤ t := by
  have hs := Lib.hid (tnew_yes n w hn)
  go_enter Tryd.func7, Tryd.ntmps7
  go_wp2_with fail
  refine hs.out.mono ?_
  rintro e w' ⟨rfl, rfl⟩
  go_wp2_with fail
  go_ret2
  refine ⟨_, _, rfl, ⟨new_at (by simp), (Tab.new n w hn).below (bl_alloc (Below.refl _ _) _), by simp, by simp [Value.ownBlock]⟩, bl_alloc (bl_alloc (Below.refl _ _) _) _, by simp, Nat.le_refl _⟩
theorem bclone_any (d t : Nat) (v : Value) (T : Tb) (w : World) (h : Dec w d t v T) : Calls Tryd.prog 9 #[.pointer (some ⟨d, 0, none⟩)] w fun e w' => ∃ (d' t' : Nat) (v' : Value), e = .returned (.pointer (some ⟨d', 0, none⟩)) ∧ Dec w' d' t' v' T ∧ Below w.heap.size w w' ∧ ∀ k, decS d' t' v' k → w.heap.size ≤ k := by
  have c0 := h.cell
  have hs := tclone_any t v T w h.tab
  clear h
  go_enter Tryd.func9, Tryd.ntmps9
  go_wp2_with fail
  refine hs.mono ?_
  rintro e w1 ⟨t', v', rfl, hT, hb, ht, hv⟩
  clear hs
  replace hT := Lib.hid hT
  replace hv := Lib.hid hv
  go_wp2_with fail
  go_ret
  have h1 := blk_lt hT.out.blk
  have hsz := hb.size
  refine ⟨_, t', v', rfl, ⟨heap_alloc_new _ _, hT.out.below (bl_alloc (Below.refl _ _) _), by omega, ?_⟩, bl_alloc hb _, ?_⟩
  · intro e
    have := own_lt' hT.out.own e
    omega
  · rintro k (rfl | rfl | hk)
    · exact hsz
    · exact ht
    · exact hv.out k hk
def namedS (F : List FieldS) (i : Int) : FieldS × Nat := if i ≤ 61 then ((getN i, getV i), (getE i).toNat) else tget F (i - 61)
set_option maxHeartbeats 1000000 in
theorem named_any (d t : Nat) (v : Value) (T : Tb) (i : Int) (w : World) (h : Dec w d t v T) (hi : 0 ≤ i ∧ i ≤ 9223372036854775807) :
    Calls Tryd.prog 42 #[.pointer (some ⟨d, 0, none⟩), .int .i64 i] w fun e w' => e = .returned (.tuple #[fV (namedS T.f i).1, .int .i64 ((namedS T.f i).2 : Int)]) ∧ Below w.heap.size w w' := by
  obtain ⟨z, hz⟩ : ∃ z, z = namedS T.f i := ⟨_, rfl⟩
  rw [← hz]
  rw [namedS] at hz
  obtain ⟨hi0, hi1⟩ := hi
  by_cases g : i ≤ 61
  · rw [if_pos g] at hz
    subst hz
    rw [fV]
    simp only
    have hs := fun w => get_any i w (by omega)
    have he := Lib.hid (show ((getE i).toNat : Int) = getE i by unfold getE; split <;> rfl)
    go_enter Tryd.func42, Tryd.ntmps42
    replace hs := Lib.hid hs
    go_wp2_with fail
    refine (hs.out _).mono ?_
    rintro e w1 ⟨rfl, hb1⟩
    have hk := blk_below (heap_alloc_new w (.cells #[.string ⟨#[]⟩, .string ⟨#[]⟩] 46)) hb1
    have hb := bl_then (bl_alloc (Below.refl w.heap.size w) (.cells #[.string ⟨#[]⟩, .string ⟨#[]⟩] 46)) hb1
    replace hk := Lib.hid hk
    go_wp2_with ((with_reducible refine wpList_store_row rfl 46 (.tmp 4) (.tmp 10) rfl w.heap.size _ #[.string (getN i), .string (getV i)] rfl rfl hk.out (k := 2) (by kernel_rfl) (by kernel_rfl) (by kernel_rfl) (by kernel_rfl) rfl ?_))
    have F := setRow_heap w1 w.heap.size #[.string ⟨#[]⟩, .string ⟨#[]⟩] #[.string (getN i), .string (getV i)] _ _ hk.out
    have F0 := (cell_of_row _ _ 0 _ _ _ F).trans (show _ = some (.string (getN i)) from rfl)
    have F1 := (cell_of_row _ _ 1 _ _ _ F).trans (show _ = some (.string (getV i)) from rfl)
    exact bodyPost_ret (v := .tuple #[.agg #[.string (getN i), .string (getV i)], .int .i64 (getE i)]) (by simp [results, Tryd.results42, go_sem, F0, F1]) rfl ⟨by rw [he.out], bl_setRow hb (Nat.le_refl _) _⟩
  · rw [if_neg g] at hz
    obtain ⟨⟨fn, fv⟩, fe⟩ := z
    rw [fV]
    simp only
    have h2 := Lib.hid (h.below (bl_alloc (Below.refl w.heap.size w) (.cells #[.string ⟨#[]⟩, .string ⟨#[]⟩] 46)))
    have hs := Lib.hid (tget_any t v T (i - 61) _ h2.out.tab (by omega))
    clear h
    have g' : ¬ i ≤ 61 := g
    have c0 := h2.out.cell
    replace hz := Lib.hid hz
    go_enter Tryd.func42, Tryd.ntmps42
    go_wp2_with fail
    refine hs.out.mono ?_
    rintro e w1 ⟨rfl, hb1⟩
    rw [← hz.out, fV]
    simp only
    clear hs
    have hk := blk_below (heap_alloc_new w (.cells #[.string ⟨#[]⟩, .string ⟨#[]⟩] 46)) hb1
    have hb := bl_then (bl_alloc (Below.refl w.heap.size w) (.cells #[.string ⟨#[]⟩, .string ⟨#[]⟩] 46)) hb1
    replace hk := Lib.hid hk
    clear c0
    go_wp2_with ((with_reducible refine wpList_store_row rfl 46 (.tmp 4) (.tmp 19) rfl w.heap.size _ #[.string fn, .string fv] rfl rfl hk.out (k := 2) (by kernel_rfl) (by kernel_rfl) (by kernel_rfl) (by kernel_rfl) rfl ?_))
    have F := setRow_heap w1 w.heap.size #[.string ⟨#[]⟩, .string ⟨#[]⟩] #[.string fn, .string fv] _ _ hk.out
    have F0 := (cell_of_row _ _ 0 _ _ _ F).trans (show _ = some (.string fn) from rfl)
    have F1 := (cell_of_row _ _ 1 _ _ _ F).trans (show _ = some (.string fv) from rfl)
    exact bodyPost_ret (v := .tuple #[.agg #[.string fn, .string fv], .int .i64 (fe : Int)]) (by simp [results, Tryd.results42, go_sem, F0, F1]) rfl ⟨rfl, bl_setRow hb (Nat.le_refl _) _⟩
end Go.Proofs.YtfkpeahelhpelaaDoor

namespace Go.Proofs.YtfkpeahelhpelaaDoor
set_option linter.all false
open Go.RowKit Go.Shelf
attribute [local go_sem] Oper.semAt_some valueOf_ok

/-- The field that an item stands for. -/
def fieldS (F : List FieldS) (x : ItemS) : FieldS × Nat :=
  if x.n = 0 then ((strB x.name, strB x.value), 0)
  else if x.kind = 0 then namedS F (x.n : Int) else (((namedS F (x.n : Int)).1.1, strB x.value), (namedS F (x.n : Int)).2)
set_option maxRecDepth 100000 in
set_option maxHeartbeats 2000000 in
theorem field_any (d t : Nat) (v : Value) (T : Tb) (x : ItemS) (w : World) (h : Dec w d t v T) (hn : x.n ≤ 16777215) :
    Calls Tryd.prog 23 #[.pointer (some ⟨d, 0, none⟩), itemV x] w fun e w' => e = .returned (.tuple #[fV (fieldS T.f x).1, .int .i64 ((fieldS T.f x).2 : Int)]) ∧ Below w.heap.size w w' := by
  obtain ⟨kind, n, name, value⟩ := x
  rw [itemV]
  simp only at hn ⊢
  rw [show strV name = .string (strB name) from rfl, show strV value = .string (strB value) from rfl]
  obtain ⟨nm, hnm⟩ : ∃ nm, nm = strB name := ⟨_, rfl⟩
  obtain ⟨vl, hvl⟩ : ∃ vl, vl = strB value := ⟨_, rfl⟩
  obtain ⟨z, hz⟩ : ∃ z, z = fieldS T.f ⟨kind, n, name, value⟩ := ⟨_, rfl⟩
  rw [← hz, ← hnm, ← hvl]
  rw [fieldS] at hz
  simp only [← hnm, ← hvl] at hz
  clear hnm hvl
  by_cases hn0 : n = 0
  · rw [if_pos hn0] at hz
    subst hz hn0
    rw [fV]
    simp only
    go_enter Tryd.func23, Tryd.ntmps23
    have H := (((Hp.nil w).alloc (.cells #[.int .i64 (kind : Int), .int .i64 0, .string nm, .string vl] 62)).alloc (.cells #[.string ⟨#[]⟩, .string ⟨#[]⟩] 46)).alloc (.cells #[.string nm, .string vl] 46)
    have hbx := bl_alloc (bl_alloc (bl_alloc (Below.refl w.heap.size w) (.cells #[.int .i64 (kind : Int), .int .i64 0, .string nm, .string vl] 62)) (.cells #[.string ⟨#[]⟩, .string ⟨#[]⟩] 46)) (.cells #[.string nm, .string vl] 46)
    simp only [World.size_alloc, List.cons_append, List.nil_append, Nat.add_assoc, Nat.reduceAdd] at H
    have g1 := Lib.hid (H.get 1 rfl)
    have g2 := Lib.hid (H.get 2 rfl)
    replace H := Lib.hid H
    go_wp2_with (first
      | ((with_reducible refine wpList_store_row rfl 46 (.tmp 4) (.tmp 17) rfl (w.heap.size + 1) _ #[.string nm, .string vl] rfl rfl g1.out (k := 2) (by kernel_rfl) (by kernel_rfl) (by kernel_rfl) (by kernel_rfl) rfl ?_))
      | ((with_reducible refine wl_load_row rfl 46 (.tmp 6) rfl (w.heap.size + 2) rfl #[.string nm, .string vl] g2.out (by kernel_rfl) (k := 2) (by kernel_rfl) (by kernel_rfl) ?_)))
    have H2 := H.out.setRow 1 rfl #[.string nm, .string vl]
    have F0 := (H2.cell 1 rfl 0).trans (show _ = some (.string nm) from rfl)
    have F1 := (H2.cell 1 rfl 1).trans (show _ = some (.string vl) from rfl)
    exact bodyPost_ret (v := .tuple #[.agg #[.string nm, .string vl], .int .i64 0]) (by simp [results, Tryd.results23, go_sem, F0, F1]) rfl ⟨rfl, bl_setRow hbx (by omega) _⟩
  · rw [if_neg hn0] at hz
    have hn1 : ((n : Int) == 0) = false := by simp [hn0]
    obtain ⟨B1, hB1⟩ : ∃ B1 : Obj, B1 = .cells #[.int .i64 (kind : Int), .int .i64 (n : Int), .string nm, .string vl] 62 := ⟨_, rfl⟩
    obtain ⟨B2, hB2⟩ : ∃ B2 : Obj, B2 = .cells #[.string ⟨#[]⟩, .string ⟨#[]⟩] 46 := ⟨_, rfl⟩
    obtain ⟨B3, hB3⟩ : ∃ B3 : Obj, B3 = .cells #[.string nm, .string vl] 46 := ⟨_, rfl⟩
    have hbl : Below w.heap.size w (((w.alloc B1).alloc B2).alloc B3) := bl_alloc (bl_alloc (bl_alloc (Below.refl _ _) _) _) _
    have hnamed := named_any d t v T (n : Int) _ (h.below hbl) (by omega)
    subst hB1 hB2 hB3
    replace hn0 := Lib.hid hn0
    go_enter Tryd.func23, Tryd.ntmps23
    go_wp2_with fail
    refine hnamed.mono ?_
    rintro e w1 ⟨rfl, hb1⟩
    clear hnamed
    obtain ⟨⟨⟨gn, gv⟩, ge⟩, hg⟩ : ∃ g, g = namedS T.f (n : Int) := ⟨_, rfl⟩
    rw [← hg] at hz ⊢
    rw [fV]
    simp only at hz ⊢
    replace hg := Lib.hid hg
    have hb := bl_then hbl hb1
    have HC := ((((Hp.nil w).alloc (.cells #[.int .i64 (kind : Int), .int .i64 (n : Int), .string nm, .string vl] 62)).alloc (.cells #[.string ⟨#[]⟩, .string ⟨#[]⟩] 46)).alloc (.cells #[.string nm, .string vl] 46)).below hb1
    have H := HC.alloc (.cells #[.string gn, .string gv] 46)
    simp only [World.size_alloc, List.cons_append, List.nil_append, Nat.add_assoc, Nat.reduceAdd] at H
    have hbx := bl_alloc hb (.cells #[.string gn, .string gv] 46)
    by_cases hk0 : kind = 0
    · have hk1 : ((kind : Int) != 0) = false := by simp [hk0]
      rw [if_pos hk0] at hz
      subst hz
      have p0 := (H.cell 0 rfl 0).trans (show _ = some (.int .i64 (kind : Int)) from rfl)
      have p3 := (H.cell 0 rfl 3).trans (show _ = some (.string vl) from rfl)
      have HX := H
      have g1 := Lib.hid (HX.get 1 rfl)
      replace HX := Lib.hid HX
      replace H := Lib.hid H
      go_wp2_with ((with_reducible refine wpList_store_row rfl 46 (.tmp 4) (.tmp 31) rfl (w.heap.size + 1) _ #[.string gn, .string gv] rfl rfl g1.out (k := 2) (by kernel_rfl) (by kernel_rfl) (by kernel_rfl) (by kernel_rfl) rfl ?_))
      have H2 := HX.out.setRow 1 rfl #[.string gn, .string gv]
      have F0 := (H2.cell 1 rfl 0).trans (show _ = some (.string gn) from rfl)
      have F1 := (H2.cell 1 rfl 1).trans (show _ = some (.string gv) from rfl)
      exact bodyPost_ret (v := .tuple #[.agg #[.string gn, .string gv], .int .i64 (ge : Int)]) (by simp [results, Tryd.results23, go_sem, F0, F1]) rfl ⟨rfl, bl_setRow hbx (by omega) _⟩
    · have hk1 : ((kind : Int) != 0) = true := by simp [hk0]
      rw [if_neg hk0] at hz
      subst hz
      have p0 := (H.cell 0 rfl 0).trans (show _ = some (.int .i64 (kind : Int)) from rfl)
      have p3 := (H.cell 0 rfl 3).trans (show _ = some (.string vl) from rfl)
      have z1 := H.free 3 rfl 1
      have y1 := (H.cell 3 rfl 1).trans (show _ = some (.string gv) from rfl)
      have HX := HC.alloc (.cells #[.string gn, .string vl] 46)
      simp only [World.size_alloc, List.cons_append, List.nil_append, Nat.add_assoc, Nat.reduceAdd] at HX
      have hbx := bl_alloc hb (.cells #[.string gn, .string vl] 46)
      have g1 := Lib.hid (HX.get 1 rfl)
      replace HX := Lib.hid HX
      replace H := Lib.hid H
      replace HC := Lib.hid HC
      go_wp2_with ((with_reducible refine wpList_store_row rfl 46 (.tmp 4) (.tmp 31) rfl (w.heap.size + 1) _ #[.string gn, .string vl] rfl rfl g1.out (k := 2) (by kernel_rfl) (by kernel_rfl) (by kernel_rfl) (by kernel_rfl) rfl ?_))
      have H2 := HX.out.setRow 1 rfl #[.string gn, .string vl]
      have F0 := (H2.cell 1 rfl 0).trans (show _ = some (.string gn) from rfl)
      have F1 := (H2.cell 1 rfl 1).trans (show _ = some (.string vl) from rfl)
      exact bodyPost_ret (v := .tuple #[.agg #[.string gn, .string vl], .int .i64 (ge : Int)]) (by simp [results, Tryd.results23, go_sem, F0, F1]) rfl ⟨rfl, bl_setRow hbx (by omega) _⟩
theorem fV_cells (f : FieldS) : fcells [f] = [.string f.1, .string f.2] := rfl
set_option maxRecDepth 100000 in
set_option maxHeartbeats 2000000 in
theorem btable_any (d t : Nat) (v : Value) (T : Tb) (w : World) (h : Dec w d t v T) :
    Calls Tryd.prog 13 #[.pointer (some ⟨d, 0, none⟩)] w fun e w' => ∃ v', e = .returned v' ∧ w'.ownsRow w.heap.size 46 2 v' T.f.reverse.length (fcells T.f.reverse) ∧ Below w.heap.size w w' := by
  have hlen := len_sumF T.f
  have h1 := h.tab.sum
  have h2 := h.tab.mb
  have h3 := h.tab.bb
  have hl : (T.f.length : Int) ≤ 128 := by omega
  have c0 := h.cell
  have hL := len_any t v T w h.tab
  replace h := Lib.hid h
  go_enter Tryd.func13, Tryd.ntmps13
  go_wp2_with fail
  refine hL.mono ?_
  rintro e w' ⟨rfl, rfl⟩
  clear hL
  go_wp2_with fail
  go_loopw [3, 14] (fun o i wr => ∃ k : Nat, k ≤ T.f.length ∧ i = .int .i64 k ∧ wr.ownsRow w.heap.size 46 2 o k (fcells (T.f.reverse.take k)) ∧ Below w.heap.size w wr) (fun _ i _ => T.f.length - (intOf i).toNat)
  case atStart => exact ⟨0, by omega, rfl, World.ownsRow_nil _ _ _ _, Below.refl _ _⟩
  case round =>
    obtain ⟨k, hk, rfl, hown, hb⟩ := hrel
    obtain ⟨va, vc, rfl, hvc⟩ := own_shape hown
    replace hown := Lib.hid hown
    by_cases hlt : k < T.f.length
    · have hlt' : (k : Int) < T.f.length := by omega
      have hk0 : (0 : Int) ≤ k := by omega
      have hD := h.out.below hb
      clear c0
      have c0 := hD.cell
      have hg := Lib.hid (tget_any t v T ((k : Int) + 1) _ hD.tab (by omega))
      replace hD := Lib.hid hD
      obtain ⟨f, hf⟩ : ∃ f, T.f.reverse[k]? = some f := ⟨_, List.getElem?_eq_getElem (by simpa using hlt)⟩
      have hget : tget T.f ((k : Int) + 1) = (f, 0) := by
        rw [tget, if_pos (by omega), show T.f.length - ((k : Int) + 1).toNat = T.f.length - 1 - k by omega]
        rw [List.getElem?_reverse (by omega)] at hf
        rw [List.getD_eq_getElem?_getD, hf]
        rfl
      have htk : T.f.reverse.take (k + 1) = T.f.reverse.take k ++ [f] := by
        have := List.take_add_one (l := T.f.reverse) (i := k)
        rw [hf] at this
        exact this
      replace hget := Lib.hid hget
      replace htk := Lib.hid htk
      clear hf
      go_wp2_with fail
      refine hg.out.mono ?_
      rintro e w1 ⟨rfl, hb1⟩
      rw [hget.out, fV]
      simp only
      have ho1 := own_keep (w' := w1) hown.out (fun g _ hg => hb1.block g hg)
      have ho2 := own_alloc (own_alloc ho1 (.cells #[.string f.1, .string f.2] 46)) (.cells #[.string f.1, .string f.2] 46)
      have hbb := bl_alloc (bl_alloc (bl_then hb hb1) (.cells #[.string f.1, .string f.2] 46)) (.cells #[.string f.1, .string f.2] 46)
      have hnews := World.news_of_block (cs := #[.string f.1, .string f.2]) (t := 46) (fr := (0, 0)) (heap_alloc_new (w1.alloc (.cells #[.string f.1, .string f.2] 46)) (.cells #[.string f.1, .string f.2] 46))
      rw [World.size_alloc] at hnews
      have hap := Lib.hid (fun ev o x y => ex_append (P := Tryd.prog) field_info 33 (by kernel_rfl) (by decide) (by decide) w.heap.size _ _ _ ho2 _ 1 1 [.string f.1, .string f.2] rfl hnews (by simp [Value.oneCell']) (by simp only [maxLen]; omega) (by omega) hbb.size ev o x y)
      replace ho1 := Lib.hid ho1
      replace ho2 := Lib.hid ho2
      replace hnews := Lib.hid hnews
      go_wp2_with (((with_reducible refine at_append 33 ?_); refine wl_ex rfl (hap.out _ _ _ _ rfl rfl rfl) ?_; rintro v5 w5 ⟨ho5, hg5, hv5⟩; replace ho5 := Lib.hid ho5; clear hap))
      go_roundw
      case rel => exact ⟨k + 1, by omega, by go_num, by rw [htk.out, fcells_append]; exact ho5.out, (hbb.trans (grown_below hg5 hbb.size (fun g hg => own_block ho2.out hg)))⟩
      case measure => simp [intOf]; omega
    · obtain rfl : k = T.f.length := by omega
      have hown2 := hown.out
      rw [List.take_of_length_le (by simp)] at hown2
      replace hown2 := Lib.hid hown2
      go_wp2_with fail
      go_ret
      exact ⟨_, rfl, by rw [List.length_reverse]; exact hown2.out, hb⟩
end Go.Proofs.YtfkpeahelhpelaaDoor
