/- The block of a list (layer 9): block.Encode. -/
import Derived.Test.YtfkpeahelhpelaaDoorIencM
import Derived.Test.YtfkpeahelhpelaaDoorFoundS
import Derived.Test.YtfkpeahelhpelaaDoorTab
namespace Go.Proofs.YtfkpeahelhpelaaDoor
set_option linter.all false
open Go.RowKit
attribute [local go_sem] Oper.semAt_some valueOf_ok

def bitem (f : FieldS) : List UInt8 :=
  if (findS f.1 f.2).2 then penc 7 128 (findS f.1 f.2).1 else ienc2 (findS f.1 f.2).1 (if (findS f.1 f.2).1 = 0 then f.1 else ⟨#[]⟩) f.2
def fokS (f : FieldS) : Bool := decide (f.1.size ≤ 65536 ∧ f.2.size ≤ 65536)
def bhead (first : Bool) : List UInt8 := if first then penc 5 32 0 else []
def bpre (first : Bool) (l : List FieldS) : List UInt8 := bhead first ++ l.flatMap bitem
def benc (l : List FieldS) (first : Bool) : List UInt8 × Nat := if l.all fokS then (bpre first l, 0) else ([], 1)
theorem empty_size : (⟨#[]⟩ : ByteArray).size = 0 := rfl
theorem ienc2_len (n : Nat) (x v : ByteArray) (hx : x.size ≤ 65536) (hv : v.size ≤ 65536) : (ienc2 n x v).length ≤ 600000 := by
  have h1 := penc_len 4 0 n
  have h2 := shenc_len x hx
  have h3 := shenc_len v hv
  rw [ienc2]
  split <;> simp only [List.length_append, List.length_nil] <;> omega
theorem ienc2_pos (n : Nat) (x v : ByteArray) : 0 < (ienc2 n x v).length := by
  have := penc_pos 4 0 n
  rw [ienc2]
  simp only [List.length_append]
  omega
theorem bitem_pos (f : FieldS) : 0 < (bitem f).length := by
  rw [bitem]
  split
  · exact penc_pos _ _ _
  · exact ienc2_pos _ _ _
theorem bitem_len (f : FieldS) (h : fokS f = true) : (bitem f).length ≤ 600000 := by
  obtain ⟨h1, h2⟩ := of_decide_eq_true h
  rw [bitem]
  split
  · have := penc_len 7 128 (findS f.1 f.2).1; omega
  · split
    · exact ienc2_len _ _ _ h1 h2
    · exact ienc2_len _ _ _ (by rw [empty_size]; omega) h2
theorem bpre_len (first : Bool) : ∀ l : List FieldS, l.all fokS = true → (bpre first l).length ≤ 10 + 600000 * l.length := by
  have h0 : (bhead first).length ≤ 10 := by
    cases first
    · simp [bhead]
    · have := penc_len 5 32 0; show (penc 5 32 0).length ≤ 10; omega
  intro l h
  rw [bpre, List.length_append]
  have : (l.flatMap bitem).length ≤ 600000 * l.length := by
    induction l with
    | nil => simp
    | cons f r ih =>
      rw [List.all_cons, Bool.and_eq_true] at h
      have h1 := bitem_len f h.1
      have h2 := ih h.2
      rw [List.flatMap_cons, List.length_append, List.length_cons]
      omega
  omega
theorem bpre_step (first : Bool) (l : List FieldS) (k : Nat) (f : FieldS) (hf : l[k]? = some f) : bpre first (l.take (k + 1)) = bpre first (l.take k) ++ bitem f := by
  rw [bpre, bpre, List.take_add_one, hf, List.flatMap_append, List.append_assoc]
  simp
theorem all_step (l : List FieldS) (k : Nat) (f : FieldS) (hf : l[k]? = some f) (h : (l.take k).all fokS = true) (h2 : fokS f = true) : (l.take (k + 1)).all fokS = true := by
  rw [List.take_add_one, hf, List.all_append, h]
  simp [h2]
theorem not_all (l : List FieldS) (k : Nat) (f : FieldS) (hf : l[k]? = some f) (h2 : fokS f = false) (first : Bool) : benc l first = ([], 1) := by
  rw [benc, if_neg]
  intro h
  rw [List.all_eq_true] at h
  have := h f (List.mem_of_getElem? hf)
  rw [h2] at this
  cases this
set_option maxRecDepth 100000 in
set_option maxHeartbeats 4000000 in
theorem benc_f (A : Option Addr) (l : List FieldS) (c : Nat) (w : World) {P : Nat → Prop} (hr : FRead w P A l) (hl : l.length ≤ 100) (hL : LaidLens w) (hS : LaidShapes w) :
    Calls Tryd.prog 16 #[.slice A l.length c, .bool false] w fun e w' => ∃ v, e = .returned (.tuple #[v, .int .i64 ((benc l false).2 : Int)]) ∧ w'.ownsRow w.heap.size 5 1 v (benc l false).1.length ((benc l false).1.map bv) ∧ Below w.heap.size w w' := by
  replace hr := Lib.hid hr
  go_enter Tryd.func16, Tryd.ntmps16
  go_wp2_with fail
  have ho1 : w.ownsRow w.heap.size 5 1 (.slice none 0 0) (bpre false (l.take 0)).length ((bpre false (l.take 0)).map bv) := World.ownsRow_nil _ _ _ _
  have hbl1 := Below.refl w.heap.size w
  go_loopw [6, 22] (fun o i wr => ∃ k : Nat, k ≤ l.length ∧ i = .int .i64 k ∧ wr.ownsRow w.heap.size 5 1 o (bpre false (l.take k)).length ((bpre false (l.take k)).map bv) ∧ (l.take k).all fokS = true ∧ Below w.heap.size w wr) (fun _ i _ => l.length - (intOf i).toNat)
  case atStart => exact ⟨0, by omega, rfl, ho1, rfl, hbl1⟩
  case round =>
    obtain ⟨k, hk, rfl, hown, hok, hb2⟩ := hrel
    clear ho1 hbl1
    have hpb := bpre_len false _ hok
    have hpk : (l.take k).length ≤ l.length := by rw [List.length_take]; omega
    by_cases hlt : k < l.length
    · have hlt' : (k : Int) < l.length := by omega
      have hk0 : (0 : Int) ≤ k := by omega
      obtain ⟨f, hf⟩ : ∃ f, l[k]? = some f := ⟨_, List.getElem?_eq_getElem hlt⟩
      obtain ⟨b, off, rfl, hbw, q0, q1⟩ := (hr.out.below hb2).at_ hf
      have hstep := bpre_step false l k f hf
      have hal := all_step l k f hf hok
      have hno := fun h => not_all l k f hf h false
      have hbi := bitem.eq_1 f
      have hbp := bitem_pos f
      have hbL := bitem_len f
      have hfo := findS_ok f.1 f.2
      generalize bitem f = bi at hstep hbi hbp hbL
      obtain ⟨n, v⟩ := f
      simp only at q0 q1 hbi hfo
      have hfk : fokS (n, v) = decide (n.size ≤ 65536 ∧ v.size ≤ 65536) := rfl
      generalize fokS (n, v) = fk at hal hno hbL hfk
      have F1 := find_any n v
      obtain ⟨⟨i, wh⟩, hfi⟩ : ∃ x, findS n v = x := ⟨_, rfl⟩
      rw [hfi] at hbi hfo F1
      simp only at hbi hfo F1
      clear hfi hf
      replace hstep := Lib.hid hstep
      replace hal := Lib.hid hal
      replace hno := Lib.hid hno
      replace hok := Lib.hid hok
      replace hbi := Lib.hid hbi
      replace hfo := Lib.hid hfo
      replace hown := Lib.hid hown
      replace hbL := Lib.hid hbL
      replace hfk := Lib.hid hfk
      have r00 := heap_alloc_new wr (.cells #[.string n, .string v] 46)
      have r0 := cells_two r00
      go_wp2_with fail
      refine (F1 _).mono ?_
      rintro e w2 ⟨rfl, hbl2⟩
      have r2 := blk_below r00 hbl2
      obtain ⟨c0, c1⟩ := cells_two r2
      have hbl3 := bl_then (bl_alloc (Below.refl wr.heap.size wr) (.cells #[.string n, .string v] 46)) hbl2
      have hS2 := hS.below (bl_then hb2 hbl3)
      have hL2 := hL.below (bl_then hb2 hbl3)
      have hi61 : i ≤ 61 := hfo.out.1
      have i61 : (i : Int) ≤ 61 := by omega
      have z2 := itO_cells (heap_alloc_new w2 (itO 2 i ⟨#[]⟩ v))
      obtain ⟨z20, z21, z22, z23⟩ := z2
      cases wh with
      | true =>
        have hi0 : i ≠ 0 := (hfo.out.2.2 rfl).1
        have i1 : (1 : Int) ≤ i := by omega
        have hnl : n.size ≤ 100 := by rw [← hfo.out.2.1 hi0]; exact nm_short _ (by omega)
        have hvl : v.size ≤ 100 := by rw [← (hfo.out.2.2 rfl).2]; exact vl_short _ (by omega)
        have hnl' : (n.size : Int) ≤ 100 := by omega
        have hfk' : fk = true := by rw [hfk.out]; exact decide_eq_true ⟨by omega, by omega⟩
        have hbl := hbL.out hfk'
        have hbe := hbi.out
        rw [if_pos rfl] at hbe
        obtain ⟨z00, z01, z02, z03⟩ := itO_cells (heap_alloc_new w2 (itO 0 i ⟨#[]⟩ ⟨#[]⟩))
        have hie := ienc_0 i (w2.alloc (itO 0 i ⟨#[]⟩ ⟨#[]⟩)) (by omega) hi61 (hS2.below (bl_alloc (Below.refl _ _) _))
        rw [← hbe] at hie
        clear hbe
        unfold itA at hie
        unfold itO at *
        go_wp2_with fail
        refine hie.mono ?_
        rintro e w4 ⟨u4, rfl, ho4, hbl4⟩
        have hbl5 := bl_then hbl3 (bl_then (bl_alloc (Below.refl w2.heap.size w2) _) hbl4)
        have r4 := blk_below (blk_alloc r2 _) hbl4
        obtain ⟨c0, c1⟩ := cells_two r4
        have ho5 := own_keep (w' := w4) hown.out fun g _ hg => hbl5.block g hg
        have hb5 := bl_then hb2 hbl5
        have hs5 : w.heap.size ≤ w4.heap.size := hb5.size
        clear r00 r0 r2 r4 hbl2 hbl3 hbl4 hbl5 hb2 hown
        replace ho5 := Lib.hid ho5
        obtain ⟨A4, k4, rfl, -⟩ := own_shape ho4
        replace ho4 := Lib.hid ho4
        go_wp2_with (((with_reducible refine at_append 30 ?_); refine wl_ex rfl (ex_append_bytes w.heap.size _ _ _ ho5.out _ _ _ (.inr hbp) (own_bytes ho4.out) (by omega) hs5 _ _ _ _ rfl rfl rfl) ?_; rintro u7 w7 ⟨ho9, hg7, hv7⟩; have hbl11 := hb5.trans (grown_below hg7 hs5 (fun g hg => own_block ho5.out hg)); replace ho9 := Lib.hid ho9))
        go_roundw
        case rel =>
          refine ⟨k + 1, ?_⟩
          rw [hstep.out, List.length_append, List.map_append]
          exact ⟨by omega, by go_num, ho9.out, hal.out hfk', hbl11⟩
        case measure => simp [intOf]; omega
      | false =>
        have hbe := hbi.out
        rw [if_neg (by decide)] at hbe
        by_cases hi0 : i = 0
        · subst hi0
          rw [if_pos rfl] at hbe
          obtain ⟨z00, z01, z02, z03⟩ := itO_cells (heap_alloc_new w2 (itO 2 0 n v))
          obtain ⟨y0, y1⟩ := cells_two (blk_alloc r2 (itO 2 0 ⟨#[]⟩ v))
          have hcast : ((0 : Nat) : Int) = 0 := rfl
          cases fk with
          | true =>
            have hfk' : true = true := rfl
            have hfd := of_decide_eq_true hfk.out.symm
            have hnl' : (n.size : Int) ≤ 65536 := by omega
            have hbl := hbL.out hfk'
            have hie := ienc_2 0 n v (w2.alloc (itO 2 0 n v)) (by omega) (.inl rfl) hfd.1 hfd.2 (hL2.below (bl_alloc (Below.refl _ _) _)) (hS2.below (bl_alloc (Below.refl _ _) _))
            rw [← hbe] at hie
            clear hbe
            unfold itA at hie
            unfold itO at *
            try rw [hcast] at hie
            go_wp2_with fail
            refine hie.mono ?_
            rintro e w4 ⟨u4, rfl, ho4, hbl4⟩
            have hbl5 := bl_then hbl3 (bl_then (bl_alloc (Below.refl w2.heap.size w2) _) hbl4)
            have r4 := blk_below (blk_alloc r2 _) hbl4
            obtain ⟨c0, c1⟩ := cells_two r4
            have ho5 := own_keep (w' := w4) hown.out fun g _ hg => hbl5.block g hg
            have hb5 := bl_then hb2 hbl5
            have hs5 : w.heap.size ≤ w4.heap.size := hb5.size
            clear r00 r0 r2 r4 hbl2 hbl3 hbl4 hbl5 hb2 hown
            replace ho5 := Lib.hid ho5
            obtain ⟨A4, k4, rfl, -⟩ := own_shape ho4
            replace ho4 := Lib.hid ho4
            go_wp2_with (((with_reducible refine at_append 30 ?_); refine wl_ex rfl (ex_append_bytes w.heap.size _ _ _ ho5.out _ _ _ (.inr hbp) (own_bytes ho4.out) (by omega) hs5 _ _ _ _ rfl rfl rfl) ?_; rintro u7 w7 ⟨ho9, hg7, hv7⟩; have hbl11 := hb5.trans (grown_below hg7 hs5 (fun g hg => own_block ho5.out hg)); replace ho9 := Lib.hid ho9))
            go_roundw
            case rel =>
              refine ⟨k + 1, ?_⟩
              rw [hstep.out, List.length_append, List.map_append]
              exact ⟨by omega, by go_num, ho9.out, hal.out hfk', hbl11⟩
            case measure => simp [intOf]; omega
          | false =>
            have hfk' : false = false := rfl
            have hfd := of_decide_eq_false hfk.out.symm
            have hie := ienc_2no 0 n v (w2.alloc (itO 2 0 n v)) (by omega) (.inl rfl) hfd
            clear hbe
            unfold itA at hie
            unfold itO at *
            try rw [hcast] at hie
            go_wp2_with fail
            refine hie.mono ?_
            rintro e w4 ⟨rfl, hbl4⟩
            have hbl5 := bl_then hbl3 (bl_then (bl_alloc (Below.refl w2.heap.size w2) _) hbl4)
            have hb5 := bl_then hb2 hbl5
            clear r00 r0 r2 hbl2 hbl3 hbl4 hbl5 hb2
            go_wp2_with fail
            go_ret2
            rw [hno.out hfk']
            exact ⟨_, rfl, World.ownsRow_nil _ _ _ _, hb5⟩
        · rw [if_neg hi0] at hbe
          have i1 : (1 : Int) ≤ i := by omega
          have hnl : n.size ≤ 100 := by rw [← hfo.out.2.1 hi0]; exact nm_short _ (by omega)
          have hnl' : (n.size : Int) ≤ 100 := by omega
          cases fk with
          | true =>
            have hfk' : true = true := rfl
            have hfd := of_decide_eq_true hfk.out.symm
            have hbl := hbL.out hfk'
            have hie := ienc_2 i ⟨#[]⟩ v (w2.alloc (itO 2 i ⟨#[]⟩ v)) hi61 (.inr rfl) (by decide) hfd.2 (hL2.below (bl_alloc (Below.refl _ _) _)) (hS2.below (bl_alloc (Below.refl _ _) _))
            rw [← hbe] at hie
            clear hbe
            unfold itA at hie
            unfold itO at *
            try rw [hcast] at hie
            go_wp2_with fail
            refine hie.mono ?_
            rintro e w4 ⟨u4, rfl, ho4, hbl4⟩
            have hbl5 := bl_then hbl3 (bl_then (bl_alloc (Below.refl w2.heap.size w2) _) hbl4)
            have r4 := blk_below (blk_alloc r2 _) hbl4
            obtain ⟨c0, c1⟩ := cells_two r4
            have ho5 := own_keep (w' := w4) hown.out fun g _ hg => hbl5.block g hg
            have hb5 := bl_then hb2 hbl5
            have hs5 : w.heap.size ≤ w4.heap.size := hb5.size
            clear r00 r0 r2 r4 hbl2 hbl3 hbl4 hbl5 hb2 hown
            replace ho5 := Lib.hid ho5
            obtain ⟨A4, k4, rfl, -⟩ := own_shape ho4
            replace ho4 := Lib.hid ho4
            go_wp2_with (((with_reducible refine at_append 30 ?_); refine wl_ex rfl (ex_append_bytes w.heap.size _ _ _ ho5.out _ _ _ (.inr hbp) (own_bytes ho4.out) (by omega) hs5 _ _ _ _ rfl rfl rfl) ?_; rintro u7 w7 ⟨ho9, hg7, hv7⟩; have hbl11 := hb5.trans (grown_below hg7 hs5 (fun g hg => own_block ho5.out hg)); replace ho9 := Lib.hid ho9))
            go_roundw
            case rel =>
              refine ⟨k + 1, ?_⟩
              rw [hstep.out, List.length_append, List.map_append]
              exact ⟨by omega, by go_num, ho9.out, hal.out hfk', hbl11⟩
            case measure => simp [intOf]; omega
          | false =>
            have hfk' : false = false := rfl
            have hfd := of_decide_eq_false hfk.out.symm
            have hie := ienc_2no i ⟨#[]⟩ v (w2.alloc (itO 2 i ⟨#[]⟩ v)) hi61 (.inr rfl) (fun h => hfd ⟨by omega, h.2⟩)
            clear hbe
            unfold itA at hie
            unfold itO at *
            try rw [hcast] at hie
            go_wp2_with fail
            refine hie.mono ?_
            rintro e w4 ⟨rfl, hbl4⟩
            have hbl5 := bl_then hbl3 (bl_then (bl_alloc (Below.refl w2.heap.size w2) _) hbl4)
            have hb5 := bl_then hb2 hbl5
            clear r00 r0 r2 hbl2 hbl3 hbl4 hbl5 hb2
            go_wp2_with fail
            go_ret2
            rw [hno.out hfk']
            exact ⟨_, rfl, World.ownsRow_nil _ _ _ _, hb5⟩
    · obtain rfl : k = l.length := by omega
      rw [List.take_length] at hown hok
      have hz : benc l false = (bpre false l, 0) := by rw [benc, if_pos hok]
      replace hz := Lib.hid hz
      replace hown := Lib.hid hown
      replace hok := Lib.hid hok
      obtain ⟨va, vc, rfl, hvc⟩ := own_shape hown.out
      go_wp2_with fail
      go_ret2
      rw [hz.out]
      exact ⟨_, rfl, hown.out, hb2⟩
set_option maxRecDepth 100000 in
set_option maxHeartbeats 4000000 in
theorem benc_t (A : Option Addr) (l : List FieldS) (c : Nat) (w : World) {P : Nat → Prop} (hr : FRead w P A l) (hl : l.length ≤ 100) (hL : LaidLens w) (hS : LaidShapes w) :
    Calls Tryd.prog 16 #[.slice A l.length c, .bool true] w fun e w' => ∃ v, e = .returned (.tuple #[v, .int .i64 ((benc l true).2 : Int)]) ∧ w'.ownsRow w.heap.size 5 1 v (benc l true).1.length ((benc l true).1.map bv) ∧ Below w.heap.size w w' := by
  replace hr := Lib.hid hr
  go_enter Tryd.func16, Tryd.ntmps16
  go_wp2_with fail
  refine (ienc_4 w hS).mono ?_
  rintro e w1 ⟨v, rfl, ho0, hbl1⟩
  go_wp2_with fail
  have ho1 : w1.ownsRow w.heap.size 5 1 v (bpre true (l.take 0)).length ((bpre true (l.take 0)).map bv) := by simpa [bpre, bhead] using ho0
  clear ho0
  go_loopw [6, 22] (fun o i wr => ∃ k : Nat, k ≤ l.length ∧ i = .int .i64 k ∧ wr.ownsRow w.heap.size 5 1 o (bpre true (l.take k)).length ((bpre true (l.take k)).map bv) ∧ (l.take k).all fokS = true ∧ Below w.heap.size w wr) (fun _ i _ => l.length - (intOf i).toNat)
  case atStart => exact ⟨0, by omega, rfl, ho1, rfl, hbl1⟩
  case round =>
    obtain ⟨k, hk, rfl, hown, hok, hb2⟩ := hrel
    clear ho1 hbl1
    have hpb := bpre_len true _ hok
    have hpk : (l.take k).length ≤ l.length := by rw [List.length_take]; omega
    by_cases hlt : k < l.length
    · have hlt' : (k : Int) < l.length := by omega
      have hk0 : (0 : Int) ≤ k := by omega
      obtain ⟨f, hf⟩ : ∃ f, l[k]? = some f := ⟨_, List.getElem?_eq_getElem hlt⟩
      obtain ⟨b, off, rfl, hbw, q0, q1⟩ := (hr.out.below hb2).at_ hf
      have hstep := bpre_step true l k f hf
      have hal := all_step l k f hf hok
      have hno := fun h => not_all l k f hf h true
      have hbi := bitem.eq_1 f
      have hbp := bitem_pos f
      have hbL := bitem_len f
      have hfo := findS_ok f.1 f.2
      generalize bitem f = bi at hstep hbi hbp hbL
      obtain ⟨n, v⟩ := f
      simp only at q0 q1 hbi hfo
      have hfk : fokS (n, v) = decide (n.size ≤ 65536 ∧ v.size ≤ 65536) := rfl
      generalize fokS (n, v) = fk at hal hno hbL hfk
      have F1 := find_any n v
      obtain ⟨⟨i, wh⟩, hfi⟩ : ∃ x, findS n v = x := ⟨_, rfl⟩
      rw [hfi] at hbi hfo F1
      simp only at hbi hfo F1
      clear hfi hf
      replace hstep := Lib.hid hstep
      replace hal := Lib.hid hal
      replace hno := Lib.hid hno
      replace hok := Lib.hid hok
      replace hbi := Lib.hid hbi
      replace hfo := Lib.hid hfo
      replace hown := Lib.hid hown
      replace hbL := Lib.hid hbL
      replace hfk := Lib.hid hfk
      have r00 := heap_alloc_new wr (.cells #[.string n, .string v] 46)
      have r0 := cells_two r00
      go_wp2_with fail
      refine (F1 _).mono ?_
      rintro e w2 ⟨rfl, hbl2⟩
      have r2 := blk_below r00 hbl2
      obtain ⟨c0, c1⟩ := cells_two r2
      have hbl3 := bl_then (bl_alloc (Below.refl wr.heap.size wr) (.cells #[.string n, .string v] 46)) hbl2
      have hS2 := hS.below (bl_then hb2 hbl3)
      have hL2 := hL.below (bl_then hb2 hbl3)
      have hi61 : i ≤ 61 := hfo.out.1
      have i61 : (i : Int) ≤ 61 := by omega
      have z2 := itO_cells (heap_alloc_new w2 (itO 2 i ⟨#[]⟩ v))
      obtain ⟨z20, z21, z22, z23⟩ := z2
      cases wh with
      | true =>
        have hi0 : i ≠ 0 := (hfo.out.2.2 rfl).1
        have i1 : (1 : Int) ≤ i := by omega
        have hnl : n.size ≤ 100 := by rw [← hfo.out.2.1 hi0]; exact nm_short _ (by omega)
        have hvl : v.size ≤ 100 := by rw [← (hfo.out.2.2 rfl).2]; exact vl_short _ (by omega)
        have hnl' : (n.size : Int) ≤ 100 := by omega
        have hfk' : fk = true := by rw [hfk.out]; exact decide_eq_true ⟨by omega, by omega⟩
        have hbl := hbL.out hfk'
        have hbe := hbi.out
        rw [if_pos rfl] at hbe
        obtain ⟨z00, z01, z02, z03⟩ := itO_cells (heap_alloc_new w2 (itO 0 i ⟨#[]⟩ ⟨#[]⟩))
        have hie := ienc_0 i (w2.alloc (itO 0 i ⟨#[]⟩ ⟨#[]⟩)) (by omega) hi61 (hS2.below (bl_alloc (Below.refl _ _) _))
        rw [← hbe] at hie
        clear hbe
        unfold itA at hie
        unfold itO at *
        go_wp2_with fail
        refine hie.mono ?_
        rintro e w4 ⟨u4, rfl, ho4, hbl4⟩
        have hbl5 := bl_then hbl3 (bl_then (bl_alloc (Below.refl w2.heap.size w2) _) hbl4)
        have r4 := blk_below (blk_alloc r2 _) hbl4
        obtain ⟨c0, c1⟩ := cells_two r4
        have ho5 := own_keep (w' := w4) hown.out fun g _ hg => hbl5.block g hg
        have hb5 := bl_then hb2 hbl5
        have hs5 : w.heap.size ≤ w4.heap.size := hb5.size
        clear r00 r0 r2 r4 hbl2 hbl3 hbl4 hbl5 hb2 hown
        replace ho5 := Lib.hid ho5
        obtain ⟨A4, k4, rfl, -⟩ := own_shape ho4
        replace ho4 := Lib.hid ho4
        go_wp2_with (((with_reducible refine at_append 30 ?_); refine wl_ex rfl (ex_append_bytes w.heap.size _ _ _ ho5.out _ _ _ (.inr hbp) (own_bytes ho4.out) (by omega) hs5 _ _ _ _ rfl rfl rfl) ?_; rintro u7 w7 ⟨ho9, hg7, hv7⟩; have hbl11 := hb5.trans (grown_below hg7 hs5 (fun g hg => own_block ho5.out hg)); replace ho9 := Lib.hid ho9))
        go_roundw
        case rel =>
          refine ⟨k + 1, ?_⟩
          rw [hstep.out, List.length_append, List.map_append]
          exact ⟨by omega, by go_num, ho9.out, hal.out hfk', hbl11⟩
        case measure => simp [intOf]; omega
      | false =>
        have hbe := hbi.out
        rw [if_neg (by decide)] at hbe
        by_cases hi0 : i = 0
        · subst hi0
          rw [if_pos rfl] at hbe
          obtain ⟨z00, z01, z02, z03⟩ := itO_cells (heap_alloc_new w2 (itO 2 0 n v))
          obtain ⟨y0, y1⟩ := cells_two (blk_alloc r2 (itO 2 0 ⟨#[]⟩ v))
          have hcast : ((0 : Nat) : Int) = 0 := rfl
          cases fk with
          | true =>
            have hfk' : true = true := rfl
            have hfd := of_decide_eq_true hfk.out.symm
            have hnl' : (n.size : Int) ≤ 65536 := by omega
            have hbl := hbL.out hfk'
            have hie := ienc_2 0 n v (w2.alloc (itO 2 0 n v)) (by omega) (.inl rfl) hfd.1 hfd.2 (hL2.below (bl_alloc (Below.refl _ _) _)) (hS2.below (bl_alloc (Below.refl _ _) _))
            rw [← hbe] at hie
            clear hbe
            unfold itA at hie
            unfold itO at *
            try rw [hcast] at hie
            go_wp2_with fail
            refine hie.mono ?_
            rintro e w4 ⟨u4, rfl, ho4, hbl4⟩
            have hbl5 := bl_then hbl3 (bl_then (bl_alloc (Below.refl w2.heap.size w2) _) hbl4)
            have r4 := blk_below (blk_alloc r2 _) hbl4
            obtain ⟨c0, c1⟩ := cells_two r4
            have ho5 := own_keep (w' := w4) hown.out fun g _ hg => hbl5.block g hg
            have hb5 := bl_then hb2 hbl5
            have hs5 : w.heap.size ≤ w4.heap.size := hb5.size
            clear r00 r0 r2 r4 hbl2 hbl3 hbl4 hbl5 hb2 hown
            replace ho5 := Lib.hid ho5
            obtain ⟨A4, k4, rfl, -⟩ := own_shape ho4
            replace ho4 := Lib.hid ho4
            go_wp2_with (((with_reducible refine at_append 30 ?_); refine wl_ex rfl (ex_append_bytes w.heap.size _ _ _ ho5.out _ _ _ (.inr hbp) (own_bytes ho4.out) (by omega) hs5 _ _ _ _ rfl rfl rfl) ?_; rintro u7 w7 ⟨ho9, hg7, hv7⟩; have hbl11 := hb5.trans (grown_below hg7 hs5 (fun g hg => own_block ho5.out hg)); replace ho9 := Lib.hid ho9))
            go_roundw
            case rel =>
              refine ⟨k + 1, ?_⟩
              rw [hstep.out, List.length_append, List.map_append]
              exact ⟨by omega, by go_num, ho9.out, hal.out hfk', hbl11⟩
            case measure => simp [intOf]; omega
          | false =>
            have hfk' : false = false := rfl
            have hfd := of_decide_eq_false hfk.out.symm
            have hie := ienc_2no 0 n v (w2.alloc (itO 2 0 n v)) (by omega) (.inl rfl) hfd
            clear hbe
            unfold itA at hie
            unfold itO at *
            try rw [hcast] at hie
            go_wp2_with fail
            refine hie.mono ?_
            rintro e w4 ⟨rfl, hbl4⟩
            have hbl5 := bl_then hbl3 (bl_then (bl_alloc (Below.refl w2.heap.size w2) _) hbl4)
            have hb5 := bl_then hb2 hbl5
            clear r00 r0 r2 hbl2 hbl3 hbl4 hbl5 hb2
            go_wp2_with fail
            go_ret2
            rw [hno.out hfk']
            exact ⟨_, rfl, World.ownsRow_nil _ _ _ _, hb5⟩
        · rw [if_neg hi0] at hbe
          have i1 : (1 : Int) ≤ i := by omega
          have hnl : n.size ≤ 100 := by rw [← hfo.out.2.1 hi0]; exact nm_short _ (by omega)
          have hnl' : (n.size : Int) ≤ 100 := by omega
          cases fk with
          | true =>
            have hfk' : true = true := rfl
            have hfd := of_decide_eq_true hfk.out.symm
            have hbl := hbL.out hfk'
            have hie := ienc_2 i ⟨#[]⟩ v (w2.alloc (itO 2 i ⟨#[]⟩ v)) hi61 (.inr rfl) (by decide) hfd.2 (hL2.below (bl_alloc (Below.refl _ _) _)) (hS2.below (bl_alloc (Below.refl _ _) _))
            rw [← hbe] at hie
            clear hbe
            unfold itA at hie
            unfold itO at *
            try rw [hcast] at hie
            go_wp2_with fail
            refine hie.mono ?_
            rintro e w4 ⟨u4, rfl, ho4, hbl4⟩
            have hbl5 := bl_then hbl3 (bl_then (bl_alloc (Below.refl w2.heap.size w2) _) hbl4)
            have r4 := blk_below (blk_alloc r2 _) hbl4
            obtain ⟨c0, c1⟩ := cells_two r4
            have ho5 := own_keep (w' := w4) hown.out fun g _ hg => hbl5.block g hg
            have hb5 := bl_then hb2 hbl5
            have hs5 : w.heap.size ≤ w4.heap.size := hb5.size
            clear r00 r0 r2 r4 hbl2 hbl3 hbl4 hbl5 hb2 hown
            replace ho5 := Lib.hid ho5
            obtain ⟨A4, k4, rfl, -⟩ := own_shape ho4
            replace ho4 := Lib.hid ho4
            go_wp2_with (((with_reducible refine at_append 30 ?_); refine wl_ex rfl (ex_append_bytes w.heap.size _ _ _ ho5.out _ _ _ (.inr hbp) (own_bytes ho4.out) (by omega) hs5 _ _ _ _ rfl rfl rfl) ?_; rintro u7 w7 ⟨ho9, hg7, hv7⟩; have hbl11 := hb5.trans (grown_below hg7 hs5 (fun g hg => own_block ho5.out hg)); replace ho9 := Lib.hid ho9))
            go_roundw
            case rel =>
              refine ⟨k + 1, ?_⟩
              rw [hstep.out, List.length_append, List.map_append]
              exact ⟨by omega, by go_num, ho9.out, hal.out hfk', hbl11⟩
            case measure => simp [intOf]; omega
          | false =>
            have hfk' : false = false := rfl
            have hfd := of_decide_eq_false hfk.out.symm
            have hie := ienc_2no i ⟨#[]⟩ v (w2.alloc (itO 2 i ⟨#[]⟩ v)) hi61 (.inr rfl) (fun h => hfd ⟨by omega, h.2⟩)
            clear hbe
            unfold itA at hie
            unfold itO at *
            try rw [hcast] at hie
            go_wp2_with fail
            refine hie.mono ?_
            rintro e w4 ⟨rfl, hbl4⟩
            have hbl5 := bl_then hbl3 (bl_then (bl_alloc (Below.refl w2.heap.size w2) _) hbl4)
            have hb5 := bl_then hb2 hbl5
            clear r00 r0 r2 hbl2 hbl3 hbl4 hbl5 hb2
            go_wp2_with fail
            go_ret2
            rw [hno.out hfk']
            exact ⟨_, rfl, World.ownsRow_nil _ _ _ _, hb5⟩
    · obtain rfl : k = l.length := by omega
      rw [List.take_length] at hown hok
      have hz : benc l true = (bpre true l, 0) := by rw [benc, if_pos hok]
      replace hz := Lib.hid hz
      replace hown := Lib.hid hown
      replace hok := Lib.hid hok
      obtain ⟨va, vc, rfl, hvc⟩ := own_shape hown.out
      go_wp2_with fail
      go_ret2
      rw [hz.out]
      exact ⟨_, rfl, hown.out, hb2⟩
theorem benc_any (A : Option Addr) (l : List FieldS) (c : Nat) (first : Bool) (w : World) {P : Nat → Prop} (hr : FRead w P A l) (hl : l.length ≤ 100) (hL : LaidLens w) (hS : LaidShapes w) :
    Calls Tryd.prog 16 #[.slice A l.length c, .bool first] w fun e w' => ∃ v, e = .returned (.tuple #[v, .int .i64 ((benc l first).2 : Int)]) ∧ w'.ownsRow w.heap.size 5 1 v (benc l first).1.length ((benc l first).1.map bv) ∧ Below w.heap.size w w' := by
  cases first
  · exact benc_f A l c w hr hl hL hS
  · exact benc_t A l c w hr hl hL hS
end Go.Proofs.YtfkpeahelhpelaaDoor
