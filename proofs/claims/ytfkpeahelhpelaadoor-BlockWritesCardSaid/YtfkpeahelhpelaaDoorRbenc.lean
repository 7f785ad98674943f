/- The block of a list, the document's way (ref09.Encode): it comes to what our own comes to. -/
import Derived.Test.YtfkpeahelhpelaaDoorRienc
import Derived.Test.YtfkpeahelhpelaaDoorBenc
import Derived.Test.YtfkpeahelhpelaaDoorRef06
namespace Go.Proofs.YtfkpeahelhpelaaDoor
set_option linter.all false
open Go.RowKit
attribute [local go_sem] Oper.semAt_some valueOf_ok

theorem head_byte : penc 5 32 0 = [32] := by kernel_rfl
set_option maxRecDepth 100000 in
set_option maxHeartbeats 4000000 in
theorem rbenc_any (A : Option Addr) (l : List FieldS) (c : Nat) (first : Bool) (w : World) {P : Nat → Prop} (hr : FRead w P A l) (hl : l.length ≤ 100) (hf : l.all fokS = true) :
    Calls Tryd.prog 17 #[.slice A l.length c, .bool first] w fun e w' => ∃ v, e = .returned (.tuple #[v, .int .i64 0]) ∧ w'.ownsRow w.heap.size 5 1 v (bpre first l).length ((bpre first l).map bv) ∧ Below w.heap.size w w' := by
  have hlen := bpre_len first l hf
  replace hr := Lib.hid hr
  replace hf := Lib.hid hf
  have hbegin : ∀ (v : Value) (W : World), W.ownsRow w.heap.size 5 1 v (bpre first (l.take 0)).length ((bpre first (l.take 0)).map bv) → Below w.heap.size w W → True := fun _ _ _ _ => trivial
  clear hbegin
  have h00 : bpre false (l.take 0) = [] := rfl
  have h01 : bpre true (l.take 0) = [32] := by show penc 5 32 0 ++ [] = [32]; rw [head_byte]; rfl
  cases first with
  | false =>
    clear h01
    replace h00 := Lib.hid h00
    go_enter Tryd.func17, Tryd.ntmps17
    go_wp2_with fail
    go_loopw [6, 7] (fun o i wr => ∃ k : Nat, k ≤ l.length ∧ i = .int .i64 (k : Int) ∧ wr.ownsRow w.heap.size 5 1 o (bpre false (l.take k)).length ((bpre false (l.take k)).map bv) ∧ Below w.heap.size w wr) (fun _ i _ => l.length - (intOf i).toNat)
    case atStart => exact ⟨0, by omega, rfl, by rw [h00.out]; exact World.ownsRow_nil _ _ _ _, Below.refl _ _⟩
    case round =>
      obtain ⟨k, hk, rfl, hown, hbl⟩ := hrel
      have k0 : (0 : Int) ≤ k := by omega
      obtain ⟨vO, vP, hsv, hvP⟩ := own_shape hown
      subst hsv
      by_cases hlt : k < l.length
      · have hlt' : (k : Int) < l.length := by omega
        obtain ⟨f, hfk⟩ : ∃ f, l[k]? = some f := ⟨_, List.getElem?_eq_getElem hlt⟩
        have hst := bpre_step false l k f hfk
        have hfo : fokS f = true := List.all_eq_true.1 hf.out f (List.mem_of_getElem? hfk)
        have hle : (bpre false (l.take k)).length + (bitem f).length ≤ 60000010 + 600000 := by
          have h1 := bpre_len false (l.take k) (by rw [List.all_eq_true]; intro x hx; exact List.all_eq_true.1 hf.out x (List.mem_of_mem_take hx))
          have h2 := bitem_len f hfo
          rw [List.length_take] at h1
          omega
        have hbp := bitem_pos f
        obtain ⟨b, off, hA, -, q0, q1⟩ := (hr.out.below hbl).at_ hfk
        subst hA
        obtain ⟨hf1, hf2⟩ := of_decide_eq_true hfo
        obtain ⟨hs61, -, hswh⟩ := findS_ok f.1 f.2
        have hfi := ref_find_any f.1 f.2 wr
        have hbi : bitem f = if (findS f.1 f.2).2 then penc 7 128 (findS f.1 f.2).1 else ienc2 (findS f.1 f.2).1 (if (findS f.1 f.2).1 = 0 then f.1 else ⟨#[]⟩) f.2 := rfl
        obtain ⟨fn, fv⟩ := f
        simp only at q0 q1 hf1 hf2 hs61 hswh hfi hbi
        obtain ⟨⟨i, wh⟩, hz⟩ : ∃ z, z = findS fn fv := ⟨_, rfl⟩
        rw [← hz] at hs61 hswh hfi hbi
        simp only at hs61 hswh hfi hbi
        obtain ⟨BI, hBI⟩ : ∃ BI, BI = bitem (fn, fv) := ⟨_, rfl⟩
        rw [← hBI] at hst hle hbp hbi
        have sf1 : (fn.size : Int) ≤ 65536 := by omega
        have sf2 : (fv.size : Int) ≤ 65536 := by omega
        have si : (i : Int) ≤ 61 := by omega
        have si0 : (0 : Int) ≤ i := by omega
        replace hbi := Lib.hid hbi
        replace hst := Lib.hid hst
        replace hown := Lib.hid hown
        clear hz hBI hfo hfk
        have fin : ∀ (w7 : World) (V7 : Option Addr) (C7 : Nat), Bytes w7 (fun _ => True) V7 BI → Below w.heap.size w w7 → w7.ownsRow w.heap.size 5 1 (.slice vO (bpre false (l.take k)).length vP) (bpre false (l.take k)).length ((bpre false (l.take k)).map bv) →
            ∀ ev o x y, ev x = .slice vO (bpre false (l.take k)).length vP → ev y = .slice V7 BI.length C7 → o.op = .call { callee := .builtin .append, args := #[x, y], argTypes := #[30, 30] } →
            ∃ v' w', (execOp ev o).run Tryd.prog w7 = .ok (.value v') w' ∧ (w'.ownsRow w.heap.size 5 1 v' (bpre false (l.take (k + 1))).length ((bpre false (l.take (k + 1))).map bv) ∧ Below w.heap.size w w') := by
          intro w7 V7 C7 hby hb7 ho7 ev o x y h1 h2 h3
          obtain ⟨v', w', hrun, ho', hg', hv'⟩ := ex_append_bytes w.heap.size _ _ _ ho7 V7 BI C7 (.inr hbp) hby (by omega) hb7.size ev o x y h1 h2 h3
          refine ⟨v', w', hrun, ?_, hb7.trans (grown_below hg' hb7.size (fun g hg => own_block ho7 hg))⟩
          rw [hst.out, List.length_append, List.map_append]
          exact ho'
        replace fin := Lib.hid fin
        cases wh with
        | true =>
          obtain ⟨hi0, -⟩ := hswh rfl
          have hbi2 := hbi.out
          rw [if_pos rfl] at hbi2
          have i0 : ((i : Int) == 0) = false := by simp; omega
          have hen := fun w => rienc_0 i w (by omega) hs61
          rw [← hbi2] at hen
          unfold itA at hen
          replace hen := Lib.hid hen
          clear hbi hbi2 hi0 hswh
          go_wp2_with fail
          refine hfi.mono ?_
          clear hfi
          rintro e w2 ⟨rfl, hb2⟩
          have hbl2 := bl_then hbl hb2
          have ho2 := Lib.hid (own_keep hown.out fun g _ hg => hb2.block g hg)
          have q0' := (bcell hb2).1 b _ (World.block_lt_of_cell? wr _ q0) |>.trans q0
          have q1' := (bcell hb2).1 b _ (World.block_lt_of_cell? wr _ q1) |>.trans q1
          clear hown hb2 q0 q1
          go_wp2_with fail
          refine (hen.out _).mono ?_
          rintro e w5 ⟨v5, rfl, ho5, hb5⟩
          obtain ⟨V5, C5, hv5, hC5⟩ := own_shape ho5
          subst hv5
          have hb25 := bl_then (bl_alloc (Below.refl _ w2) _) hb5
          have hby5 := (own_bytes ho5).imp (Q := fun _ => True) fun _ _ _ => trivial
          have hbl5 := bl_then hbl2 hb25
          have ho6 := own_keep ho2.out fun g _ hg => hb25.block g hg
          have hap := Lib.hid (fin.out w5 V5 C5 hby5 hbl5 ho6)
          replace ho5 := Lib.hid ho5
          clear hen ho6 hby5 fin ho2 hb25 hb5
          go_wp2_with (((with_reducible refine at_append 30 ?_); refine wl_ex rfl (hap.out _ _ _ _ rfl rfl rfl) ?_; rintro v9 w9 ⟨ho9, hb9⟩; replace ho9 := Lib.hid ho9; clear hap))
          go_roundw
          case rel => exact ⟨k + 1, by omega, by go_num, ho9.out, hb9⟩
          case measure => simp [intOf]; omega
        | false =>
          have hbi2 := hbi.out
          rw [if_neg (by decide)] at hbi2
          clear hbi hswh
          by_cases hi0 : i = 0
          · subst hi0
            rw [if_pos rfl] at hbi2
            have i9 : ((0 : Int) == 0) = true := rfl
            have hen := fun w => rienc_2 0 fn fv w (by omega) (.inl rfl) hf1 hf2
            rw [← hbi2] at hen
            unfold itA at hen
            replace hen := Lib.hid hen
            clear hbi2
            go_wp2_with fail
            refine hfi.mono ?_
            clear hfi
            rintro e w2 ⟨rfl, hb2⟩
            have hbl2 := bl_then hbl hb2
            have ho2 := Lib.hid (own_keep hown.out fun g _ hg => hb2.block g hg)
            have q0' := (bcell hb2).1 b _ (World.block_lt_of_cell? wr _ q0) |>.trans q0
            have q1' := (bcell hb2).1 b _ (World.block_lt_of_cell? wr _ q1) |>.trans q1
            have hbX := bl_alloc (Below.refl _ w2) (.cells #[.int .i64 2, .int .i64 0, .string ⟨#[]⟩, .string fv] 70)
            have q2' := ((bcell hbX).1 b _ (World.block_lt_of_cell? w2 _ q0')).trans q0'
            have hX := heap_alloc_new w2 (.cells #[.int .i64 2, .int .i64 0, .string ⟨#[]⟩, .string fv] 70)
            have x2 := (cell_of_row _ _ 2 _ _ _ hX).trans (show _ = some (.string ⟨#[]⟩) from rfl)
            have z2 := frozen_of_row _ _ 2 _ _ hX
            clear hown hb2 q0 q1 hX hbX
            go_wp2_with fail
            refine (hen.out _).mono ?_
            rintro e w5 ⟨v5, rfl, ho5, hb5⟩
            obtain ⟨V5, C5, hv5, hC5⟩ := own_shape ho5
            subst hv5
            have hb25 := bl_then (bl_alloc (Below.refl _ w2) _) hb5
            have hby5 := (own_bytes ho5).imp (Q := fun _ => True) fun _ _ _ => trivial
            have hbl5 := bl_then hbl2 hb25
            have ho6 := own_keep ho2.out fun g _ hg => hb25.block g hg
            have hap := Lib.hid (fin.out w5 V5 C5 hby5 hbl5 ho6)
            replace ho5 := Lib.hid ho5
            clear hen ho6 hby5 fin ho2 hb25 hb5
            go_wp2_with (((with_reducible refine at_append 30 ?_); refine wl_ex rfl (hap.out _ _ _ _ rfl rfl rfl) ?_; rintro v9 w9 ⟨ho9, hb9⟩; replace ho9 := Lib.hid ho9; clear hap))
            go_roundw
            case rel => exact ⟨k + 1, by omega, by go_num, ho9.out, hb9⟩
            case measure => simp [intOf]; omega
          · have i0 : ((i : Int) == 0) = false := by simp; omega
            rw [if_neg hi0] at hbi2
            have hen := fun w => rienc_2 i ⟨#[]⟩ fv w hs61 (.inr rfl) (by decide) hf2
            rw [← hbi2] at hen
            unfold itA at hen
            replace hen := Lib.hid hen
            clear hbi2 hi0
            go_wp2_with fail
            refine hfi.mono ?_
            clear hfi
            rintro e w2 ⟨rfl, hb2⟩
            have hbl2 := bl_then hbl hb2
            have ho2 := Lib.hid (own_keep hown.out fun g _ hg => hb2.block g hg)
            have q0' := (bcell hb2).1 b _ (World.block_lt_of_cell? wr _ q0) |>.trans q0
            have q1' := (bcell hb2).1 b _ (World.block_lt_of_cell? wr _ q1) |>.trans q1
            clear hown hb2 q0 q1
            go_wp2_with fail
            refine (hen.out _).mono ?_
            rintro e w5 ⟨v5, rfl, ho5, hb5⟩
            obtain ⟨V5, C5, hv5, hC5⟩ := own_shape ho5
            subst hv5
            have hb25 := bl_then (bl_alloc (Below.refl _ w2) _) hb5
            have hby5 := (own_bytes ho5).imp (Q := fun _ => True) fun _ _ _ => trivial
            have hbl5 := bl_then hbl2 hb25
            have ho6 := own_keep ho2.out fun g _ hg => hb25.block g hg
            have hap := Lib.hid (fin.out w5 V5 C5 hby5 hbl5 ho6)
            replace ho5 := Lib.hid ho5
            clear hen ho6 hby5 fin ho2 hb25 hb5
            go_wp2_with (((with_reducible refine at_append 30 ?_); refine wl_ex rfl (hap.out _ _ _ _ rfl rfl rfl) ?_; rintro v9 w9 ⟨ho9, hb9⟩; replace ho9 := Lib.hid ho9; clear hap))
            go_roundw
            case rel => exact ⟨k + 1, by omega, by go_num, ho9.out, hb9⟩
            case measure => simp [intOf]; omega
      · obtain rfl : k = l.length := by omega
        rw [List.take_length] at hown ⊢
        replace hown := Lib.hid hown
        go_wp2_with fail
        go_ret2
        exact ⟨_, rfl, hown.out, hbl⟩
  | true =>
    clear h00
    replace h01 := Lib.hid h01
    have hap := Lib.hid (fun ev o x y => ex_append (P := Tryd.prog) u8info 30 (by kernel_rfl) (by decide) (by decide) w.heap.size _ _ _ (World.ownsRow_nil (w.alloc (.cells #[.int .u8 32] 5)) w.heap.size 5 1) ⟨w.heap.size, 0, none⟩ 1 1 [.int .u8 32] rfl (World.news_of_block (cs := #[.int .u8 32]) (t := 5) (fr := (0, 0)) (heap_alloc_new w _)) (by simp [Value.oneCell']) (by simp only [maxLen]; omega) (by omega) (by rw [World.size_alloc]; omega) ev o x y)
    have hb1 := bl_alloc (Below.refl _ w) (.cells #[.int .u8 32] 5)
    go_enter Tryd.func17, Tryd.ntmps17
    go_wp2_with (((with_reducible refine at_append 30 ?_); refine wl_ex rfl (hap.out _ _ _ _ rfl rfl rfl) ?_; rintro v0 w0 ⟨ho0, hg0, hv0⟩; have hb0 := hb1.trans (grown_below hg0 hb1.size (fun g hg => by cases hg)); replace ho0 := Lib.hid ho0; clear hap hg0 hv0 hb1))
    go_loopw [6, 7] (fun o i wr => ∃ k : Nat, k ≤ l.length ∧ i = .int .i64 (k : Int) ∧ wr.ownsRow w.heap.size 5 1 o (bpre true (l.take k)).length ((bpre true (l.take k)).map bv) ∧ Below w.heap.size w wr) (fun _ i _ => l.length - (intOf i).toNat)
    case atStart => exact ⟨0, by omega, rfl, by rw [h01.out]; exact ho0.out, hb0⟩
    case round =>
      obtain ⟨k, hk, rfl, hown, hbl⟩ := hrel
      have k0 : (0 : Int) ≤ k := by omega
      obtain ⟨vO, vP, hsv, hvP⟩ := own_shape hown
      subst hsv
      by_cases hlt : k < l.length
      · have hlt' : (k : Int) < l.length := by omega
        obtain ⟨f, hfk⟩ : ∃ f, l[k]? = some f := ⟨_, List.getElem?_eq_getElem hlt⟩
        have hst := bpre_step true l k f hfk
        have hfo : fokS f = true := List.all_eq_true.1 hf.out f (List.mem_of_getElem? hfk)
        have hle : (bpre true (l.take k)).length + (bitem f).length ≤ 60000010 + 600000 := by
          have h1 := bpre_len true (l.take k) (by rw [List.all_eq_true]; intro x hx; exact List.all_eq_true.1 hf.out x (List.mem_of_mem_take hx))
          have h2 := bitem_len f hfo
          rw [List.length_take] at h1
          omega
        have hbp := bitem_pos f
        obtain ⟨b, off, hA, -, q0, q1⟩ := (hr.out.below hbl).at_ hfk
        subst hA
        obtain ⟨hf1, hf2⟩ := of_decide_eq_true hfo
        obtain ⟨hs61, -, hswh⟩ := findS_ok f.1 f.2
        have hfi := ref_find_any f.1 f.2 wr
        have hbi : bitem f = if (findS f.1 f.2).2 then penc 7 128 (findS f.1 f.2).1 else ienc2 (findS f.1 f.2).1 (if (findS f.1 f.2).1 = 0 then f.1 else ⟨#[]⟩) f.2 := rfl
        obtain ⟨fn, fv⟩ := f
        simp only at q0 q1 hf1 hf2 hs61 hswh hfi hbi
        obtain ⟨⟨i, wh⟩, hz⟩ : ∃ z, z = findS fn fv := ⟨_, rfl⟩
        rw [← hz] at hs61 hswh hfi hbi
        simp only at hs61 hswh hfi hbi
        obtain ⟨BI, hBI⟩ : ∃ BI, BI = bitem (fn, fv) := ⟨_, rfl⟩
        rw [← hBI] at hst hle hbp hbi
        have sf1 : (fn.size : Int) ≤ 65536 := by omega
        have sf2 : (fv.size : Int) ≤ 65536 := by omega
        have si : (i : Int) ≤ 61 := by omega
        have si0 : (0 : Int) ≤ i := by omega
        replace hbi := Lib.hid hbi
        replace hst := Lib.hid hst
        replace hown := Lib.hid hown
        clear hz hBI hfo hfk
        have fin : ∀ (w7 : World) (V7 : Option Addr) (C7 : Nat), Bytes w7 (fun _ => True) V7 BI → Below w.heap.size w w7 → w7.ownsRow w.heap.size 5 1 (.slice vO (bpre true (l.take k)).length vP) (bpre true (l.take k)).length ((bpre true (l.take k)).map bv) →
            ∀ ev o x y, ev x = .slice vO (bpre true (l.take k)).length vP → ev y = .slice V7 BI.length C7 → o.op = .call { callee := .builtin .append, args := #[x, y], argTypes := #[30, 30] } →
            ∃ v' w', (execOp ev o).run Tryd.prog w7 = .ok (.value v') w' ∧ (w'.ownsRow w.heap.size 5 1 v' (bpre true (l.take (k + 1))).length ((bpre true (l.take (k + 1))).map bv) ∧ Below w.heap.size w w') := by
          intro w7 V7 C7 hby hb7 ho7 ev o x y h1 h2 h3
          obtain ⟨v', w', hrun, ho', hg', hv'⟩ := ex_append_bytes w.heap.size _ _ _ ho7 V7 BI C7 (.inr hbp) hby (by omega) hb7.size ev o x y h1 h2 h3
          refine ⟨v', w', hrun, ?_, hb7.trans (grown_below hg' hb7.size (fun g hg => own_block ho7 hg))⟩
          rw [hst.out, List.length_append, List.map_append]
          exact ho'
        replace fin := Lib.hid fin
        cases wh with
        | true =>
          obtain ⟨hi0, -⟩ := hswh rfl
          have hbi2 := hbi.out
          rw [if_pos rfl] at hbi2
          have i0 : ((i : Int) == 0) = false := by simp; omega
          have hen := fun w => rienc_0 i w (by omega) hs61
          rw [← hbi2] at hen
          unfold itA at hen
          replace hen := Lib.hid hen
          clear hbi hbi2 hi0 hswh
          go_wp2_with fail
          refine hfi.mono ?_
          clear hfi
          rintro e w2 ⟨rfl, hb2⟩
          have hbl2 := bl_then hbl hb2
          have ho2 := Lib.hid (own_keep hown.out fun g _ hg => hb2.block g hg)
          have q0' := (bcell hb2).1 b _ (World.block_lt_of_cell? wr _ q0) |>.trans q0
          have q1' := (bcell hb2).1 b _ (World.block_lt_of_cell? wr _ q1) |>.trans q1
          clear hown hb2 q0 q1
          go_wp2_with fail
          refine (hen.out _).mono ?_
          rintro e w5 ⟨v5, rfl, ho5, hb5⟩
          obtain ⟨V5, C5, hv5, hC5⟩ := own_shape ho5
          subst hv5
          have hb25 := bl_then (bl_alloc (Below.refl _ w2) _) hb5
          have hby5 := (own_bytes ho5).imp (Q := fun _ => True) fun _ _ _ => trivial
          have hbl5 := bl_then hbl2 hb25
          have ho6 := own_keep ho2.out fun g _ hg => hb25.block g hg
          have hap := Lib.hid (fin.out w5 V5 C5 hby5 hbl5 ho6)
          replace ho5 := Lib.hid ho5
          clear hen ho6 hby5 fin ho2 hb25 hb5
          go_wp2_with (((with_reducible refine at_append 30 ?_); refine wl_ex rfl (hap.out _ _ _ _ rfl rfl rfl) ?_; rintro v9 w9 ⟨ho9, hb9⟩; replace ho9 := Lib.hid ho9; clear hap))
          go_roundw
          case rel => exact ⟨k + 1, by omega, by go_num, ho9.out, hb9⟩
          case measure => simp [intOf]; omega
        | false =>
          have hbi2 := hbi.out
          rw [if_neg (by decide)] at hbi2
          clear hbi hswh
          by_cases hi0 : i = 0
          · subst hi0
            rw [if_pos rfl] at hbi2
            have i9 : ((0 : Int) == 0) = true := rfl
            have hen := fun w => rienc_2 0 fn fv w (by omega) (.inl rfl) hf1 hf2
            rw [← hbi2] at hen
            unfold itA at hen
            replace hen := Lib.hid hen
            clear hbi2
            go_wp2_with fail
            refine hfi.mono ?_
            clear hfi
            rintro e w2 ⟨rfl, hb2⟩
            have hbl2 := bl_then hbl hb2
            have ho2 := Lib.hid (own_keep hown.out fun g _ hg => hb2.block g hg)
            have q0' := (bcell hb2).1 b _ (World.block_lt_of_cell? wr _ q0) |>.trans q0
            have q1' := (bcell hb2).1 b _ (World.block_lt_of_cell? wr _ q1) |>.trans q1
            have hbX := bl_alloc (Below.refl _ w2) (.cells #[.int .i64 2, .int .i64 0, .string ⟨#[]⟩, .string fv] 70)
            have q2' := ((bcell hbX).1 b _ (World.block_lt_of_cell? w2 _ q0')).trans q0'
            have hX := heap_alloc_new w2 (.cells #[.int .i64 2, .int .i64 0, .string ⟨#[]⟩, .string fv] 70)
            have x2 := (cell_of_row _ _ 2 _ _ _ hX).trans (show _ = some (.string ⟨#[]⟩) from rfl)
            have z2 := frozen_of_row _ _ 2 _ _ hX
            clear hown hb2 q0 q1 hX hbX
            go_wp2_with fail
            refine (hen.out _).mono ?_
            rintro e w5 ⟨v5, rfl, ho5, hb5⟩
            obtain ⟨V5, C5, hv5, hC5⟩ := own_shape ho5
            subst hv5
            have hb25 := bl_then (bl_alloc (Below.refl _ w2) _) hb5
            have hby5 := (own_bytes ho5).imp (Q := fun _ => True) fun _ _ _ => trivial
            have hbl5 := bl_then hbl2 hb25
            have ho6 := own_keep ho2.out fun g _ hg => hb25.block g hg
            have hap := Lib.hid (fin.out w5 V5 C5 hby5 hbl5 ho6)
            replace ho5 := Lib.hid ho5
            clear hen ho6 hby5 fin ho2 hb25 hb5
            go_wp2_with (((with_reducible refine at_append 30 ?_); refine wl_ex rfl (hap.out _ _ _ _ rfl rfl rfl) ?_; rintro v9 w9 ⟨ho9, hb9⟩; replace ho9 := Lib.hid ho9; clear hap))
            go_roundw
            case rel => exact ⟨k + 1, by omega, by go_num, ho9.out, hb9⟩
            case measure => simp [intOf]; omega
          · have i0 : ((i : Int) == 0) = false := by simp; omega
            rw [if_neg hi0] at hbi2
            have hen := fun w => rienc_2 i ⟨#[]⟩ fv w hs61 (.inr rfl) (by decide) hf2
            rw [← hbi2] at hen
            unfold itA at hen
            replace hen := Lib.hid hen
            clear hbi2 hi0
            go_wp2_with fail
            refine hfi.mono ?_
            clear hfi
            rintro e w2 ⟨rfl, hb2⟩
            have hbl2 := bl_then hbl hb2
            have ho2 := Lib.hid (own_keep hown.out fun g _ hg => hb2.block g hg)
            have q0' := (bcell hb2).1 b _ (World.block_lt_of_cell? wr _ q0) |>.trans q0
            have q1' := (bcell hb2).1 b _ (World.block_lt_of_cell? wr _ q1) |>.trans q1
            clear hown hb2 q0 q1
            go_wp2_with fail
            refine (hen.out _).mono ?_
            rintro e w5 ⟨v5, rfl, ho5, hb5⟩
            obtain ⟨V5, C5, hv5, hC5⟩ := own_shape ho5
            subst hv5
            have hb25 := bl_then (bl_alloc (Below.refl _ w2) _) hb5
            have hby5 := (own_bytes ho5).imp (Q := fun _ => True) fun _ _ _ => trivial
            have hbl5 := bl_then hbl2 hb25
            have ho6 := own_keep ho2.out fun g _ hg => hb25.block g hg
            have hap := Lib.hid (fin.out w5 V5 C5 hby5 hbl5 ho6)
            replace ho5 := Lib.hid ho5
            clear hen ho6 hby5 fin ho2 hb25 hb5
            go_wp2_with (((with_reducible refine at_append 30 ?_); refine wl_ex rfl (hap.out _ _ _ _ rfl rfl rfl) ?_; rintro v9 w9 ⟨ho9, hb9⟩; replace ho9 := Lib.hid ho9; clear hap))
            go_roundw
            case rel => exact ⟨k + 1, by omega, by go_num, ho9.out, hb9⟩
            case measure => simp [intOf]; omega
      · obtain rfl : k = l.length := by omega
        rw [List.take_length] at hown ⊢
        replace hown := Lib.hid hown
        go_wp2_with fail
        go_ret2
        exact ⟨_, rfl, hown.out, hbl⟩
end Go.Proofs.YtfkpeahelhpelaaDoor
