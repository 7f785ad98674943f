/- The bytes of a text behind how many they are (layer 5): literal.laid, Encode and Short. -/
import Derived.Test.YtfkpeahelhpelaaDoorHenc
import Derived.Deep.AppendSrc
import Derived.Lib.ConvBytes
namespace Go.Proofs.YtfkpeahelhpelaaDoor
set_option linter.all false
open Go.RowKit
attribute [local go_sem] Oper.semAt_some valueOf_ok

theorem own_bytes {w : World} {base : Nat} {A : Option Addr} {n c : Nat} {l : List UInt8} (h : w.ownsRow base 5 1 (.slice A n c) n (l.map bv)) : Bytes w (fun k => base ≤ k) A l := fun hl => by
  have hlen := h.1
  rw [List.length_map] at hlen
  rcases h.2 with ⟨hv, h0⟩ | ⟨g, cap, cur, hv, hbase, hg, -, -, -, ht⟩
  · omega
  · cases hv
    refine ⟨g, 0, rfl, hbase, fun j hj => ?_⟩
    rw [Nat.zero_add, cell_of_row _ _ _ _ _ _ hg]
    have hj2 : (l.map bv)[j]? = some (bv (l.getD j 0)) := by
      rw [List.getElem?_map, List.getElem?_eq_getElem hj, List.getD_eq_getElem?_getD, List.getElem?_eq_getElem hj]
      rfl
    rw [← ht, List.getElem?_take] at hj2
    split at hj2
    · simpa [bv] using hj2
    · cases hj2
/-- append of bytes that are read, onto a row of the call's own. -/
theorem ex_append_bytes {w : World} (base : Nat) (v : Value) (n : Nat) (xs : List Value) (hown : w.ownsRow base 5 1 v n xs) {P : Nat → Prop} (A : Option Addr) (l : List UInt8) (c : Nat) (hn : 0 < n ∨ 0 < l.length) (hr : Bytes w P A l)
    (hbytes : n + l.length ≤ 140737488355000) (hbase : base ≤ w.heap.size) (ev : Operand → Value) (o : Oper) (x y : Operand) (hx : ev x = v) (hy : ev y = .slice A l.length c) (ho : o.op = .call { callee := .builtin .append, args := #[x, y], argTypes := #[30, 30] }) :
    ∃ v' w', (execOp ev o).run Tryd.prog w = .ok (.value v') w' ∧ w'.ownsRow base 5 1 v' (n + l.length) (xs ++ l.map bv) ∧ w.grownBy w' v.ownBlock ∧ (v'.ownBlock = v.ownBlock ∨ v'.ownBlock = some w.heap.size) := by
  cases A with
  | none =>
    have hl0 : l = [] := by
      cases l with
      | nil => rfl
      | cons b r => obtain ⟨_, _, e, _⟩ := hr (by simp); cases e
    subst hl0
    have hn' : 0 < n := hn.resolve_right (by simp)
    obtain ⟨i, hi⟩ : ∃ i, Tryd.prog.info? 5 = some i := by
      cases hi : Tryd.prog.info? 5 with
      | none => have := u8info; rw [hi] at this; cases this
      | some i => exact ⟨i, rfl⟩
    have hi2 := u8info
    rw [hi] at hi2
    simp only [Option.map_some, Option.some.injEq, Prod.mk.injEq] at hi2
    rcases hown.2 with ⟨rfl, h0⟩ | ⟨g, cap, cur, rfl, h1, h2, h3, h4, h5, h6⟩
    · omega
    · refine ⟨.slice (some ⟨g, 0, none⟩) n cap, w, ?_, by simpa using hown, ⟨rfl, rfl, rfl, Nat.le_refl _, fun _ _ _ => rfl⟩, .inl rfl⟩
      have hs := Src.ofNil (P := Tryd.prog) w (size := i.size) (tx := 30) (e' := 5) (by kernel_rfl) c
      have hr2 := run_append_room_src (P := Tryd.prog) w 30 30 o.type 5 i (by kernel_rfl) hi g 0 n cap _ 0 [] hs (by omega) (by simp) (by simp)
      have hsc : w.setCells g (0 + n * i.size) [] = w := rfl
      rw [hsc, Nat.add_zero] at hr2
      unfold execOp
      simp only [ho, resolve, invoke, builtin, Sem.run_bind, Sem.run_pure, Result.andThen_ok, List.map_toArray, List.map_cons, List.map_nil, hx, hy, List.length_nil, hr2]
  | some ad =>
    have hnews : ∀ j u, (l.map bv)[j]? = some u → w.cell? (ad.add j) = some u := fun j u hj => by
      have hj' := (List.getElem?_eq_some_iff.1 hj).1
      rw [List.length_map] at hj'
      obtain ⟨b, off, e, -, hc⟩ := hr (by omega)
      cases e
      have := hc j hj'
      rw [List.getElem?_map, List.getElem?_eq_getElem hj'] at hj
      rw [List.getD_eq_getElem?_getD, List.getElem?_eq_getElem hj', Option.getD_some, ← show u = Value.int .u8 (l[j].toNat : Int) from by simpa [bv] using hj.symm] at this
      rwa [show (⟨b, off, none⟩ : Addr).add j = ⟨b, off + j, none⟩ by unfold Addr.add; split <;> simp_all]
    exact ex_append (P := Tryd.prog) u8info 30 (by kernel_rfl) (by decide) (by decide) base v n xs hown ad l.length c (l.map bv) (by simp) hnews (fun u hu => by obtain ⟨_, _, rfl⟩ := List.mem_map.1 hu; rfl) (by simp only [maxLen]; omega) (by omega) hbase ev o x y hx hy ho
/-- The letters of a string, as bytes. -/
def sb (s : ByteArray) : List UInt8 := s.data.toList
theorem sb_len (s : ByteArray) : (sb s).length = s.size := Array.length_toList
set_option maxRecDepth 100000 in
theorem bytesWorld_bytes (w : World) (s : ByteArray) : Bytes (Lib.bytesWorld w 5 s) (fun k => w.heap.size ≤ k) (some ⟨w.heap.size, 0, none⟩) (sb s) := fun _ =>
  ⟨w.heap.size, 0, rfl, Nat.le_refl _, fun j hj => by rw [Nat.zero_add]; exact Lib.bytesWorld_cell w 5 s j (by rwa [sb_len] at hj)⟩
theorem bl_bytesWorld (w : World) (s : ByteArray) : Below w.heap.size w (Lib.bytesWorld w 5 s) :=
  ⟨rfl, rfl, rfl, by rw [Lib.bytesWorld_size]; omega, fun k hk => Lib.bytesWorld_at_old w 5 s k hk⟩
theorem ex_bytes (w : World) (s : ByteArray) (ev : Operand → Value) (o : Oper) (x : Operand) (hx : ev x = .string s) (ho : o.op = .convert 9 30 x) :
    ∃ v w', (execOp ev o).run Tryd.prog w = .ok (.value v) w' ∧ (∃ c, v = .slice (some ⟨w.heap.size, 0, none⟩) (sb s).length c) ∧ Bytes w' (fun k => w.heap.size ≤ k) (some ⟨w.heap.size, 0, none⟩) (sb s) ∧ Below w.heap.size w w' := by
  refine ⟨.slice (some ⟨w.heap.size, 0, none⟩) (sb s).length (grownCap w s.size 0 5), Lib.bytesWorld w 5 s, ?_, ⟨_, rfl⟩, bytesWorld_bytes w s, bl_bytesWorld w s⟩
  have hc := Lib.run_convert_string_bytes (P := Tryd.prog) w 9 30 5 s (u := .string) (by kernel_rfl) (by kernel_rfl) (by kernel_rfl)
  unfold execOp
  simp only [ho, hx, Sem.run_bind, hc, Result.andThen_ok, Sem.run_pure, sb_len]

/-- What one of the two functions that are handed in gives: the text itself, or squeezed. -/
def lbody (s : ByteArray) (z : Bool) : List UInt8 := if z then henc (sb s) else sb s
def lenc (s : ByteArray) (z : Bool) : List UInt8 := penc 7 (if z then 128 else 0) (lbody s z).length ++ lbody s z
def lfun (z : Bool) (B : Nat) : Value := .func (.func (if z then 78 else 80)) #[] #[.pointer (some ⟨B, 0, none⟩)]
def lfid (z : Bool) : FuncId := if z then 78 else 80

set_option maxRecDepth 100000 in
theorem enc2_any (B : Nat) (s : ByteArray) (w : World) (hB : w.heap[B]? = some (.cells #[.string s] 9)) :
    Calls Tryd.prog 80 #[.pointer (some ⟨B, 0, none⟩)] w fun e w' => ∃ A c, e = .returned (.slice A (lbody s false).length c) ∧ Bytes w' (fun k => w.heap.size ≤ k) A (lbody s false) ∧ Below w.heap.size w w' := by
  have c0 := (cell_of_row _ _ 0 _ _ _ hB).trans (show (#[Value.string s])[0]? = some (.string s) from rfl)
  go_enter Tryd.func80, Tryd.ntmps80
  go_wp2_with (((with_reducible refine at_convert 9 30 ?_); refine wl_ex rfl (ex_bytes _ s _ _ _ rfl rfl) ?_; rintro v w1 ⟨⟨c, rfl⟩, hb1, hbl1⟩))
  go_ret
  exact ⟨_, _, rfl, hb1, hbl1⟩
set_option maxRecDepth 100000 in
theorem enc1_any (B : Nat) (s : ByteArray) (w : World) (hB : w.heap[B]? = some (.cells #[.string s] 9)) (hs : s.size ≤ 65536) (hL : LaidLens w) :
    Calls Tryd.prog 78 #[.pointer (some ⟨B, 0, none⟩)] w fun e w' => ∃ A c, e = .returned (.slice A (lbody s true).length c) ∧ Bytes w' (fun k => w.heap.size ≤ k) A (lbody s true) ∧ Below w.heap.size w w' := by
  have c0 := (cell_of_row _ _ 0 _ _ _ hB).trans (show (#[Value.string s])[0]? = some (.string s) from rfl)
  go_enter Tryd.func78, Tryd.ntmps78
  go_wp2_with (((with_reducible refine at_convert 9 30 ?_); refine wl_ex rfl (ex_bytes _ s _ _ _ rfl rfl) ?_; rintro v w1 ⟨⟨c, rfl⟩, hb1, hbl1⟩))
  refine (henc_any _ (sb s) c w1 hb1 (by rw [sb_len]; omega) (hL.below hbl1)).mono ?_
  rintro e w2 ⟨v, rfl, ho, hbl2⟩
  obtain ⟨A2, c2, rfl, -⟩ := own_shape ho
  go_wp2_with fail
  go_ret
  exact ⟨A2, c2, rfl, (own_bytes ho).imp fun k _ hk => Nat.le_trans hbl1.size hk, bl_then hbl1 hbl2⟩
theorem encf_any (z : Bool) (B : Nat) (s : ByteArray) (w : World) (hB : w.heap[B]? = some (.cells #[.string s] 9)) (hs : s.size ≤ 65536) (hL : LaidLens w) :
    Calls Tryd.prog (lfid z) #[.pointer (some ⟨B, 0, none⟩)] w fun e w' => ∃ A c, e = .returned (.slice A (lbody s z).length c) ∧ Bytes w' (fun k => w.heap.size ≤ k) A (lbody s z) ∧ Below w.heap.size w w' := by
  cases z
  · exact enc2_any B s w hB
  · exact enc1_any B s w hB hs hL
theorem lbody_len (s : ByteArray) (z : Bool) (hs : s.size ≤ 65536) : (lbody s z).length ≤ 262145 := by
  cases z
  · show (sb s).length ≤ _
    rw [sb_len]; omega
  · show (henc (sb s)).length ≤ _
    have := henc_len (sb s)
    rw [sb_len] at this
    omega
theorem lenc_len (s : ByteArray) (z : Bool) (hs : s.size ≤ 65536) : (lenc s z).length ≤ 262151 := by
  have h1 := lbody_len s z hs
  have h2 := penc_len 7 (if z then 128 else 0) (lbody s z).length
  rw [lenc, List.length_append]
  omega
theorem penc_pos (nb a n : Nat) : 0 < (penc nb a n).length := by
  rw [penc]
  split <;> simp
theorem lenc_pos (s : ByteArray) (z : Bool) : 0 < (lenc s z).length := by
  rw [lenc, List.length_append]
  have := penc_pos 7 (if z then 128 else 0) (lbody s z).length
  omega
set_option maxRecDepth 100000 in
theorem laid_any (z : Bool) (B : Nat) (s : ByteArray) (w : World) (hB : w.heap[B]? = some (.cells #[.string s] 9)) (hs : s.size ≤ 65536) (hL : LaidLens w) :
    Calls Tryd.prog 77 #[.int .i64 ((if z then 128 else 0 : Nat) : Int), .func (.func (lfid z)) #[] #[.pointer (some ⟨B, 0, none⟩)]] w fun e w' => ∃ v, e = .returned v ∧ w'.ownsRow w.heap.size 5 1 v (lenc s z).length ((lenc s z).map bv) ∧ Below w.heap.size w w' := by
  obtain ⟨a, ha⟩ : ∃ a : Nat, a = if z then 128 else 0 := ⟨_, rfl⟩
  have ha1 : a ≤ 255 := by cases z <;> simp_all
  have ha2 : a % 2 ^ 7 = 0 := by cases z <;> simp_all
  have hlb := lbody_len s z hs
  have he := encf_any z B s w hB hs hL
  have hfid : lfid z = 78 ∨ lfid z = 80 := by cases z <;> simp [lfid]
  have hlen : lenc s z = penc 7 a (lbody s z).length ++ lbody s z := by rw [lenc, ha]
  rw [← ha, hlen]
  obtain ⟨b, hb⟩ : ∃ b, b = lbody s z := ⟨_, rfl⟩
  rw [← hb] at hlb he hlen ⊢
  generalize lfid z = fid at he hfid ⊢
  clear ha hb hlen hB
  replace ha2 := Lib.hid ha2
  replace hlb := Lib.hid hlb
  rcases hfid with rfl | rfl
  all_goals
    go_enter Tryd.func77, Tryd.ntmps77
    go_wp2_with fail
    refine he.mono ?_
    rintro e w1 ⟨A, c, rfl, hb1, hbl1⟩
    have hl2 : (b.length : Int) ≤ 262145 := by have := hlb.out; omega
    have hp := penc_any 7 b.length a w1 (by omega) (by have := hlb.out; omega) ha1 ha2.out
    go_wp2_with fail
    refine hp.mono ?_
    rintro e w2 ⟨v, rfl, ho2, hbl2⟩
    have hb2 := hb1.below hbl2
    have hpl := penc_len 7 a b.length
    have hpp := penc_pos 7 a b.length
    clear hp he hb1
    generalize hP : penc 7 a b.length = pp at ho2 hpl hpp ⊢
    replace hP := Lib.hid hP
    have hbl3 := bl_then hbl1 hbl2
    have ho3 := own_mono ho2 hbl1.size
    have hs2 : w.heap.size ≤ w2.heap.size := hbl3.size
    clear ho2 hbl1 hbl2
    replace ho3 := Lib.hid ho3
    go_wp2_with (((with_reducible refine at_append 30 ?_); refine wl_ex rfl (ex_append_bytes w.heap.size _ _ _ ho3.out A b c (.inl hpp) hb2 (by have := hlb.out; omega) hs2 _ _ _ _ rfl rfl rfl) ?_; rintro v5 w5 ⟨ho5, hg5, hv5⟩; have hbl5 := hbl3.trans (grown_below hg5 hs2 (fun g hg => own_block ho3.out hg))))
    go_ret
    rw [hP.out, List.length_append, List.map_append]
    exact ⟨v5, rfl, ho5, hbl5⟩
set_option maxRecDepth 100000 in
set_option maxHeartbeats 1000000 in
theorem lenc_long (s : ByteArray) (z : Bool) (w : World) (hs : 65536 < s.size) :
    Calls Tryd.prog 69 #[.string s, .bool z] w fun e w' => e = .returned (.tuple #[.slice none 0 0, .int .i64 1]) ∧ Below w.heap.size w w' := by
  have i1 : (65536 : Int) < s.size := by omega
  have h0 := heap_alloc_new w (.cells #[.string s] 9)
  have c0 := (cell_of_row _ _ 0 _ _ _ h0).trans (show (#[Value.string s])[0]? = some (.string s) from rfl)
  go_enter Tryd.func69, Tryd.ntmps69
  go_wp2_with fail
  go_ret2
  exact ⟨rfl, bl_alloc (Below.refl _ _) _⟩
set_option maxRecDepth 100000 in
set_option maxHeartbeats 1000000 in
theorem lenc_any (s : ByteArray) (z : Bool) (w : World) (hs : s.size ≤ 65536) (hL : LaidLens w) :
    Calls Tryd.prog 69 #[.string s, .bool z] w fun e w' => ∃ v, e = .returned (.tuple #[v, .int .i64 0]) ∧ w'.ownsRow w.heap.size 5 1 v (lenc s z).length ((lenc s z).map bv) ∧ Below w.heap.size w w' := by
  have i1 : (s.size : Int) ≤ 65536 := by omega
  have h0 := heap_alloc_new w (.cells #[.string s] 9)
  have c0 := (cell_of_row _ _ 0 _ _ _ h0).trans (show (#[Value.string s])[0]? = some (.string s) from rfl)
  have hbl0 := bl_alloc (Below.refl w.heap.size w) (.cells #[.string s] 9)
  have hla := laid_any z w.heap.size s _ h0 hs (hL.below hbl0)
  obtain ⟨w1, hw1⟩ : ∃ w1, w1 = w.alloc (.cells #[.string s] 9) := ⟨_, rfl⟩
  cases z
  all_goals
    go_enter Tryd.func69, Tryd.ntmps69
    go_wp2_with fail
    refine hla.mono ?_
    rintro e w2 ⟨v, rfl, ho2, hbl2⟩
    go_wp2_with fail
    go_ret2
    exact ⟨v, rfl, own_mono ho2 (by rw [World.size_alloc]; omega), bl_then hbl0 hbl2⟩
def shenc (s : ByteArray) : List UInt8 := if (lenc s false).length ≤ (lenc s true).length then lenc s false else lenc s true
theorem shenc_pos (s : ByteArray) : 0 < (shenc s).length := by
  rw [shenc]
  split <;> exact lenc_pos s _
theorem shenc_len (s : ByteArray) (hs : s.size ≤ 65536) : (shenc s).length ≤ 262151 := by
  rw [shenc]
  split <;> exact lenc_len s _ hs
set_option maxRecDepth 100000 in
set_option maxHeartbeats 1000000 in
theorem short_any (s : ByteArray) (w : World) (hs : s.size ≤ 65536) (hL : LaidLens w) :
    Calls Tryd.prog 53 #[.string s] w fun e w' => ∃ v, e = .returned v ∧ w'.ownsRow w.heap.size 5 1 v (shenc s).length ((shenc s).map bv) ∧ Below w.heap.size w w' := by
  have h1 := lenc_any s false w hs hL
  have hl1 := lenc_len s false hs
  have hl2 := lenc_len s true hs
  rw [shenc]
  generalize lenc s false = p at h1 hl1 ⊢
  generalize hq : lenc s true = q at hl2 ⊢
  generalize hr : (if p.length ≤ q.length then p else q) = r
  replace hr := Lib.hid hr
  go_enter Tryd.func53, Tryd.ntmps53
  go_wp2_with fail
  refine h1.mono ?_
  rintro e w1 ⟨v, rfl, ho1, hbl1⟩
  obtain ⟨A, c, rfl, hc1⟩ := own_shape ho1
  have h2 := lenc_any s true w1 hs (hL.below hbl1)
  rw [hq] at h2
  replace ho1 := Lib.hid ho1
  go_wp2_with fail
  refine h2.mono ?_
  rintro e w2 ⟨v2, rfl, ho2, hbl2⟩
  obtain ⟨A2, c2, rfl, hc2⟩ := own_shape ho2
  have ho3 : w2.ownsRow w.heap.size 5 1 (.slice A p.length c) p.length (p.map bv) := own_keep ho1.out fun k _ hk => hbl2.block k hk
  have ho4 := own_mono ho2 hbl1.size
  have hbl3 := bl_then hbl1 hbl2
  clear ho1 ho2 hbl1 hbl2 h1 h2
  replace ho3 := Lib.hid ho3
  replace ho4 := Lib.hid ho4
  by_cases hle : p.length ≤ q.length
  · have hle' : (p.length : Int) ≤ q.length := by omega
    go_wp2_with fail
    go_ret
    have e := hr.out
    rw [if_pos hle] at e
    subst e
    exact ⟨_, rfl, ho3.out, hbl3⟩
  · have hle' : (q.length : Int) < p.length := by omega
    go_wp2_with fail
    go_ret
    have e := hr.out
    rw [if_neg hle] at e
    subst e
    exact ⟨_, rfl, ho4.out, hbl3⟩
end Go.Proofs.YtfkpeahelhpelaaDoor
