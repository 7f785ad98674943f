/- Header lists as blocks, the document's way (ref09): the field of an index; the state of Decode's loop. The document's loop over a block's items (ref09.Decode), plainly: what it keeps beside our own state. -/
import Derived.Test.YtfkpeahelhpelaaDoorRadd
import Derived.Test.YtfkpeahelhpelaaDoorRidec
import Derived.Test.YtfkpeahelhpelaaDoorRef06
namespace Go.Proofs.YtfkpeahelhpelaaDoor
set_option linter.all false
open Go.RowKit
attribute [local go_sem] Oper.semAt_some valueOf_ok

set_option maxHeartbeats 1000000 in
theorem rnamed_any (t : Nat) (v : Value) (T : Tb) (i : Int) (w : World) (h : RTab w t v T) (hi : 0 ≤ i ∧ i ≤ 9223372036854775807) :
    Calls Tryd.prog 28 #[.pointer (some ⟨t, 0, none⟩), .int .i64 i] w fun e w' => e = .returned (.tuple #[fV (namedS T.f i).1, .int .i64 ((namedS T.f i).2 : Int)]) ∧ Below w.heap.size w w' := by
  obtain ⟨z, hz⟩ : ∃ z, z = namedS T.f i := ⟨_, rfl⟩
  rw [← hz]
  rw [namedS] at hz
  obtain ⟨hi0, hi1⟩ := hi
  by_cases g : i ≤ 61
  · rw [if_pos g] at hz
    subst hz
    rw [fV]
    simp only
    have hs := fun w => ref_get_any i w (by omega)
    have he := Lib.hid (show ((getE i).toNat : Int) = getE i by unfold getE; split <;> rfl)
    go_enter Tryd.func28, Tryd.ntmps28
    replace hs := Lib.hid hs
    go_wp2_with fail
    refine (hs.out _).mono ?_
    rintro e w1 ⟨rfl, hb1⟩
    have hk := blk_below (heap_alloc_new w (.cells #[.string ⟨#[]⟩, .string ⟨#[]⟩] 46)) hb1
    have hb := bl_then (bl_alloc (Below.refl w.heap.size w) (.cells #[.string ⟨#[]⟩, .string ⟨#[]⟩] 46)) hb1
    replace hk := Lib.hid hk
    go_wp2_with ((with_reducible refine wpList_store_row rfl 46 (.tmp 4) (.tmp 10) rfl w.heap.size _ #[.string (getN i), .string (getV i)] rfl rfl hk.out (k := 2) (by kernel_rfl) (by kernel_rfl) (by kernel_rfl) (by kernel_rfl) rfl ?_))
    have F := setRow_heap w1 w.heap.size #[.string ⟨#[]⟩, .string ⟨#[]⟩] #[.string (getN i), .string (getV i)] _ _ hk.out
    have F0 := (cell_of_row _ _ 0 _ _ _ F).trans (show _ = some (.string (getN i)) from rfl)
    have F1 := (cell_of_row _ _ 1 _ _ _ F).trans (show _ = some (.string (getV i)) from rfl)
    exact bodyPost_ret (v := .tuple #[.agg #[.string (getN i), .string (getV i)], .int .i64 (getE i)]) (by simp [results, Tryd.results28, go_sem, F0, F1]) rfl ⟨by rw [he.out], bl_setRow hb (Nat.le_refl _) _⟩
  · rw [if_neg g] at hz
    obtain ⟨⟨fn, fv⟩, fe⟩ := z
    rw [fV]
    simp only
    have h2 := Lib.hid (h.below (bl_alloc (Below.refl w.heap.size w) (.cells #[.string ⟨#[]⟩, .string ⟨#[]⟩] 46)))
    have hs := Lib.hid (rget_any t v T (i - 61) _ h2.out (by omega))
    clear h
    have g' : ¬ i ≤ 61 := g
    replace hz := Lib.hid hz
    go_enter Tryd.func28, Tryd.ntmps28
    go_wp2_with fail
    refine hs.out.mono ?_
    rintro e w1 ⟨rfl, hb1⟩
    rw [← hz.out, fV]
    simp only
    clear hs
    have hk := blk_below (heap_alloc_new w (.cells #[.string ⟨#[]⟩, .string ⟨#[]⟩] 46)) hb1
    have hb := bl_then (bl_alloc (Below.refl w.heap.size w) (.cells #[.string ⟨#[]⟩, .string ⟨#[]⟩] 46)) hb1
    replace hk := Lib.hid hk
    go_wp2_with ((with_reducible refine wpList_store_row rfl 46 (.tmp 4) (.tmp 16) rfl w.heap.size _ #[.string fn, .string fv] rfl rfl hk.out (k := 2) (by kernel_rfl) (by kernel_rfl) (by kernel_rfl) (by kernel_rfl) rfl ?_))
    have F := setRow_heap w1 w.heap.size #[.string ⟨#[]⟩, .string ⟨#[]⟩] #[.string fn, .string fv] _ _ hk.out
    have F0 := (cell_of_row _ _ 0 _ _ _ F).trans (show _ = some (.string fn) from rfl)
    have F1 := (cell_of_row _ _ 1 _ _ _ F).trans (show _ = some (.string fv) from rfl)
    exact bodyPost_ret (v := .tuple #[.agg #[.string fn, .string fv], .int .i64 (fe : Int)]) (by simp [results, Tryd.results28, go_sem, F0, F1]) rfl ⟨rfl, bl_setRow hb (Nat.le_refl _) _⟩

/-- The state of the document's loop: the table, the list so far, and what has turned. -/
structure RSt (w W : World) (t : Nat) (v0 v vo : Value) (T : Tb) (k : Nat) (xs : List Value) : Prop where
  tab : RTab W t v T
  out : W.ownsRow w.heap.size 46 2 vo k xs
  mod : Mod (fun k => k = t) w W
  tl : t < w.heap.size
  vn : ∀ g, v.ownBlock = some g → v0.ownBlock = some g ∨ w.heap.size ≤ g
  v0l : ∀ g, v0.ownBlock = some g → g < w.heap.size
  vx : ∀ g, v.ownBlock = some g → vo.ownBlock ≠ some g
section
variable {w W W' : World} {t : Nat} {v0 v vo : Value} {T : Tb} {k : Nat} {xs : List Value}
theorem RSt.vl (h : RSt w W t v0 v vo T k xs) {g : Nat} (hg : v.ownBlock = some g) : g < W.heap.size := own_lt' h.tab.own hg
theorem RSt.ol (h : RSt w W t v0 v vo T k xs) {g : Nat} (hg : vo.ownBlock = some g) : g < W.heap.size := own_lt' h.out hg
/-- A block apart turns. -/
theorem RSt.off (h : RSt w W t v0 v vo T k xs) (g : Nat) (hM : Mod (fun k => k = g) W W') (hg : w.heap.size ≤ g) (hv : v.ownBlock ≠ some g) (ho : vo.ownBlock ≠ some g) : RSt w W' t v0 v vo T k xs := by
  have htl := h.tl
  refine ⟨h.tab.keep fun k hk hs => hM.block k hk ?_, own_same h.out fun k hk => hM.block k (h.ol hk) (by rintro rfl; exact ho hk), h.mod.trans hM (fun i hi e => by omega), htl, h.vn, h.v0l, h.vx⟩
  rcases hs with rfl | hs
  · omega
  · rintro rfl; exact hv hs
theorem RSt.below (h : RSt w W t v0 v vo T k xs) (hb : Below W.heap.size W W') : RSt w W' t v0 v vo T k xs :=
  ⟨h.tab.below hb, own_same h.out fun k hk => hb.block k (h.ol hk), h.mod.below hb, h.tl, h.vn, h.v0l, h.vx⟩
theorem RSt.alloc (h : RSt w W t v0 v vo T k xs) (o : Obj) : RSt w (W.alloc o) t v0 v vo T k xs := h.below (bl_alloc (Below.refl _ _) _)
/-- The table turns. -/
theorem RSt.turn (h : RSt w W t v0 v vo T k xs) {v' : Value} {T' : Tb} (hM : Mod (fun k => k = t) W W') (hT : RTab W' t v' T') (hv : ∀ g, v'.ownBlock = some g → W.heap.size ≤ g) : RSt w W' t v0 v' vo T' k xs := by
  have htl := h.tl
  have hsz := h.mod.size
  refine ⟨hT, own_same h.out fun k hk => hM.block k (h.ol hk) ?_, h.mod.trans hM (fun i hi e => e), htl, fun g hg => .inr (by have := hv g hg; omega), h.v0l, fun g hg e => ?_⟩
  · have := own_block h.out hk
    omega
  · have h1 := hv g hg
    have h2 := h.ol e
    omega
/-- The list grows. -/
theorem RSt.grow (h : RSt w W t v0 v vo T k xs) {vo' : Value} {k' : Nat} {xs' : List Value} (hg : W.grownBy W' vo.ownBlock) (ho : W'.ownsRow w.heap.size 46 2 vo' k' xs') (hv : vo'.ownBlock = vo.ownBlock ∨ vo'.ownBlock = some W.heap.size) : RSt w W' t v0 v vo' T k' xs' := by
  have htl := h.tl
  refine ⟨h.tab.keep fun k hk hs => hg.block k hk ?_, ho, h.mod.grown hg ?_, htl, h.vn, h.v0l, ?_⟩
  · intro e
    have h1 := own_block h.out e.symm
    rcases hs with rfl | hs
    · omega
    · exact h.vx k hs e.symm
  · intro i hi e
    have := own_block h.out e
    omega
  · intro g e e2
    rcases hv with hv | hv
    · exact h.vx g e (hv ▸ e2)
    · have h1 := h.vl e
      rw [hv] at e2
      cases e2
      omega
end
end Go.Proofs.YtfkpeahelhpelaaDoor

namespace Go.Proofs.YtfkpeahelhpelaaDoor
set_option linter.all false
open Go.RowKit

structure RPl (limit : Int) (l : List UInt8) (R : BRes) (s : BSt) (a : Nat) (O : List FieldS) : Prop where
  al : a ≤ l.length
  go : ∃ k, (l.drop a).length ≤ k ∧ bgo limit k (l.drop a) s = R
  cn : O.length = s.count
  sm : sumF O = s.all
  ot : (s.all : Int) ≤ limit → s.out = O
  ca : s.count ≤ a
  sl : s.all ≤ 131104 * s.count
  sz : s.sized ≤ 2
section
variable {limit : Int} {l : List UInt8} {R : BRes} {s : BSt} {a : Nat} {O : List FieldS}
theorem RPl.begin (limit : Int) (l : List UInt8) (T : Tb) : RPl limit l (bdec limit l T) ⟨[], 0, 0, 0, T⟩ 0 [] :=
  ⟨by omega, ⟨l.length, by simp, rfl⟩, rfl, rfl, fun _ => rfl, by simp, by simp, by simp⟩
theorem RPl.fin (h : RPl limit l R s l.length O) : R = if limit < (sumF O : Int) then (([], true, 0), s.T) else ((O, false, 0), s.T) := by
  obtain ⟨k, -, hg⟩ := h.go
  rw [List.drop_length] at hg
  rw [bgo_end hg, bfin, h.sm]
  by_cases hl : limit < (s.all : Int)
  · rw [if_pos hl, if_pos hl]
  · rw [if_neg hl, if_neg hl, h.ot (by omega)]
theorem drop_ne (h : a < l.length) : l.drop a ≠ [] := fun e => by
  have := congrArg List.length e
  rw [List.length_drop, List.length_nil] at this
  omega
theorem RPl.bad (h : RPl limit l R s a O) (ha : a < l.length) (he : (idec (l.drop a)).2.2 ≠ 0) : R = (([], false, 3), s.T) := by
  obtain ⟨k, hk, hg⟩ := h.go
  exact bgo_bad hg hk (drop_ne ha) (fun h => he h.1) (.inl he)
theorem RPl.none (h : RPl limit l R s a O) (ha : a < l.length) (h4 : (idec (l.drop a)).1.kind ≠ 4) (he : (fieldS s.T.f (idec (l.drop a)).1).2 ≠ 0) : R = (([], false, 3), s.T) := by
  obtain ⟨k, hk, hg⟩ := h.go
  exact bgo_bad hg hk (drop_ne ha) (fun h => h4 h.2) (.inr he)
theorem RPl.nosize (h : RPl limit l R s a O) (ha : a < l.length) (he : (idec (l.drop a)).2.2 = 0) (h4 : (idec (l.drop a)).1.kind = 4) (h1 : 0 < O.length ∨ 2 < s.sized + 1 ∨ s.T.bound < (idec (l.drop a)).1.n) : R = (([], false, 3), s.T) := by
  obtain ⟨k, hk, hg⟩ := h.go
  exact bgo_nosize hg hk (drop_ne ha) he h4 (by rw [← h.cn]; exact h1)
theorem RPl.size (h : RPl limit l R s a O) (ha : a < l.length) (he : (idec (l.drop a)).2.2 = 0) (h4 : (idec (l.drop a)).1.kind = 4) (h1 : O.length = 0) (h2 : s.sized < 2) (h3 : (idec (l.drop a)).1.n ≤ s.T.bound) :
    RPl limit l R (bsz s (idec (l.drop a)).1.n) (a + (idec (l.drop a)).2.1) O := by
  obtain ⟨k, hk, hg⟩ := h.go
  have hok := idec_ok _ (drop_ne ha) he
  have hle := hok.le
  have hpos := hok.pos
  rw [List.length_drop] at hle
  obtain ⟨k', hk', hg'⟩ := bgo_size hg hk (drop_ne ha) he h4 (by rw [← h.cn]; exact h1) h2 h3
  rw [List.drop_drop] at hg'
  rw [List.length_drop] at hk'
  exact ⟨by omega, ⟨k', by rw [List.length_drop]; omega, hg'⟩, h.cn, h.sm, h.ot, by have := h.ca; show s.count ≤ _; omega, h.sl, by show s.sized + 1 ≤ 2; omega⟩
theorem RPl.put (h : RPl limit l R s a O) (ha : a < l.length) (he : (idec (l.drop a)).2.2 = 0) (h4 : (idec (l.drop a)).1.kind ≠ 4) (h1 : (fieldS s.T.f (idec (l.drop a)).1).2 = 0) (hT : sumF s.T.f ≤ 4096) :
    RPl limit l R (bput limit s (idec (l.drop a)).1.kind (fieldS s.T.f (idec (l.drop a)).1).1) (a + (idec (l.drop a)).2.1) (O ++ [(fieldS s.T.f (idec (l.drop a)).1).1]) := by
  obtain ⟨k, hk, hg⟩ := h.go
  have hok := idec_ok _ (drop_ne ha) he
  have hle := hok.le
  have hpos := hok.pos
  have hf := field_sz hT hok.name hok.value
  rw [List.length_drop] at hle
  obtain ⟨k', hk', hg'⟩ := bgo_put hg hk (drop_ne ha) he h4 h1
  rw [List.drop_drop] at hg'
  rw [List.length_drop] at hk'
  generalize (fieldS s.T.f (idec (l.drop a)).1).1 = f at hf hg' ⊢
  have h5 := h.ca
  have h6 := h.sl
  have h7 := h.sm
  have h8 := h.cn
  refine ⟨by omega, ⟨k', by rw [List.length_drop]; omega, hg'⟩, ?_, ?_, ?_, ?_, ?_, h.sz⟩
  · rw [List.length_append, h8]; rfl
  · rw [sumF_append, sumF_cons, sumF_nil, h7]; rfl
  · intro hh
    have hh' : ((s.all + fsz f : Nat) : Int) ≤ limit := hh
    show (if ((s.all + fsz f : Nat) : Int) ≤ limit then s.out ++ [f] else s.out) = O ++ [f]
    rw [if_pos hh', h.ot (by omega)]
  · show s.count + 1 ≤ _; omega
  · show s.all + fsz f ≤ 131104 * (s.count + 1); omega
theorem RPl.field (h : RPl limit l R s a O) (ha : a < l.length) (he : (idec (l.drop a)).2.2 = 0) (hT : sumF s.T.f ≤ 4096) : fsz (fieldS s.T.f (idec (l.drop a)).1).1 ≤ 131104 := by
  have hok := idec_ok _ (drop_ne ha) he
  exact field_sz hT hok.name hok.value
theorem RPl.total (h : RPl limit l R s a O) : sumF O ≤ 131104 * l.length ∧ O.length ≤ l.length := by
  have h5 := h.ca
  have h6 := h.sl
  have h7 := h.sm
  have h8 := h.cn
  have h9 := h.al
  omega
end
end Go.Proofs.YtfkpeahelhpelaaDoor
