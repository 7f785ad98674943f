/- Header lists as blocks (layer 9): what Decoder.Decode comes to. -/
import Derived.Test.YtfkpeahelhpelaaDoorBspec
import Derived.Deep.AppendLies
namespace Go.Proofs.YtfkpeahelhpelaaDoor
set_option linter.all false
open Go.RowKit Go.Shelf
attribute [local go_sem] Oper.semAt_some valueOf_ok

/-- The loop's state. -/
structure DSt (w W : World) (d t : Nat) (v0 v vo : Value) (limit : Int) (lp : Loop) (A : Option Addr) (len c : Nat) (s : BSt) : Prop where
  hp : Hp W [(w.heap.size, .cells #[.pointer (some ⟨d, 0, none⟩)] 24), (w.heap.size + 1, .cells #[.int .i64 limit] 3), (w.heap.size + 2, .cells #[vo] 33), (w.heap.size + 3, .cells #[.int .i64 (s.all : Int)] 3),
    (w.heap.size + 4, .cells #[.int .i64 (s.sized : Int)] 3), (w.heap.size + 5, .cells #[.int .i64 (s.count : Int)] 3), (w.heap.size + 6, .cells #[.int .i64 0] 25), (w.heap.size + 7, .cells #[.slice A len c] 30), (w.heap.size + 8, .deferred (some [])), (w.heap.size + 9, .loop lp)]
  dec : Dec W d t v s.T
  out : W.ownsRow (w.heap.size + 10) 46 2 vo s.out.length (fcells s.out)
  mod : Mod (decS d t v0) w W
  vo : ∀ g, v.ownBlock = some g → vo.ownBlock ≠ some g
  vn : ∀ g, v.ownBlock = some g → v0.ownBlock = some g ∨ w.heap.size + 10 ≤ g
  dl : d < w.heap.size
  tl : t < w.heap.size
  sl : s.out.length ≤ s.count
  al : s.all ≤ 131104 * s.count
  sz : s.sized ≤ 2
  v0l : ∀ g, v0.ownBlock = some g → g < w.heap.size
def DJ (w : World) (d t : Nat) (v0 : Value) (limit : Int) (lp : Loop) (l0 : List UInt8) (R0 : BRes) (r : List UInt8) (A : Option Addr) (c : Nat) (W : World) : Prop :=
  ∃ v vo s k, DSt w W d t v0 v vo limit lp A r.length c s ∧ r.length ≤ k ∧ bgo limit k r s = R0 ∧ s.count + r.length ≤ l0.length ∧ Bytes w (fun k => ¬ decS d t v0 k) A r ∧ r.length ≤ c ∧ c ≤ 9223372036854775807
/-- The same, where the head has been done, and the block's bytes not yet cut. -/
def DJ' (w : World) (d t : Nat) (v0 : Value) (limit : Int) (lp : Loop) (l0 : List UInt8) (R0 : BRes) (r : List UInt8) (A : Option Addr) (c : Nat) (W : World) : Prop :=
  ∃ v vo s k, DSt w W d t v0 v vo limit lp A r.length c s ∧ r.length ≤ k + 1 ∧ bgo limit k (r.drop (idec r).2.1) s = R0 ∧ s.count + r.length ≤ l0.length + 1 ∧ Bytes w (fun k => ¬ decS d t v0 k) A r ∧ r.length ≤ c ∧ c ≤ 9223372036854775807
/-- Behind a break. -/
def DJx (w : World) (d t : Nat) (v0 : Value) (lp : Loop) (R0 : BRes) (W : World) : Prop :=
  ∃ v T, W.heap[w.heap.size + 6]? = some (.cells #[.int .i64 3] 25 (0, 0)) ∧ W.heap[w.heap.size + 8]? = some (.deferred (some [])) ∧ W.heap[w.heap.size + 9]? = some (.loop lp) ∧ Dec W d t v T ∧ Mod (decS d t v0) w W ∧ (∀ g, v.ownBlock = some g → v0.ownBlock = some g ∨ w.heap.size + 10 ≤ g) ∧ R0 = (([], false, 3), T)
/-- The known blocks, the decoder, the list so far, and what has turned. -/
structure Bx (w W : World) (d t : Nat) (v0 v vo : Value) (T : Tb) (k : Nat) (xs : List Value) (L : List (Nat × Obj)) : Prop where
  hp : Hp W L
  dec : Dec W d t v T
  out : W.ownsRow (w.heap.size + 10) 46 2 vo k xs
  mod : Mod (decS d t v0) w W
  dl : d < w.heap.size
  tl : t < w.heap.size
  vn : ∀ g, v.ownBlock = some g → v0.ownBlock = some g ∨ w.heap.size + 10 ≤ g
  v0l : ∀ g, v0.ownBlock = some g → g < w.heap.size
  vx : ∀ g, v.ownBlock = some g → vo.ownBlock ≠ some g
  vp : ∀ p ∈ L, v.ownBlock ≠ some p.1
  vq : ∀ p ∈ L, vo.ownBlock ≠ some p.1
  sz : w.heap.size + 10 ≤ W.heap.size
section
variable {w W W' : World} {d t : Nat} {v0 v vo : Value} {T : Tb} {k : Nat} {xs : List Value} {L : List (Nat × Obj)}
theorem Bx.boxes (h : Bx w W d t v0 v vo T k xs L) (hm : Mod (fun k => w.heap.size ≤ k ∧ k < w.heap.size + 10) W W') {L' : List (Nat × Obj)} (hp : Hp W' L') (hvp : ∀ p ∈ L', v.ownBlock ≠ some p.1) (hvq : ∀ p ∈ L', vo.ownBlock ≠ some p.1) : Bx w W' d t v0 v vo T k xs L' := by
  have hdl := h.dl
  have htl := h.tl
  refine ⟨hp, h.dec.keep fun k hk hs => hm.block k hk ?_, own_keep h.out fun g hg hl => hm.block g hl (by omega), h.mod.trans hm (fun i hi hs => by omega), hdl, htl, h.vn, h.v0l, h.vx, hvp, hvq, Nat.le_trans h.sz hm.size⟩
  rcases hs with rfl | rfl | hs
  · omega
  · omega
  · intro hb
    rcases h.vn k hs with h1 | h1
    · have := h.v0l k h1
      omega
    · omega
theorem Bx.below (h : Bx w W d t v0 v vo T k xs L) (hb : Below W.heap.size W W') : Bx w W' d t v0 v vo T k xs L := h.boxes (Mod.of_below hb) (h.hp.below hb) h.vp h.vq
theorem Bx.drew (h : Bx w W d t v0 v vo T k xs L) : Bx w W.drew d t v0 v vo T k xs L := h.below (bl_drew (Below.refl _ _))
theorem Bx.alloc (h : Bx w W d t v0 v vo T k xs L) (o : Obj) : Bx w (W.alloc o) d t v0 v vo T k xs (L ++ [(W.heap.size, o)]) := h.boxes (Mod.of_below (bl_alloc (Below.refl _ _) _)) (h.hp.alloc o) (fun p hp e => by
  rcases List.mem_append.1 hp with hp | hp
  · exact h.vp p hp e
  · obtain rfl := List.mem_singleton.1 hp
    have := own_lt' h.dec.tab.own e
    simp only at this
    omega) (fun p hp e => by
  rcases List.mem_append.1 hp with hp | hp
  · exact h.vq p hp e
  · obtain rfl := List.mem_singleton.1 hp
    have := own_lt' h.out e
    simp only at this
    omega)
theorem vp_set {L : List (Nat × Obj)} {v : Value} (h : ∀ p ∈ L, v.ownBlock ≠ some p.1) {i g : Nat} {o o' : Obj} (hi : L[i]? = some (g, o)) : ∀ p ∈ L.set i (g, o'), v.ownBlock ≠ some p.1 := by
  intro p hp
  rcases List.mem_or_eq_of_mem_set hp with hp | rfl
  · exact h p hp
  · exact h (g, o) (List.mem_of_getElem? hi)
theorem own_same {w w' : World} {base : Nat} {e : TypeId} {size n : Nat} {v : Value} {xs : List Value} (h : w.ownsRow base e size v n xs) (hk : ∀ g, v.ownBlock = some g → w'.heap[g]? = w.heap[g]?) : w'.ownsRow base e size v n xs :=
  ⟨h.1, h.2.imp id fun ⟨g, cap, cur, h1, h2, h3, h4⟩ => ⟨g, cap, cur, h1, h2, (hk g (by rw [h1]; rfl)).trans h3, h4⟩⟩
/-- The table turns. -/
theorem Bx.turn (h : Bx w W d t v0 v vo T k xs L) {v' : Value} {T' : Tb} (hM : Mod (tabS t v) W W') (hT : Tab W' t v' T') (hv : ∀ g, v'.ownBlock = some g → v.ownBlock = some g ∨ W.heap.size ≤ g) (hL : ∀ p ∈ L, w.heap.size ≤ p.1) : Bx w W' d t v0 v' vo T' k xs L := by
  have hdl := h.dl
  have htl := h.tl
  have hsz := h.sz
  have hdW := blk_lt h.dec.blk
  refine ⟨h.hp.keep fun p hp => hM.block _ (h.hp.lt hp) ?_, ⟨(hM.block d hdW ?_).trans h.dec.blk, hT, h.dec.ne, ?_⟩, own_same h.out fun g hg => hM.block g (own_lt' h.out hg) ?_, h.mod.trans hM ?_, hdl, htl, ?_, h.v0l, ?_, ?_, h.vq, Nat.le_trans hsz hM.size⟩
  · rintro (e | e)
    · have := hL p hp; omega
    · exact h.vp p hp e
  · rintro (e | e)
    · exact h.dec.ne e
    · exact h.dec.nr e
  · intro e
    rcases hv d e with e | e
    · exact h.dec.nr e
    · omega
  · have := own_block h.out hg
    rintro (e | e)
    · omega
    · exact h.vx g e hg
  · rintro i hi (rfl | e)
    · exact .inr (.inl rfl)
    · rcases h.vn i e with e' | e'
      · exact .inr (.inr e')
      · omega
  · intro g e
    rcases hv g e with e | e
    · exact h.vn g e
    · exact .inr (by omega)
  · intro g e e2
    rcases hv g e with e | e
    · exact h.vx g e e2
    · have := own_lt' h.out e2
      omega
  · intro p hp e
    rcases hv p.1 e with e | e
    · exact h.vp p hp e
    · have := h.hp.lt hp
      omega
theorem Bx.set (h : Bx w W d t v0 v vo T k xs L) (i j : Nat) (hj : j < 10) {c : Array Value} {e : TypeId} {f : Nat × Nat} (hi : L[i]? = some (w.heap.size + j, .cells c e f)) (off : Nat) (u : Value) : Bx w (W.setCell ⟨w.heap.size + j, off, none⟩ u) d t v0 v vo T k xs (L.set i (w.heap.size + j, .cells (c.setIfInBounds off u) e f)) :=
  h.boxes ((Mod.refl _ W).grown (gr_setCell (gr_refl W (some (w.heap.size + j))) (.inr rfl) u) (fun x _ e => by cases e; omega)) (h.hp.setCell i hi off u) (vp_set h.vp hi) (vp_set h.vq hi)
theorem Bx.put (h : Bx w W d t v0 v vo T k xs L) (i j : Nat) (hj : j < 10) {o : Obj} (hi : L[i]? = some (w.heap.size + j, o)) (o' : Obj) : Bx w (W.putObj (w.heap.size + j) o') d t v0 v vo T k xs (L.set i (w.heap.size + j, o')) :=
  h.boxes ((Mod.refl _ W).grown (gr_putObj (gr_refl W (some (w.heap.size + j))) (.inr rfl) o') (fun x _ e => by cases e; omega)) (h.hp.putObj i hi o') (vp_set h.vp hi) (vp_set h.vq hi)
end
/-- The list grows. -/
theorem Bx.grow {w W W' : World} {d t : Nat} {v0 v vo : Value} {T : Tb} {k : Nat} {xs : List Value} {L : List (Nat × Obj)} (h : Bx w W d t v0 v vo T k xs L) {vo' : Value} {k' : Nat} {xs' : List Value} (hg : W.grownBy W' vo.ownBlock) (ho : W'.ownsRow (w.heap.size + 10) 46 2 vo' k' xs') (hv : vo'.ownBlock = vo.ownBlock ∨ vo'.ownBlock = some W.heap.size) : Bx w W' d t v0 v vo' T k' xs' L := by
  have hdl := h.dl
  have htl := h.tl
  have hsz := h.sz
  have hrow : ∀ g, vo.ownBlock = some g → w.heap.size + 10 ≤ g := fun g hg => own_block h.out hg
  refine ⟨h.hp.grown hg (fun p hp e => h.vq p hp e.symm), h.dec.keep fun k hk hs => hg.block k hk ?_, ho, h.mod.grown hg ?_, hdl, htl, h.vn, h.v0l, ?_, h.vp, ?_, Nat.le_trans hsz hg.size⟩
  · intro e
    have h1 := hrow k e.symm
    rcases hs with rfl | rfl | hs
    · omega
    · omega
    · exact h.vx k hs e.symm
  · intro i hi e
    have := hrow i e
    omega
  · intro g e e2
    rcases hv with hv | hv
    · exact h.vx g e (hv ▸ e2)
    · have h1 := own_lt' h.dec.tab.own e
      rw [hv] at e2
      cases e2
      omega
  · intro p hp e
    rcases hv with hv | hv
    · exact h.vq p hp (hv ▸ e)
    · have h1 := h.hp.lt hp
      rw [hv] at e
      have e2 := Option.some.inj e
      omega
def boxL (w : World) (d : Nat) (vo : Value) (limit : Int) (all sized count : Int) (A : Option Addr) (len c : Nat) (lp : Loop) : List (Nat × Obj) := [(w.heap.size, .cells #[.pointer (some ⟨d, 0, none⟩)] 24), (w.heap.size + 1, .cells #[.int .i64 limit] 3), (w.heap.size + 2, .cells #[vo] 33), (w.heap.size + 3, .cells #[.int .i64 all] 3),
    (w.heap.size + 4, .cells #[.int .i64 sized] 3), (w.heap.size + 5, .cells #[.int .i64 count] 3), (w.heap.size + 6, .cells #[.int .i64 0] 25), (w.heap.size + 7, .cells #[.slice A len c] 30), (w.heap.size + 8, .deferred (some [])), (w.heap.size + 9, .loop lp)]
theorem DSt.bx {w W : World} {d t : Nat} {v0 v vo : Value} {limit : Int} {lp : Loop} {A : Option Addr} {len c : Nat} {s : BSt} (D : DSt w W d t v0 v vo limit lp A len c s) : Bx w W d t v0 v vo s.T s.out.length (fcells s.out) (boxL w d vo limit s.all s.sized s.count A len c lp) := by
  refine ⟨D.hp, D.dec, D.out, D.mod, D.dl, D.tl, D.vn, D.v0l, D.vo, ?_, ?_, D.hp.lt_at 9 rfl⟩
  · intro p hp e
    have h1 := D.vn _ e
    have h2 := D.v0l p.1
    simp only [boxL, List.mem_cons, List.not_mem_nil, or_false] at hp
    rcases hp with rfl | rfl | rfl | rfl | rfl | rfl | rfl | rfl | rfl | rfl
    all_goals
      simp only at h1 h2
      rcases h1 with h1 | h1
      · have := h2 h1; omega
      · omega
  · intro p hp e
    have h1 := own_block D.out e
    simp only [boxL, List.mem_cons, List.not_mem_nil, or_false] at hp
    rcases hp with rfl | rfl | rfl | rfl | rfl | rfl | rfl | rfl | rfl | rfl
    all_goals
      simp only at h1
      omega
theorem Bx.toD {w W : World} {d t : Nat} {v0 v vo : Value} {limit : Int} {lp : Loop} {A : Option Addr} {len c : Nat} {s : BSt} {L : List (Nat × Obj)} (X : Bx w W d t v0 v vo s.T s.out.length (fcells s.out) L) (hL : L.take 10 = boxL w d vo limit s.all s.sized s.count A len c lp) (h1 : s.out.length ≤ s.count) (h2 : s.all ≤ 131104 * s.count) (h3 : s.sized ≤ 2) : DSt w W d t v0 v vo limit lp A len c s := by
  have := X.hp.take 10
  rw [hL] at this
  exact ⟨this, X.dec, X.out, X.mod, X.vx, X.vn, X.dl, X.tl, h1, h2, h3, X.v0l⟩
theorem laid_mod {w W : World} {d t : Nat} {v0 : Value} (h : LaidLens w) (hm : Mod (decS d t v0) w W) (h2 : ∀ k, decS d t v0 k → 2 ≤ k) : LaidLens W := fun j v hv => by
  have hc := h j v hv
  exact (World.cell?_of_block (w := w) (hm.block _ (World.block_lt_of_cell? w _ hc) (fun hs => by have := h2 _ hs; simp only at this; omega))).trans hc
theorem shapes_mod {w W : World} {d t : Nat} {v0 : Value} (h : LaidShapes w) (hm : Mod (decS d t v0) w W) (h2 : ∀ k, decS d t v0 k → 2 ≤ k) : LaidShapes W := fun j v hv => by
  have hc := h j v hv
  exact (World.cell?_of_block (w := w) (hm.block _ (World.block_lt_of_cell? w _ hc) (fun hs => by have := h2 _ hs; simp only at this; omega))).trans hc
set_option maxRecDepth 100000 in
set_option maxHeartbeats 8000000 in
theorem bdec_any (d t : Nat) (v0 : Value) (T0 : Tb) (limit : Int) (A : Option Addr) (l : List UInt8) (c : Nat) (w : World) (h : Dec w d t v0 T0) (h2 : ∀ k, decS d t v0 k → 2 ≤ k) (hb : Bytes w (fun k => ¬ decS d t v0 k) A l)
    (hc : l.length ≤ c) (hcm : c ≤ 9223372036854775807) (hl : l.length ≤ 4000000000) (hL : LaidLens w) (hS : LaidShapes w) :
    Calls Tryd.prog 10 #[.pointer (some ⟨d, 0, none⟩), .slice A l.length c, .int .i64 limit] w fun e w' => ∃ v vo, e = .returned (.tuple #[vo, .bool (bdec limit l T0).1.2.1, .int .i64 ((bdec limit l T0).1.2.2 : Int)]) ∧
      w'.ownsRow w.heap.size 46 2 vo (bdec limit l T0).1.1.length (fcells (bdec limit l T0).1.1) ∧ Dec w' d t v (bdec limit l T0).2 ∧ Mod (decS d t v0) w w' ∧ (∀ g, v.ownBlock = some g → v0.ownBlock = some g ∨ w.heap.size ≤ g) ∧ ∀ g, v.ownBlock = some g → vo.ownBlock ≠ some g := by
  obtain ⟨R0, hR0⟩ : ∃ R0, R0 = bdec limit l T0 := ⟨_, rfl⟩
  rw [← hR0]
  replace hR0 := Lib.hid hR0
  have hdl := h.lt (.inl rfl)
  have htl := h.lt (.inr (.inl rfl))
  have hvl : ∀ g, v0.ownBlock = some g → g < w.heap.size := fun g hg => h.lt (.inr (.inr hg))
  refine (callsIn_wide (n := 4)).1 ?_
  refine callsIn_of_wp_marks Tryd.func10 rfl trivial ?_ rfl
  simp only [Tryd.ntmps10, List.size_toArray, List.length_cons, List.length_nil, Nat.reduceAdd, Nat.reduceSub, Array.replicate_succ, Array.replicate_zero, List.push_toArray, List.append_toArray, List.nil_append, List.cons_append]
  replace hvl := Lib.hid hvl
  replace hb := Lib.hid hb
  gi_wp2_with fail
  refine wide_scope ?_
  have c0 := Lib.hid h.cell
  gi_wp2_with fail
  refine wide_label ?_
  gi_wp2_with fail
  refine ⟨trivial, (callsIn_wide.2 (items_any A l.length c _)).mono ?_⟩
  rintro e w2 ⟨rfl, rfl⟩
  gi_wp2_with fail
  simp only [World.size_alloc, Nat.add_assoc, Nat.reduceAdd]
  refine range_at (D := w.heap.size + 8) (by decide) 39 #[.pointer (some ⟨w.heap.size + 7, 0, none⟩)] rfl (fun args w => rfl) (by simp) ?_
  intro fn R hR
  refine (items_it _ (w.heap.size + 9) (w.heap.size + 7) (DJ w d t v0 limit (R .ready none) l R0) (DJ' w d t v0 limit (R .ready none) l R0) (DJx w d t v0 (R .done (some (.exit 0))) R0) ?_ ?_ ?_ ?_ l A c _ ?_).mono ?_
  · rintro r A1 c1 W ⟨v, vo, s, k, D, hk, hg, hcl, hby, hrc, hcc⟩
    refine ⟨D.hp.get 7 rfl, (hby.keep fun k hk hl => D.mod.block k hl hk).imp fun _ _ _ => trivial, hrc, hcc, by omega, laid_mod hL D.mod h2, shapes_mod hS D.mod h2⟩
  · rintro r A1 c1 W W' ⟨v, vo, s, k, D, hk, hg, hcl, hby, hrc, hcc⟩ hbw
    exact ⟨v, vo, s, k, (D.bx.below hbw).toD rfl D.sl D.al D.sz, hk, hg, hcl, hby, hrc, hcc⟩
  · rintro r A1 c1 W ⟨v, vo, s, k, D, hk, hg, hcl, hby, hrc, hcc⟩ hne
    refine round_by hR (D.hp.get 9 rfl) ?_
    rename_i Q0 K0 a0
    clear a0 K0 Q0
    have hok := idec_ok r hne
    have hbad := idec_bad r
    have hsize := bgo_size hg hk hne
    have hnosize := bgo_nosize hg hk hne
    have hbgbad := bgo_bad hg hk hne
    have hput := bgo_put hg hk hne
    obtain ⟨⟨⟨ik, inn, inm, ivl⟩, iat, ie⟩, hi⟩ : ∃ z, z = idec r := ⟨_, rfl⟩
    rw [← hi] at hok hbad hsize hnosize hbgbad hput ⊢
    rw [stepV]
    simp only at hok hbad hsize hnosize hbgbad hput ⊢
    obtain ⟨⟨fn, fe⟩, hfe⟩ : ∃ z, z = fieldS s.T.f ⟨ik, inn, inm, ivl⟩ := ⟨_, rfl⟩
    rw [← hfe] at hbgbad hput
    have hfsz : ItemOk r ⟨ik, inn, inm, ivl⟩ iat → fsz fn ≤ 131104 := fun h => by
      have := field_sz (F := s.T.f) (x := ⟨ik, inn, inm, ivl⟩) (by have h1 := D.dec.tab.sum; have h2 := D.dec.tab.mb; have h3 := D.dec.tab.bb; omega) h.name h.value
      rw [← hfe] at this
      exact this
    simp only at hbgbad hput
    replace hfe := Lib.hid hfe
    replace hfsz := Lib.hid hfsz
    replace hi := Lib.hid hi
    replace hR := Lib.hid hR
    replace hg := Lib.hid hg
    replace hok := Lib.hid hok
    replace hbad := Lib.hid hbad
    replace hsize := Lib.hid hsize
    replace hnosize := Lib.hid hnosize
    replace hbgbad := Lib.hid hbgbad
    replace hput := Lib.hid hput
    replace hby := Lib.hid hby
    obtain ⟨nm, hnm⟩ : ∃ nm, nm = strB inm := ⟨_, rfl⟩
    obtain ⟨vl, hvl2⟩ : ∃ vl, vl = strB ivl := ⟨_, rfl⟩
    rw [show strV inm = .string nm from by rw [hnm]; rfl, show strV ivl = .string vl from by rw [hvl2]; rfl]
    replace hnm := Lib.hid hnm
    replace hvl2 := Lib.hid hvl2
    gi_wp2_with fail
    have X0 : Bx w W d t v0 v vo s.T s.out.length (fcells s.out) _ := D.bx
    have X1 := X0.alloc (.cells #[.int .i64 (ik : Int), .int .i64 (inn : Int), .string nm, .string vl, .int .i64 (ie : Int)] 64)
    refine ⟨X1.hp.get 9 rfl, ?_⟩
    have X2 := X1.put 9 9 (by omega) rfl (.loop (R .busy none))
    have hBs : w.heap.size + 10 ≤ W.heap.size := D.hp.lt_at 9 rfl
    have hsl := D.sl
    have hal := D.al
    have hsz := D.sz
    clear X0 X1 D
    generalize hB : W.heap.size = B at X2 hBs ⊢
    generalize (W.alloc (.cells #[.int .i64 (ik : Int), .int .i64 (inn : Int), .string nm, .string vl, .int .i64 (ie : Int)] 64)).putObj (w.heap.size + 9) (.loop (R .busy none)) = W2 at X2 ⊢
    clear hB W
    have c3 := (X2.hp.cell 0 rfl 0).trans (show _ = some (.pointer (some ⟨d, 0, none⟩)) from rfl)
    have cs := (X2.hp.cell 4 rfl 0).trans (show _ = some (.int .i64 (s.sized : Int)) from rfl)
    have cc := (X2.hp.cell 5 rfl 0).trans (show _ = some (.int .i64 (s.count : Int)) from rfl)
    have zs := X2.hp.free 4 rfl 0
    have zc := X2.hp.free 5 rfl 0
    have zl := X2.hp.free 6 rfl 0
    have ck := (X2.hp.cell 10 rfl 0).trans (show _ = some (.int .i64 (ik : Int)) from rfl)
    have cn := (X2.hp.cell 10 rfl 1).trans (show _ = some (.int .i64 (inn : Int)) from rfl)
    have ce := (X2.hp.cell 10 rfl 4).trans (show _ = some (.int .i64 (ie : Int)) from rfl)
    have yl := (X2.hp.cell 6 rfl 0).trans (show _ = some (.int .i64 0) from rfl)
    replace X2 := Lib.hid X2
    have i1 : (s.sized : Int) ≤ 2 := by omega
    by_cases he : ie = 0
    · have he1 : ((ie : Int) == 0) = true := by simp [he]
      by_cases hk4 : ik = 4
      · have hk41 : ((ik : Int) == 4) = true := by simp [hk4]
        have X3 := Lib.hid (X2.out.set 4 4 (by omega) rfl 0 (.int .i64 ((s.sized : Int) + 1)))
        gi_wp2_with fail
        generalize W2.setCell ⟨w.heap.size + 4, 0, none⟩ (.int .i64 ((s.sized : Int) + 1)) = W3 at X3 ⊢
        clear c3 cs cc zs zc zl ck cn ce yl X2
        by_cases hcnt : 0 < s.count
        · have hcnt' : (0 : Int) < s.count := by omega
          have hfin := Lib.hid (hnosize.out he hk4 (.inl hcnt))
          refine region_plan (fun w' => w'.cell? ⟨w.heap.size + 5, 0, none⟩ = some (.int .i64 (s.count : Int))) [] [] [0, 1, 2, 3, 4, 5, 6, 7, 8, 9, 10, 11, 12, 13, 14, 15, 16] (by kernel_rfl) (fun _ => trivial) (by kernel_rfl) (by kernel_rfl) (by kernel_rfl) (by decide) ?_ ?_
          all_goals
            have X4 := X3.out.drew
            clear X3
            generalize W3.drew = W5 at X4 ⊢
            clear W3
            obtain ⟨W3, rfl⟩ : ∃ W3, W3 = W5 := ⟨_, rfl⟩
            have X3 := Lib.hid X4
            clear X4
            have c3 := (X3.out.hp.cell 0 rfl 0).trans (show _ = some (.pointer (some ⟨d, 0, none⟩)) from rfl)
            have cs := (X3.out.hp.cell 4 rfl 0).trans (show _ = some (.int .i64 ((s.sized : Int) + 1)) from rfl)
            have cc := (X3.out.hp.cell 5 rfl 0).trans (show _ = some (.int .i64 (s.count : Int)) from rfl)
            have zl := X3.out.hp.free 6 rfl 0
            have yl := (X3.out.hp.cell 6 rfl 0).trans (show _ = some (.int .i64 0) from rfl)
            have cn := (X3.out.hp.cell 10 rfl 1).trans (show _ = some (.int .i64 (inn : Int)) from rfl)
          · exact cc
          iterate 17 (first | (refine seq_v rfl rfl rfl (by intro w' h1; go_simp) ?_; go_simp) | (refine seq_over rfl rfl rfl ?_; go_simp))
          refine seq_nil ?_
          gi_wp2_with fail
          have X4 := X3.out.set 6 6 (by omega) rfl 0 (.int .i64 3)
          have X5 := X4.put 9 9 (by omega) rfl (.loop (R .done (some (.exit 0))))
          exact ⟨X4.hp.get 9 rfl, .inr ⟨rfl, _, _, X5.hp.get 6 rfl, X5.hp.get 8 rfl, X5.hp.get 9 rfl, X5.dec, X5.mod, X5.vn, hfin.out⟩⟩
        · have hcnt' : ¬ (0 : Int) < s.count := by omega
          have hc0 : s.count = 0 := by omega
          by_cases hs2 : 2 < s.sized + 1
          · have hs2' : (2 : Int) < (s.sized : Int) + 1 := by omega
            have hfin := Lib.hid (hnosize.out he hk4 (.inr (.inl hs2)))
            refine region_plan (fun w' => w'.cell? ⟨w.heap.size + 5, 0, none⟩ = some (.int .i64 (s.count : Int)) ∧ w'.cell? ⟨w.heap.size + 4, 0, none⟩ = some (.int .i64 ((s.sized : Int) + 1))) [] [] [0, 1, 2, 3, 4, 5, 6, 7, 8, 9, 10, 11, 12, 13, 14, 15, 16] (by kernel_rfl) (fun _ => trivial) (by kernel_rfl) (by kernel_rfl) (by kernel_rfl) (by decide) ?_ ?_
            all_goals
              have X4 := X3.out.drew
              clear X3
              generalize W3.drew = W5 at X4 ⊢
              clear W3
              obtain ⟨W3, rfl⟩ : ∃ W3, W3 = W5 := ⟨_, rfl⟩
              have X3 := Lib.hid X4
              clear X4
              have c3 := (X3.out.hp.cell 0 rfl 0).trans (show _ = some (.pointer (some ⟨d, 0, none⟩)) from rfl)
              have cs := (X3.out.hp.cell 4 rfl 0).trans (show _ = some (.int .i64 ((s.sized : Int) + 1)) from rfl)
              have cc := (X3.out.hp.cell 5 rfl 0).trans (show _ = some (.int .i64 (s.count : Int)) from rfl)
              have zl := X3.out.hp.free 6 rfl 0
              have yl := (X3.out.hp.cell 6 rfl 0).trans (show _ = some (.int .i64 0) from rfl)
              have cn := (X3.out.hp.cell 10 rfl 1).trans (show _ = some (.int .i64 (inn : Int)) from rfl)
            · exact ⟨cc, cs⟩
            iterate 17 (first | (refine seq_v rfl rfl rfl (by rintro w' ⟨h1, h2⟩; go_simp) ?_; go_simp) | (refine seq_over rfl rfl rfl ?_; go_simp))
            refine seq_nil ?_
            gi_wp2_with fail
            have X4 := X3.out.set 6 6 (by omega) rfl 0 (.int .i64 3)
            have X5 := X4.put 9 9 (by omega) rfl (.loop (R .done (some (.exit 0))))
            exact ⟨X4.hp.get 9 rfl, .inr ⟨rfl, _, _, X5.hp.get 6 rfl, X5.hp.get 8 rfl, X5.hp.get 9 rfl, X5.dec, X5.mod, X5.vn, hfin.out⟩⟩
          · have hs2' : ¬ (2 : Int) < (s.sized : Int) + 1 := by omega
            replace hc0 := Lib.hid hc0
            refine region_plan (fun w' => w'.cell? ⟨w.heap.size + 5, 0, none⟩ = some (.int .i64 (s.count : Int)) ∧ w'.cell? ⟨w.heap.size + 4, 0, none⟩ = some (.int .i64 ((s.sized : Int) + 1)) ∧ w'.cell? ⟨w.heap.size, 0, none⟩ = some (.pointer (some ⟨d, 0, none⟩)) ∧ w'.cell? ⟨d, 0, none⟩ = some (.pointer (some ⟨t, 0, none⟩)) ∧ w'.cell? ⟨B, 1, none⟩ = some (.int .i64 (inn : Int))) [14, 15, 16] [14, 15, 16] [0, 1, 2, 3, 4, 5, 6, 7, 8, 9, 10, 11, 12, 13, 14, 15, 16] (by kernel_rfl) (fun _ => trivial) (by kernel_rfl) (by kernel_rfl) (by kernel_rfl) (by decide) ?_ ?_
            all_goals
              have X4 := X3.out.drew
              clear X3
              generalize W3.drew = W5 at X4 ⊢
              clear W3
              obtain ⟨W3, rfl⟩ : ∃ W3, W3 = W5 := ⟨_, rfl⟩
              have X3 := Lib.hid X4
              clear X4
              have c3 := (X3.out.hp.cell 0 rfl 0).trans (show _ = some (.pointer (some ⟨d, 0, none⟩)) from rfl)
              have cs := (X3.out.hp.cell 4 rfl 0).trans (show _ = some (.int .i64 ((s.sized : Int) + 1)) from rfl)
              have cc := (X3.out.hp.cell 5 rfl 0).trans (show _ = some (.int .i64 (s.count : Int)) from rfl)
              have zl := X3.out.hp.free 6 rfl 0
              have yl := (X3.out.hp.cell 6 rfl 0).trans (show _ = some (.int .i64 0) from rfl)
              have cn := (X3.out.hp.cell 10 rfl 1).trans (show _ = some (.int .i64 (inn : Int)) from rfl)
              have cd := X3.out.dec.cell
            · exact ⟨cc, cs, c3, cd, cn⟩
            iterate 14 (first | (refine seq_v rfl rfl rfl (by rintro w' ⟨h1, h2, h3, h4, h5⟩; go_simp) ?_; go_simp) | (refine seq_over rfl rfl rfl ?_; go_simp))
            by_cases hbd : inn ≤ s.T.bound
            · refine seq_call (f := 22) (args := #[.pointer (some ⟨t, 0, none⟩), .int .i64 (inn : Int)]) rfl (fun _ => trivial) rfl rfl rfl rfl (by go_simp) ?_
              show CallsIn Fence.wide _ _ _ _ _ _
              refine (callsIn_wide.2 (setMost_yes t v s.T inn _ X3.out.dec.tab hbd)).mono ?_
              rintro e W4 ⟨v4, rfl, hT4, hM4, hv4⟩
              refine ⟨_, rfl, fun h => absurd (by decide) h, ?_⟩
              go_simp
              iterate 2 (refine seq_dv rfl (fun _ => trivial) rfl rfl rfl (fun h => absurd (by decide) h) (by go_simp) ?_; go_simp)
              refine seq_nil ?_
              obtain ⟨k2, hk2, hg2⟩ := hsize.out he hk4 hc0.out (by omega) hbd
              have X4 := X3.out.turn hM4 hT4 hv4 (by
                intro p hp
                simp only [boxL, List.set_cons_succ, List.set_cons_zero, List.cons_append, List.nil_append, List.mem_cons, List.not_mem_nil, or_false] at hp
                rcases hp with rfl | rfl | rfl | rfl | rfl | rfl | rfl | rfl | rfl | rfl | rfl <;> simp only <;> omega)
              have X5 := X4.put 9 9 (by omega) rfl (.loop (R .ready none))
              replace hg2 := Lib.hid hg2
              gi_wp2_with fail
              have e1 : iat = (idec r).2.1 := by rw [← hi.out]
              exact ⟨X4.hp.get 9 rfl, .inl ⟨rfl, v4, vo, bsz s inn, k2, Bx.toD (s := bsz s inn) X5 rfl hsl hal (by show s.sized + 1 ≤ 2; omega), hk2, by rw [← e1]; exact hg2.out, by show s.count + r.length ≤ l.length + 1; omega, hby.out, hrc, hcc⟩⟩
            · refine seq_call (f := 22) (args := #[.pointer (some ⟨t, 0, none⟩), .int .i64 (inn : Int)]) rfl (fun _ => trivial) rfl rfl rfl rfl (by go_simp) ?_
              show CallsIn Fence.wide _ _ _ _ _ _
              refine (callsIn_wide.2 (setMost_no t v s.T (inn : Int) _ X3.out.dec.tab (by omega))).mono ?_
              rintro e W4 ⟨rfl, rfl⟩
              have hfin := Lib.hid (hnosize.out he hk4 (.inr (.inr (by omega))))
              refine ⟨_, rfl, fun h => absurd (by decide) h, ?_⟩
              go_simp
              iterate 2 (refine seq_dv rfl (fun _ => trivial) rfl rfl rfl (fun h => absurd (by decide) h) (by go_simp) ?_; go_simp)
              refine seq_nil ?_
              gi_wp2_with fail
              have X4 := X3.out.set 6 6 (by omega) rfl 0 (.int .i64 3)
              have X5 := X4.put 9 9 (by omega) rfl (.loop (R .done (some (.exit 0))))
              exact ⟨X4.hp.get 9 rfl, .inr ⟨rfl, _, _, X5.hp.get 6 rfl, X5.hp.get 8 rfl, X5.hp.get 9 rfl, X5.dec, X5.mod, X5.vn, hfin.out⟩⟩
      · have hk41 : ((ik : Int) == 4) = false := by simp only [beq_eq_false_iff_ne]; omega
        have hnn := (hok.out he).num
        by_cases hf0 : fe = 0
        · have hf01 : ((fe : Int) != 0) = false := by simp [hf0]
          have he2 : ((ie : Int) != 0) = false := by simp [he]
          have hfs := hfsz.out (hok.out he)
          have cm := (X2.out.hp.cell 10 rfl 2).trans (show _ = some (.string nm) from rfl)
          have cv := (X2.out.hp.cell 10 rfl 3).trans (show _ = some (.string vl) from rfl)
          gi_wp2_with fail
          have hfd := field_any d t v s.T ⟨ik, inn, inm, ivl⟩ W2 X2.out.dec hnn
          rw [itemV] at hfd
          simp only at hfd
          rw [show strV inm = .string nm from by rw [hnm.out]; rfl, show strV ivl = .string vl from by rw [hvl2.out]; rfl] at hfd
          refine ⟨trivial, ?_⟩
          show CallsIn Fence.wide _ _ _ _ _ _
          refine (callsIn_wide.2 hfd).mono ?_
          rintro e W3 ⟨rfl, hb3⟩
          clear hfd
          have hBf := Nat.le_trans X2.out.sz hb3.size
          have X3 := (X2.out.below hb3).alloc (.cells #[.string fn.1, .string fn.2] 46)
          rw [← hfe.out, fV]
          simp only
          clear c3 cs cc zs zc zl ck cn ce yl cm cv X2
          have hB3 := X3.hp.lt_at 10 rfl
          replace X3 := Lib.hid X3
          have ce := (X3.out.hp.cell 10 rfl 4).trans (show _ = some (.int .i64 (ie : Int)) from rfl)
          have ck := (X3.out.hp.cell 10 rfl 0).trans (show _ = some (.int .i64 (ik : Int)) from rfl)
          have cc := (X3.out.hp.cell 5 rfl 0).trans (show _ = some (.int .i64 (s.count : Int)) from rfl)
          have zc := X3.out.hp.free 5 rfl 0
          have zl := X3.out.hp.free 6 rfl 0
          have yl := (X3.out.hp.cell 6 rfl 0).trans (show _ = some (.int .i64 0) from rfl)
          obtain ⟨k2, hk2, hg2⟩ := hput.out he hk4 hf0
          replace hg2 := Lib.hid hg2
          have e1 : iat = (idec r).2.1 := by rw [← hi.out]
          replace e1 := Lib.hid e1
          have hcl2 : s.count < 4000000000 := by have := List.length_pos_iff.2 hne; omega
          have i3 : (s.all : Int) ≤ 4611686018427387904 := by omega
          have i4 : (fsz fn : Int) ≤ 131104 := by omega
          have hwa : IntKind.i64.wrap ((s.all : Int) + (fsz fn : Int)) = (s.all : Int) + (fsz fn : Int) := IntWalk.i64_in _ (by omega)
          replace hwa := Lib.hid hwa
          by_cases hk1 : ik = 1
          · have hk11 : ((ik : Int) == 1) = true := by simp [hk1]
            have X4 := Lib.hid (X3.out.set 5 5 (by omega) rfl 0 (.int .i64 ((s.count : Int) + 1)))
            gi_wp2_with fail
            clear ce ck cc zc zl yl X3
            generalize hF : W3.heap.size = F at X4 hBf ⊢
            generalize (W3.alloc (.cells #[.string fn.1, .string fn.2] 46)).setCell ⟨w.heap.size + 5, 0, none⟩ (.int .i64 ((s.count : Int) + 1)) = W4 at X4 ⊢
            clear hF hb3 hB3 W3
            refine region_plan (fun w' => w'.cell? ⟨w.heap.size, 0, none⟩ = some (.pointer (some ⟨d, 0, none⟩)) ∧ w'.cell? ⟨d, 0, none⟩ = some (.pointer (some ⟨t, 0, none⟩)) ∧ w'.cell? ⟨F, 0, none⟩ = some (.string fn.1) ∧ w'.cell? ⟨F, 1, none⟩ = some (.string fn.2)) [5] [5] [0, 1, 2, 3, 4, 5] (by kernel_rfl) (fun _ => trivial) (by kernel_rfl) (by kernel_rfl) (by kernel_rfl) (by decide) ?_ ?_
            all_goals
              have X5 := Lib.hid X4.out.drew
              clear X4
              generalize W4.drew = W5 at X5 ⊢
              clear W4
              have c3 := (X5.out.hp.cell 0 rfl 0).trans (show _ = some (.pointer (some ⟨d, 0, none⟩)) from rfl)
              have cd := X5.out.dec.cell
              have cf1 := (X5.out.hp.cell 11 rfl 0).trans (show _ = some (.string fn.1) from rfl)
              have cf2 := (X5.out.hp.cell 11 rfl 1).trans (show _ = some (.string fn.2) from rfl)
            · exact ⟨c3, cd, cf1, cf2⟩
            iterate 5 (refine seq_v rfl rfl rfl (by rintro w' ⟨h1, h2, h3, h4⟩; go_simp) ?_; go_simp)
            refine seq_call (f := 24) (args := #[.pointer (some ⟨t, 0, none⟩), fV fn]) rfl (fun _ => trivial) rfl rfl rfl rfl (by rw [fV]; go_simp) ?_
            show CallsIn Fence.wide _ _ _ _ _ _
            refine (callsIn_wide.2 (add_any t v s.T fn _ X5.out.dec.tab (by omega))).mono ?_
            rintro e W4 ⟨v4, rfl, hT4, hM4, hv4⟩
            have X4 := Lib.hid (X5.out.turn hM4 hT4 hv4 (by
              intro p hp
              simp only [boxL, List.set_cons_succ, List.set_cons_zero, List.cons_append, List.nil_append, List.mem_cons, List.not_mem_nil, or_false] at hp
              rcases hp with rfl | rfl | rfl | rfl | rfl | rfl | rfl | rfl | rfl | rfl | rfl | rfl <;> simp only <;> omega))
            clear c3 cd cf1 cf2 X5 hT4 hM4 hv4
            refine ⟨_, rfl, fun h => absurd (by decide) h, ?_⟩
            go_simp
            refine seq_nil ?_
            gi_wp2_with fail
            refine region_plan (fun w' => w'.cell? ⟨w.heap.size + 3, 0, none⟩ = some (.int .i64 (s.all : Int)) ∧ w'.cell? ⟨F, 0, none⟩ = some (.string fn.1) ∧ w'.cell? ⟨F, 1, none⟩ = some (.string fn.2)) [3, 4] [2, 3, 4] [0, 1, 2, 3, 4] (by kernel_rfl) (fun _ => trivial) (by kernel_rfl) (by kernel_rfl) (by kernel_rfl) (by decide) ?_ ?_
            all_goals
              have X5 := Lib.hid X4.out.drew
              clear X4
              generalize W4.drew = W5 at X5 ⊢
              clear W4
              have ca := (X5.out.hp.cell 3 rfl 0).trans (show _ = some (.int .i64 (s.all : Int)) from rfl)
              have cf1 := (X5.out.hp.cell 11 rfl 0).trans (show _ = some (.string fn.1) from rfl)
              have cf2 := (X5.out.hp.cell 11 rfl 1).trans (show _ = some (.string fn.2) from rfl)
            · exact ⟨ca, cf1, cf2⟩
            iterate 2 (refine seq_v rfl rfl rfl (by rintro w' ⟨h1, h2, h3⟩; go_simp) ?_; go_simp)
            refine seq_call (f := 25) (args := #[fV fn]) rfl (fun _ => trivial) rfl rfl rfl rfl (by rw [fV]; go_simp) ?_
            show CallsIn Fence.wide _ _ _ _ _ _
            refine (callsIn_wide.2 (size_any fn _ (by omega))).mono ?_
            rintro e W6 ⟨rfl, hb6⟩
            have X6 := Lib.hid (X5.out.below hb6)
            clear ca cf1 cf2 X5 hb6
            have ca := (X6.out.hp.cell 3 rfl 0).trans (show _ = some (.int .i64 (s.all : Int)) from rfl)
            have cf1 := (X6.out.hp.cell 11 rfl 0).trans (show _ = some (.string fn.1) from rfl)
            have cf2 := (X6.out.hp.cell 11 rfl 1).trans (show _ = some (.string fn.2) from rfl)
            have za := X6.out.hp.free 3 rfl 0
            refine ⟨_, rfl, fun _ => ⟨ca, cf1, cf2⟩, ?_⟩
            go_simp
            refine seq_dv rfl (fun _ => trivial) rfl rfl rfl (fun h => absurd (by decide) h) (by go_simp) ?_
            go_simp
            refine seq_skip (w' := W6.setCell ⟨w.heap.size + 3, 0, none⟩ (.int .i64 ((s.all : Int) + (fsz fn : Int)))) rfl (fun _ => trivial) rfl rfl rfl (by have hwb := hwa.out; go_simp) (fun h => absurd (by decide) h) ?_
            go_simp
            refine seq_nil ?_
            have X7 := Lib.hid (X6.out.set 3 3 (by omega) rfl 0 (.int .i64 ((s.all : Int) + (fsz fn : Int))))
            clear ca cf1 cf2 za X6
            generalize W6.setCell ⟨w.heap.size + 3, 0, none⟩ (.int .i64 ((s.all : Int) + (fsz fn : Int))) = W7 at X7 ⊢
            have ca := (X7.out.hp.cell 3 rfl 0).trans (show _ = some (.int .i64 ((s.all : Int) + (fsz fn : Int))) from rfl)
            have cl := (X7.out.hp.cell 1 rfl 0).trans (show _ = some (.int .i64 limit) from rfl)
            have co := (X7.out.hp.cell 2 rfl 0).trans (show _ = some vo from rfl)
            have zo := X7.out.hp.free 2 rfl 0
            have cf1 := (X7.out.hp.cell 11 rfl 0).trans (show _ = some (.string fn.1) from rfl)
            have cf2 := (X7.out.hp.cell 11 rfl 1).trans (show _ = some (.string fn.2) from rfl)
            by_cases hlm : ((s.all + fsz fn : Nat) : Int) ≤ limit
            · have hlm' : (s.all : Int) + (fsz fn : Int) ≤ limit := by omega
              obtain ⟨va, vc, rfl, hvc⟩ := own_shape X7.out.out
              have X8 := X7.out.alloc (.cells #[.string fn.1, .string fn.2] 46)
              have hnews := World.news_of_block (cs := #[.string fn.1, .string fn.2]) (t := 46) (fr := (0, 0)) (heap_alloc_new W7 (.cells #[.string fn.1, .string fn.2] 46))
              have hap := Lib.hid (fun ev o x y => ex_append (P := Tryd.prog) field_info 33 (by kernel_rfl) (by decide) (by decide) (w.heap.size + 10) _ _ _ X8.out _ 1 1 [.string fn.1, .string fn.2] rfl hnews (by simp [Value.oneCell']) (by simp only [maxLen]; omega) (by omega) X8.sz ev o x y)
              replace X8 := Lib.hid X8
              replace hnews := Lib.hid hnews
              clear X7
              gi_wp2_with (((with_reducible refine at_appendIn 33 ?_); refine wlIn_ex rfl (fun _ => trivial) (fun c hc => by cases hc) (hap.out _ _ _ _ rfl rfl rfl) ?_; rintro v9 W9 ⟨ho9, hg9, hv9⟩; have X9 := X8.out.grow hg9 ho9 hv9; clear hap ca cl co zo cf1 cf2 X8; obtain ⟨va9, vc9, rfl, hvc9⟩ := own_shape ho9; replace X9 := Lib.hid X9; replace ho9 := Lib.hid ho9; have zo := X9.out.hp.free 2 rfl 0; have co := (X9.out.hp.cell 2 rfl 0).trans (show _ = some (.slice va s.out.length vc) from rfl)))
              have X10 := X9.out.set 2 2 (by omega) rfl 0 (.slice va9 (s.out.length + 1) vc9)
              have X11 := X10.put 9 9 (by omega) rfl (.loop (R .ready none))
              have ebp : bput limit s ik fn = ⟨s.out ++ [fn], s.all + fsz fn, s.sized, s.count + 1, s.T.add fn⟩ := by rw [bput, if_pos hlm, if_pos hk1]
              exact ⟨X10.hp.get 9 rfl, .inl ⟨rfl, _, _, bput limit s ik fn, k2, by rw [ebp]; exact Bx.toD (s := ⟨s.out ++ [fn], s.all + fsz fn, s.sized, s.count + 1, s.T.add fn⟩) (by simp only [List.length_append, List.length_cons, List.length_nil, fcells_append]; exact X11) rfl (by simp only [List.length_append, List.length_cons, List.length_nil]; omega) (by show s.all + fsz fn ≤ 131104 * (s.count + 1); omega) hsz, hk2, by rw [← e1]; exact hg2.out, by rw [ebp]; show s.count + 1 + r.length ≤ l.length + 1; omega, hby.out, hrc, hcc⟩⟩
            · have hlm' : ¬ (s.all : Int) + (fsz fn : Int) ≤ limit := by omega
              have hlmh := Lib.hid hlm
              gi_wp2_with fail
              have X11 := X7.out.put 9 9 (by omega) rfl (.loop (R .ready none))
              have ebp : bput limit s ik fn = ⟨s.out, s.all + fsz fn, s.sized, s.count + 1, s.T.add fn⟩ := by rw [bput, if_neg (Int.not_le.2 hlmh.out), if_pos hk1]
              exact ⟨X7.out.hp.get 9 rfl, .inl ⟨rfl, _, _, bput limit s ik fn, k2, by rw [ebp]; exact Bx.toD (s := ⟨s.out, s.all + fsz fn, s.sized, s.count + 1, s.T.add fn⟩) X11 rfl (by show s.out.length ≤ s.count + 1; omega) (by show s.all + fsz fn ≤ 131104 * (s.count + 1); omega) hsz, hk2, by rw [← e1]; exact hg2.out, by rw [ebp]; show s.count + 1 + r.length ≤ l.length + 1; omega, hby.out, hrc, hcc⟩⟩
          · have hk11 : ((ik : Int) == 1) = false := by simp only [beq_eq_false_iff_ne]; omega
            have X4 := Lib.hid (X3.out.set 5 5 (by omega) rfl 0 (.int .i64 ((s.count : Int) + 1)))
            gi_wp2_with fail
            clear ce ck cc zc zl yl X3
            generalize hF : W3.heap.size = F at X4 hBf ⊢
            generalize (W3.alloc (.cells #[.string fn.1, .string fn.2] 46)).setCell ⟨w.heap.size + 5, 0, none⟩ (.int .i64 ((s.count : Int) + 1)) = W4 at X4 ⊢
            clear hF hb3 hB3 W3
            refine region_plan (fun w' => w'.cell? ⟨w.heap.size + 3, 0, none⟩ = some (.int .i64 (s.all : Int)) ∧ w'.cell? ⟨F, 0, none⟩ = some (.string fn.1) ∧ w'.cell? ⟨F, 1, none⟩ = some (.string fn.2)) [3, 4] [2, 3, 4] [0, 1, 2, 3, 4] (by kernel_rfl) (fun _ => trivial) (by kernel_rfl) (by kernel_rfl) (by kernel_rfl) (by decide) ?_ ?_
            all_goals
              have X5 := Lib.hid X4.out.drew
              clear X4
              generalize W4.drew = W5 at X5 ⊢
              clear W4
              have ca := (X5.out.hp.cell 3 rfl 0).trans (show _ = some (.int .i64 (s.all : Int)) from rfl)
              have cf1 := (X5.out.hp.cell 11 rfl 0).trans (show _ = some (.string fn.1) from rfl)
              have cf2 := (X5.out.hp.cell 11 rfl 1).trans (show _ = some (.string fn.2) from rfl)
            · exact ⟨ca, cf1, cf2⟩
            iterate 2 (refine seq_v rfl rfl rfl (by rintro w' ⟨h1, h2, h3⟩; go_simp) ?_; go_simp)
            refine seq_call (f := 25) (args := #[fV fn]) rfl (fun _ => trivial) rfl rfl rfl rfl (by rw [fV]; go_simp) ?_
            show CallsIn Fence.wide _ _ _ _ _ _
            refine (callsIn_wide.2 (size_any fn _ (by omega))).mono ?_
            rintro e W6 ⟨rfl, hb6⟩
            have X6 := Lib.hid (X5.out.below hb6)
            clear ca cf1 cf2 X5 hb6
            have ca := (X6.out.hp.cell 3 rfl 0).trans (show _ = some (.int .i64 (s.all : Int)) from rfl)
            have cf1 := (X6.out.hp.cell 11 rfl 0).trans (show _ = some (.string fn.1) from rfl)
            have cf2 := (X6.out.hp.cell 11 rfl 1).trans (show _ = some (.string fn.2) from rfl)
            have za := X6.out.hp.free 3 rfl 0
            refine ⟨_, rfl, fun _ => ⟨ca, cf1, cf2⟩, ?_⟩
            go_simp
            refine seq_dv rfl (fun _ => trivial) rfl rfl rfl (fun h => absurd (by decide) h) (by go_simp) ?_
            go_simp
            refine seq_skip (w' := W6.setCell ⟨w.heap.size + 3, 0, none⟩ (.int .i64 ((s.all : Int) + (fsz fn : Int)))) rfl (fun _ => trivial) rfl rfl rfl (by have hwb := hwa.out; go_simp) (fun h => absurd (by decide) h) ?_
            go_simp
            refine seq_nil ?_
            have X7 := Lib.hid (X6.out.set 3 3 (by omega) rfl 0 (.int .i64 ((s.all : Int) + (fsz fn : Int))))
            clear ca cf1 cf2 za X6
            generalize W6.setCell ⟨w.heap.size + 3, 0, none⟩ (.int .i64 ((s.all : Int) + (fsz fn : Int))) = W7 at X7 ⊢
            have ca := (X7.out.hp.cell 3 rfl 0).trans (show _ = some (.int .i64 ((s.all : Int) + (fsz fn : Int))) from rfl)
            have cl := (X7.out.hp.cell 1 rfl 0).trans (show _ = some (.int .i64 limit) from rfl)
            have co := (X7.out.hp.cell 2 rfl 0).trans (show _ = some vo from rfl)
            have zo := X7.out.hp.free 2 rfl 0
            have cf1 := (X7.out.hp.cell 11 rfl 0).trans (show _ = some (.string fn.1) from rfl)
            have cf2 := (X7.out.hp.cell 11 rfl 1).trans (show _ = some (.string fn.2) from rfl)
            by_cases hlm : ((s.all + fsz fn : Nat) : Int) ≤ limit
            · have hlm' : (s.all : Int) + (fsz fn : Int) ≤ limit := by omega
              obtain ⟨va, vc, rfl, hvc⟩ := own_shape X7.out.out
              have X8 := X7.out.alloc (.cells #[.string fn.1, .string fn.2] 46)
              have hnews := World.news_of_block (cs := #[.string fn.1, .string fn.2]) (t := 46) (fr := (0, 0)) (heap_alloc_new W7 (.cells #[.string fn.1, .string fn.2] 46))
              have hap := Lib.hid (fun ev o x y => ex_append (P := Tryd.prog) field_info 33 (by kernel_rfl) (by decide) (by decide) (w.heap.size + 10) _ _ _ X8.out _ 1 1 [.string fn.1, .string fn.2] rfl hnews (by simp [Value.oneCell']) (by simp only [maxLen]; omega) (by omega) X8.sz ev o x y)
              replace X8 := Lib.hid X8
              replace hnews := Lib.hid hnews
              clear X7
              gi_wp2_with (((with_reducible refine at_appendIn 33 ?_); refine wlIn_ex rfl (fun _ => trivial) (fun c hc => by cases hc) (hap.out _ _ _ _ rfl rfl rfl) ?_; rintro v9 W9 ⟨ho9, hg9, hv9⟩; have X9 := X8.out.grow hg9 ho9 hv9; clear hap ca cl co zo cf1 cf2 X8; obtain ⟨va9, vc9, rfl, hvc9⟩ := own_shape ho9; replace X9 := Lib.hid X9; replace ho9 := Lib.hid ho9; have zo := X9.out.hp.free 2 rfl 0; have co := (X9.out.hp.cell 2 rfl 0).trans (show _ = some (.slice va s.out.length vc) from rfl)))
              have X10 := X9.out.set 2 2 (by omega) rfl 0 (.slice va9 (s.out.length + 1) vc9)
              have X11 := X10.put 9 9 (by omega) rfl (.loop (R .ready none))
              have ebp : bput limit s ik fn = ⟨s.out ++ [fn], s.all + fsz fn, s.sized, s.count + 1, s.T⟩ := by rw [bput, if_pos hlm, if_neg hk1]
              exact ⟨X10.hp.get 9 rfl, .inl ⟨rfl, _, _, bput limit s ik fn, k2, by rw [ebp]; exact Bx.toD (s := ⟨s.out ++ [fn], s.all + fsz fn, s.sized, s.count + 1, s.T⟩) (by simp only [List.length_append, List.length_cons, List.length_nil, fcells_append]; exact X11) rfl (by simp only [List.length_append, List.length_cons, List.length_nil]; omega) (by show s.all + fsz fn ≤ 131104 * (s.count + 1); omega) hsz, hk2, by rw [← e1]; exact hg2.out, by rw [ebp]; show s.count + 1 + r.length ≤ l.length + 1; omega, hby.out, hrc, hcc⟩⟩
            · have hlm' : ¬ (s.all : Int) + (fsz fn : Int) ≤ limit := by omega
              have hlmh := Lib.hid hlm
              gi_wp2_with fail
              have X11 := X7.out.put 9 9 (by omega) rfl (.loop (R .ready none))
              have ebp : bput limit s ik fn = ⟨s.out, s.all + fsz fn, s.sized, s.count + 1, s.T⟩ := by rw [bput, if_neg (Int.not_le.2 hlmh.out), if_neg hk1]
              exact ⟨X7.out.hp.get 9 rfl, .inl ⟨rfl, _, _, bput limit s ik fn, k2, by rw [ebp]; exact Bx.toD (s := ⟨s.out, s.all + fsz fn, s.sized, s.count + 1, s.T⟩) X11 rfl (by show s.out.length ≤ s.count + 1; omega) (by show s.all + fsz fn ≤ 131104 * (s.count + 1); omega) hsz, hk2, by rw [← e1]; exact hg2.out, by rw [ebp]; show s.count + 1 + r.length ≤ l.length + 1; omega, hby.out, hrc, hcc⟩⟩
        · have hf01 : ((fe : Int) != 0) = true := by simp [hf0]
          have he2 : ((ie : Int) != 0) = false := by simp [he]
          have hfin := Lib.hid (hbgbad.out (fun h => hk4 h.2) (.inr hf0))
          have cm := (X2.out.hp.cell 10 rfl 2).trans (show _ = some (.string nm) from rfl)
          have cv := (X2.out.hp.cell 10 rfl 3).trans (show _ = some (.string vl) from rfl)
          gi_wp2_with fail
          have hfd := field_any d t v s.T ⟨ik, inn, inm, ivl⟩ W2 X2.out.dec hnn
          rw [itemV] at hfd
          simp only at hfd
          rw [show strV inm = .string nm from by rw [hnm.out]; rfl, show strV ivl = .string vl from by rw [hvl2.out]; rfl] at hfd
          refine ⟨trivial, ?_⟩
          show CallsIn Fence.wide _ _ _ _ _ _
          refine (callsIn_wide.2 hfd).mono ?_
          rintro e W3 ⟨rfl, hb3⟩
          clear hfd
          have hBf := Nat.le_trans X2.out.sz hb3.size
          have X3 := (X2.out.below hb3).alloc (.cells #[.string fn.1, .string fn.2] 46)
          rw [← hfe.out, fV]
          simp only
          clear c3 cs cc zs zc zl ck cn ce yl cm cv X2
          have hB3 := X3.hp.lt_at 10 rfl
          replace X3 := Lib.hid X3
          have ce := (X3.out.hp.cell 10 rfl 4).trans (show _ = some (.int .i64 (ie : Int)) from rfl)
          have ck := (X3.out.hp.cell 10 rfl 0).trans (show _ = some (.int .i64 (ik : Int)) from rfl)
          have cc := (X3.out.hp.cell 5 rfl 0).trans (show _ = some (.int .i64 (s.count : Int)) from rfl)
          have zc := X3.out.hp.free 5 rfl 0
          have zl := X3.out.hp.free 6 rfl 0
          have yl := (X3.out.hp.cell 6 rfl 0).trans (show _ = some (.int .i64 0) from rfl)
          gi_wp2_with fail
          have X4 := X3.out.set 6 6 (by omega) rfl 0 (.int .i64 3)
          have X5 := X4.put 9 9 (by omega) rfl (.loop (R .done (some (.exit 0))))
          exact ⟨X4.hp.get 9 rfl, .inr ⟨rfl, _, _, X5.hp.get 6 rfl, X5.hp.get 8 rfl, X5.hp.get 9 rfl, X5.dec, X5.mod, X5.vn, hfin.out⟩⟩
    · have he1 : ((ie : Int) == 0) = false := by simp [he]
      have he2 : ((ie : Int) != 0) = true := by simp [he]
      have hx := hbad.out he
      have hnn : inn ≤ 16777215 := by injection hx with h1 h2; omega
      have hfin := Lib.hid (hbgbad.out (fun h => he h.1) (.inl he))
      replace hx := Lib.hid hx
      have cm := (X2.out.hp.cell 10 rfl 2).trans (show _ = some (.string nm) from rfl)
      have cv := (X2.out.hp.cell 10 rfl 3).trans (show _ = some (.string vl) from rfl)
      gi_wp2_with fail
      have hfd := field_any d t v s.T ⟨ik, inn, inm, ivl⟩ W2 X2.out.dec hnn
      rw [itemV] at hfd
      simp only at hfd
      rw [show strV inm = .string nm from by rw [hnm.out]; rfl, show strV ivl = .string vl from by rw [hvl2.out]; rfl] at hfd
      refine ⟨trivial, ?_⟩
      show CallsIn Fence.wide _ _ _ _ _ _
      refine (callsIn_wide.2 hfd).mono ?_
      rintro e W3 ⟨rfl, hb3⟩
      clear hfd
      have hBf := Nat.le_trans X2.out.sz hb3.size
      have X3 := (X2.out.below hb3).alloc (.cells #[.string fn.1, .string fn.2] 46)
      rw [← hfe.out, fV]
      simp only
      clear c3 cs cc zs zc zl ck cn ce yl cm cv X2
      have hB3 := X3.hp.lt_at 10 rfl
      replace X3 := Lib.hid X3
      have ce := (X3.out.hp.cell 10 rfl 4).trans (show _ = some (.int .i64 (ie : Int)) from rfl)
      have ck := (X3.out.hp.cell 10 rfl 0).trans (show _ = some (.int .i64 (ik : Int)) from rfl)
      have cc := (X3.out.hp.cell 5 rfl 0).trans (show _ = some (.int .i64 (s.count : Int)) from rfl)
      have zc := X3.out.hp.free 5 rfl 0
      have zl := X3.out.hp.free 6 rfl 0
      have yl := (X3.out.hp.cell 6 rfl 0).trans (show _ = some (.int .i64 0) from rfl)
      gi_wp2_with fail
      have X4 := X3.out.set 6 6 (by omega) rfl 0 (.int .i64 3)
      have X5 := X4.put 9 9 (by omega) rfl (.loop (R .done (some (.exit 0))))
      exact ⟨X4.hp.get 9 rfl, .inr ⟨rfl, _, _, X5.hp.get 6 rfl, X5.hp.get 8 rfl, X5.hp.get 9 rfl, X5.dec, X5.mod, X5.vn, hfin.out⟩⟩
  · rintro r A1 c1 W ⟨v, vo, s, k, D, hk, hg, hcl, hby, hrc, hcc⟩ he hne
    have hok := idec_ok r hne he
    have hp := hok.pos
    have hle := hok.le
    refine ⟨D.hp.get 7 rfl, v, vo, s, k, ?_, by rw [List.length_drop]; omega, hg, by rw [List.length_drop]; omega, hby.from_ _ c1 hle hrc, by rw [List.length_drop]; omega, by omega⟩
    rw [List.length_drop]
    exact (D.bx.set 7 7 (by omega) rfl 0 (.slice (adrFrom A1 c1 (idec r).2.1 1) (r.length - (idec r).2.1) (c1 - (idec r).2.1))).toD rfl D.sl D.al D.sz
  · have H := (((((((((((Hp.nil w).alloc (.cells #[.pointer (some ⟨d, 0, none⟩)] 24)).alloc (.cells #[.int .i64 limit] 3)).alloc (.cells #[.slice none 0 0] 33)).alloc (.cells #[.int .i64 0] 3)).alloc (.cells #[.int .i64 0] 3)).alloc (.cells #[.int .i64 0] 3)).alloc (.cells #[.int .i64 0] 25)).alloc (.cells #[.slice A l.length c] 30)).alloc (.deferred (some []))).alloc (.loop (R .ready none)))
    simp only [World.size_alloc, Nat.add_assoc, Nat.reduceAdd, List.cons_append, List.nil_append] at H
    have hbl : Below w.heap.size w _ := bl_alloc (bl_alloc (bl_alloc (bl_alloc (bl_alloc (bl_alloc (bl_alloc (bl_alloc (bl_alloc (bl_alloc (Below.refl w.heap.size w) (.cells #[.pointer (some ⟨d, 0, none⟩)] 24)) (.cells #[.int .i64 limit] 3)) (.cells #[.slice none 0 0] 33)) (.cells #[.int .i64 0] 3)) (.cells #[.int .i64 0] 3)) (.cells #[.int .i64 0] 3)) (.cells #[.int .i64 0] 25)) (.cells #[.slice A l.length c] 30)) (.deferred (some []))) (.loop (R .ready none))
    exact ⟨v0, .slice none 0 0, ⟨[], 0, 0, 0, T0⟩, l.length, ⟨H, h.below hbl, World.ownsRow_nil _ _ _ _, Mod.of_below hbl, by simp [Value.ownBlock], fun g hg => .inl hg, hdl, htl, Nat.le_refl _, Nat.zero_le _, Nat.zero_le _, hvl.out⟩, Nat.le_refl _, hR0.out.symm, by simp, hb.out, hc, hcm⟩
  · rintro e W ⟨⟨u, rfl⟩, ⟨A1, c1, v, vo, s, k, D, hk, hg, hcl, hby, hrc, hcc⟩ | ⟨v, T, g6, g8, g9, hD, hM, hv, hfin⟩⟩
    · refine ⟨⟨u, rfl⟩, .ready, none, D.hp.get 9 rfl, by simp, ?_⟩
      have hend := bgo_end hg
      have X := D.bx.put 9 9 (by omega) rfl (.loop (R .exhausted none))
      replace hend := Lib.hid hend
      replace hg := Lib.hid hg
      generalize W.putObj (w.heap.size + 9) (.loop (R .exhausted none)) = W2 at X ⊢
      have sal := D.al
      clear D
      have ca := (X.hp.cell 3 rfl 0).trans (show _ = some (.int .i64 (s.all : Int)) from rfl)
      have cl := (X.hp.cell 1 rfl 0).trans (show _ = some (.int .i64 limit) from rfl)
      have co := (X.hp.cell 2 rfl 0).trans (show _ = some vo from rfl)
      have ce := (X.hp.cell 6 rfl 0).trans (show _ = some (.int .i64 0) from rfl)
      replace X := Lib.hid X
      replace hR := Lib.hid hR
      by_cases hlm : limit < (s.all : Int)
      · have hfin : R0 = (([], true, 0), s.T) := by rw [hend.out, bfin, if_pos hlm]
        replace hfin := Lib.hid hfin
        gi_wp2_with fail
        rw [Exit.noGoto_ret]
        have X2 := X.out.put 8 8 (by omega) rfl (.deferred none)
        refine leave_one (v := .tuple #[.slice none 0 0, .bool true, .int .i64 0]) rfl (X.out.hp.get 8 rfl) (by simp [results, Tryd.results10, go_sem]) ?_
        rw [hfin.out]
        exact ⟨v, _, rfl, World.ownsRow_nil _ _ _ _, X2.dec, X2.mod, fun g hg => (X2.vn g hg).imp id (fun h => by omega), fun g _ e => by cases e⟩
      · have hfin : R0 = ((s.out, false, 0), s.T) := by rw [hend.out, bfin, if_neg hlm]
        replace hfin := Lib.hid hfin
        obtain ⟨va, vc, rfl, hvc⟩ := own_shape X.out.out
        gi_wp2_with fail
        rw [Exit.noGoto_ret]
        have X2 := X.out.put 8 8 (by omega) rfl (.deferred none)
        refine leave_one (v := .tuple #[.slice va s.out.length vc, .bool false, .int .i64 0]) rfl (X.out.hp.get 8 rfl) (by simp [results, Tryd.results10, go_sem]) ?_
        rw [hfin.out]
        exact ⟨v, _, rfl, own_mono X2.out (by omega), X2.dec, X2.mod, fun g hg => (X2.vn g hg).imp id (fun h => by omega), X2.vx⟩
    · refine ⟨⟨u, rfl⟩, .done, some (.exit 0), g9, by simp, ?_⟩
      have g6' := (World.putObj_heap_other (w := W) (r := w.heap.size + 9) (k := w.heap.size + 6) (o := .loop (R .exhausted (some (.exit 0)))) (by omega)).trans g6
      have g8' := (World.putObj_heap_other (w := W) (r := w.heap.size + 9) (k := w.heap.size + 8) (o := .loop (R .exhausted (some (.exit 0)))) (by omega)).trans g8
      have M2 : Mod (decS d t v0) w (W.putObj (w.heap.size + 9) (.loop (R .exhausted (some (.exit 0))))) := hM.grown (gr_putObj (gr_refl W (some (w.heap.size + 9))) (.inr rfl) _) (fun i hi e => by cases e; omega)
      have hne9 : ∀ k, decS d t v k → k ≠ w.heap.size + 9 ∧ k ≠ w.heap.size + 8 := by
        rintro k (rfl | rfl | hk)
        · omega
        · omega
        · rcases hv k hk with h1 | h1
          · have := hvl.out k h1; omega
          · omega
      have D2 : Dec (W.putObj (w.heap.size + 9) (.loop (R .exhausted (some (.exit 0))))) d t v T := hD.keep fun k hk hs => World.putObj_heap_other (hne9 k hs).1
      show Code.wpIn _ _ _ _ _ _ (W.putObj (w.heap.size + 9) (.loop (R .exhausted (some (.exit 0)))))
      generalize W.putObj (w.heap.size + 9) (.loop (R .exhausted (some (.exit 0)))) = W2 at g6' g8' M2 D2 ⊢
      have ce := (cell1 g6').1
      replace D2 := Lib.hid D2
      replace M2 := Lib.hid M2
      replace g8' := Lib.hid g8'
      replace hfin := Lib.hid hfin
      replace hR := Lib.hid hR
      gi_wp2_with fail
      refine region_plan (fun w' => w'.cell? ⟨w.heap.size + 6, 0, none⟩ = some (.int .i64 3)) [] [] [0, 1, 2, 3] (by kernel_rfl) (fun _ => trivial) (by kernel_rfl) (by kernel_rfl) (by kernel_rfl) (by decide) ?_ ?_
      all_goals
        have D3 : Dec W2.drew d t v T := D2.out.below (bl_drew (Below.refl _ _))
        have M3 : Mod (decS d t v0) w W2.drew := M2.out.below (bl_drew (Below.refl _ _))
        have g8 : W2.drew.heap[w.heap.size + 8]? = some (.deferred (some [])) := g8'.out
        have ce : W2.drew.cell? ⟨w.heap.size + 6, 0, none⟩ = some (.int .i64 3) := ce
        generalize W2.drew = W3 at D3 M3 g8 ce ⊢
      · exact ce
      replace D3 := Lib.hid D3
      replace M3 := Lib.hid M3
      replace g8 := Lib.hid g8
      iterate 4 (refine seq_v rfl rfl rfl (by rintro w' h1; go_simp) ?_; go_simp)
      refine seq_nil ?_
      gi_wp2_with fail
      rw [Exit.noGoto_ret]
      refine leave_one (v := .tuple #[.slice none 0 0, .bool false, .int .i64 3]) rfl g8.out (by simp [results, Tryd.results10, go_sem]) ?_
      rw [hfin.out]
      exact ⟨v, _, rfl, World.ownsRow_nil _ _ _ _, D3.out.keep (fun k hk hs => World.putObj_heap_other (hne9 k hs).2), M3.out.grown (gr_putObj (gr_refl W3 (some (w.heap.size + 8))) (.inr rfl) _) (fun i hi e => by cases e; omega), fun g hg => (hv g hg).imp id (fun h => by omega), fun g _ e => by cases e⟩
end Go.Proofs.YtfkpeahelhpelaaDoor
