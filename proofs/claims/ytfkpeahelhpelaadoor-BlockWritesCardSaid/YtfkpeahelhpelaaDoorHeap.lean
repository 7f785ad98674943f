/- Known blocks, as a list: each stands where it is said to, and no two at one place. -/
import Derived.Test.YtfkpeahelhpelaaDoorBase
namespace Go.Proofs.YtfkpeahelhpelaaDoor
set_option linter.all false
open Go.RowKit

structure Hp (W : World) (L : List (Nat × Obj)) : Prop where
  nd : (L.map (·.1)).Nodup
  at_ : ∀ p ∈ L, W.heap[p.1]? = some p.2
section
variable {W W' : World} {L : List (Nat × Obj)} {g : Nat} {o : Obj}
theorem Hp.nil (W : World) : Hp W [] := ⟨by simp, by simp⟩
theorem Hp.get (h : Hp W L) (i : Nat) (hi : L[i]? = some (g, o)) : W.heap[g]? = some o := h.at_ (g, o) (List.mem_of_getElem? hi)
theorem Hp.lt (h : Hp W L) {p : Nat × Obj} (hp : p ∈ L) : p.1 < W.heap.size := blk_lt (h.at_ p hp)
theorem Hp.lt_at (h : Hp W L) (i : Nat) (hi : L[i]? = some (g, o)) : g < W.heap.size := blk_lt (h.get i hi)
theorem Hp.keep (h : Hp W L) (hk : ∀ p ∈ L, W'.heap[p.1]? = W.heap[p.1]?) : Hp W' L := ⟨h.nd, fun p hp => (hk p hp).trans (h.at_ p hp)⟩
theorem Hp.below (h : Hp W L) (hb : Below W.heap.size W W') : Hp W' L := h.keep fun _ hp => hb.block _ (h.lt hp)
theorem Hp.grown (h : Hp W L) {row : Option Nat} (hg : W.grownBy W' row) (hr : ∀ p ∈ L, some p.1 ≠ row) : Hp W' L := h.keep fun p hp => hg.block _ (h.lt hp) (hr p hp)
theorem Hp.drew (h : Hp W L) : Hp W.drew L := ⟨h.nd, h.at_⟩
theorem Hp.drewN (h : Hp W L) (n : Nat) : Hp (W.drewN n) L := ⟨h.nd, h.at_⟩
theorem Hp.alloc (h : Hp W L) (o : Obj) : Hp (W.alloc o) (L ++ [(W.heap.size, o)]) := by
  refine ⟨?_, fun p hp => ?_⟩
  · rw [List.map_append, List.nodup_append]
    refine ⟨h.nd, by simp, fun a ha b hb => ?_⟩
    simp only [List.map_cons, List.map_nil, List.mem_singleton] at hb
    subst hb
    obtain ⟨p, hp, rfl⟩ := List.mem_map.1 ha
    have := h.lt hp
    omega
  · rcases List.mem_append.1 hp with hp | hp
    · exact blk_alloc (h.at_ p hp) o
    · obtain rfl := List.mem_singleton.1 hp
      exact heap_alloc_new W o
/-- One more that is known, apart from all. -/
theorem Hp.add (h : Hp W L) (hg : W.heap[g]? = some o) (hn : ∀ p ∈ L, p.1 ≠ g) : Hp W (L ++ [(g, o)]) := by
  refine ⟨?_, fun p hp => ?_⟩
  · rw [List.map_append, List.nodup_append]
    refine ⟨h.nd, by simp, fun a ha b hb => ?_⟩
    simp only [List.map_cons, List.map_nil, List.mem_singleton] at hb
    subst hb
    obtain ⟨p, hp, rfl⟩ := List.mem_map.1 ha
    exact hn p hp
  · rcases List.mem_append.1 hp with hp | hp
    · exact h.at_ p hp
    · obtain rfl := List.mem_singleton.1 hp
      exact hg
theorem Hp.ne (h : Hp W L) {i j : Nat} {g' : Nat} {o' : Obj} (hi : L[i]? = some (g, o)) (hj : L[j]? = some (g', o')) (hij : i ≠ j) : g ≠ g' := by
  intro e
  subst e
  have h1 : (L.map (·.1))[i]? = some g := by rw [List.getElem?_map, hi]; rfl
  have h2 : (L.map (·.1))[j]? = some g := by rw [List.getElem?_map, hj]; rfl
  have hlt : i < (L.map (·.1)).length := (List.getElem?_eq_some_iff.1 h1).1
  exact hij ((List.getElem?_inj hlt h.nd).1 (h1.trans h2.symm))
/-- The block at place i becomes another. -/
theorem Hp.turn (h : Hp W L) (i : Nat) (hi : L[i]? = some (g, o)) (o' : Obj) (hk : ∀ k, k ≠ g → W'.heap[k]? = W.heap[k]?) (hg : W'.heap[g]? = some o') : Hp W' (L.set i (g, o')) := by
  have hm : (L.set i (g, o')).map (·.1) = L.map (·.1) := by
    rw [List.map_set]
    apply List.ext_getElem?
    intro j
    by_cases e : i = j
    · subst e
      have : i < (L.map (·.1)).length := by have := (List.getElem?_eq_some_iff.1 hi).1; simpa using this
      rw [List.getElem?_set_self this, List.getElem?_map, hi]
      rfl
    · rw [List.getElem?_set_ne e]
  refine ⟨by rw [hm]; exact h.nd, fun p hp => ?_⟩
  obtain ⟨j, hj⟩ := List.mem_iff_getElem?.1 hp
  by_cases e : i = j
  · subst e
    have hlt := (List.getElem?_eq_some_iff.1 hi).1
    rw [List.getElem?_set_self hlt] at hj
    cases hj
    exact hg
  · rw [List.getElem?_set_ne e] at hj
    obtain ⟨pg, po⟩ := p
    exact (hk _ (h.ne hj hi (Ne.symm e))).trans (h.get j hj)
theorem Hp.putObj (h : Hp W L) (i : Nat) (hi : L[i]? = some (g, o)) (o' : Obj) : Hp (W.putObj g o') (L.set i (g, o')) :=
  h.turn i hi o' (fun _ hk => World.putObj_heap_other hk) (World.putObj_heap_same (h.lt_at i hi))
theorem Hp.setCell (h : Hp W L) {c : Array Value} {e : TypeId} {f : Nat × Nat} (i : Nat) (hi : L[i]? = some (g, .cells c e f)) (off : Nat) (v : Value) : Hp (W.setCell ⟨g, off, none⟩ v) (L.set i (g, .cells (c.setIfInBounds off v) e f)) :=
  h.turn i hi _ (fun _ hk => heap_setCell_off hk _) (heap_setCell_mod (h.get i hi) v)
theorem Hp.setRow (h : Hp W L) {c : Array Value} {e : TypeId} {f : Nat × Nat} (i : Nat) (hi : L[i]? = some (g, .cells c e f)) (c' : Array Value) : Hp (W.setRow g c') (L.set i (g, .cells c' e f)) :=
  h.turn i hi _ (fun _ hk => setRow_other _ _ _ _ hk) (setRow_heap _ _ _ _ _ _ (h.get i hi))
theorem Hp.cell (h : Hp W L) {c : Array Value} {e : TypeId} {f : Nat × Nat} (i : Nat) (hi : L[i]? = some (g, .cells c e f)) (off : Nat) : W.cell? ⟨g, off, none⟩ = c[off]? := cell_of_row _ _ _ _ _ _ (h.get i hi)
theorem Hp.free (h : Hp W L) {c : Array Value} {e : TypeId} (i : Nat) (hi : L[i]? = some (g, .cells c e (0, 0))) (off : Nat) : W.frozen? ⟨g, off, none⟩ = false := frozen_of_row _ _ _ _ _ (h.get i hi)
/-- The first so many. -/
theorem Hp.take (h : Hp W L) (n : Nat) : Hp W (L.take n) := ⟨by rw [List.map_take]; exact h.nd.sublist (List.take_sublist _ _), fun p hp => h.at_ p (List.mem_of_mem_take hp)⟩
theorem Hp.drop (h : Hp W L) (n : Nat) : Hp W (L.drop n) := ⟨by rw [List.map_drop]; exact h.nd.sublist (List.drop_sublist _ _), fun p hp => h.at_ p (List.mem_of_mem_drop hp)⟩
end
section
variable {w W W' : World} {row : Option Nat}
theorem off_ne {g k n : Nat} {row : Option Nat} (hg : n ≤ g ∨ row = some g) (hk : k < n) (hr : some k ≠ row) : k ≠ g := by
  rintro rfl
  rcases hg with h1 | h1
  · omega
  · exact hr h1.symm
theorem gr_refl (w : World) (row : Option Nat) : w.grownBy w row := ⟨rfl, rfl, rfl, Nat.le_refl _, fun _ _ _ => rfl⟩
theorem gr_below (h : w.grownBy W row) (hb : Below W.heap.size W W') : w.grownBy W' row :=
  ⟨hb.os.trans h.os, hb.tape.trans h.tape, hb.output.trans h.output, Nat.le_trans h.size hb.size, fun k hk hr => (hb.block k (Nat.lt_of_lt_of_le hk h.size)).trans (h.block k hk hr)⟩
theorem gr_alloc (h : w.grownBy W row) (o : Obj) : w.grownBy (W.alloc o) row := gr_below h (bl_alloc (Below.refl _ _) _)
theorem gr_drew (h : w.grownBy W row) : w.grownBy W.drew row := ⟨h.os, h.tape, h.output, h.size, h.block⟩
theorem gr_drewN (h : w.grownBy W row) (n : Nat) : w.grownBy (W.drewN n) row := ⟨h.os, h.tape, h.output, h.size, h.block⟩
theorem gr_putObj (h : w.grownBy W row) {g : Nat} (hg : w.heap.size ≤ g ∨ row = some g) (o : Obj) : w.grownBy (W.putObj g o) row :=
  ⟨h.os, h.tape, h.output, by have := h.size; simpa using this, fun k hk hr => (World.putObj_heap_other (off_ne hg hk hr)).trans (h.block k hk hr)⟩
theorem gr_setCell (h : w.grownBy W row) {g off : Nat} (hg : w.heap.size ≤ g ∨ row = some g) (v : Value) : w.grownBy (W.setCell ⟨g, off, none⟩ v) row :=
  ⟨h.os, h.tape, h.output, by have := h.size; simpa using this, fun k hk hr => (heap_setCell_off (p := ⟨g, off, none⟩) (off_ne hg hk hr) _).trans (h.block k hk hr)⟩
theorem gr_setRow (h : w.grownBy W row) {g : Nat} (hg : w.heap.size ≤ g ∨ row = some g) (cs : Array Value) : w.grownBy (W.setRow g cs) row :=
  ⟨h.os, h.tape, h.output, by have := h.size; simpa using this, fun k hk hr => (setRow_other _ _ _ _ (off_ne hg hk hr)).trans (h.block k hk hr)⟩
end
end Go.Proofs.YtfkpeahelhpelaaDoor
