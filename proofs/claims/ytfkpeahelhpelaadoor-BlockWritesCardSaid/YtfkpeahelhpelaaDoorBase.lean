/- Lemmas about the model that every walk of this seat uses: plain operations run at once, blocks known whole, arrays. Nothing here speaks of the program. -/
import Derived.Test.YtfkpeahelhpelaaDoorProg
import Derived.WalkKit
import Derived.KernelRfl
import Derived.Lib.Hide
import Derived.Laws.Rows
import Derived.BigQuiet
import Derived.Deep.QuietTactic
import Derived.StillTailTactics
import Derived.WalkMore
import Derived.Deep.LoopGhost
import Derived.RangeFuncRecord
import Derived.Deep.WholeRow
import Derived.Maps.AppendAt
namespace Go.Proofs.YtfkpeahelhpelaaDoor
set_option linter.all false
open Go.RowKit

/-- Runs the first n operations, while each is plain. -/
def fastOps (P : Program) : Nat → List Oper → Act → World → Option (List Oper × Act × World)
  | 0, l, a, w => some (l, a, w)
  | _ + 1, [], _, _ => none
  | n + 1, o :: rest, a, w =>
    match o.guard with
    | some _ => none
    | none =>
      match (execOp a.eval o).run P w with
      | .ok (.value v) w' => fastOps P n rest (a.put o.dst v) w'
      | .ok .skip w' => fastOps P n rest (a.put o.dst undef) w'
      | _ => none

theorem fastOps_sound {P : Program} {ops : Array Oper} {Q : Exit → Act → World → Prop} : ∀ (n : Nat) {l l' : List Oper} {a a' : Act} {w w' : World},
    fastOps P n l a w = some (l', a', w') → wpList P ops Q l' a' w' → wpList P ops Q l a w := by
  intro n
  induction n with
  | zero => intro l l' a a' w w' h hq; simp only [fastOps, Option.some.injEq, Prod.mk.injEq] at h; obtain ⟨rfl, rfl, rfl⟩ := h; exact hq
  | succ n ih =>
    intro l l' a a' w w' h hq
    cases l with
    | nil => simp [fastOps] at h
    | cons o rest =>
      simp only [fastOps] at h
      split at h
      · cases h
      · rename_i hg
        refine wpList_plain hg fun K hK => ?_
        split at h
        · rename_i v w1 hr
          simp only [Oper.wp, hr, Oper.upon]
          exact hK _ _ (ih h hq)
        · rename_i w1 hr
          simp only [Oper.wp, hr, Oper.upon]
          exact hK _ _ (ih h hq)
        · cases h

/-- The frame's slots behind the first n operations. -/
noncomputable def fastTmps (P : Program) (n : Nat) (l : List Oper) (a : Act) (w : World) : Array Value :=
  match fastOps P n l a w with
  | some (_, a', _) => a'.tmps
  | none => #[]

theorem fast_step0 {P : Program} {ops : Array Oper} {Q : Exit → Act → World → Prop} (n : Nat) {l : List Oper} {a : Act} {w : World}
    (h : fastOps P n l a w = some (l.drop n, { tmps := fastTmps P n l a w, defers := a.defers }, w))
    (hq : ∀ T, fastTmps P n l a w = T → wpList P ops Q (l.drop n) { tmps := T, defers := a.defers } w) : wpList P ops Q l a w :=
  fastOps_sound n h (hq _ rfl)

theorem fast_step {P : Program} {ops : Array Oper} {Q : Exit → Act → World → Prop} (n : Nat) {l : List Oper} {a : Act} {w : World} (w' : World)
    (h : fastOps P n l a w = some (l.drop n, { tmps := fastTmps P n l a w, defers := a.defers }, w'))
    (hq : ∀ T, fastTmps P n l a w = T → wpList P ops Q (l.drop n) { tmps := T, defers := a.defers } w') : wpList P ops Q l a w :=
  fastOps_sound n h (hq _ rfl)

/-- A store of a whole value into the block that was made last. -/
theorem wpList_store_new {P : Program} {ops : Array Oper} {rest : List Oper} {o : Oper} {a : Act} {w : World} {Q : Exit → Act → World → Prop} (hgd : o.guard = none) (t : TypeId) (x y : Operand) (ho : o.op = .store t x y)
    (c c' : Array Value) (hx : a.eval x = .pointer (some ⟨w.heap.size, 0, none⟩)) (hy : a.eval y = .agg c') (hi : (P.info? t).map (·.size) = some c'.size) (hs : c.size = c'.size) (h1 : c'.all (·.oneCell') = true)
    (hd : o.dst = none) (h : wpList P ops Q rest a (w.alloc (.cells c' t))) : wpList P ops Q (o :: rest) a (w.alloc (.cells c t)) := by
  refine wpList_plain hgd fun K hK => ?_
  unfold Oper.wp execOp
  simp only [ho, hx, hy, Sem.run_bind, Sem.run_pure, Result.andThen_ok, run_storeAt_new w t c c' hi hs h1]
  simp only [Oper.upon, hd, Act.put]
  exact hK _ _ h

/-- A load of a whole value whose cells are known. -/
theorem run_loadAt_cells {P : Program} (w : World) (g : Nat) (ty : TypeId) (cs : Array Value) (d : TypeDesc) (hc : ∀ j v, cs[j]? = some v → w.cell? ⟨g, j, none⟩ = some v)
    (hu : P.underlying ty = some d) (hd : (match d with | .struct _ | .array _ _ => true | _ => false) = true) (hi : (P.info? ty).map (·.size) = some cs.size) :
    (Instr.loadAt ty (.pointer (some ⟨g, 0, none⟩))).run P w = .ok (.agg cs) w := by
  have hl : (loadCells ⟨g, 0, none⟩ cs.toList.length).run P w = .ok cs.toList.toArray w :=
    run_loadCells_list (P := P) w ⟨g, 0, none⟩ cs.toList (fun j v hv => by
      have hadd : (⟨g, 0, none⟩ : Addr).add j = ⟨g, j, none⟩ := by unfold Addr.add; split <;> simp_all
      rw [hadd]
      exact hc j v (by simpa using hv))
  cases hq : P.info? ty with
  | none => simp [hq] at hi
  | some i =>
    have hs : i.size = cs.size := by simpa [hq] using hi
    have hagg : (isAgg ty).run P w = .ok true w := by
      unfold isAgg
      rw [Sem.run_bind, run_underlying hu w]
      cases d <;> simp_all
    simp only [Array.length_toList, Array.toArray_toList] at hl
    simp [Instr.loadAt, Instr.sureAddr, loadVar, Sem.run_bind, hagg, sizeOf, typeInfo, hq, hs, hl]
theorem wpList_load_cells {P : Program} {ops : Array Oper} {rest : List Oper} {o : Oper} {a : Act} {w : World} {Q : Exit → Act → World → Prop} (hgd : o.guard = none) (ty : TypeId) (x : Operand) (ho : o.op = .load ty x)
    (g : Nat) (hx : a.eval x = .pointer (some ⟨g, 0, none⟩)) (cs : Array Value) (d : TypeDesc) (hc : ∀ j v, cs[j]? = some v → w.cell? ⟨g, j, none⟩ = some v)
    (hu : P.underlying ty = some d) (hd : (match d with | .struct _ | .array _ _ => true | _ => false) = true) (hi : (P.info? ty).map (·.size) = some cs.size)
    (h : wpList P ops Q rest (a.put o.dst (.agg cs)) w) : wpList P ops Q (o :: rest) a w := by
  refine wpList_plain hgd fun K hK => ?_
  unfold Oper.wp execOp
  simp only [ho, hx, Sem.run_bind, Sem.run_pure, Result.andThen_ok, run_loadAt_cells w g ty cs d hc hu hd hi]
  exact hK _ _ h
/-- A store of a whole value into a block that is known whole. -/
theorem wpList_store_row {P : Program} {ops : Array Oper} {rest : List Oper} {o : Oper} {a : Act} {w : World} {Q : Exit → Act → World → Prop} (hgd : o.guard = none) (t : TypeId) (x y : Operand) (ho : o.op = .store t x y)
    (g : Nat) (c c' : Array Value) (hx : a.eval x = .pointer (some ⟨g, 0, none⟩)) (hy : a.eval y = .agg c') (hg : w.heap[g]? = some (.cells c t (0, 0))) {k : Nat} (hi : (P.info? t).map (·.size) = some k) (hs : c.size = k) (hs' : c'.size = k) (h1 : c'.all (·.oneCell') = true)
    (hd : o.dst = none) (h : wpList P ops Q rest a (w.setRow g c')) : wpList P ops Q (o :: rest) a w := by
  refine wpList_plain hgd fun K hK => ?_
  unfold Oper.wp execOp
  simp only [ho, hx, hy, Instr.storeAt, Instr.sureAddr, Sem.run_bind, Sem.run_pure, Result.andThen_ok, run_storeVar_row w g t t c c' hg (hs' ▸ hi) (hs.trans hs'.symm) h1]
  simp only [Oper.upon, hd, Act.put]
  exact hK _ _ h
/-- An element of an array of whole numbers. -/
theorem run_index_plain {P : Program} (t e : TypeId) (len : Nat) (ht : P.underlying t = some (.array len e)) (he : (P.underlying e).map (fun d => match d with | .struct _ | .array _ _ => true | _ => false) = some false) (hs : (P.info? e).map (·.size) = some 1) (cs : Array Value) (k : IntKind) (i : Nat) (hi : i < len) (v : Value) (hv : cs[i]? = some v) (w : World) :
    (Instr.index t (.agg cs) (.int k i)).run P w = .ok v w := by
  cases hq : P.info? e with
  | none => simp [hq] at hs
  | some j =>
    have hj : j.size = 1 := by simpa [hq] using hs
    have hagg : (isAgg e).run P w = .ok false w := by
      unfold isAgg
      cases hd : P.underlying e with
      | none => simp [hd] at he
      | some d =>
        rw [Sem.run_bind, run_underlying hd w]
        cases d <;> simp_all
    have h0 : (0 : Int) ≤ i ∧ (i : Int) < len := by omega
    simp only [Instr.index, asIntOf, Sem.run_bind, Sem.run_pure, Result.andThen_ok, run_underlying ht]
    rw [if_pos h0]
    simp [part, Sem.run_bind, hagg, sizeOf, typeInfo, hq, hj, hv]

/-- An element of an array of structs. -/
theorem run_index_agg {P : Program} (t e : TypeId) (len sz : Nat) (ht : P.underlying t = some (.array len e)) (he : (P.underlying e).map (fun d => match d with | .struct _ | .array _ _ => true | _ => false) = some true) (hs : (P.info? e).map (·.size) = some sz) (cs : Array Value) (k : IntKind) (i : Nat) (hi : i < len) (w : World) :
    (Instr.index t (.agg cs) (.int k i)).run P w = .ok (.agg (cs.extract (i * sz) (i * sz + sz))) w := by
  cases hq : P.info? e with
  | none => simp [hq] at hs
  | some j =>
    have hj : j.size = sz := by simpa [hq] using hs
    have hagg : (isAgg e).run P w = .ok true w := by
      unfold isAgg
      cases hd : P.underlying e with
      | none => simp [hd] at he
      | some d =>
        rw [Sem.run_bind, run_underlying hd w]
        cases d <;> simp_all
    have h0 : (0 : Int) ≤ i ∧ (i : Int) < len := by omega
    simp only [Instr.index, asIntOf, Sem.run_bind, Sem.run_pure, Result.andThen_ok, run_underlying ht]
    rw [if_pos h0]
    simp [part, Sem.run_bind, hagg, sizeOf, typeInfo, hq, hj]

theorem flat_two {α β : Type} (f g : α → β) : ∀ (l : List α) (i : Nat) (x : α), l[i]? = some x → ((l.flatMap fun p => [f p, g p]).toArray.extract (i * 2) (i * 2 + 2)) = #[f x, g x] := by
  intro l
  induction l with
  | nil => intro i x h; simp at h
  | cons y l ih =>
    intro i x h
    cases i with
    | zero => simp at h; subst h; simp
    | succ i =>
      have := ih i x (by simpa using h)
      have e : (i + 1) * 2 = i * 2 + 2 := by omega
      simp only [List.flatMap_cons, e]
      rw [← this]
      apply Array.ext'
      simp [List.extract_eq_take_drop]

/-- All old cells, and old marks, read as before. -/
theorem bcell {W w1 : World} (hb : Below W.heap.size W w1) : (∀ b o, b < W.heap.size → w1.cell? ⟨b, o, none⟩ = W.cell? ⟨b, o, none⟩) ∧ (∀ b o, b < W.heap.size → w1.frozen? ⟨b, o, none⟩ = W.frozen? ⟨b, o, none⟩) :=
  ⟨fun b o h => hb.cell (p := ⟨b, o, none⟩) h, fun b o h => hb.frozen (p := ⟨b, o, none⟩) h⟩
theorem below_then {B : Nat} {w w1 w2 : World} (h : Below B w w1) (hB : B ≤ w1.heap.size) (k : Below w1.heap.size w1 w2) : Below B w w2 := h.trans (k.mono hB)
/-- A block behind a contract; behind a new block; behind draws. -/
theorem blk_below {W w1 : World} {g : Nat} {o : Obj} (h : W.heap[g]? = some o) (hb : Below W.heap.size W w1) : w1.heap[g]? = some o :=
  (hb.block g (Array.getElem?_eq_some_iff.1 h).1).trans h
theorem blk_alloc {W : World} {g : Nat} {o : Obj} (h : W.heap[g]? = some o) (o' : Obj) : (W.alloc o').heap[g]? = some o := blk_below h ((Below.refl _ _).alloc (Nat.le_refl _) _)
theorem blk_lt {W : World} {g : Nat} {o : Obj} (h : W.heap[g]? = some o) : g < W.heap.size := (Array.getElem?_eq_some_iff.1 h).1
theorem cells_two {w : World} {g : Nat} {a b : Value} {t : TypeId} {fr : Nat × Nat} (h : w.heap[g]? = some (.cells #[a, b] t fr)) : w.cell? ⟨g, 0, none⟩ = some a ∧ w.cell? ⟨g, 1, none⟩ = some b :=
  ⟨(cell_of_row w g 0 _ t fr h).trans rfl, (cell_of_row w g 1 _ t fr h).trans rfl⟩
theorem cell1 {w : World} {g : Nat} {a : Value} {t : TypeId} (h : w.heap[g]? = some (.cells #[a] t (0, 0))) : w.cell? ⟨g, 0, none⟩ = some a ∧ w.frozen? ⟨g, 0, none⟩ = false :=
  ⟨(cell_of_row w g 0 _ t _ h).trans rfl, by simp [World.frozen?, h]⟩
theorem heap_setCell_mod {w : World} {g o : Nat} {c : Array Value} {e : TypeId} {f : Nat × Nat} (h : w.heap[g]? = some (.cells c e f)) (v : Value) : (w.setCell ⟨g, o, none⟩ v).heap[g]? = some (.cells (c.setIfInBounds o v) e f) := by
  have hlt : g < w.heap.size := (Array.getElem?_eq_some_iff.1 h).1
  have hv : w.heap[g] = .cells c e f := (Array.getElem?_eq_some_iff.1 h).2
  unfold World.setCell
  rw [Array.getElem?_eq_getElem (by simpa using hlt), Array.getElem_modify]
  simp [hv]
theorem heap_setCell_1 {w : World} {g : Nat} {a : Value} {e : TypeId} {f : Nat × Nat} (h : w.heap[g]? = some (.cells #[a] e f)) (v : Value) : (w.setCell ⟨g, 0, none⟩ v).heap[g]? = some (.cells #[v] e f) :=
  heap_setCell_mod h v
theorem heap_setCell_off {w : World} {p : Addr} {k : Nat} (h : k ≠ p.block) (v : Value) : (w.setCell p v).heap[k]? = w.heap[k]? := by
  simp [World.setCell, Array.getElem?_modify, Ne.symm h]
/-- A row of the call's own in a later world. -/
theorem own_keep {w w' : World} {base : Nat} {e : TypeId} {size n : Nat} {v : Value} {xs : List Value} (h : w.ownsRow base e size v n xs) (hk : ∀ g, base ≤ g → g < w.heap.size → w'.heap[g]? = w.heap[g]?) : w'.ownsRow base e size v n xs :=
  ⟨h.1, h.2.imp id fun ⟨g, cap, cur, h1, h2, h3, h4⟩ => ⟨g, cap, cur, h1, h2, (hk g h2 (blk_lt h3)).trans h3, h4⟩⟩
theorem own_shape {w : World} {base : Nat} {e : TypeId} {size n : Nat} {v : Value} {xs : List Value} (h : w.ownsRow base e size v n xs) : ∃ a c, v = .slice a n c ∧ n ≤ c := by
  rcases h.2 with ⟨rfl, rfl⟩ | ⟨g, cap, cur, rfl, -, -, h3, -⟩
  · exact ⟨none, 0, rfl, Nat.le_refl _⟩
  · exact ⟨_, cap, rfl, h3⟩
theorem own_block {w : World} {base : Nat} {e : TypeId} {size n : Nat} {v : Value} {xs : List Value} (h : w.ownsRow base e size v n xs) {g : Nat} (hg : v.ownBlock = some g) : base ≤ g := by
  rcases h.2 with ⟨rfl, -⟩ | ⟨g', cap, cur, rfl, h2, -⟩
  · cases hg
  · cases hg; exact h2
section
variable {w w' : World} {base : Nat} {e : TypeId} {size n : Nat} {v : Value} {xs : List Value}
theorem own_mono (h : w.ownsRow base e size v n xs) {base' : Nat} (hb : base' ≤ base) : w.ownsRow base' e size v n xs :=
  ⟨h.1, h.2.imp id fun ⟨g, cap, cur, h1, h2, h3⟩ => ⟨g, cap, cur, h1, Nat.le_trans hb h2, h3⟩⟩
theorem own_putObj (h : w.ownsRow base e size v n xs) {L : Nat} (hL : L < base) (o : Obj) : (w.putObj L o).ownsRow base e size v n xs :=
  own_keep (w' := w.putObj L o) h fun _ hg _ => World.putObj_heap_other (by omega)
theorem own_setRow (h : w.ownsRow base e size v n xs) {g : Nat} (hg : g < base) (cs : Array Value) : (w.setRow g cs).ownsRow base e size v n xs :=
  own_keep (w' := w.setRow g cs) h fun _ hk _ => setRow_other _ _ _ _ (by omega)
theorem own_setCell (h : w.ownsRow base e size v n xs) {p : Addr} (hp : p.block < base) (u : Value) : (w.setCell p u).ownsRow base e size v n xs :=
  own_keep (w' := w.setCell p u) h fun _ hk _ => heap_setCell_off (by omega) _
theorem own_alloc (h : w.ownsRow base e size v n xs) (o : Obj) : (w.alloc o).ownsRow base e size v n xs :=
  own_keep (w' := w.alloc o) h fun g _ hg => Below.heap_alloc _ _ g hg
end
section
variable {P : Program} {w w' : World} {ops : Array Oper} {rest : List Oper} {o : Oper} {a : Act} {Q : Exit → Act → World → Prop} {v : Value}
/-- An operation whose run is known. -/
theorem wl_val (hg : o.guard = none) (hr : (execOp a.eval o).run P w = .ok (.value v) w') (h : wpList P ops Q rest (a.put o.dst v) w') : wpList P ops Q (o :: rest) a w := by
  refine wpList_plain hg fun K hK => ?_
  unfold Oper.wp
  rw [hr]
  exact hK _ _ h
theorem wl_skip (hg : o.guard = none) (hr : (execOp a.eval o).run P w = .ok .skip w') (h : wpList P ops Q rest (a.put o.dst undef) w') : wpList P ops Q (o :: rest) a w := by
  refine wpList_plain hg fun K hK => ?_
  unfold Oper.wp
  rw [hr]
  exact hK _ _ h
theorem wl_ex {R : Value → World → Prop} (hg : o.guard = none) (hr : ∃ v w', (execOp a.eval o).run P w = .ok (.value v) w' ∧ R v w') (h : ∀ v w', R v w' → wpList P ops Q rest (a.put o.dst v) w') : wpList P ops Q (o :: rest) a w := by
  obtain ⟨v, w', hr, hR⟩ := hr
  exact wl_val hg hr (h v w' hR)
/-- Guards: the next operation is such a one. -/
theorem at_store (t : TypeId) {d : Option Tmp} {x y : Operand} {ty : TypeId} {ps : String} {af : Array _} {g : Option (Tmp × Bool)} (h : wpList P ops Q ({ dst := d, op := .store t x y, type := ty, pos := ps, after := af, guard := g } :: rest) a w) :
    wpList P ops Q ({ dst := d, op := .store t x y, type := ty, pos := ps, after := af, guard := g } :: rest) a w := h
theorem at_lookupP (t : TypeId) {d : Option Tmp} {x y : Operand} {ok : Bool} {ty : TypeId} {ps : String} {af : Array _} {g : Option (Tmp × Bool)} (h : wpList P ops Q ({ dst := d, op := .lookup t x y ok, type := ty, pos := ps, after := af, guard := g } :: rest) a w) :
    wpList P ops Q ({ dst := d, op := .lookup t x y ok, type := ty, pos := ps, after := af, guard := g } :: rest) a w := h
theorem at_append (t : TypeId) {d : Option Tmp} {x y : Operand} {ty : TypeId} {ps : String} {af : Array _} {g : Option (Tmp × Bool)} (h : wpList P ops Q ({ dst := d, op := .call { callee := .builtin .append, args := #[x, y], argTypes := #[t, t] }, type := ty, pos := ps, after := af, guard := g } :: rest) a w) :
    wpList P ops Q ({ dst := d, op := .call { callee := .builtin .append, args := #[x, y], argTypes := #[t, t] }, type := ty, pos := ps, after := af, guard := g } :: rest) a w := h
theorem at_convert (s t : TypeId) {d : Option Tmp} {x : Operand} {ty : TypeId} {ps : String} {af : Array _} {g : Option (Tmp × Bool)} (h : wpList P ops Q ({ dst := d, op := .convert s t x, type := ty, pos := ps, after := af, guard := g } :: rest) a w) :
    wpList P ops Q ({ dst := d, op := .convert s t x, type := ty, pos := ps, after := af, guard := g } :: rest) a w := h
end
/-- append onto a row of the call's own, at the operation. -/
theorem ex_append {P : Program} {w : World} {e : TypeId} {z : Value} {size bytes : Nat} (hinfo : (P.info? e).map (fun i => (i.zero, i.size, i.bytes)) = some (some z, size, bytes)) (t : TypeId) (ht : P.underlying t = some (.slice e)) (hzs : z.cells.size = size) (hsz : 0 < size)
    (base : Nat) (v : Value) (n : Nat) (xs : List Value) (hown : w.ownsRow base e size v n xs) (ad : Addr) (m c : Nat) (news : List Value) (hl : news.length = m * size) (hnews : ∀ j u, news[j]? = some u → w.cell? (ad.add j) = some u) (h1 : ∀ u ∈ news, u.oneCell' = true)
    (h63 : n + m ≤ maxLen) (hbytes : (n + m) * bytes ≤ 140737488355328) (hbase : base ≤ w.heap.size) (ev : Operand → Value) (o : Oper) (x y : Operand) (hx : ev x = v) (hy : ev y = .slice (some ad) m c) (ho : o.op = .call { callee := .builtin .append, args := #[x, y], argTypes := #[t, t] }) :
    ∃ v' w', (execOp ev o).run P w = .ok (.value v') w' ∧ w'.ownsRow base e size v' (n + m) (xs ++ news) ∧ w.grownBy w' v.ownBlock ∧ (v'.ownBlock = v.ownBlock ∨ v'.ownBlock = some w.heap.size) := by
  cases hi : P.info? e with
  | none => simp [hi] at hinfo
  | some i =>
    rw [hi] at hinfo
    simp only [Option.map_some, Option.some.injEq, Prod.mk.injEq] at hinfo
    obtain ⟨h2, h3, h4⟩ := hinfo
    obtain ⟨v', w', hr, r2, r3, -, r5⟩ := run_append_own_at (P := P) w base t o.type e i z size bytes ht hi h2 h3 h4 hzs hsz v n xs hown ad m c news hl hnews h1 h63 hbytes hbase
    refine ⟨v', w', ?_, r2, r3, r5⟩
    unfold execOp
    simp only [ho, resolve, invoke, builtin, Sem.run_bind, Sem.run_pure, Result.andThen_ok, List.map_toArray, List.map_cons, List.map_nil, hx, hy, hr]
theorem grown_blk {w w' : World} {row : Option Nat} (h : w.grownBy w' row) {k : Nat} {o : Obj} (hk : w.heap[k]? = some o) (hr : some k ≠ row) : w'.heap[k]? = some o := (h.block k (blk_lt hk) hr).trans hk
theorem grown_below {w w' : World} {row : Option Nat} (h : w.grownBy w' row) {B : Nat} (hB : B ≤ w.heap.size) (hr : ∀ g, row = some g → B ≤ g) : Below B w w' :=
  ⟨h.os, h.tape, h.output, h.size, fun k hk => h.block k (by omega) (fun e => by have := hr k e.symm; omega)⟩
theorem bl_then {w w1 w2 : World} (h : Below w.heap.size w w1) (k : Below w1.heap.size w1 w2) : Below w.heap.size w w2 := h.trans (k.mono h.size)
theorem bl_alloc {w w1 : World} (h : Below w.heap.size w w1) (o : Obj) : Below w.heap.size w (w1.alloc o) := h.alloc h.size o
theorem bl_drew {w w1 : World} (h : Below w.heap.size w w1) : Below w.heap.size w w1.drew := h.drew
theorem bl_drewN {w w1 : World} (h : Below w.heap.size w w1) (n : Nat) : Below w.heap.size w (w1.drewN n) := ⟨h.os, h.tape, h.output, h.size, h.block⟩
theorem bl_set {w w1 : World} (h : Below w.heap.size w w1) {p : Addr} (hp : w.heap.size ≤ p.block) (u : Value) : Below w.heap.size w (w1.setCell p u) := h.setCell hp u
theorem bl_setRow {w w1 : World} (h : Below w.heap.size w w1) {g : Nat} (hg : w.heap.size ≤ g) (cs : Array Value) : Below w.heap.size w (w1.setRow g cs) :=
  h.trans ⟨rfl, rfl, rfl, by simp, fun k hk => setRow_other _ _ _ _ (by omega)⟩
theorem bl_putObj {w w1 : World} (h : Below w.heap.size w w1) {g : Nat} (hg : w.heap.size ≤ g) (o : Obj) : Below w.heap.size w (w1.putObj g o) :=
  h.trans ⟨rfl, rfl, rfl, by simp, fun k hk => World.putObj_heap_other (by omega)⟩
theorem ret_int {k : IntKind} {a b : Int} (h : a = b) : Ending.returned (.int k a) = .returned (.int k b) := by rw [h]
theorem bytes_ext {a b : ByteArray} (h : a.toList = b.toList) : a = b := by
  have h' : a.data.toList = b.data.toList := by simpa [ByteArray.toList_eq] using h
  cases a; cases b
  simp only [ByteArray.mk.injEq]
  exact Array.ext' h'

theorem ofInt_i64 (a : Nat) (ha : a < 9223372036854775808) : (BitVec.ofInt 64 (a : Int)).toNat = a := by
  rw [BitVec.ofInt_natCast, BitVec.toNat_ofNat]; exact Nat.mod_eq_of_lt (by omega)
theorem i64_and_nat (a b : Nat) (ha : a < 9223372036854775808) (hb : b < 9223372036854775808) : bits .and .i64 (a : Int) (b : Int) = ((a &&& b : Nat) : Int) := by
  have hx : a &&& b < 2 ^ 63 := Nat.and_lt_two_pow _ (by omega)
  show IntKind.i64.wrap ((BitVec.ofInt 64 (a : Int) &&& BitVec.ofInt 64 (b : Int)).toNat : Int) = _
  rw [BitVec.toNat_and, ofInt_i64 a ha, ofInt_i64 b hb, IntKind.wrap_i64]
  omega
theorem i64_or_nat (a b : Nat) (ha : a < 9223372036854775808) (hb : b < 9223372036854775808) : bits .or .i64 (a : Int) (b : Int) = ((a ||| b : Nat) : Int) := by
  have hx : a ||| b < 2 ^ 63 := Nat.or_lt_two_pow (by omega) (by omega)
  show IntKind.i64.wrap ((BitVec.ofInt 64 (a : Int) ||| BitVec.ofInt 64 (b : Int)).toNat : Int) = _
  rw [BitVec.toNat_or, ofInt_i64 a ha, ofInt_i64 b hb, IntKind.wrap_i64]
  omega
/-- A mask of k bits. -/
theorem and_mask (a k : Nat) (ha : a < 9223372036854775808) (hk : k ≤ 62) : bits .and .i64 (a : Int) ((2 ^ k - 1 : Nat) : Int) = ((a % 2 ^ k : Nat) : Int) := by
  have h2 : 2 ^ k ≤ 2 ^ 62 := Nat.pow_le_pow_right (by omega) hk
  rw [i64_and_nat a _ ha (by omega), Nat.and_two_pow_sub_one_eq_mod]

/-! ### Bytes that are read -/
def bv (b : UInt8) : Value := .int .u8 (b.toNat : Int)
/-- The slice at A reads as these bytes; its block is such a one. -/
def Bytes (w : World) (P : Nat → Prop) (A : Option Addr) (l : List UInt8) : Prop :=
  0 < l.length → ∃ b off, A = some ⟨b, off, none⟩ ∧ P b ∧ ∀ j, j < l.length → w.cell? ⟨b, off + j, none⟩ = some (.int .u8 ((l.getD j 0).toNat : Int))
section
variable {w w' : World} {P Q : Nat → Prop} {A : Option Addr} {l : List UInt8}
theorem Bytes.nil (w : World) (P : Nat → Prop) (A : Option Addr) : Bytes w P A [] := fun h => absurd h (by simp)
theorem Bytes.keep (h : Bytes w P A l) (hk : ∀ k, P k → k < w.heap.size → w'.heap[k]? = w.heap[k]?) : Bytes w' P A l := fun hl => by
  obtain ⟨b, off, e, hP, hc⟩ := h hl
  have hb : b < w.heap.size := World.block_lt_of_cell? w ⟨b, off + 0, none⟩ (hc 0 hl)
  exact ⟨b, off, e, hP, fun j hj => (World.cell?_of_block (w := w) (hk b hP hb)).trans (hc j hj)⟩
theorem Bytes.below (h : Bytes w P A l) (hb : Below w.heap.size w w') : Bytes w' P A l := h.keep fun k _ hk => hb.block k hk
theorem Bytes.imp (h : Bytes w P A l) (hPQ : ∀ k, k < w.heap.size → P k → Q k) : Bytes w Q A l := fun hl => by
  obtain ⟨b, off, e, hP, hc⟩ := h hl
  exact ⟨b, off, e, hPQ b (World.block_lt_of_cell? w ⟨b, off + 0, none⟩ (hc 0 hl)) hP, hc⟩
theorem Bytes.drop (h : Bytes w P A l) (n c : Nat) (hn : n ≤ l.length) (hc : l.length ≤ c) : Bytes w P (if c = n then A else A.map (·.add n)) (l.drop n) := fun hl => by
  rw [List.length_drop] at hl
  obtain ⟨b, off, rfl, hP, hcell⟩ := h (by omega)
  rw [if_neg (by omega)]
  refine ⟨b, off + n, ?_, hP, fun j hj => ?_⟩
  · unfold Addr.add
    by_cases h0 : n = 0 <;> simp [h0]
  · rw [List.length_drop] at hj
    have := hcell (n + j) (by omega)
    rw [Nat.add_assoc, this]
    simp [List.getD_eq_getElem?_getD]
theorem Bytes.take (h : Bytes w P A l) (n : Nat) (hn : n ≤ l.length) : Bytes w P A (l.take n) := fun hl => by
  rw [List.length_take] at hl
  obtain ⟨b, off, rfl, hP, hcell⟩ := h (by omega)
  refine ⟨b, off, rfl, hP, fun j hj => ?_⟩
  rw [List.length_take] at hj
  rw [hcell j (by omega)]
  simp [List.getD_eq_getElem?_getD, show j < n by omega]
end
end Go.Proofs.YtfkpeahelhpelaaDoor
