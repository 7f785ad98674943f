/- A range over a function, at the wide fence: the statement, and one round, each by one lemma; what holds between two rounds is the caller's own word. -/
import Derived.Test.YtfkpeahelhpelaaDoorBase
import Derived.RangeFuncNested
import Derived.RangeFuncBound
import Derived.RangeFuncCalls
import Derived.RangeFuncLeaves
import Derived.Shelf.Abstract
import Derived.Shelf.RegionOpen
import Derived.OwnWalkIn
import Derived.TacticsInMore
import Derived.LoopNIn
import Derived.LoopIn
namespace Go.Proofs.YtfkpeahelhpelaaDoor
set_option linter.all false
open Go.RowKit Go.Shelf

section
variable {F : Fence} {n : Nat} {P : Program} {w w' : World} {ops : Array Oper} {rest : List Oper} {o : Oper} {a : Act} {Q : Exit → Act → World → Prop} {v : Value}
/-- An operation whose run is known, inside a wide fence. -/
theorem wlIn_val (hg : o.guard = none) (hF : ∀ f, F.fn f) (hd : ∀ c, o.op ≠ .defer c) (hr : (execOp a.eval o).run P w = .ok (.value v) w') (h : wpListIn F n P ops Q rest (a.put o.dst v) w') : wpListIn F n P ops Q (o :: rest) a w := by
  refine wpListIn_plain hg fun K hK' => ⟨fun f _ => hF f, ?_⟩
  rw [Oper.semAt_plain F _ _ hd, hr]
  exact hK' _ _ h
theorem wlIn_skip (hg : o.guard = none) (hF : ∀ f, F.fn f) (hd : ∀ c, o.op ≠ .defer c) (hr : (execOp a.eval o).run P w = .ok .skip w') (h : wpListIn F n P ops Q rest (a.put o.dst undef) w') : wpListIn F n P ops Q (o :: rest) a w := by
  refine wpListIn_plain hg fun K hK' => ⟨fun f _ => hF f, ?_⟩
  rw [Oper.semAt_plain F _ _ hd, hr]
  exact hK' _ _ h
theorem wlIn_ex {R : Value → World → Prop} (hg : o.guard = none) (hF : ∀ f, F.fn f) (hd : ∀ c, o.op ≠ .defer c) (hr : ∃ v w', (execOp a.eval o).run P w = .ok (.value v) w' ∧ R v w') (h : ∀ v w', R v w' → wpListIn F n P ops Q rest (a.put o.dst v) w') : wpListIn F n P ops Q (o :: rest) a w := by
  obtain ⟨v, w', hr, hR⟩ := hr
  exact wlIn_val hg hF hd hr (h v w' hR)
/-- A store of a whole value into a block that is known whole. -/
theorem wlIn_store_row (hg : o.guard = none) (hF : ∀ f, F.fn f) (t : TypeId) (x y : Operand) (ho : o.op = .store t x y)
    (g : Nat) (c c' : Array Value) (hx : a.eval x = .pointer (some ⟨g, 0, none⟩)) (hy : a.eval y = .agg c') {t' : TypeId} (hb : w.heap[g]? = some (.cells c t' (0, 0))) {k : Nat} (hi : (P.info? t).map (·.size) = some k) (hs : c.size = k) (hs' : c'.size = k) (h1 : c'.all (·.oneCell') = true)
    (hd : o.dst = none) (h : wpListIn F n P ops Q rest a (w.setRow g c')) : wpListIn F n P ops Q (o :: rest) a w := by
  refine wlIn_skip hg hF (fun c hc => by rw [ho] at hc; cases hc) (w' := w.setRow g c') ?_ (by rw [hd]; exact h)
  unfold execOp
  simp only [ho, hx, hy, Instr.storeAt, Instr.sureAddr, Sem.run_bind, Sem.run_pure, Result.andThen_ok, run_storeVar_row w g t' t c c' hb (hs' ▸ hi) (hs.trans hs'.symm) h1]
/-- Guards: the next operation is such a one. -/
theorem at_sliceIn (t : TypeId) {d : Option Tmp} {x : Operand} {l hh m : Option Operand} {ty : TypeId} {ps : String} {af : Array _} {g : Option (Tmp × Bool)} (h : wpListIn F n P ops Q ({ dst := d, op := .slice t x l hh m, type := ty, pos := ps, after := af, guard := g } :: rest) a w) :
    wpListIn F n P ops Q ({ dst := d, op := .slice t x l hh m, type := ty, pos := ps, after := af, guard := g } :: rest) a w := h
theorem at_storeIn (t : TypeId) {d : Option Tmp} {x y : Operand} {ty : TypeId} {ps : String} {af : Array _} {g : Option (Tmp × Bool)} (h : wpListIn F n P ops Q ({ dst := d, op := .store t x y, type := ty, pos := ps, after := af, guard := g } :: rest) a w) :
    wpListIn F n P ops Q ({ dst := d, op := .store t x y, type := ty, pos := ps, after := af, guard := g } :: rest) a w := h
theorem at_lookupIn (t : TypeId) {d : Option Tmp} {x y : Operand} {ok : Bool} {ty : TypeId} {ps : String} {af : Array _} {g : Option (Tmp × Bool)} (h : wpListIn F n P ops Q ({ dst := d, op := .lookup t x y ok, type := ty, pos := ps, after := af, guard := g } :: rest) a w) :
    wpListIn F n P ops Q ({ dst := d, op := .lookup t x y ok, type := ty, pos := ps, after := af, guard := g } :: rest) a w := h
theorem at_appendIn (t : TypeId) {d : Option Tmp} {x y : Operand} {ty : TypeId} {ps : String} {af : Array _} {g : Option (Tmp × Bool)} (h : wpListIn F n P ops Q ({ dst := d, op := .call { callee := .builtin .append, args := #[x, y], argTypes := #[t, t] }, type := ty, pos := ps, after := af, guard := g } :: rest) a w) :
    wpListIn F n P ops Q ({ dst := d, op := .call { callee := .builtin .append, args := #[x, y], argTypes := #[t, t] }, type := ty, pos := ps, after := af, guard := g } :: rest) a w := h
end

section
variable {n : Nat} {P : Program} {w : World} {a : Act} {Q : Exit → Act → World → Prop}
theorem wide_scope {c : Code} (h : c.wpIn Fence.wide n P (Exit.noGoto Q) a w) : (Code.scope c).wpIn Fence.wide n P Q a w := wpIn_wide.2 (wp_scope_straight (wpIn_wide.1 h))
theorem wide_label {l : Nat} (h : Q .normal a w) : (Code.label l).wpIn Fence.wide n P Q a w := wpIn_wide.2 (wp_label h)
end
/-- The loop's record. -/
def recOf (fn : FuncId) (tmps : Array Value) (ps : Array Tmp) (assign body : Code) (D : Nat) (st : LoopState) (pe : Option Code) : Loop :=
  { state := st, pending := pe, fn, tmps, params := ps, assign, body, defers := D }
/-- The world in which the iterator is called. -/
def loopWorld (w : World) (r : Loop) : World := (w.alloc (.deferred (some []))).alloc (.loop r)
theorem loopWorld_rec (w : World) (r : Loop) : (loopWorld w r).heap[w.heap.size + 1]? = some (.loop r) := by
  have := heap_alloc_new (w.alloc (.deferred (some []))) (.loop r)
  rwa [World.size_alloc] at this
theorem loopWorld_def (w : World) (r : Loop) : (loopWorld w r).heap[w.heap.size]? = some (.deferred (some [])) := blk_alloc (heap_alloc_new w _) _
theorem loopWorld_below (w : World) (r : Loop) : Below w.heap.size w (loopWorld w r) := bl_alloc (bl_alloc (Below.refl _ _) _) _

variable {P : Program}

/-- The statement: the iterator is called in the loop's world; behind it the record says how it was left. -/
theorem range_stmt {n : Nat} {g : Operand} {ps : Array Tmp} {assign body : Code} {Q : Exit → Act → World → Prop} {a : Act} {w : World} (h1 : 1 ≤ n)
    {gf : Nat} {lb : Array Value} (hg : a.eval g = .func (.func gf) #[] lb) (eg : ∀ args w, (callFunc gf args).run P w = .ok (.enter gf args) w)
    (h : ∀ fn, CallsIn Fence.wide (n - 1) P gf (#[.func (.yield (w.heap.size + 1)) #[] #[]] ++ lb) (loopWorld w (recOf fn a.tmps ps assign body w.heap.size .ready none)) fun e W2 =>
      (∃ v, e = .returned v) ∧ ∃ st pe, W2.heap[w.heap.size + 1]? = some (.loop (recOf fn a.tmps ps assign body w.heap.size st pe)) ∧ st ≠ .busy ∧
        (match pe with
         | none => Q .normal { a with defers := { target := .collected w.heap.size, args := #[] } :: a.defers } (W2.putObj (w.heap.size + 1) (.loop (recOf fn a.tmps ps assign body w.heap.size .exhausted none)))
         | some c => c.wpIn Fence.wide n P Q { a with defers := { target := .collected w.heap.size, args := #[] } :: a.defers } (W2.putObj (w.heap.size + 1) (.loop (recOf fn a.tmps ps assign body w.heap.size .exhausted (some c)))))) :
    (Code.rangeFunc g ps assign body).wpIn Fence.wide n P Q a w := by
  refine wpIn_rangeFunc ?_
  intro fn hfn
  refine ⟨w.heap.size + 1, [{ target := .collected w.heap.size, args := #[] }], loopWorld w (recOf fn a.tmps ps assign body w.heap.size .ready none),
    { target := .fn (.func gf) lb, args := #[.func (.yield (w.heap.size + 1)) #[] #[]] }, loopWorld w (recOf fn a.tmps ps assign body w.heap.size .ready none), gf,
    #[.func (.yield (w.heap.size + 1)) #[] #[]] ++ lb, loopWorld w (recOf fn a.tmps ps assign body w.heap.size .ready none), ?_, ?_, ?_, ?_, fun _ => h1, ?_⟩
  · exact run_enterLoop_outer _ _ _ _ _
  · simp only [resolve, hg]
    simp [go_sem]
  · intro f' hf'; trivial
  · simp [invoke, go_sem, eg]
  · refine (h fn).mono ?_
    rintro e W2 ⟨⟨v, rfl⟩, st, pe, hr, hb, hq⟩
    have he := run_endLoop (P := P) hr (by exact hb)
    refine ⟨pe, _, he, ?_⟩
    cases pe with
    | none => exact hq
    | some c => exact hq

/-- The same, where the number of the deferral's block is known by a name, and the record by one. -/
theorem range_at {n D : Nat} {g : Operand} {ps : Array Tmp} {assign body : Code} {Q : Exit → Act → World → Prop} {a : Act} {w : World} (h1 : 1 ≤ n)
    (gf : Nat) (lb : Array Value) (hg : a.eval g = .func (.func gf) #[] lb) (eg : ∀ args w, (callFunc gf args).run P w = .ok (.enter gf args) w) (hD : w.heap.size = D)
    (h : ∀ fn R, R = recOf fn a.tmps ps assign body D → CallsIn Fence.wide (n - 1) P gf (#[.func (.yield (D + 1)) #[] #[]] ++ lb) (loopWorld w (R .ready none)) fun e W2 =>
      (∃ v, e = .returned v) ∧ ∃ st pe, W2.heap[D + 1]? = some (.loop (R st pe)) ∧ st ≠ .busy ∧
        (match pe with
         | none => Q .normal { a with defers := { target := .collected D, args := #[] } :: a.defers } (W2.putObj (D + 1) (.loop (R .exhausted none)))
         | some c => c.wpIn Fence.wide n P Q { a with defers := { target := .collected D, args := #[] } :: a.defers } (W2.putObj (D + 1) (.loop (R .exhausted (some c)))))) :
    (Code.rangeFunc g ps assign body).wpIn Fence.wide n P Q a w := by
  subst hD
  exact range_stmt h1 hg eg fun fn => h fn _ rfl

/-- The end of a body in which one such loop ran. -/
theorem leave_one {F : Fence} {n D : Nat} {fn : Func} {R : Ending → World → Prop} {a : Act} {w : World} {v : Value} (hd : a.defers = [{ target := .collected D, args := #[] }]) (hD : w.heap[D]? = some (.deferred (some [])))
    (hr : (results fn a.tmps).run P (w.putObj D (.deferred none)) = .ok v (w.putObj D (.deferred none))) (hR : R (.returned v) (w.putObj D (.deferred none))) : bodyPostM F n P fn R .ret a w := by
  show LeavesInM F n P fn a.tmps R a.defers .returning w
  rw [hd]
  exact ⟨by simp, .inl ⟨D, _, rfl, run_takeDeferred hD, v, hr, hR⟩⟩

theorem leave_end {F : Fence} {n D : Nat} {fn : Func} {R : Ending → World → Prop} {a : Act} {w : World} {v : Value} (hd : a.defers = [{ target := .collected D, args := #[] }]) (hD : w.heap[D]? = some (.deferred (some [])))
    (hr : (results fn a.tmps).run P (w.putObj D (.deferred none)) = .ok v (w.putObj D (.deferred none))) (hR : R (.returned v) (w.putObj D (.deferred none))) : bodyPostM F n P fn R .normal a w := by
  show LeavesInM F n P fn a.tmps R a.defers .returning w
  rw [hd]
  exact ⟨by simp, .inl ⟨D, _, rfl, run_takeDeferred hD, v, hr, hR⟩⟩

/-- What is asked at the end of a round's body. -/
def roundDone (L : Nat) (r : LoopState → Option Code → Loop) (R : Ending → World → Prop) : Exit → Act → World → Prop
  | .normal, _, W => W.heap[L]? = some (.loop (r .busy none)) ∧ R (.returned (.bool true)) (W.putObj L (.loop (r .ready none)))
  | .ret, _, W => W.heap[L]? = some (.loop (r .busy none)) ∧ R (.returned (.bool false)) (W.putObj L (.loop (r .done (some .ret))))
  | .exit id, _, W => W.heap[L]? = some (.loop (r .busy none)) ∧ R (.returned (.bool false)) (W.putObj L (.loop (r .done (some (.exit id)))))
  | .goto t, _, W => W.heap[L]? = some (.loop (r .busy none)) ∧ R (.returned (.bool false)) (W.putObj L (.loop (r .done (some (.goto t)))))
  | .panic _, _, _ => False
  | .outgrown, _, _ => False

/-- A round: the assignment to the loop's left sides, then the body, in a round's frame. -/
theorem round_at {m L D : Nat} {fn : FuncId} {tmps : Array Value} {ps : Array Tmp} {assign body : Code} {args : Array Value} {W : World} {R : Ending → World → Prop}
    (hl : W.heap[L]? = some (.loop (recOf fn tmps ps assign body D .ready none))) (hps : args.size = ps.size)
    (h : assign.wpIn (Fence.wide.inRound L) m P (Exit.then (fun a₁ W₁ => W₁.heap[L]? = some (.loop (recOf fn tmps ps assign body D .ready none)) ∧
        body.wpIn (Fence.wide.inRound L) m P (roundDone L (recOf fn tmps ps assign body D) R) a₁ (W₁.putObj L (.loop (recOf fn tmps ps assign body D .busy none)))) (fun _ _ _ => False))
      { tmps := (ps.zip args).foldl (fun t (p, v) => t.setIfInBounds p v) tmps, defers := [] } W) : YieldAt Fence.wide m P L args W R := by
  refine ⟨fn, _, assign, body, run_yield hl hps, roundIn_of_wpIn trivial (wpIn_mono h ?_)⟩
  rintro e a₁ W₁ hq
  cases e with
  | normal =>
    obtain ⟨hl1, hb⟩ := hq
    refine ⟨_, run_beginRound hl1 rfl, wpIn_mono hb ?_⟩
    rintro e a₂ W₂ hd
    cases e with
    | normal => exact ⟨_, _, run_endRound none hd.1, hd.2⟩
    | ret => exact ⟨_, _, run_endRound (some .ret) hd.1, hd.2⟩
    | exit id => exact ⟨_, _, run_endRound (some (.exit id)) hd.1, hd.2⟩
    | goto t => exact ⟨_, _, run_endRound (some (.goto t)) hd.1, hd.2⟩
    | panic c => exact hd.elim
    | outgrown => exact hd.elim
  | exit id => exact hq.elim
  | goto t => exact hq.elim
  | ret => exact hq.elim
  | panic c => exact hq.elim
  | outgrown => exact hq.elim
/-- The same, by the record's name, where one value is yielded. -/
theorem round_by {m L D : Nat} {fn : FuncId} {tmps : Array Value} {p : Tmp} {assign body : Code} {u : Value} {W : World} {R : Ending → World → Prop} {C : LoopState → Option Code → Loop}
    (hC : C = recOf fn tmps #[p] assign body D) (hl : W.heap[L]? = some (.loop (C .ready none)))
    (h : assign.wpIn (Fence.wide.inRound L) m P (Exit.then (fun a₁ W₁ => W₁.heap[L]? = some (.loop (C .ready none)) ∧
        body.wpIn (Fence.wide.inRound L) m P (roundDone L C R) a₁ (W₁.putObj L (.loop (C .busy none)))) (fun _ _ _ => False))
      { tmps := tmps.setIfInBounds p u, defers := [] } W) : YieldAt Fence.wide m P L #[u] W R := by
  subst hC
  refine round_at hl rfl ?_
  have e : (#[p].zip #[u]) = #[(p, u)] := by simp [Array.zip]
  rw [e]
  exact h
end Go.Proofs.YtfkpeahelhpelaaDoor
