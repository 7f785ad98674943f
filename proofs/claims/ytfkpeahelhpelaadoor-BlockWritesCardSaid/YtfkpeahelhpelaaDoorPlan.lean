/- A region that draws its order, inside a wide fence (a round, too): one plan for all orders. What only reads may be taken first, where no writing between turns what it reads. -/
import Derived.Test.YtfkpeahelhpelaaDoorRange
import Derived.OrdersIn
import Derived.StillTail
namespace Go.Proofs.YtfkpeahelhpelaaDoor
set_option linter.all false
open Go.RowKit

section
variable {F : Fence} {n : Nat} {P : Program} {ops : Array Oper} {K : Act → World → Prop} {S : World → Prop}

/-- The post of a region that ends plainly. -/
def plainly (K : Act → World → Prop) : Exit → Act → World → Prop
  | .normal, a, w => K a w
  | _, _, _ => False
def tameOp (o : Oper) : Bool := match o.op with | .select .. | .defer _ => false | _ => true
def tameOps (ops : Array Oper) : Bool := ops.all tameOp
theorem tame_at (h : tameOps ops = true) {i : Nat} {o : Oper} (hi : ops[i]? = some o) : (∀ cs b, o.op ≠ .select cs b) ∧ ∀ c, o.op ≠ .defer c := by
  have := Array.all_eq_true_iff_forall_mem.1 h o (Array.mem_of_getElem? hi)
  refine ⟨fun cs b e => ?_, fun c e => ?_⟩ <;> simp [tameOp, e] at this
/-- In this frame, in whatever world meets S, the operation yields v and does nothing else; or it is passed over. -/
def YIf (P : Program) (ops : Array Oper) (S : World → Prop) (o : Oper) (v : Value) (a : Act) : Prop :=
  (Region.wanted o (yielded ops a.tmps) = true ∧ ∀ w, S w → (execOp a.eval o).run P w = .ok (.value v) w) ∨ (Region.wanted o (yielded ops a.tmps) = false ∧ v = undef)
theorem YIf.same {o : Oper} {v : Value} {a a' : Act} (h : YIf P ops S o v a) (he : execOp a'.eval o = execOp a.eval o) (hw : Region.wanted o (yielded ops a'.tmps) = Region.wanted o (yielded ops a.tmps)) : YIf P ops S o v a' := by
  unfold YIf at *
  rwa [he, hw]
theorem YIf.op {i : Nat} {o : Oper} {v : Value} {a : Act} {w : World} {R : Act → World → Prop} (hF : ∀ f, F.fn f) (hi : ops[i]? = some o) (ht : ∀ c, o.op ≠ .defer c) (h : YIf P ops S o v a) (hS : S w) (hR : R (a.put o.dst v) w) : wpOpIn F n P ops (plainly K) i R a w := by
  unfold wpOpIn
  simp only [hi]
  rcases h with ⟨h1, h2⟩ | ⟨h1, rfl⟩
  · rw [if_pos h1]
    refine ⟨fun f _ => hF f, ?_⟩
    rw [Oper.semAt_eq _ _ _ ht, h2 w hS]
    exact hR
  · rw [if_neg (by simp [h1])]
    exact ⟨fun f _ => hF f, hR⟩
/-- Another operation, apart from one that yields: it may go ahead. -/
theorem op_ahead {j : Nat} {oi oj : Oper} {v : Value} {a : Act} {w : World} {R : Act → World → Prop} (hF : ∀ f, F.fn f) (hj : ops[j]? = some oj) (hap : oi.apart ops oj = true) (ti : ∀ cs b, oi.op ≠ .select cs b) (tj : (∀ cs b, oj.op ≠ .select cs b) ∧ ∀ c, oj.op ≠ .defer c)
    (hy : YIf P ops S oi v a) (h : wpOpIn F n P ops (plainly K) j R (a.put oi.dst v) w) : wpOpIn F n P ops (plainly K) j (fun a' w' => YIf P ops S oi v a' ∧ R (a'.put oi.dst v) w') a w := by
  obtain ⟨h1, h2, h3⟩ := Oper.apart_spec hap
  have on : ∀ u, YIf P ops S oi v (a.put oj.dst u) := fun u => hy.same (execOp_put oi ti a oj.dst u h3) (wanted_put oi a oj.dst u h3)
  have sw : ∀ {u : Value} {w' : World}, R ((a.put oi.dst v).put oj.dst u) w' → R ((a.put oj.dst u).put oi.dst v) w' := fun hr => by rwa [← Act.put_comm a v _ h2]
  unfold wpOpIn at *
  simp only [hj] at *
  rw [wanted_put oj a oi.dst v h1] at h
  by_cases hw : Region.wanted oj (yielded ops a.tmps) = true
  · rw [if_pos hw] at h ⊢
    refine ⟨fun f _ => hF f, ?_⟩
    have h := h.2
    rw [Oper.semAt_eq _ _ _ tj.2, execOp_put oj tj.1 a oi.dst v h1] at h
    rw [Oper.semAt_eq _ _ _ tj.2]
    generalize (execOp a.eval oj).run P w = r at h ⊢
    match r with
    | .ok (.value u) w' => exact ⟨on u, sw h⟩
    | .ok .skip w' => exact ⟨on _, sw h⟩
    | .ok (.enter f args) w' =>
      refine ⟨h.1, h.2.mono fun e w'' he => ?_⟩
      match e with
      | .returned u => exact ⟨on u, sw he⟩
      | .panicked c => exact False.elim he
      | .outgrown => exact he
    | .ok (.row row args) w' => exact ⟨h.1, h.2.mono fun u w'' he => ⟨on u, sw he⟩⟩
    | .ok (.round l f tmps assign body) w' =>
      refine ⟨h.1, h.2.mono fun e w'' he => ?_⟩
      match e with
      | .returned u => exact ⟨on u, sw he⟩
      | .panicked c => exact False.elim he
      | .outgrown => exact he
    | .ok (.defer d) w' => exact ⟨hy.same rfl rfl |>.same (execOp_put oi ti _ oj.dst _ h3) (wanted_put oi _ oj.dst _ h3), by
        have e := Act.put_comm ({ a with defers := d :: a.defers }) (x := oi.dst) (y := oj.dst) v undef h2
        rw [← e, ← Act.put_defers]
        exact h⟩
    | .halt (.panic u) w' => exact False.elim h
    | .ok .recover _ => exact h
    | .ok (.spawn _) _ => exact h
    | .ok (.comm _ _ _) _ => exact h
    | .ok .numGoroutine _ => exact h
    | .ok .collect _ => exact h
    | .ok (.watch _) _ => exact h
    | .ok (.newcoro _ _) _ => exact h
    | .ok (.coroswitch _ _) _ => exact h
    | .ok (.sleep _) _ => exact h
    | .ok (.timer _) _ => exact h
    | .ok (.alone _ _) _ => exact h
    | .ok (.callThen _ _ _ _) _ => exact h
    | .ok (.stack _ _) _ => exact h
    | .halt .blocked _ => exact h
    | .halt .waiting _ => exact h
    | .halt (.exit _) _ => exact h
    | .halt (.fatal _) _ => exact h
    | .halt (.throw _) _ => exact h
    | .halt .goexit _ => exact h
    | .halt (.unsupported _) _ => exact h
    | .halt (.stuck _) _ => exact h
  · rw [if_neg hw] at h ⊢
    exact ⟨fun f _ => hF f, on _, sw h.2⟩
/-- What an operation waits for. -/
def depsOf (ops : Array Oper) (i : Nat) : List Nat := match ops[i]? with
  | some o => (o.after.toList.filter fun e => Region.binds .any e).map (·.on)
  | none => []
def Closed (ops : Array Oper) (listed : Array Bool) : Prop := ∀ j, listed.getD j false = true → ∀ d ∈ depsOf ops j, listed.getD d false = true
def reachB (ops : Array Oper) : Nat → Nat → Nat → Bool
  | 0, _, _ => false
  | fuel + 1, t, i => (depsOf ops t).any fun d => d == i || reachB ops fuel d i
theorem reach_listed {listed : Array Bool} (hc : Closed ops listed) {i : Nat} : ∀ (fuel t : Nat), (∀ d ∈ depsOf ops t, listed.getD d false = true) → reachB ops fuel t i = true → listed.getD i false = true := by
  intro fuel
  induction fuel with
  | zero => intro t _ h; cases h
  | succ fuel ih =>
    intro t hd h
    simp only [reachB, List.any_eq_true, Bool.or_eq_true, beq_iff_eq] at h
    obtain ⟨d, hm, rfl | h⟩ := h
    · exact hd d hm
    · exact ih d (fun x hx => hc d (hd d hm) x hx) h
theorem ready_deps {i : Nat} {listed : Array Bool} (h : i ∈ Region.ready .any ops listed) : ∀ d ∈ depsOf ops i, listed.getD d false = true := by
  obtain ⟨_, o, ho, hall⟩ := mem_ready.1 h
  intro d hd
  simp only [depsOf, ho, List.mem_map, List.mem_filter] at hd
  obtain ⟨e, ⟨he, hb⟩, rfl⟩ := hd
  exact hall e (by simpa using he) hb
theorem closed_set {i : Nat} {listed : Array Bool} (hc : Closed ops listed) (h : i ∈ Region.ready .any ops listed) : Closed ops (listed.setIfInBounds i true) := by
  intro j hj d hd
  by_cases e : i = j
  · subst e
    exact getD_set_true (ready_deps h d hd)
  · rw [getD_set_ne false e] at hj
    exact getD_set_true (hc j hj d hd)
theorem closed_none (k : Nat) : Closed ops (Array.replicate k false) := by
  intro j hj
  rw [getD_replicate_false] at hj
  cases hj
/-- Each operation of the tail waits for all that is not of it. -/
def tailOk (ops : Array Oper) (T : List Nat) : Bool := T.all fun t => (List.range ops.size).all fun i => T.contains i || reachB ops ops.size t i
theorem tail_last {T : List Nat} (hT : tailOk ops T = true) {listed : Array Bool} (hc : Closed ops listed) {t i : Nat} (ht : t ∈ T) (hi : i ∉ T) (hlt : i < ops.size) (h : ∀ d ∈ depsOf ops t, listed.getD d false = true) : listed.getD i false = true := by
  simp only [tailOk, List.all_eq_true, List.mem_range] at hT
  have := hT t ht i hlt
  simp only [Bool.or_eq_true] at this
  rcases this with h1 | h1
  · exact absurd (by simpa using h1) hi
  · exact reach_listed hc _ t h h1
theorem unlisted_of_ready {i : Nat} {listed : Array Bool} (h : i ∈ Region.ready .any ops listed) : listed.getD i false = false ∧ i < ops.size := by
  obtain ⟨h1, o, ho, -⟩ := mem_ready.1 h
  exact ⟨getD_both h1, (Array.getElem?_eq_some_iff.1 ho).1⟩

/-- Whatever order is picked from here on; S holds behind each operation that is not of the tail. -/
def anyS (F : Fence) (n : Nat) (P : Program) (ops : Array Oper) (K : Act → World → Prop) (S : World → Prop) (T : List Nat) : Nat → Array Bool → Act → World → Prop
  | 0, listed, a, w => Region.ready .any ops listed = [] ∧ K a w
  | fuel + 1, listed, a, w => (Region.ready .any ops listed = [] → K a w) ∧
    ∀ i ∈ Region.ready .any ops listed, wpOpIn F n P ops (plainly K) i (fun a' w' => (i ∉ T → S w') ∧ anyS F n P ops K S T fuel (listed.setIfInBounds i true) a' w') a w
theorem any_of_anyS {T : List Nat} : ∀ (fuel : Nat) (listed : Array Bool) (a : Act) (w : World), anyS F n P ops K S T fuel listed a w → wpAnyIn F n P .any ops (plainly K) fuel listed a w
  | 0, _, _, _, h => h
  | fuel + 1, _, _, _, h => ⟨h.1, fun i hi => wpOpIn_mono (fun a' w' hh => any_of_anyS fuel _ a' w' hh.2) (h.2 i hi)⟩
/-- What only yields may be taken first. -/
theorem anyS_first {T : List Nat} {i : Nat} {oi : Oper} {v : Value} (hF : ∀ f, F.fn f) (ht : tameOps ops = true) (hT : tailOk ops T = true) (hiT : i ∉ T) (hi : ops[i]? = some oi) : ∀ (fuel : Nat) (listed : Array Bool) (a : Act) (w : World), Closed ops listed →
    (∀ j oj, ops[j]? = some oj → j ≠ i → listed.getD j true = false → (∀ e ∈ oj.after, Region.binds .any e = true → e.on ≠ i) → oi.apart ops oj = true) →
    i ∈ Region.ready .any ops listed → YIf P ops S oi v a → S w → anyS F n P ops K S T fuel (listed.setIfInBounds i true) (a.put oi.dst v) w → anyS F n P ops K S T (fuel + 1) listed a w := by
  intro fuel
  induction fuel with
  | zero =>
    intro listed a w _ _ hr hy hS H
    refine ⟨fun h => (by rw [h] at hr; cases hr), fun j hj => ?_⟩
    by_cases e : j = i
    · subst e
      exact hy.op hF hi (tame_at ht hi).2 hS ⟨fun _ => hS, H⟩
    · have := ready_mono hj e
      rw [H.1] at this
      cases this
  | succ fuel ih =>
    intro listed a w hcl hfree hr hy hS H
    refine ⟨fun h => (by rw [h] at hr; cases hr), fun j hj => ?_⟩
    by_cases e : j = i
    · subst e
      exact hy.op hF hi (tame_at ht hi).2 hS ⟨fun _ => hS, H⟩
    · have hjT : j ∉ T := fun hjT => by
        have h1 := tail_last hT hcl hjT hiT (unlisted_of_ready hr).2 (ready_deps hj)
        rw [(unlisted_of_ready hr).1] at h1
        cases h1
      have h1 := H.2 j (ready_mono hj e)
      obtain ⟨hun, oj, hoj, hall⟩ := mem_ready.1 hj
      have hno : ∀ x ∈ oj.after, Region.binds .any x = true → x.on ≠ i := fun x hx hb he => by
        have g1 := hall x hx hb
        rw [he, (unlisted_of_ready hr).1] at g1
        cases g1
      have h2 := op_ahead hF hoj (hfree j oj hoj e hun hno) (tame_at ht hi).1 (tame_at ht hoj) hy h1
      refine wpOpIn_mono (fun a' w' h3 => ⟨h3.2.1, ih _ a' w' (closed_set hcl hj) ?_ (ready_mono hr (Ne.symm e)) h3.1 (h3.2.1 hjT) ?_⟩) h2
      · intro k ok hk hki hku hkn
        refine hfree k ok hk hki ?_ hkn
        by_cases hjk : j = k
        · subst hjk; exact hun
        · rwa [getD_set_ne true hjk] at hku
      · rw [Array.setIfInBounds_comm _ _ e]
        exact h3.2.2

/-- The plan: E are the operations that do something, or are of the tail; each other one is taken as soon as it stands in the list. -/
def planOk (ops : Array Oper) (E : List Nat) : List Nat → Array Bool → Bool
  | [], listed => (Region.ready .any ops listed).isEmpty
  | i :: rest, listed => (if E.contains i then (Region.ready .any ops listed == [i]) else ((Region.ready .any ops listed).contains i && Region.free .any ops listed i)) && planOk ops E rest (listed.setIfInBounds i true)
def seqS (F : Fence) (n : Nat) (P : Program) (ops : Array Oper) (K : Act → World → Prop) (S : World → Prop) (T E : List Nat) : List Nat → Act → World → Prop
  | [], a, w => K a w
  | i :: rest, a, w =>
    if E.contains i then wpOpIn F n P ops (plainly K) i (fun a' w' => (i ∉ T → S w') ∧ seqS F n P ops K S T E rest a' w') a w
    else ∃ o v, ops[i]? = some o ∧ YIf P ops S o v a ∧ seqS F n P ops K S T E rest (a.put o.dst v) w
theorem anyS_of_seq {T : List Nat} (hF : ∀ f, F.fn f) (ht : tameOps ops = true) (hT : tailOk ops T = true) (E : List Nat) (hTE : ∀ t ∈ T, E.contains t = true) : ∀ (L : List Nat) (fuel : Nat) (listed : Array Bool) (a : Act) (w : World), Closed ops listed → planOk ops E L listed = true → L.length ≤ fuel →
    ((∀ t ∈ T, listed.getD t false = false) → S w) → seqS F n P ops K S T E L a w → anyS F n P ops K S T fuel listed a w := by
  intro L
  induction L with
  | nil =>
    intro fuel listed a w _ hp _ _ h
    have hr : Region.ready .any ops listed = [] := by simpa [planOk] using hp
    cases fuel with
    | zero => exact ⟨hr, h⟩
    | succ fuel => exact ⟨fun _ => h, by rw [hr]; simp⟩
  | cons i rest ih =>
    intro fuel listed a w hcl hp hl hS h
    simp only [planOk, Bool.and_eq_true] at hp
    obtain ⟨hp1, hp2⟩ := hp
    cases fuel with
    | zero => simp at hl
    | succ fuel =>
      have hl' : rest.length ≤ fuel := by simpa using hl
      simp only [seqS] at h
      split at h
      · rename_i hE
        rw [if_pos hE] at hp1
        have hr : Region.ready .any ops listed = [i] := by simpa using hp1
        refine ⟨fun h0 => (by rw [hr] at h0; cases h0), fun j hj => ?_⟩
        have hj' := hj
        rw [hr] at hj
        obtain rfl : j = i := by simpa using hj
        refine wpOpIn_mono (fun a' w' hh => ⟨hh.1, ih fuel _ a' w' (closed_set hcl hj') hp2 hl' (fun hn => hh.1 fun hjT => ?_) hh.2⟩) h
        have := hn j hjT
        rw [show (listed.setIfInBounds j true).getD j false = true from by
          have h2 := (unlisted_of_ready hj').2
          have h3 := (mem_ready.1 hj').1
          have h4 : j < listed.size := by
            rcases Nat.lt_or_ge j listed.size with h5 | h5
            · exact h5
            · simp [Array.getElem?_eq_none h5] at h3
          simp [h4]] at this
        cases this
      · rename_i hE
        rw [if_neg hE, Bool.and_eq_true] at hp1
        obtain ⟨o, v, ho, hy, hs⟩ := h
        have hr : i ∈ Region.ready .any ops listed := by simpa using hp1.1
        have hiT : i ∉ T := fun hiT => hE (hTE i hiT)
        have hS' : S w := hS fun t htT => by
          cases hlt : listed.getD t false with
          | false => rfl
          | true =>
            have := tail_last hT hcl htT hiT (unlisted_of_ready hr).2 (fun d hd => hcl t hlt d hd)
            rw [(unlisted_of_ready hr).1] at this
            cases this
        exact anyS_first hF ht hT hiT ho fuel listed a w hcl (Region.free_spec ho hp1.2) hr hy hS' (ih fuel _ _ w (closed_set hcl hr) hp2 hl' (fun _ => hS') hs)
/-- A region that draws: one way through it. -/
theorem region_plan {id : Nat} {a : Act} {w : World} {Q : Exit → Act → World → Prop} (S : World → Prop) (T E L : List Nat) (hm : P.follows .mixedOrders = true) (hF : ∀ f, F.fn f) (ht : tameOps ops = true) (hT : (tailOk ops T && T.all fun t => E.contains t) = true) (hp : planOk ops E L (Array.replicate ops.size false) = true) (hl : L.length ≤ ops.size)
    (hS : S w.drew) (h : seqS F n P ops (Q .normal) S T E L a w.drew) : (Code.region id ops true).wpIn F n P Q a w := by
  refine wpIn_mono (wpIn_region_any (Q := plainly (Q .normal)) hm (any_of_anyS _ _ _ _ (anyS_of_seq hF ht (Bool.and_eq_true_iff.1 hT).1 E (fun t htT => List.all_eq_true.1 (Bool.and_eq_true_iff.1 hT).2 t htT) L ops.size _ a _ (closed_none _) hp hl (fun _ => hS) h))) ?_
  intro e a' w' hq
  cases e with
  | normal => exact hq
  | _ => exact False.elim hq
/-- The same outside a fence. -/
theorem region_plan_open {id : Nat} {a : Act} {w : World} {Q : Exit → Act → World → Prop} (S : World → Prop) (T E L : List Nat) (hm : P.follows .mixedOrders = true) (ht : tameOps ops = true) (hT : (tailOk ops T && T.all fun t => E.contains t) = true) (hp : planOk ops E L (Array.replicate ops.size false) = true) (hl : L.length ≤ ops.size)
    (hS : S w.drew) (h : seqS Fence.wide 0 P ops (Q .normal) S T E L a w.drew) : (Code.region id ops true).wp P Q a w :=
  wpIn_wide.1 (region_plan (F := Fence.wide) (n := 0) S T E L hm (fun _ => trivial) ht hT hp hl hS h)
/-- The value of a run. -/
def valueOf : Result Next → Value
  | .ok (.value v) _ => v
  | _ => undef
theorem valueOf_ok (v : Value) (w : World) : valueOf (.ok (.value v) w) = v := rfl
section
variable {T E : List Nat} {i : Nat} {rest : List Nat} {a : Act} {w : World} {o : Oper} {v : Value}
theorem seq_nil (h : K a w) : seqS F n P ops K S T E [] a w := h
/-- What only reads. -/
theorem seq_q (hE : E.contains i = false) (ho : ops[i]? = some o) (hw : Region.wanted o (yielded ops a.tmps) = true) (hv : ∀ w', S w' → (execOp a.eval o).run P w' = .ok (.value v) w') (h : seqS F n P ops K S T E rest (a.put o.dst v) w) : seqS F n P ops K S T E (i :: rest) a w := by
  rw [seqS, if_neg (by rw [hE]; decide)]
  exact ⟨o, v, ho, .inl ⟨hw, hv⟩, h⟩
theorem seq_v (hE : E.contains i = false) (ho : ops[i]? = some o) (hw : Region.wanted o (yielded ops a.tmps) = true) (hv : ∀ w', S w' → (execOp a.eval o).run P w' = .ok (.value (valueOf ((execOp a.eval o).run P w))) w') (h : seqS F n P ops K S T E rest (a.put o.dst (valueOf ((execOp a.eval o).run P w))) w) : seqS F n P ops K S T E (i :: rest) a w :=
  seq_q hE ho hw hv h
/-- What is passed over. -/
theorem seq_over (hE : E.contains i = false) (ho : ops[i]? = some o) (hw : Region.wanted o (yielded ops a.tmps) = false) (h : seqS F n P ops K S T E rest (a.put o.dst undef) w) : seqS F n P ops K S T E (i :: rest) a w := by
  rw [seqS, if_neg (by rw [hE]; decide)]
  exact ⟨o, undef, ho, .inr ⟨hw, rfl⟩, h⟩
/-- What does something, in one step. -/
theorem seq_do {w' : World} (hE : E.contains i = true) (hF : ∀ f, F.fn f) (ho : ops[i]? = some o) (ht : tameOp o = true) (hw : Region.wanted o (yielded ops a.tmps) = true) (hv : (execOp a.eval o).run P w = .ok (.value v) w') (hS : i ∉ T → S w') (h : seqS F n P ops K S T E rest (a.put o.dst v) w') : seqS F n P ops K S T E (i :: rest) a w := by
  rw [seqS, if_pos hE, wpOpIn, ho]
  simp only [if_pos hw]
  refine ⟨fun f _ => hF f, ?_⟩
  rw [Oper.semAt_eq _ _ _ (fun c e => by simp [tameOp, e] at ht), hv]
  exact ⟨hS, h⟩
theorem seq_ex {R : Value → World → Prop} (hE : E.contains i = true) (hF : ∀ f, F.fn f) (ho : ops[i]? = some o) (ht : tameOp o = true) (hw : Region.wanted o (yielded ops a.tmps) = true) (hr : ∃ v w', (execOp a.eval o).run P w = .ok (.value v) w' ∧ R v w') (h : ∀ v w', R v w' → (i ∉ T → S w') ∧ seqS F n P ops K S T E rest (a.put o.dst v) w') : seqS F n P ops K S T E (i :: rest) a w := by
  obtain ⟨v, w', hv, hR⟩ := hr
  exact seq_do hE hF ho ht hw hv (h v w' hR).1 (h v w' hR).2
/-- The same, where the world stays. -/
theorem seq_dv (hE : E.contains i = true) (hF : ∀ f, F.fn f) (ho : ops[i]? = some o) (ht : tameOp o = true) (hw : Region.wanted o (yielded ops a.tmps) = true) (hS : i ∉ T → S w) (hv : (execOp a.eval o).run P w = .ok (.value (valueOf ((execOp a.eval o).run P w))) w) (h : seqS F n P ops K S T E rest (a.put o.dst (valueOf ((execOp a.eval o).run P w))) w) : seqS F n P ops K S T E (i :: rest) a w :=
  seq_do hE hF ho ht hw hv hS h
theorem seq_skip {w' : World} (hE : E.contains i = true) (hF : ∀ f, F.fn f) (ho : ops[i]? = some o) (ht : tameOp o = true) (hw : Region.wanted o (yielded ops a.tmps) = true) (hv : (execOp a.eval o).run P w = .ok .skip w') (hS : i ∉ T → S w') (h : seqS F n P ops K S T E rest (a.put o.dst undef) w') : seqS F n P ops K S T E (i :: rest) a w := by
  rw [seqS, if_pos hE, wpOpIn, ho]
  simp only [if_pos hw]
  refine ⟨fun f _ => hF f, ?_⟩
  rw [Oper.semAt_eq _ _ _ (fun c e => by simp [tameOp, e] at ht), hv]
  exact ⟨hS, h⟩
/-- A call of a function. -/
theorem seq_call {f : FuncId} {args : Array Value} (hE : E.contains i = true) (hF : ∀ f, F.fn f) (hd : F.depth = none) (ho : ops[i]? = some o) (ht : tameOp o = true) (hw : Region.wanted o (yielded ops a.tmps) = true) (hv : (execOp a.eval o).run P w = .ok (.enter f args) w)
    (h : CallsIn F (n - 1) P f args w fun e w' => ∃ v, e = .returned v ∧ (i ∉ T → S w') ∧ seqS F n P ops K S T E rest (a.put o.dst v) w') : seqS F n P ops K S T E (i :: rest) a w := by
  rw [seqS, if_pos hE, wpOpIn, ho]
  simp only [if_pos hw]
  refine ⟨fun f _ => hF f, ?_⟩
  rw [Oper.semAt_eq _ _ _ (fun c e => by simp [tameOp, e] at ht), hv]
  refine ⟨fun hh => (by rw [hd] at hh; cases hh), h.mono ?_⟩
  rintro e w' ⟨v, rfl, hS, hs⟩
  exact ⟨hS, hs⟩
/-- A yield. -/
theorem seq_yield {l : Nat} {f : FuncId} {tmps : Array Value} {assign body : Code} {w1 : World} (hE : E.contains i = true) (hF : ∀ f, F.fn f) (hd : F.depth = none) (ho : ops[i]? = some o) (ht : tameOp o = true) (hw : Region.wanted o (yielded ops a.tmps) = true) (hv : (execOp a.eval o).run P w = .ok (.round l f tmps assign body) w1)
    (h : RoundIn F (n - 1) P l f tmps assign body w1 fun e w' => ∃ v, e = .returned v ∧ (i ∉ T → S w') ∧ seqS F n P ops K S T E rest (a.put o.dst v) w') : seqS F n P ops K S T E (i :: rest) a w := by
  rw [seqS, if_pos hE, wpOpIn, ho]
  simp only [if_pos hw]
  refine ⟨fun f _ => hF f, ?_⟩
  rw [Oper.semAt_eq _ _ _ (fun c e => by simp [tameOp, e] at ht), hv]
  refine ⟨fun hh => (by rw [hd] at hh; cases hh), h.mono ?_⟩
  rintro e w' ⟨v, rfl, hS, hs⟩
  exact ⟨hS, hs⟩
end
end
end Go.Proofs.YtfkpeahelhpelaaDoor
