/- More plain operations, each run at once: slices of slices. -/
import Derived.Test.YtfkpeahelhpelaaDoorBase
import Derived.LaidEqlPtr
import Derived.Laws.Rows
namespace Go.Proofs.YtfkpeahelhpelaaDoor
set_option linter.all false
open Go.RowKit

/-- Where a piece from cell k on lies. -/
def adrFrom (A : Option Addr) (m k size : Nat) : Option Addr := if m = k then A else A.map (·.add (k * size))
section
variable {P : Program} {w w' : World} {ops : Array Oper} {rest : List Oper} {o : Oper} {a : Act} {Q : Exit → Act → World → Prop} {v : Value}
theorem at_slice (t : TypeId) {d : Option Tmp} {x : Operand} {l h m : Option Operand} {ty : TypeId} {ps : String} {af : Array _} {g : Option (Tmp × Bool)} (hh : wpList P ops Q ({ dst := d, op := .slice t x l h m, type := ty, pos := ps, after := af, guard := g } :: rest) a w) :
    wpList P ops Q ({ dst := d, op := .slice t x l h m, type := ty, pos := ps, after := af, guard := g } :: rest) a w := hh
end
theorem run_sliceBound {P : Program} {w : World} (k : IntKind) (i y : Nat) (c : BoundsCode) (h : i ≤ y) : (Instr.sliceBound (.int k (i : Int)) y c).run P w = .ok i w := by
  simp only [Instr.sliceBound, asIntOf, Sem.run_bind, Sem.run_pure, Result.andThen_ok]
  rw [if_pos (by omega)]
  simp [Sem.run_pure]
theorem run_sizeOf {P : Program} {w : World} {e : TypeId} {k : Nat} (h : (P.info? e).map (·.size) = some k) : (sizeOf e).run P w = .ok k w := by
  cases hq : P.info? e with
  | none => simp [hq] at h
  | some i =>
    have hs : i.size = k := by simpa [hq] using h
    simp [sizeOf, typeInfo, hq, Sem.run_bind, hs, Sem.run_pure]
/-- x[i:] of a slice. -/
theorem run_slice_from {P : Program} {w : World} (t e : TypeId) (ht : P.underlying t = some (.slice e)) {k : Nat} (he : (P.info? e).map (·.size) = some k) (A : Option Addr) (n c : Nat) (ki : IntKind) (i : Nat) (hi : i ≤ n) :
    (Instr.slice t (.slice A n c) (some (.int ki (i : Int))) none none).run P w = .ok (.slice (adrFrom A c i k) (n - i) (c - i)) w := by
  simp only [Instr.slice, Instr.sliceBounds, Sem.run_bind, run_underlying ht, Result.andThen_ok, Sem.run_pure, run_sliceBound ki i n _ hi, run_sizeOf he, adrFrom]
/-- x[:j] of a slice. -/
theorem run_slice_to {P : Program} {w : World} (t e : TypeId) (ht : P.underlying t = some (.slice e)) {k : Nat} (he : (P.info? e).map (·.size) = some k) (A : Option Addr) (n c : Nat) (ki : IntKind) (j : Nat) (hj : j ≤ c) :
    (Instr.slice t (.slice A n c) none (some (.int ki (j : Int))) none).run P w = .ok (.slice (adrFrom A c 0 k) j c) w := by
  simp only [Instr.slice, Instr.sliceBounds, Sem.run_bind, run_underlying ht, Result.andThen_ok, Sem.run_pure, run_sliceBound ki j c _ hj, run_sizeOf he, adrFrom]
  simp
theorem adrFrom_zero (A : Option Addr) (c k : Nat) : adrFrom A c 0 k = A := by
  unfold adrFrom
  split
  · rfl
  · cases A with
    | none => rfl
    | some a => cases a; simp [Addr.add]
/-- x[i:j] of a slice. -/
theorem run_slice_mid {P : Program} {w : World} (t e : TypeId) (ht : P.underlying t = some (.slice e)) {k : Nat} (he : (P.info? e).map (·.size) = some k) (A : Option Addr) (n c : Nat) (ki kj : IntKind) (i j : Nat) (hi : i ≤ j) (hj : j ≤ c) :
    (Instr.slice t (.slice A n c) (some (.int ki (i : Int))) (some (.int kj (j : Int))) none).run P w = .ok (.slice (adrFrom A c i k) (j - i) (c - i)) w := by
  simp only [Instr.slice, Instr.sliceBounds, Sem.run_bind, run_underlying ht, Result.andThen_ok, Sem.run_pure, run_sliceBound kj j c _ hj, run_sliceBound ki i j _ hi, run_sizeOf he, adrFrom]
theorem run_sliceAt_of {P : Program} {w : World} (t e : TypeId) (ht : P.underlying t = some (.slice e)) (x : Value) (lo hi mx : Option Value) :
    (Instr.sliceAt t x lo hi mx).run P w = (Instr.slice t x lo hi mx).run P w := by
  simp [Instr.sliceAt, run_underlying ht]
theorem ex_slice_from {P : Program} {w : World} (t e : TypeId) (ht : P.underlying t = some (.slice e)) {k : Nat} (he : (P.info? e).map (·.size) = some k) (A : Option Addr) (n c : Nat) (ki : IntKind) (i : Nat) (hi : i ≤ n) (ev : Operand → Value) (o : Oper) (x y : Operand) (hx : ev x = .slice A n c) (hy : ev y = .int ki (i : Int)) (ho : o.op = .slice t x (some y) none none) :
    (execOp ev o).run P w = .ok (.value (.slice (adrFrom A c i k) (n - i) (c - i))) w := by
  unfold execOp
  simp only [ho, hx, hy, Sem.run_bind, Option.map_some, Option.map_none, run_sliceAt_of t e ht, run_slice_from t e ht he A n c ki i hi, Result.andThen_ok, Sem.run_pure]
theorem ex_slice_to {P : Program} {w : World} (t e : TypeId) (ht : P.underlying t = some (.slice e)) {k : Nat} (he : (P.info? e).map (·.size) = some k) (A : Option Addr) (n c : Nat) (ki : IntKind) (j : Nat) (hj : j ≤ c) (ev : Operand → Value) (o : Oper) (x y : Operand) (hx : ev x = .slice A n c) (hy : ev y = .int ki (j : Int)) (ho : o.op = .slice t x none (some y) none) :
    (execOp ev o).run P w = .ok (.value (.slice A j c)) w := by
  unfold execOp
  simp only [ho, hx, hy, Sem.run_bind, Option.map_some, Option.map_none, run_sliceAt_of t e ht, run_slice_to t e ht he A n c ki j hj, Result.andThen_ok, Sem.run_pure, adrFrom_zero]
theorem ex_slice_mid {P : Program} {w : World} (t e : TypeId) (ht : P.underlying t = some (.slice e)) {k : Nat} (he : (P.info? e).map (·.size) = some k) (A : Option Addr) (n c : Nat) (ki kj : IntKind) (i j : Nat) (hi : i ≤ j) (hj : j ≤ c) (ev : Operand → Value) (o : Oper) (x y z : Operand) (hx : ev x = .slice A n c) (hy : ev y = .int ki (i : Int)) (hz : ev z = .int kj (j : Int)) (ho : o.op = .slice t x (some y) (some z) none) :
    (execOp ev o).run P w = .ok (.value (.slice (adrFrom A c i k) (j - i) (c - i))) w := by
  unfold execOp
  simp only [ho, hx, hy, hz, Sem.run_bind, Option.map_some, Option.map_none, run_sliceAt_of t e ht, run_slice_mid t e ht he A n c ki kj i j hi hj, Result.andThen_ok, Sem.run_pure]
theorem Bytes.from_ {w : World} {P : Nat → Prop} {A : Option Addr} {l : List UInt8} (h : Bytes w P A l) (n c : Nat) (hn : n ≤ l.length) (hc : l.length ≤ c) : Bytes w P (adrFrom A c n 1) (l.drop n) := by
  have := h.drop n c hn hc
  unfold adrFrom
  rwa [Nat.mul_one]
theorem eql_ptr_same {P : Program} {tp te : TypeId} (hp : P.underlying tp = some (.pointer te)) (hs : (P.info? te).isSome = true) (a : Addr) (w : World) :
    (binOp .eql tp (.pointer (some a)) (.pointer (some a))).run P w = .ok (.bool true) w := by
  obtain ⟨j, hj⟩ := Option.isSome_iff_exists.1 hs
  exact run_eql_ptr_same w a hp hj
theorem eql_ptr_other {P : Program} {tp te : TypeId} (hp : P.underlying tp = some (.pointer te)) {k : Nat} (hs : (P.info? te).map (·.size) = some (k + 1)) {w : World} {a b : Addr} {ca cb : Array Value} {ta tb : TypeId} (hne : a ≠ b) (ha : w.heap[a.block]? = some (.cells ca ta (0, 0))) (hb : w.heap[b.block]? = some (.cells cb tb (0, 0))) :
    (binOp .eql tp (.pointer (some a)) (.pointer (some b))).run P w = .ok (.bool false) w := by
  cases hq : P.info? te with
  | none => simp [hq] at hs
  | some j =>
    have hj : j.size = k + 1 := by simpa [hq] using hs
    exact run_eql_ptr_other w hp hq (by omega) hne ha hb
/-- A load of a whole value out of a block that is known whole. -/
theorem wl_load_row {P : Program} {ops : Array Oper} {rest : List Oper} {o : Oper} {a : Act} {w : World} {Q : Exit → Act → World → Prop} (hgd : o.guard = none) (ty : TypeId) (x : Operand) (ho : o.op = .load ty x)
    (g : Nat) (hx : a.eval x = .pointer (some ⟨g, 0, none⟩)) (cs : Array Value) {t : TypeId} {fr : Nat × Nat} (hb : w.heap[g]? = some (.cells cs t fr))
    (hu : (P.underlying ty).map (fun d => match d with | .struct _ | .array _ _ => true | _ => false) = some true) {k : Nat} (hi : (P.info? ty).map (·.size) = some k) (hk : cs.size = k)
    (h : wpList P ops Q rest (a.put o.dst (.agg cs)) w) : wpList P ops Q (o :: rest) a w := by
  cases hd : P.underlying ty with
  | none => simp [hd] at hu
  | some d =>
    rw [hd] at hu
    refine wpList_load_cells hgd ty x ho g hx cs d (fun j v hv => ?_) hd (by cases d <;> simp_all) (by rw [hi, hk]) h
    rw [cell_of_row _ _ _ _ _ _ hb]
    exact hv
theorem ex_store_row {P : Program} {w : World} (t : TypeId) (g : Nat) (c c' : Array Value) {t' : TypeId} (hb : w.heap[g]? = some (.cells c t' (0, 0))) {k : Nat} (hi : (P.info? t).map (·.size) = some k) (hs : c.size = k) (hs' : c'.size = k) (h1 : c'.all (·.oneCell') = true)
    (ev : Operand → Value) (o : Oper) (x y : Operand) (hx : ev x = .pointer (some ⟨g, 0, none⟩)) (hy : ev y = .agg c') (ho : o.op = .store t x y) : (execOp ev o).run P w = .ok .skip (w.setRow g c') := by
  unfold execOp
  simp only [ho, hx, hy, Instr.storeAt, Instr.sureAddr, Sem.run_bind, Sem.run_pure, Result.andThen_ok, run_storeVar_row w g t' t c c' hb (hs' ▸ hi) (hs.trans hs'.symm) h1]
end Go.Proofs.YtfkpeahelhpelaaDoor
