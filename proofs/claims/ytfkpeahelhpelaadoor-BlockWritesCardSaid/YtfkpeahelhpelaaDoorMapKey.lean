/- Maps whose keys are pairs of whole numbers: look-up and store, as the model runs them. -/
import Derived.Test.YtfkpeahelhpelaaDoorBase
import Derived.MapKept
namespace Go.Proofs.YtfkpeahelhpelaaDoor
set_option linter.all false
open Go.RowKit

/-- The first entry that fits, and its place. -/
def firstFit (p : MapEntry → Bool) : List MapEntry → Nat → Option (Nat × Value)
  | [], _ => none
  | e :: es, i => if p e then some (i, e.val) else firstFit p es (i + 1)

theorem run_findAsking {P : Program} {w : World} {K : TypeId} {k : Value} {p : MapEntry → Bool} : ∀ (es : List MapEntry) (i : Nat), (∀ e ∈ es, (Op.equal K k e.key).run P w = .ok (p e) w) →
    (Instr.findAsking K k es i).run P w = .ok (firstFit p es i) w := by
  intro es
  induction es with
  | nil => intro i _; rfl
  | cons e es ih =>
    intro i h
    have h0 := h e (by simp)
    simp only [Instr.findAsking, Sem.run_bind, h0, Result.andThen_ok, firstFit]
    cases p e with
    | true => rfl
    | false => exact ih (i + 1) (fun e' he => h e' (by simp [he]))

theorem findNow_struct (fs : Array Field) (k : Value) (e : MapEntry) (es : List MapEntry) (i : Nat) : Instr.findNow (.struct fs) k (e :: es) i = none := by
  simp [Instr.findNow, Instr.sameNow]

theorem run_findKey_struct {P : Program} {w : World} {K : TypeId} (hK : (P.underlying K).map (fun d => match d with | .struct _ => true | _ => false) = some true) {k : Value} {p : MapEntry → Bool} (es : List MapEntry) (h : ∀ e ∈ es, (Op.equal K k e.key).run P w = .ok (p e) w) :
    (Instr.findKey K k es).run P w = .ok (firstFit p es 0) w := by
  obtain ⟨fs, hK⟩ : ∃ fs, P.underlying K = some (.struct fs) := by
    cases hd : P.underlying K with
    | none => simp [hd] at hK
    | some d => cases d <;> simp_all
  unfold Instr.findKey
  rw [Sem.run_bind, run_underlying hK w]
  simp only [Result.andThen_ok]
  cases es with
  | nil => simp [Instr.findNow, firstFit]
  | cons e es =>
    rw [findNow_struct]
    exact run_findAsking _ _ h

section
variable {P : Program} {w : World} {T K E : TypeId} {r : Nat} {es : Array MapEntry} {clock : Nat} {k : Value} {p : MapEntry → Bool}
theorem run_lookup_struct (hT : P.underlying T = some (.map K E)) (hK : (P.underlying K).map (fun d => match d with | .struct _ => true | _ => false) = some true) (hr : w.heap[r]? = some (.map es clock)) (hck : ∀ b, (Instr.checkKey b 10000 K k).run P w = .ok () w)
    (h : ∀ e ∈ es.toList, (Op.equal K k e.key).run P w = .ok (p e) w) (z : Value) (hz : (zeroValue E).run P w = .ok z w) :
    (Instr.lookup T (.map (some r)) k true).run P w = .ok (match firstFit p es.toList 0 with | some (_, v) => .tuple #[v, .bool true] | none => .tuple #[z, .bool false]) w := by
  unfold Instr.lookup
  simp only [Sem.run_bind, run_underlying hT w, Result.andThen_ok, MapKept.run_getObj_map hr, Sem.run_pure, hck, run_findKey_struct hK es.toList h]
  cases firstFit p es.toList 0 with
  | none => simp [hz]
  | some x => simp
theorem run_mapUpdate_new (hT : P.underlying T = some (.map K E)) (hK : (P.underlying K).map (fun d => match d with | .struct _ => true | _ => false) = some true) (hr : w.heap[r]? = some (.map es clock)) (hck : ∀ b, (Instr.checkKey b 10000 K k).run P w = .ok () w)
    (h : ∀ e ∈ es.toList, (Op.equal K k e.key).run P w = .ok false w) (v : Value) :
    (Instr.mapUpdate T (.map (some r)) k v).run P w = .ok () { w with heap := w.heap.setIfInBounds r (.map (es.push { key := k, val := v, born := clock }) (clock + 1)) } := by
  have hff : ∀ (l : List MapEntry) (i : Nat), firstFit (fun _ => false) l i = none := by
    intro l
    induction l with
    | nil => intro i; rfl
    | cons e l ih => intro i; simp [firstFit, ih]
  unfold Instr.mapUpdate
  simp only [Sem.run_bind, run_underlying hT w, Result.andThen_ok, MapKept.run_getObj_map hr, hck, run_findKey_struct (p := fun _ => false) hK es.toList h, hff]
  exact MapKept.run_setObj_map _ hr
end
end Go.Proofs.YtfkpeahelhpelaaDoor
