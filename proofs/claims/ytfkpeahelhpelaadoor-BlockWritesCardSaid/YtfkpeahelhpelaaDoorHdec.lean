/- The text of bytes (layer 4): what huff.Decode comes to. -/
import Derived.Test.YtfkpeahelhpelaaDoorHuffT
import Derived.Test.YtfkpeahelhpelaaDoorBits
import Derived.Maps.AppendAt
import Derived.Deep.AppendLies
import Derived.Sort.QuietIn
namespace Go.Proofs.YtfkpeahelhpelaaDoor
set_option linter.all false
open Go.RowKit Go.Shelf
attribute [local go_sem] Oper.semAt_some

def valP : List Bool → Nat := fun p => p.foldl (fun n b => 2 * n + (if b then 1 else 0)) 0
def codeP (p : List Bool) : Int := wrap64 (valP p : Int)
/-- The state behind bits: those that wait, and the text. -/
def hgo (F : Int → Int → Option Nat) (most : Int) : List Bool → List Bool → List UInt8 → List UInt8 × Nat
  | [], p, out => if 8 ≤ p.length ∨ codeP p ≠ 2 ^ p.length - 1 then ([], 3) else (out, 0)
  | b :: r, p, out =>
    match F (codeP (p ++ [b])) ((p ++ [b]).length : Int) with
    | none => hgo F most r (p ++ [b]) out
    | some c => if c = 256 then ([], 3) else if most ≤ (out.length : Int) then ([], 4) else hgo F most r [] (out ++ [UInt8.ofNat c])
def hdec (most : Int) (l : List UInt8) : List UInt8 × Nat := hgo fit most (bitsOf l) [] []

theorem wrap64_eq (x y : Int) (h : ∃ k : Int, x - y = 18446744073709551616 * k) : wrap64 x = wrap64 y := by
  obtain ⟨k, h⟩ := h
  have : x = y + 18446744073709551616 * k := by omega
  subst this
  simp only [wrap64]
  omega
/-- What a shift and an or come to. -/
theorem code_step (p : List Bool) (b : Bool) : bits .or .i64 (wrap64 (codeP p * 2)) (bitI b) = codeP (p ++ [b]) := by
  have hv : valP (p ++ [b]) = 2 * valP p + (if b then 1 else 0) := by simp [valP]
  have h1 : bits .or .i64 (wrap64 (codeP p * 2)) (bitI b) = IntKind.i64.wrap ((BitVec.ofInt 64 (wrap64 (codeP p * 2)) ||| BitVec.ofInt 64 (bitI b)).toNat : Int) := rfl
  have h2 : (BitVec.ofInt 64 (wrap64 (codeP p * 2))).toNat = 2 * (valP p % 9223372036854775808) := by
    rw [BitVec.toNat_ofInt]
    simp only [codeP, wrap64]
    omega
  have h3 : (BitVec.ofInt 64 (bitI b)).toNat = if b then 1 else 0 := by cases b <;> rfl
  have h4 : (2 * (valP p % 9223372036854775808)) ||| (if b then 1 else 0) = 2 * (valP p % 9223372036854775808) + (if b then 1 else 0) := by
    have := Nat.shiftLeft_add_eq_or_of_lt (i := 1) (b := if b then 1 else 0) (by cases b <;> decide) (valP p % 9223372036854775808)
    rw [Nat.shiftLeft_eq] at this
    rw [show 2 * (valP p % 9223372036854775808) = valP p % 9223372036854775808 * 2 ^ 1 by omega, this]
  rw [h1, BitVec.toNat_or, h2, h3, h4, IntKind.wrap_i64, show codeP (p ++ [b]) = wrap64 ((valP (p ++ [b]) : Nat) : Int) from rfl, hv]
  simp only [wrap64]
  cases b <;> simp <;> omega
theorem tab_look (a b : Int) (M : Nat) (w : World) (hM : w.heap[M]? = some (.map (tabE 257) 257)) (ev : Operand → Value) (o : Oper) (x y : Operand) (hx : ev x = .map (some M)) (hy : ev y = .agg #[.int .i64 a, .int .i64 b]) (ho : o.op = .lookup 122 x y true := by rfl) :
    (execOp ev o).run Tryd.prog w = .ok (.value (.tuple #[.int .i64 (((fit a b).getD 0 : Nat) : Int), .bool (fit a b).isSome])) w := by
  unfold execOp
  simp only [ho, hx, hy, Sem.run_bind, tab_lookup a b M w hM, Result.andThen_ok, Sem.run_pure]
theorem hgo_none {F : Int → Int → Option Nat} {most : Int} {b : Bool} {r p q : List Bool} {out : List UInt8} {D : List UInt8 × Nat} (h : hgo F most (b :: r) p out = D) (hq : q = p ++ [b]) (hf : F (codeP q) (q.length : Int) = none) : hgo F most r q out = D := by
  subst hq
  rw [hgo, hf] at h
  exact h
theorem hgo_some {F : Int → Int → Option Nat} {most : Int} {b : Bool} {r p q : List Bool} {out : List UInt8} {k : Nat} {D : List UInt8 × Nat} (h : hgo F most (b :: r) p out = D) (hq : q = p ++ [b]) (hf : F (codeP q) (q.length : Int) = some k) :
    (if k = 256 then ([], 3) else if most ≤ (out.length : Int) then ([], 4) else hgo F most r [] (out ++ [UInt8.ofNat k])) = D := by
  subst hq
  rw [hgo, hf] at h
  exact h

theorem codeP_nil : codeP [] = 0 := by decide +kernel
structure HSt (n n1 M : Nat) (most : Int) (A : Option Addr) (len c : Nat) (r : Loop) (w W : World) (p : List Bool) (v : Value) : Prop where
  b0 : W.heap[n]? = some (.cells #[.int .i64 most] 3 (0, 0))
  b1 : W.heap[n + 1]? = some (.cells #[.slice none 0 0] 30 (0, 0))
  b2 : W.heap[n + 2]? = some (.cells #[.int .i64 0] 25 (0, 0))
  b3 : W.heap[n1]? = some (.cells #[.map (some M)] 122 (0, 0))
  bm : W.heap[M]? = some (.map (tabE 257) 257)
  b4 : W.heap[n1 + 1]? = some (.cells #[v] 30 (0, 0))
  b5 : W.heap[n1 + 2]? = some (.cells #[.int .i64 (codeP p), .int .i64 (p.length : Int)] 125 (0, 0))
  b6 : W.heap[n1 + 3]? = some (.cells #[.slice A len c] 30 (0, 0))
  b7 : W.heap[n1 + 4]? = some (.deferred (some []))
  b8 : W.heap[n1 + 5]? = some (.loop r)
  bl : Below n w W
  ms : n + 3 ≤ M
  m1 : M < n1

section
variable {n n1 M : Nat} {most : Int} {A : Option Addr} {len c : Nat} {r r' : Loop} {w W W' : World} {p p' : List Bool} {v v' : Value}
theorem HSt.size (h : HSt n n1 M most A len c r w W p v) : n1 + 6 ≤ W.heap.size := blk_lt h.b8
theorem HSt.rcd (h : HSt n n1 M most A len c r w W p v) (r' : Loop) : HSt n n1 M most A len c r' w (W.putObj (n1 + 5) (.loop r')) p v := by
  have h1 := h.ms; have h2 := h.m1; have hz := h.size
  have ot : ∀ {k : Nat} {o : Obj}, k ≠ n1 + 5 → W.heap[k]? = some o → (W.putObj (n1 + 5) (.loop r')).heap[k]? = some o := fun hk ho => (World.putObj_heap_other hk).trans ho
  exact ⟨ot (by omega) h.b0, ot (by omega) h.b1, ot (by omega) h.b2, ot (by omega) h.b3, ot (by omega) h.bm, ot (by omega) h.b4, ot (by omega) h.b5, ot (by omega) h.b6, ot (by omega) h.b7, World.putObj_heap_same (by omega),
    h.bl.trans ⟨rfl, rfl, rfl, by simp, fun k hk => World.putObj_heap_other (by omega)⟩, h1, h2⟩
theorem HSt.key (h : HSt n n1 M most A len c r w W p v) (p' : List Bool) : HSt n n1 M most A len c r w (W.setRow (n1 + 2) #[.int .i64 (codeP p'), .int .i64 (p'.length : Int)]) p' v := by
  have h1 := h.ms; have h2 := h.m1; have hz := h.size
  have ot : ∀ {k : Nat} {o : Obj}, k ≠ n1 + 2 → W.heap[k]? = some o → (W.setRow (n1 + 2) #[.int .i64 (codeP p'), .int .i64 (p'.length : Int)]).heap[k]? = some o := fun hk ho => (setRow_other _ _ _ _ hk).trans ho
  exact ⟨ot (by omega) h.b0, ot (by omega) h.b1, ot (by omega) h.b2, ot (by omega) h.b3, ot (by omega) h.bm, ot (by omega) h.b4, setRow_heap _ _ _ _ _ _ h.b5, ot (by omega) h.b6, ot (by omega) h.b7, ot (by omega) h.b8,
    h.bl.trans ⟨rfl, rfl, rfl, by simp, fun k hk => setRow_other _ _ _ _ (by omega)⟩, h1, h2⟩
theorem HSt.key0 (h : HSt n n1 M most A len c r w W p v) : HSt n n1 M most A len c r w (W.setRow (n1 + 2) #[.int .i64 0, .int .i64 0]) [] v := by
  have := h.key []
  rwa [codeP_nil, show (([] : List Bool).length : Int) = 0 by rfl] at this
theorem HSt.out (h : HSt n n1 M most A len c r w W p v) (v' : Value) : HSt n n1 M most A len c r w (W.setCell ⟨n1 + 1, 0, none⟩ v') p v' := by
  have h1 := h.ms; have h2 := h.m1; have hz := h.size
  have ot : ∀ {k : Nat} {o : Obj}, k ≠ n1 + 1 → W.heap[k]? = some o → (W.setCell ⟨n1 + 1, 0, none⟩ v').heap[k]? = some o := fun hk ho => (heap_setCell_off hk _).trans ho
  exact ⟨ot (by omega) h.b0, ot (by omega) h.b1, ot (by omega) h.b2, ot (by omega) h.b3, ot (by omega) h.bm, heap_setCell_1 h.b4 _, ot (by omega) h.b5, ot (by omega) h.b6, ot (by omega) h.b7, ot (by omega) h.b8,
    h.bl.setCell (by show n ≤ n1 + 1; omega) _, h1, h2⟩
theorem HSt.grow (h : HSt n n1 M most A len c r w W p v) (o : Obj) {row : Option Nat} (hg : (W.alloc o).grownBy W' row) (hr : ∀ g, row = some g → n1 + 6 ≤ g) : HSt n n1 M most A len c r w W' p v := by
  have h1 := h.ms; have h2 := h.m1; have hz := h.size
  have ot : ∀ {k : Nat} {o' : Obj}, k < n1 + 6 → W.heap[k]? = some o' → W'.heap[k]? = some o' := fun hk ho => grown_blk hg (blk_alloc ho _) (fun e => by have := hr _ e.symm; omega)
  exact ⟨ot (by omega) h.b0, ot (by omega) h.b1, ot (by omega) h.b2, ot (by omega) h.b3, ot (by omega) h.bm, ot (by omega) h.b4, ot (by omega) h.b5, ot (by omega) h.b6, ot (by omega) h.b7, ot (by omega) h.b8,
    (h.bl.alloc (by omega) o).trans (grown_below hg (by simp; omega) (fun g hg' => by have := hr g hg'; omega)), h1, h2⟩
theorem HSt.early (h : HSt n n1 M most A len c r w W p v) (x : Nat) (r' : Loop) :
    (((W.setCell ⟨n + 1, 0, none⟩ (.slice none 0 0)).setCell ⟨n + 2, 0, none⟩ (.int .i64 (x : Int))).putObj (n1 + 5) (.loop r')).heap[n + 1]? = some (.cells #[.slice none 0 0] 30 (0, 0)) ∧
    (((W.setCell ⟨n + 1, 0, none⟩ (.slice none 0 0)).setCell ⟨n + 2, 0, none⟩ (.int .i64 (x : Int))).putObj (n1 + 5) (.loop r')).heap[n + 2]? = some (.cells #[.int .i64 (x : Int)] 25 (0, 0)) ∧
    (((W.setCell ⟨n + 1, 0, none⟩ (.slice none 0 0)).setCell ⟨n + 2, 0, none⟩ (.int .i64 (x : Int))).putObj (n1 + 5) (.loop r')).heap[n1 + 4]? = some (.deferred (some [])) ∧
    (((W.setCell ⟨n + 1, 0, none⟩ (.slice none 0 0)).setCell ⟨n + 2, 0, none⟩ (.int .i64 (x : Int))).putObj (n1 + 5) (.loop r')).heap[n1 + 5]? = some (.loop r') ∧
    Below n w (((W.setCell ⟨n + 1, 0, none⟩ (.slice none 0 0)).setCell ⟨n + 2, 0, none⟩ (.int .i64 (x : Int))).putObj (n1 + 5) (.loop r')) := by
  have h1 := h.ms; have h2 := h.m1; have hz := h.size
  refine ⟨?_, ?_, ?_, ?_, ?_⟩
  · exact ((World.putObj_heap_other (by omega)).trans (heap_setCell_off (by simp) _)).trans (heap_setCell_1 h.b1 _)
  · exact (World.putObj_heap_other (by omega)).trans (heap_setCell_1 ((heap_setCell_off (by simp) _).trans h.b2) _)
  · exact ((World.putObj_heap_other (by omega)).trans (heap_setCell_off (by simp; omega) _)).trans ((heap_setCell_off (by simp; omega) _).trans h.b7)
  · exact World.putObj_heap_same (by simp; omega)
  · exact ((h.bl.setCell (by simp) _).setCell (by simp) _).trans ⟨rfl, rfl, rfl, by simp, fun k hk => World.putObj_heap_other (by omega)⟩
/-- The last world. -/
def lastW (n n1 : Nat) (W : World) (u : Value) (x : Int) : World := ((W.setCell ⟨n + 1, 0, none⟩ u).setCell ⟨n + 2, 0, none⟩ (.int .i64 x))
theorem last_facts {u0 : Value} {x0 : Int} {u : Value} {x : Int} {t1 t2 : TypeId} (hn : n + 3 ≤ n1) (b1 : W.heap[n + 1]? = some (.cells #[u0] t1 (0, 0))) (b2 : W.heap[n + 2]? = some (.cells #[.int .i64 x0] t2 (0, 0))) (b7 : W.heap[n1 + 4]? = some (.deferred (some []))) (bl : Below n w W) (k : Nat) :
    (((W.drewN k).setCell ⟨n + 1, 0, none⟩ u).setCell ⟨n + 2, 0, none⟩ (.int .i64 x)).heap[n1 + 4]? = some (.deferred (some [])) ∧
    ((((W.drewN k).setCell ⟨n + 1, 0, none⟩ u).setCell ⟨n + 2, 0, none⟩ (.int .i64 x)).putObj (n1 + 4) (.deferred none)).cell? ⟨n + 1, 0, none⟩ = some u ∧
    ((((W.drewN k).setCell ⟨n + 1, 0, none⟩ u).setCell ⟨n + 2, 0, none⟩ (.int .i64 x)).putObj (n1 + 4) (.deferred none)).cell? ⟨n + 2, 0, none⟩ = some (.int .i64 x) ∧
    Below n w ((((W.drewN k).setCell ⟨n + 1, 0, none⟩ u).setCell ⟨n + 2, 0, none⟩ (.int .i64 x)).putObj (n1 + 4) (.deferred none)) ∧
    (∀ {base e size m v xs}, n1 + 6 ≤ base → W.ownsRow base e size v m xs → ((((W.drewN k).setCell ⟨n + 1, 0, none⟩ u).setCell ⟨n + 2, 0, none⟩ (.int .i64 x)).putObj (n1 + 4) (.deferred none)).ownsRow n e size v m xs) := by
  have hz := blk_lt b7
  have d1 : (W.drewN k).heap[n + 1]? = some (.cells #[u0] t1 (0, 0)) := b1
  have d2 : (W.drewN k).heap[n + 2]? = some (.cells #[.int .i64 x0] t2 (0, 0)) := b2
  have d7 : (W.drewN k).heap[n1 + 4]? = some (.deferred (some [])) := b7
  refine ⟨?_, ?_, ?_, ?_, ?_⟩
  · exact (heap_setCell_off (by simp; omega) _).trans ((heap_setCell_off (by simp; omega) _).trans d7)
  · exact (cell1 (((World.putObj_heap_other (by omega)).trans (heap_setCell_off (by simp) _)).trans (heap_setCell_1 d1 _))).1
  · exact (cell1 ((World.putObj_heap_other (by omega)).trans (heap_setCell_1 ((heap_setCell_off (by simp) _).trans d2) _))).1
  · exact (((bl.trans ⟨rfl, rfl, rfl, Nat.le_refl _, fun _ _ => rfl⟩ : Below n w (W.drewN k)).setCell (by simp) _).setCell (by simp) _).trans ⟨rfl, rfl, rfl, by simp, fun k hk => World.putObj_heap_other (by omega)⟩
  · intro base e size m v xs hb h
    have h' : (W.drewN k).ownsRow base e size v m xs := own_keep h fun _ _ _ => rfl
    exact own_mono (own_putObj (own_setCell (own_setCell h' (show n + 1 < base by omega) _) (show n + 2 < base by omega) _) (by omega) _) (by omega)
end
theorem u8_info : (Tryd.prog.info? 5).map (fun i => (i.zero, i.size, i.bytes)) = some (some (.int .u8 0), 1, 1) := by kernel_rfl

theorem own_snoc {W : World} {B : Nat} {v : Value} {out : List UInt8} {k : Nat} (h : W.ownsRow B 5 1 v (out.length + 1) (out.map bv ++ [.int .u8 (k : Int)])) (hk : k < 256) : W.ownsRow B 5 1 v (out ++ [UInt8.ofNat k]).length ((out ++ [UInt8.ofNat k]).map bv) := by
  have e : bv (UInt8.ofNat k) = .int .u8 (k : Int) := by simp [bv]; omega
  rw [List.length_append, List.map_append, List.map_cons, e]
  exact h
theorem bitsOf_length : ∀ l : List UInt8, (bitsOf l).length = 8 * l.length
  | [] => rfl
  | c :: r => by simp [bitsOf, lowBits, bitsOf_length r]; omega
theorem new_at {w : World} {o : Obj} {k : Nat} (h : w.heap.size = k) : (w.alloc o).heap[k]? = some o := h ▸ heap_alloc_new w o

set_option maxRecDepth 100000 in
set_option maxHeartbeats 4000000 in
theorem hdec_any (A : Option Addr) (l : List UInt8) (c : Nat) (most : Int) (w : World) {P : Nat → Prop} (hb : Bytes w P A l) (hc : l.length ≤ c) (hl : l.length ≤ 17592186044415) (hL : LaidLens w) :
    Calls Tryd.prog 71 #[.slice A l.length c, .int .i64 most] w fun e w' => ∃ v, e = .returned (.tuple #[v, .int .i64 ((hdec most l).2 : Nat)]) ∧ w'.ownsRow w.heap.size 5 1 v (hdec most l).1.length ((hdec most l).1.map bv) ∧ Below w.heap.size w w' := by
  refine (callsIn_wide (n := 3)).1 ?_
  refine callsIn_of_wp_marks Tryd.func71 rfl trivial ?_ rfl
  simp only [Tryd.ntmps71, List.size_toArray, List.length_cons, List.length_nil, Nat.reduceAdd, Nat.reduceSub, Array.replicate_succ, Array.replicate_zero, List.push_toArray, List.append_toArray, List.nil_append, List.cons_append]
  gi_wp2_with fail
  refine ⟨trivial, (callsIn_wide.2 (texts_any _ (hL.below (bl_alloc (bl_alloc (bl_alloc (Below.refl _ _) _) _) _)))).mono ?_⟩
  rintro e w1 ⟨M, rfl, hM, hMs, hb1⟩
  gi_wp2_with fail
  refine ⟨trivial, (callsIn_wide.2 (bits_any _ _ _ _)).mono ?_⟩
  rintro e w2 ⟨rfl, rfl⟩
  gi_wp2_with fail
  obtain ⟨n, hn⟩ : ∃ n, n = w.heap.size := ⟨_, rfl⟩
  obtain ⟨n1, hn1⟩ : ∃ n1, n1 = w1.heap.size := ⟨_, rfl⟩
  simp only [← hn, ← hn1, Nat.add_assoc, Nat.reduceAdd]
  refine range_at (D := n1 + 4) (by decide) 85 #[.pointer (some ⟨n1 + 3, 0, none⟩)] (by subst hn1; rfl) (fun args w => rfl) (by simp [hn1]) ?_
  intro fn R hR
  refine (bits_it _ (n1 + 5) (n1 + 3) c A l (fun r W => ∃ p out v, HSt n n1 M most A l.length c (R .ready none) w W p v ∧ W.ownsRow (n1 + 6) 5 1 v out.length (out.map bv) ∧ hgo fit most r p out = hdec most l ∧ out.length + p.length + r.length ≤ 8 * l.length)
    (fun W => ∃ x, W.heap[n + 1]? = some (.cells #[.slice none 0 0] 30 (0, 0)) ∧ W.heap[n + 2]? = some (.cells #[.int .i64 (x : Nat)] 25 (0, 0)) ∧ W.heap[n1 + 4]? = some (.deferred (some [])) ∧ W.heap[n1 + 5]? = some (.loop (R .done (some .ret))) ∧ hdec most l = ([], x) ∧ Below n w W)
    P (by omega) ?_ ?_ ?_ _ ?_).mono ?_
  · rintro r W ⟨p, out, v, hS, -⟩
    rw [cell_of_row _ _ _ _ _ _ hS.b6]; rfl
  · rintro r W ⟨p, out, v, hS, -⟩
    exact hb.below (hn ▸ hS.bl)
  · rintro b r W ⟨p, out, v, hS, hown, hg, hlen⟩
    refine round_by hR hS.b8 ?_
    clear hR hM hMs hb1 hn1
    rename_i Q0 K0 a0
    clear a0 K0 Q0
    replace hn := Lib.hid hn
    replace hown := Lib.hid hown
    replace hg := Lib.hid hg
    gi_wp2_with fail
    refine ⟨hS.b8, ?_⟩
    replace hS := hS.rcd (R .busy none)
    replace hown := own_putObj hown.out (show n1 + 5 < n1 + 6 by omega) (.loop (R .busy none))
    generalize W.putObj (n1 + 5) (.loop (R .busy none)) = W1 at hS hown ⊢
    have c5 := cells_two hS.b5
    rw [bitV]
    obtain ⟨q, hq⟩ : ∃ q, q = p ++ [b] := ⟨_, rfl⟩
    have hql : q.length = p.length + 1 := by simp [hq]
    replace hql := Lib.hid hql
    have hq' := Lib.hid hq
    clear hq
    rw [List.length_cons] at hlen
    have hps : p.length < 1152921504606846976 := by omega
    replace hlen := Lib.hid hlen
    replace hl := Lib.hid hl
    obtain ⟨va, vc, rfl, hvc⟩ := own_shape hown
    clear hvc
    replace hown := Lib.hid hown
    cases hf : fit (codeP q) (q.length : Int) with
    | none =>
      replace hg := Lib.hid (hgo_none hg.out hq'.out hf)
      gi_wp2_with (first
        | ((with_reducible refine at_storeIn 125 ?_); refine wlIn_store_row rfl (fun _ => trivial) _ _ _ rfl (n1 + 2) _ _ rfl rfl hS.b5 (k := 2) (by kernel_rfl) rfl rfl (by simp [Value.oneCell']) rfl ?_
           rw [code_step, show (p.length : Int) + 1 = ((p ++ [b]).length : Int) by simp, ← hq'.out]
           replace hS := hS.key q
           replace hown := Lib.hid (own_setRow hown.out (show n1 + 2 < n1 + 6 by omega) #[.int .i64 (codeP q), .int .i64 (q.length : Int)])
           generalize W1.setRow (n1 + 2) _ = W2 at hS hown ⊢
           have c0 := cell1 hS.b0
           have c1 := cell1 hS.b1
           have c2 := cell1 hS.b2
           have c3 := cell1 hS.b3
           have c4 := cell1 hS.b4
           have d5 := cells_two hS.b5)
        | ((with_reducible refine at_lookupIn 122 ?_); refine wlIn_val rfl (fun _ => trivial) (fun c hc => by cases hc) (tab_look (codeP q) (q.length : Int) M _ hS.bm _ _ _ _ rfl rfl) ?_; rw [hf]; simp only [Option.getD_none, Option.getD_some, Option.isSome_none, Option.isSome_some]))
      refine ⟨hS.b8, .inl ⟨rfl, q, out, _, hS.rcd _, own_putObj hown.out (show n1 + 5 < n1 + 6 by omega) _, hg.out, by have := hql.out; have := hlen.out; omega⟩⟩
    | some k =>
      replace hg := hgo_some hg.out hq'.out hf
      have hk := fit_lt hf
      by_cases h256 : k = 256
      · subst h256
        rw [if_pos rfl] at hg
        replace hg := Lib.hid hg
        gi_wp2_with (first
          | ((with_reducible refine at_storeIn 125 ?_); refine wlIn_store_row rfl (fun _ => trivial) _ _ _ rfl (n1 + 2) _ _ rfl rfl hS.b5 (k := 2) (by kernel_rfl) rfl rfl (by simp [Value.oneCell']) rfl ?_
             rw [code_step, show (p.length : Int) + 1 = ((p ++ [b]).length : Int) by simp, ← hq'.out]
             replace hS := hS.key q
             replace hown := Lib.hid (own_setRow hown.out (show n1 + 2 < n1 + 6 by omega) #[.int .i64 (codeP q), .int .i64 (q.length : Int)])
             generalize W1.setRow (n1 + 2) _ = W2 at hS hown ⊢
             have c0 := cell1 hS.b0
             have c1 := cell1 hS.b1
             have c2 := cell1 hS.b2
             have c3 := cell1 hS.b3
             have c4 := cell1 hS.b4
             have d5 := cells_two hS.b5)
          | ((with_reducible refine at_lookupIn 122 ?_); refine wlIn_val rfl (fun _ => trivial) (fun c hc => by cases hc) (tab_look (codeP q) (q.length : Int) M _ hS.bm _ _ _ _ rfl rfl) ?_; rw [hf]; simp only [Option.getD_none, Option.getD_some, Option.isSome_none, Option.isSome_some]))
        refine ⟨((heap_setCell_off (by simp; have := hS.ms; have := hS.m1; omega) _).trans (heap_setCell_off (by simp; have := hS.ms; have := hS.m1; omega) _)).trans hS.b8, .inr ⟨rfl, 3, ?_⟩⟩
        obtain ⟨e1, e2, e3, e4, e5⟩ := hS.early 3 (R .done (some .ret))
        exact ⟨e1, e2, e3, e4, hg.out.symm, e5⟩
      · rw [if_neg h256] at hg
        by_cases hfull : most ≤ (out.length : Int)
        · rw [if_pos hfull] at hg
          replace hg := Lib.hid hg
          gi_wp2_with (first
            | ((with_reducible refine at_storeIn 125 ?_); refine wlIn_store_row rfl (fun _ => trivial) _ _ _ rfl (n1 + 2) _ _ rfl rfl hS.b5 (k := 2) (by kernel_rfl) rfl rfl (by simp [Value.oneCell']) rfl ?_
               rw [code_step, show (p.length : Int) + 1 = ((p ++ [b]).length : Int) by simp, ← hq'.out]
               replace hS := hS.key q
               replace hown := Lib.hid (own_setRow hown.out (show n1 + 2 < n1 + 6 by omega) #[.int .i64 (codeP q), .int .i64 (q.length : Int)])
               generalize W1.setRow (n1 + 2) _ = W2 at hS hown ⊢
               have c0 := cell1 hS.b0
               have c1 := cell1 hS.b1
               have c2 := cell1 hS.b2
               have c3 := cell1 hS.b3
               have c4 := cell1 hS.b4
               have d5 := cells_two hS.b5)
            | ((with_reducible refine at_lookupIn 122 ?_); refine wlIn_val rfl (fun _ => trivial) (fun c hc => by cases hc) (tab_look (codeP q) (q.length : Int) M _ hS.bm _ _ _ _ rfl rfl) ?_; rw [hf]; simp only [Option.getD_none, Option.getD_some, Option.isSome_none, Option.isSome_some]))
          refine ⟨((heap_setCell_off (by simp; have := hS.ms; have := hS.m1; omega) _).trans (heap_setCell_off (by simp; have := hS.ms; have := hS.m1; omega) _)).trans hS.b8, .inr ⟨rfl, 4, ?_⟩⟩
          obtain ⟨e1, e2, e3, e4, e5⟩ := hS.early 4 (R .done (some .ret))
          exact ⟨e1, e2, e3, e4, hg.out.symm, e5⟩
        · rw [if_neg hfull] at hg
          have hol : out.length + 1 ≤ 140737488355328 := by have := hlen.out; have := hl.out; omega
          replace hol := Lib.hid hol
          replace hg := Lib.hid hg
          gi_wp2_with (first
            | ((with_reducible refine at_storeIn 125 ?_); refine wlIn_store_row rfl (fun _ => trivial) _ _ _ rfl (n1 + 2) _ _ rfl rfl hS.b5 (k := 2) (by kernel_rfl) rfl rfl (by simp [Value.oneCell']) rfl ?_
               rw [code_step, show (p.length : Int) + 1 = ((p ++ [b]).length : Int) by simp, ← hq'.out]
               replace hS := hS.key q
               replace hown := Lib.hid (own_setRow hown.out (show n1 + 2 < n1 + 6 by omega) #[.int .i64 (codeP q), .int .i64 (q.length : Int)])
               generalize W1.setRow (n1 + 2) _ = W2 at hS hown ⊢
               have c0 := cell1 hS.b0
               have c1 := cell1 hS.b1
               have c2 := cell1 hS.b2
               have c3 := cell1 hS.b3
               have c4 := cell1 hS.b4
               have d5 := cells_two hS.b5)
            | ((with_reducible refine at_lookupIn 122 ?_); refine wlIn_val rfl (fun _ => trivial) (fun c hc => by cases hc) (tab_look (codeP q) (q.length : Int) M _ hS.bm _ _ _ _ rfl rfl) ?_; rw [hf]; simp only [Option.getD_none, Option.getD_some, Option.isSome_none, Option.isSome_some])
            | ((with_reducible refine at_appendIn 30 ?_); refine wlIn_ex rfl (fun _ => trivial) (fun c hc => by cases hc) (ex_append u8_info 30 (by kernel_rfl) rfl (by decide) (n1 + 6) _ _ _ (own_alloc hown.out _) ⟨W2.heap.size, 0, none⟩ 1 1 [.int .u8 (k : Int)] rfl (cell_one_new _ _ _) (by simp [Value.oneCell']) (by have := hol.out; simp only [maxLen]; omega) (by have := hol.out; omega) (by have := hS.size; simp; omega) _ _ _ _ rfl rfl rfl) ?_
               rintro v' W3 ⟨ho, hgr, -⟩
               replace hS := hS.grow _ hgr (fun g hg' => own_block hown.out hg')
               clear hgr hown c0 c1 c2 c3 c4 d5
               obtain ⟨va', vc', rfl, hvc'⟩ := own_shape ho
               clear hvc'
               replace ho := Lib.hid ho
               have c4 := cell1 hS.b4)
            | ((with_reducible refine at_storeIn 125 ?_); refine wlIn_store_row rfl (fun _ => trivial) _ _ _ rfl (n1 + 2) _ _ rfl rfl ((heap_setCell_off (by simp) _).trans hS.b5) (k := 2) (by kernel_rfl) rfl rfl (by simp [Value.oneCell']) rfl ?_))
          have hk256 : k < 256 := by omega
          refine ⟨((setRow_other _ _ _ _ (by omega)).trans (heap_setCell_off (by simp) _)).trans hS.b8, .inl ⟨rfl, [], out ++ [UInt8.ofNat k], _, ((hS.out _).key0).rcd _, own_putObj (own_setRow (own_setCell (own_snoc ho.out hk256) (by simp) _) (by omega) _) (by omega) _, hg.out, by have := hlen.out; simp; omega⟩⟩
  · have z0 : (w.alloc (.cells #[.int .i64 most] 3)).heap.size = n + 1 := by simp [hn]
    have z1 : ((w.alloc (.cells #[.int .i64 most] 3)).alloc (.cells #[.slice none 0 0] 30)).heap.size = n + 2 := by simp [hn]
    have hM3 : n + 3 ≤ M := by rw [World.size_alloc, World.size_alloc, World.size_alloc] at hMs; omega
    have hM1 : M < n1 := hn1 ▸ blk_lt hM
    refine ⟨[], [], .slice none 0 0, ⟨?_, ?_, ?_, ?_, ?_, ?_, ?_, ?_, ?_, ?_, ?_, hM3, hM1⟩, World.ownsRow_nil _ _ _ _, rfl, by simp [bitsOf_length]⟩
    · exact blk_alloc (blk_alloc (blk_alloc (blk_alloc (blk_alloc (blk_alloc (blk_below (blk_alloc (blk_alloc (new_at hn.symm) _) _) hb1) _) _) _) _) _) _
    · exact blk_alloc (blk_alloc (blk_alloc (blk_alloc (blk_alloc (blk_alloc (blk_below (blk_alloc (new_at z0) _) hb1) _) _) _) _) _) _
    · exact blk_alloc (blk_alloc (blk_alloc (blk_alloc (blk_alloc (blk_alloc (blk_below (new_at z1) hb1) _) _) _) _) _) _
    · exact blk_alloc (blk_alloc (blk_alloc (blk_alloc (blk_alloc (new_at hn1.symm) _) _) _) _) _
    · exact blk_alloc (blk_alloc (blk_alloc (blk_alloc (blk_alloc (blk_alloc hM _) _) _) _) _) _
    · exact blk_alloc (blk_alloc (blk_alloc (blk_alloc (new_at (w := _) (by simp only [World.size_alloc, ← hn1])) _) _) _) _
    · rw [codeP_nil]
      exact blk_alloc (blk_alloc (blk_alloc (new_at (by simp only [World.size_alloc, ← hn1])) _) _) _
    · exact blk_alloc (blk_alloc (new_at (by simp only [World.size_alloc, ← hn1])) _) _
    · exact blk_alloc (new_at (by simp only [World.size_alloc, ← hn1])) _
    · exact new_at (by simp only [World.size_alloc, ← hn1])
    · subst hn
      exact bl_alloc (bl_alloc (bl_alloc (bl_alloc (bl_alloc (bl_alloc ((bl_alloc (bl_alloc (bl_alloc (Below.refl _ _) _) _) _).trans (hb1.mono (by simp; omega))) _) _) _) _) _) _
  · rintro e W ⟨⟨u, rfl⟩, ⟨p, out, v, hS, hown, hg, hlen⟩ | ⟨x, h1, h2, h3, h4, hx, hbl⟩⟩
    · refine ⟨⟨u, rfl⟩, .ready, none, hS.b8, by simp, ?_⟩
      replace hS := hS.rcd (R .exhausted none)
      replace hown := own_putObj hown (show n1 + 5 < n1 + 6 by omega) (.loop (R .exhausted none))
      generalize W.putObj (n1 + 5) (.loop (R .exhausted none)) = W1 at hS hown ⊢
      clear hM hMs hb1 hR hn1
      replace hn := Lib.hid hn
      replace hown := Lib.hid hown
      obtain ⟨va, vc, rfl, hvc⟩ := own_shape hown.out
      clear hvc
      have c5 := cells_two hS.b5
      have c1 := cell1 hS.b1
      have c2 := cell1 hS.b2
      have c4 := cell1 hS.b4
      have hp0 : (0 : Int) ≤ p.length := by omega
      have hp9 : (p.length : Int) ≤ 9223372036854775807 := by simp only [List.length_nil] at hlen; omega
      rw [hgo] at hg
      obtain ⟨N, hN⟩ : ∃ N : Int, N = p.length := ⟨_, rfl⟩
      rw [← hN] at c5
      have hlow := fun (h : p.length < 8) => (show N = 0 ∨ N = 1 ∨ N = 2 ∨ N = 3 ∨ N = 4 ∨ N = 5 ∨ N = 6 ∨ N = 7 by omega)
      by_cases hp8 : p.length < 8
      · have hcs := hlow hp8
        clear hlow hp0 hp9
        rcases hcs with h | h | h | h | h | h | h | h
        · subst h
          have hpl : p.length = 0 := by omega
          replace hN := Lib.hid hN
          rw [hpl] at hg
          clear hp8 hlen
          by_cases hcode : codeP p = 0
          · rw [if_neg (by rw [hcode]; decide)] at hg
            replace hg := Lib.hid hg
            replace hpl := Lib.hid hpl
            gi_wp2_with fail
            gi_quiet (fail)
            rename_i nq
            gi_wp2_with fail
            obtain ⟨f1, f2, f3, f4, f5⟩ := last_facts (u := .slice va out.length vc) (x := 0) (by have := hS.ms; have := hS.m1; omega) hS.b1 hS.b2 hS.b7 hS.bl nq
            refine leave_one (v := .tuple #[.slice va out.length vc, .int .i64 0]) rfl f1 (by simp [results, Tryd.results71, go_sem, f2, f3]) ?_
            rw [← hg.out, ← hn.out]
            exact ⟨_, rfl, f5 (Nat.le_refl _) hown.out, f4⟩
          · rw [if_pos (.inr (by simpa using hcode))] at hg
            replace hg := Lib.hid hg
            replace hpl := Lib.hid hpl
            gi_wp2_with fail
            gi_quiet (fail)
            rename_i nq
            gi_wp2_with fail
            obtain ⟨f1, f2, f3, f4, f5⟩ := last_facts (u := .slice none 0 0) (x := 3) (by have := hS.ms; have := hS.m1; omega) hS.b1 hS.b2 hS.b7 hS.bl nq
            refine leave_one (v := .tuple #[.slice none 0 0, .int .i64 3]) rfl f1 (by simp [results, Tryd.results71, go_sem, f2, f3]) ?_
            rw [← hg.out, ← hn.out]
            exact ⟨_, rfl, World.ownsRow_nil _ _ _ _, f4⟩
        · subst h
          have hpl : p.length = 1 := by omega
          replace hN := Lib.hid hN
          rw [hpl] at hg
          clear hp8 hlen
          by_cases hcode : codeP p = 1
          · rw [if_neg (by rw [hcode]; decide)] at hg
            replace hg := Lib.hid hg
            replace hpl := Lib.hid hpl
            gi_wp2_with fail
            gi_quiet (fail)
            rename_i nq
            gi_wp2_with fail
            obtain ⟨f1, f2, f3, f4, f5⟩ := last_facts (u := .slice va out.length vc) (x := 0) (by have := hS.ms; have := hS.m1; omega) hS.b1 hS.b2 hS.b7 hS.bl nq
            refine leave_one (v := .tuple #[.slice va out.length vc, .int .i64 0]) rfl f1 (by simp [results, Tryd.results71, go_sem, f2, f3]) ?_
            rw [← hg.out, ← hn.out]
            exact ⟨_, rfl, f5 (Nat.le_refl _) hown.out, f4⟩
          · rw [if_pos (.inr (by simpa using hcode))] at hg
            replace hg := Lib.hid hg
            replace hpl := Lib.hid hpl
            gi_wp2_with fail
            gi_quiet (fail)
            rename_i nq
            gi_wp2_with fail
            obtain ⟨f1, f2, f3, f4, f5⟩ := last_facts (u := .slice none 0 0) (x := 3) (by have := hS.ms; have := hS.m1; omega) hS.b1 hS.b2 hS.b7 hS.bl nq
            refine leave_one (v := .tuple #[.slice none 0 0, .int .i64 3]) rfl f1 (by simp [results, Tryd.results71, go_sem, f2, f3]) ?_
            rw [← hg.out, ← hn.out]
            exact ⟨_, rfl, World.ownsRow_nil _ _ _ _, f4⟩
        · subst h
          have hpl : p.length = 2 := by omega
          replace hN := Lib.hid hN
          rw [hpl] at hg
          clear hp8 hlen
          by_cases hcode : codeP p = 3
          · rw [if_neg (by rw [hcode]; decide)] at hg
            replace hg := Lib.hid hg
            replace hpl := Lib.hid hpl
            gi_wp2_with fail
            gi_quiet (fail)
            rename_i nq
            gi_wp2_with fail
            obtain ⟨f1, f2, f3, f4, f5⟩ := last_facts (u := .slice va out.length vc) (x := 0) (by have := hS.ms; have := hS.m1; omega) hS.b1 hS.b2 hS.b7 hS.bl nq
            refine leave_one (v := .tuple #[.slice va out.length vc, .int .i64 0]) rfl f1 (by simp [results, Tryd.results71, go_sem, f2, f3]) ?_
            rw [← hg.out, ← hn.out]
            exact ⟨_, rfl, f5 (Nat.le_refl _) hown.out, f4⟩
          · rw [if_pos (.inr (by simpa using hcode))] at hg
            replace hg := Lib.hid hg
            replace hpl := Lib.hid hpl
            gi_wp2_with fail
            gi_quiet (fail)
            rename_i nq
            gi_wp2_with fail
            obtain ⟨f1, f2, f3, f4, f5⟩ := last_facts (u := .slice none 0 0) (x := 3) (by have := hS.ms; have := hS.m1; omega) hS.b1 hS.b2 hS.b7 hS.bl nq
            refine leave_one (v := .tuple #[.slice none 0 0, .int .i64 3]) rfl f1 (by simp [results, Tryd.results71, go_sem, f2, f3]) ?_
            rw [← hg.out, ← hn.out]
            exact ⟨_, rfl, World.ownsRow_nil _ _ _ _, f4⟩
        · subst h
          have hpl : p.length = 3 := by omega
          replace hN := Lib.hid hN
          rw [hpl] at hg
          clear hp8 hlen
          by_cases hcode : codeP p = 7
          · rw [if_neg (by rw [hcode]; decide)] at hg
            replace hg := Lib.hid hg
            replace hpl := Lib.hid hpl
            gi_wp2_with fail
            gi_quiet (fail)
            rename_i nq
            gi_wp2_with fail
            obtain ⟨f1, f2, f3, f4, f5⟩ := last_facts (u := .slice va out.length vc) (x := 0) (by have := hS.ms; have := hS.m1; omega) hS.b1 hS.b2 hS.b7 hS.bl nq
            refine leave_one (v := .tuple #[.slice va out.length vc, .int .i64 0]) rfl f1 (by simp [results, Tryd.results71, go_sem, f2, f3]) ?_
            rw [← hg.out, ← hn.out]
            exact ⟨_, rfl, f5 (Nat.le_refl _) hown.out, f4⟩
          · rw [if_pos (.inr (by simpa using hcode))] at hg
            replace hg := Lib.hid hg
            replace hpl := Lib.hid hpl
            gi_wp2_with fail
            gi_quiet (fail)
            rename_i nq
            gi_wp2_with fail
            obtain ⟨f1, f2, f3, f4, f5⟩ := last_facts (u := .slice none 0 0) (x := 3) (by have := hS.ms; have := hS.m1; omega) hS.b1 hS.b2 hS.b7 hS.bl nq
            refine leave_one (v := .tuple #[.slice none 0 0, .int .i64 3]) rfl f1 (by simp [results, Tryd.results71, go_sem, f2, f3]) ?_
            rw [← hg.out, ← hn.out]
            exact ⟨_, rfl, World.ownsRow_nil _ _ _ _, f4⟩
        · subst h
          have hpl : p.length = 4 := by omega
          replace hN := Lib.hid hN
          rw [hpl] at hg
          clear hp8 hlen
          by_cases hcode : codeP p = 15
          · rw [if_neg (by rw [hcode]; decide)] at hg
            replace hg := Lib.hid hg
            replace hpl := Lib.hid hpl
            gi_wp2_with fail
            gi_quiet (fail)
            rename_i nq
            gi_wp2_with fail
            obtain ⟨f1, f2, f3, f4, f5⟩ := last_facts (u := .slice va out.length vc) (x := 0) (by have := hS.ms; have := hS.m1; omega) hS.b1 hS.b2 hS.b7 hS.bl nq
            refine leave_one (v := .tuple #[.slice va out.length vc, .int .i64 0]) rfl f1 (by simp [results, Tryd.results71, go_sem, f2, f3]) ?_
            rw [← hg.out, ← hn.out]
            exact ⟨_, rfl, f5 (Nat.le_refl _) hown.out, f4⟩
          · rw [if_pos (.inr (by simpa using hcode))] at hg
            replace hg := Lib.hid hg
            replace hpl := Lib.hid hpl
            gi_wp2_with fail
            gi_quiet (fail)
            rename_i nq
            gi_wp2_with fail
            obtain ⟨f1, f2, f3, f4, f5⟩ := last_facts (u := .slice none 0 0) (x := 3) (by have := hS.ms; have := hS.m1; omega) hS.b1 hS.b2 hS.b7 hS.bl nq
            refine leave_one (v := .tuple #[.slice none 0 0, .int .i64 3]) rfl f1 (by simp [results, Tryd.results71, go_sem, f2, f3]) ?_
            rw [← hg.out, ← hn.out]
            exact ⟨_, rfl, World.ownsRow_nil _ _ _ _, f4⟩
        · subst h
          have hpl : p.length = 5 := by omega
          replace hN := Lib.hid hN
          rw [hpl] at hg
          clear hp8 hlen
          by_cases hcode : codeP p = 31
          · rw [if_neg (by rw [hcode]; decide)] at hg
            replace hg := Lib.hid hg
            replace hpl := Lib.hid hpl
            gi_wp2_with fail
            gi_quiet (fail)
            rename_i nq
            gi_wp2_with fail
            obtain ⟨f1, f2, f3, f4, f5⟩ := last_facts (u := .slice va out.length vc) (x := 0) (by have := hS.ms; have := hS.m1; omega) hS.b1 hS.b2 hS.b7 hS.bl nq
            refine leave_one (v := .tuple #[.slice va out.length vc, .int .i64 0]) rfl f1 (by simp [results, Tryd.results71, go_sem, f2, f3]) ?_
            rw [← hg.out, ← hn.out]
            exact ⟨_, rfl, f5 (Nat.le_refl _) hown.out, f4⟩
          · rw [if_pos (.inr (by simpa using hcode))] at hg
            replace hg := Lib.hid hg
            replace hpl := Lib.hid hpl
            gi_wp2_with fail
            gi_quiet (fail)
            rename_i nq
            gi_wp2_with fail
            obtain ⟨f1, f2, f3, f4, f5⟩ := last_facts (u := .slice none 0 0) (x := 3) (by have := hS.ms; have := hS.m1; omega) hS.b1 hS.b2 hS.b7 hS.bl nq
            refine leave_one (v := .tuple #[.slice none 0 0, .int .i64 3]) rfl f1 (by simp [results, Tryd.results71, go_sem, f2, f3]) ?_
            rw [← hg.out, ← hn.out]
            exact ⟨_, rfl, World.ownsRow_nil _ _ _ _, f4⟩
        · subst h
          have hpl : p.length = 6 := by omega
          replace hN := Lib.hid hN
          rw [hpl] at hg
          clear hp8 hlen
          by_cases hcode : codeP p = 63
          · rw [if_neg (by rw [hcode]; decide)] at hg
            replace hg := Lib.hid hg
            replace hpl := Lib.hid hpl
            gi_wp2_with fail
            gi_quiet (fail)
            rename_i nq
            gi_wp2_with fail
            obtain ⟨f1, f2, f3, f4, f5⟩ := last_facts (u := .slice va out.length vc) (x := 0) (by have := hS.ms; have := hS.m1; omega) hS.b1 hS.b2 hS.b7 hS.bl nq
            refine leave_one (v := .tuple #[.slice va out.length vc, .int .i64 0]) rfl f1 (by simp [results, Tryd.results71, go_sem, f2, f3]) ?_
            rw [← hg.out, ← hn.out]
            exact ⟨_, rfl, f5 (Nat.le_refl _) hown.out, f4⟩
          · rw [if_pos (.inr (by simpa using hcode))] at hg
            replace hg := Lib.hid hg
            replace hpl := Lib.hid hpl
            gi_wp2_with fail
            gi_quiet (fail)
            rename_i nq
            gi_wp2_with fail
            obtain ⟨f1, f2, f3, f4, f5⟩ := last_facts (u := .slice none 0 0) (x := 3) (by have := hS.ms; have := hS.m1; omega) hS.b1 hS.b2 hS.b7 hS.bl nq
            refine leave_one (v := .tuple #[.slice none 0 0, .int .i64 3]) rfl f1 (by simp [results, Tryd.results71, go_sem, f2, f3]) ?_
            rw [← hg.out, ← hn.out]
            exact ⟨_, rfl, World.ownsRow_nil _ _ _ _, f4⟩
        · subst h
          have hpl : p.length = 7 := by omega
          replace hN := Lib.hid hN
          rw [hpl] at hg
          clear hp8 hlen
          by_cases hcode : codeP p = 127
          · rw [if_neg (by rw [hcode]; decide)] at hg
            replace hg := Lib.hid hg
            replace hpl := Lib.hid hpl
            gi_wp2_with fail
            gi_quiet (fail)
            rename_i nq
            gi_wp2_with fail
            obtain ⟨f1, f2, f3, f4, f5⟩ := last_facts (u := .slice va out.length vc) (x := 0) (by have := hS.ms; have := hS.m1; omega) hS.b1 hS.b2 hS.b7 hS.bl nq
            refine leave_one (v := .tuple #[.slice va out.length vc, .int .i64 0]) rfl f1 (by simp [results, Tryd.results71, go_sem, f2, f3]) ?_
            rw [← hg.out, ← hn.out]
            exact ⟨_, rfl, f5 (Nat.le_refl _) hown.out, f4⟩
          · rw [if_pos (.inr (by simpa using hcode))] at hg
            replace hg := Lib.hid hg
            replace hpl := Lib.hid hpl
            gi_wp2_with fail
            gi_quiet (fail)
            rename_i nq
            gi_wp2_with fail
            obtain ⟨f1, f2, f3, f4, f5⟩ := last_facts (u := .slice none 0 0) (x := 3) (by have := hS.ms; have := hS.m1; omega) hS.b1 hS.b2 hS.b7 hS.bl nq
            refine leave_one (v := .tuple #[.slice none 0 0, .int .i64 3]) rfl f1 (by simp [results, Tryd.results71, go_sem, f2, f3]) ?_
            rw [← hg.out, ← hn.out]
            exact ⟨_, rfl, World.ownsRow_nil _ _ _ _, f4⟩
      · have hp8' : (8 : Int) ≤ N := by omega
        clear hlow
        rw [if_pos (.inl (by omega))] at hg
        replace hN := Lib.hid hN
        replace hg := Lib.hid hg
        gi_wp2_with fail
        gi_quiet (fail)
        rename_i nq
        gi_wp2_with fail
        obtain ⟨f1, f2, f3, f4, f5⟩ := last_facts (u := .slice none 0 0) (x := 3) (by have := hS.ms; have := hS.m1; omega) hS.b1 hS.b2 hS.b7 hS.bl nq
        refine leave_one (v := .tuple #[.slice none 0 0, .int .i64 3]) rfl f1 (by simp [results, Tryd.results71, go_sem, f2, f3]) ?_
        rw [← hg.out, ← hn.out]
        exact ⟨_, rfl, World.ownsRow_nil _ _ _ _, f4⟩
    · refine ⟨⟨u, rfl⟩, .done, some .ret, h4, by simp, ?_⟩
      have hnn : n + 3 ≤ n1 := by
        have hM1 : M < n1 := hn1 ▸ blk_lt hM
        rw [World.size_alloc, World.size_alloc, World.size_alloc] at hMs
        omega
      clear hM hMs hb1 hR hn1
      replace hn := Lib.hid hn
      gi_wp2_with fail
      have e1 := (World.putObj_heap_other (w := W) (r := n1 + 5) (k := n + 1) (o := .loop (R .exhausted (some .ret))) (by omega)).trans h1
      have e2 := (World.putObj_heap_other (w := W) (r := n1 + 5) (k := n + 2) (o := .loop (R .exhausted (some .ret))) (by omega)).trans h2
      have e3 := (World.putObj_heap_other (w := W) (r := n1 + 5) (k := n1 + 4) (o := .loop (R .exhausted (some .ret))) (by omega)).trans h3
      have c1 := (cell1 ((World.putObj_heap_other (r := n1 + 4) (k := n + 1) (o := .deferred none) (by omega)).trans e1)).1
      have c2 := (cell1 ((World.putObj_heap_other (r := n1 + 4) (k := n + 2) (o := .deferred none) (by omega)).trans e2)).1
      refine leave_one (v := .tuple #[.slice none 0 0, .int .i64 (x : Int)]) rfl e3 (by simp [results, Tryd.results71, go_sem, c1, c2]) ?_
      rw [hx, ← hn.out]
      have g1 : Below n w (W.putObj (n1 + 5) (.loop (R .exhausted (some .ret)))) := hbl.trans ⟨rfl, rfl, rfl, by simp, fun k hk => World.putObj_heap_other (r := n1 + 5) (by omega)⟩
      exact ⟨_, rfl, World.ownsRow_nil _ _ _ _, g1.trans ⟨rfl, rfl, rfl, by simp, fun k hk => World.putObj_heap_other (r := n1 + 4) (by omega)⟩⟩
end Go.Proofs.YtfkpeahelhpelaaDoor
