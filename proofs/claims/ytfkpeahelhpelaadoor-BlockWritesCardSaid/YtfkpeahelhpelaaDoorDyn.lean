/- Fields that were seen lately (layer 7): lists of fields in memory, clones, the table's small methods. -/
import Derived.Test.YtfkpeahelhpelaaDoorOps
import Derived.Test.YtfkpeahelhpelaaDoorPlan
import Derived.Lib.SliceRun
namespace Go.Proofs.YtfkpeahelhpelaaDoor
set_option linter.all false
open Go.RowKit Go.Shelf
attribute [local go_sem] Oper.semAt_some valueOf_ok

abbrev FieldS := ByteArray × ByteArray
def fsz (f : FieldS) : Nat := f.1.size + f.2.size + 32
def sumF (l : List FieldS) : Nat := (l.map fsz).sum
def fcells (l : List FieldS) : List Value := l.flatMap fun f => [.string f.1, .string f.2]
def fV (f : FieldS) : Value := .agg #[.string f.1, .string f.2]
theorem sumF_nil : sumF [] = 0 := rfl
theorem sumF_cons (f : FieldS) (l : List FieldS) : sumF (f :: l) = fsz f + sumF l := by simp [sumF]
theorem sumF_append (a b : List FieldS) : sumF (a ++ b) = sumF a + sumF b := by simp [sumF]
theorem sumF_drop_le (l : List FieldS) : ∀ k, sumF (l.drop k) ≤ sumF l := by
  induction l with
  | nil => intro k; simp [sumF]
  | cons f r ih =>
    intro k
    cases k with
    | zero => exact Nat.le_refl _
    | succ k => rw [List.drop_succ_cons, sumF_cons]; have := ih k; omega
theorem len_sumF : ∀ l : List FieldS, 32 * l.length ≤ sumF l
  | [] => by simp [sumF]
  | f :: r => by have := len_sumF r; simp only [sumF_cons, List.length_cons, fsz]; omega
theorem fcells_length : ∀ l : List FieldS, (fcells l).length = l.length * 2
  | [] => rfl
  | f :: r => by
    have := fcells_length r
    simp only [fcells, List.flatMap_cons, List.length_append, List.length_cons, List.length_nil] at *
    omega
theorem fcells_append (a b : List FieldS) : fcells (a ++ b) = fcells a ++ fcells b := by simp [fcells]
theorem fcells_get (l : List FieldS) (i : Nat) (f : FieldS) (h : l[i]? = some f) : (fcells l)[i * 2]? = some (.string f.1) ∧ (fcells l)[i * 2 + 1]? = some (.string f.2) := by
  induction l generalizing i with
  | nil => simp at h
  | cons x r ih =>
    cases i with
    | zero => simp at h; subst h; exact ⟨rfl, rfl⟩
    | succ i =>
      have := ih i (by simpa using h)
      have e : (i + 1) * 2 = i * 2 + 2 := by omega
      rw [e]
      exact this
theorem fcells_drop (l : List FieldS) (i : Nat) : fcells (l.drop i) = (fcells l).drop (i * 2) := by
  induction i generalizing l with
  | zero => simp
  | succ i ih =>
    cases l with
    | nil => simp [fcells]
    | cons x r =>
      rw [List.drop_succ_cons, ih r, show (i + 1) * 2 = i * 2 + 2 by omega]
      rfl

/-- The slice at A reads as these fields; its block is such a one. -/
def FRead (w : World) (P : Nat → Prop) (A : Option Addr) (l : List FieldS) : Prop :=
  0 < l.length → ∃ b off, A = some ⟨b, off, none⟩ ∧ P b ∧ ∀ j u, (fcells l)[j]? = some u → w.cell? ⟨b, off + j, none⟩ = some u
section
variable {w w' : World} {P Q : Nat → Prop} {A : Option Addr} {l : List FieldS}
theorem FRead.nil (w : World) (P : Nat → Prop) (A : Option Addr) : FRead w P A [] := fun h => absurd h (by simp)
theorem FRead.keep (h : FRead w P A l) (hk : ∀ k, P k → k < w.heap.size → w'.heap[k]? = w.heap[k]?) : FRead w' P A l := fun hl => by
  obtain ⟨b, off, e, hP, hc⟩ := h hl
  obtain ⟨x, hx⟩ : ∃ x, l[0]? = some x := ⟨_, List.getElem?_eq_getElem hl⟩
  have hb : b < w.heap.size := World.block_lt_of_cell? w ⟨b, off + 0 * 2, none⟩ (hc _ _ (fcells_get l 0 x hx).1)
  exact ⟨b, off, e, hP, fun j u hj => (World.cell?_of_block (w := w) (hk b hP hb)).trans (hc j u hj)⟩
theorem FRead.below (h : FRead w P A l) (hb : Below w.heap.size w w') : FRead w' P A l := h.keep fun k _ hk => hb.block k hk
theorem FRead.imp (h : FRead w P A l) (hPQ : ∀ k, k < w.heap.size → P k → Q k) : FRead w Q A l := fun hl => by
  obtain ⟨b, off, e, hP, hc⟩ := h hl
  obtain ⟨x, hx⟩ : ∃ x, l[0]? = some x := ⟨_, List.getElem?_eq_getElem hl⟩
  exact ⟨b, off, e, hPQ b (World.block_lt_of_cell? w ⟨b, off + 0 * 2, none⟩ (hc _ _ (fcells_get l 0 x hx).1)) hP, hc⟩
theorem FRead.at_ (h : FRead w P A l) {i : Nat} {f : FieldS} (hf : l[i]? = some f) : ∃ b off, A = some ⟨b, off, none⟩ ∧ b < w.heap.size ∧ w.cell? ⟨b, off + i * 2, none⟩ = some (.string f.1) ∧ w.cell? ⟨b, off + i * 2 + 1, none⟩ = some (.string f.2) := by
  have hi : i < l.length := (List.getElem?_eq_some_iff.1 hf).1
  obtain ⟨b, off, e, hP, hc⟩ := h (by omega)
  have h1 := hc _ _ (fcells_get l i f hf).1
  exact ⟨b, off, e, World.block_lt_of_cell? w _ h1, h1, hc _ _ (fcells_get l i f hf).2⟩
theorem FRead.from_ (h : FRead w P A l) (n c : Nat) (hn : n ≤ l.length) (hc : l.length ≤ c) : FRead w P (adrFrom A c n 2) (l.drop n) := fun hl => by
  rw [List.length_drop] at hl
  obtain ⟨b, off, rfl, hP, hcell⟩ := h (by omega)
  unfold adrFrom
  rw [if_neg (by omega)]
  refine ⟨b, off + n * 2, ?_, hP, fun j u hj => ?_⟩
  · simp only [Option.map_some, Addr.add]
    split <;> simp_all
  · rw [fcells_drop, List.getElem?_drop] at hj
    have := hcell (n * 2 + j) u hj
    rwa [← Nat.add_assoc] at this
end
theorem own_fread {w : World} {base : Nat} {A : Option Addr} {c : Nat} {l : List FieldS} (h : w.ownsRow base 46 2 (.slice A l.length c) l.length (fcells l)) : FRead w (fun b => (Value.slice A l.length c).ownBlock = some b) A l := fun hl => by
  rcases h.2 with ⟨hv, h0⟩ | ⟨g, cap, cur, hv, -, hg, -, -, -, ht⟩
  · omega
  · cases hv
    refine ⟨g, 0, rfl, rfl, fun j u hj => ?_⟩
    rw [Nat.zero_add, cell_of_row _ _ _ _ _ _ hg]
    rw [← ht] at hj
    rw [List.getElem?_take] at hj
    split at hj
    · simpa using hj
    · cases hj
theorem field_info : (Tryd.prog.info? 46).map (fun i => (i.zero, i.size, i.bytes)) = some (some (.agg #[.string ⟨#[]⟩, .string ⟨#[]⟩]), 2, 32) := by kernel_rfl
theorem fcells_one (l : List FieldS) : ∀ u ∈ fcells l, u.oneCell' = true := by
  intro u hu
  simp only [fcells, List.mem_flatMap] at hu
  obtain ⟨f, -, hf⟩ := hu
  simp at hf
  rcases hf with rfl | rfl <;> rfl
/-- append(v, x...) of what is read, onto a row of the call's own. -/
theorem ex_append_read {w : World} (base : Nat) (v : Value) (n : Nat) (xs : List Value) (hown : w.ownsRow base 46 2 v n xs) {P : Nat → Prop} (A : Option Addr) (l : List FieldS) (c : Nat) (hr : FRead w P A l) (hA : A ≠ none)
    (hbytes : (n + l.length) * 32 ≤ 140737488355328) (hbase : base ≤ w.heap.size) (ev : Operand → Value) (o : Oper) (x y : Operand) (hx : ev x = v) (hy : ev y = .slice A l.length c) (ho : o.op = .call { callee := .builtin .append, args := #[x, y], argTypes := #[33, 33] }) :
    ∃ v' w', (execOp ev o).run Tryd.prog w = .ok (.value v') w' ∧ w'.ownsRow base 46 2 v' (n + l.length) (xs ++ fcells l) ∧ w.grownBy w' v.ownBlock ∧ (v'.ownBlock = v.ownBlock ∨ v'.ownBlock = some w.heap.size) := by
  cases A with
  | none => exact absurd rfl hA
  | some ad =>
    have hnews : ∀ j u, (fcells l)[j]? = some u → w.cell? (ad.add j) = some u := fun j u hj => by
      have hj' := (List.getElem?_eq_some_iff.1 hj).1
      rw [fcells_length] at hj'
      obtain ⟨b, off, e, -, hc⟩ := hr (by omega)
      cases e
      have := hc j u hj
      rwa [show (⟨b, off, none⟩ : Addr).add j = ⟨b, off + j, none⟩ by unfold Addr.add; split <;> simp_all]
    exact ex_append field_info 33 (by kernel_rfl) (by kernel_rfl) (by decide) base v n xs hown ad l.length c (fcells l) (fcells_length l) hnews (fcells_one l) (by simp only [maxLen]; omega) hbytes hbase ev o x y hx hy ho

set_option maxRecDepth 100000 in
theorem clone_any (A : Option Addr) (l : List FieldS) (c : Nat) (w : World) {P : Nat → Prop} (hr : FRead w P A l) (hA : A = none → l = [] ∧ c = 0) (hl : l.length * 32 ≤ 140737488351232) :
    Calls Tryd.prog 38 #[.slice A l.length c] w fun e w' => ∃ v, e = .returned v ∧ w'.ownsRow w.heap.size 46 2 v l.length (fcells l) ∧ Below w.heap.size w w' := by
  cases A with
  | none =>
    obtain ⟨rfl, rfl⟩ := hA rfl
    have hn := Lib.run_eql_slice_nil (P := Tryd.prog) w 33 46 none 0 0 0 0 (by kernel_rfl)
    go_enter Tryd.func38, Tryd.ntmps38
    go_wp2_with fail
    go_ret
    exact ⟨_, rfl, World.ownsRow_nil _ _ _ _, Below.refl _ _⟩
  | some ad =>
    have hn := Lib.run_eql_slice_nil (P := Tryd.prog) w 33 46 (some ad) l.length c 0 0 (by kernel_rfl)
    go_enter Tryd.func38, Tryd.ntmps38
    have hown : (w.alloc (.cells #[] 46)).ownsRow w.heap.size 46 2 (.slice (some ⟨w.heap.size, 0, none⟩) 0 0) 0 [] := World.ownsRow_made w #[] 0 (Nat.le_refl _) (by simp only [maxLen]; omega) rfl
    have hap := fun ev o x y => ex_append_read w.heap.size _ 0 [] hown (some ad) l c (hr.below (bl_alloc (Below.refl _ _) _)) (by simp) (by omega) (by simp) ev o x y
    replace hap := Lib.hid hap
    replace hown := Lib.hid hown
    replace hr := Lib.hid hr
    go_wp2_with ((with_reducible refine at_append 33 ?_); refine wl_ex rfl (hap.out _ _ _ _ rfl rfl rfl) ?_; rintro v1 w1 ⟨h1, h2, h3⟩; clear hap)
    go_ret
    refine ⟨_, rfl, ?_, ?_⟩
    · simpa using h1
    · exact (bl_alloc (Below.refl _ _) _).trans (grown_below h2 (by simp) (fun g hg => by cases hg; exact Nat.le_refl _))
theorem size_any (f : FieldS) (w : World) (h : fsz f ≤ 281474976710656) : Calls Tryd.prog 25 #[fV f] w fun e w' => e = .returned (.int .i64 (fsz f : Int)) ∧ Below w.heap.size w w' := by
  have h1 : (f.1.size : Int) ≤ 281474976710656 := by unfold fsz at h; omega
  have h2 : (f.2.size : Int) ≤ 281474976710656 := by unfold fsz at h; omega
  unfold fV
  go_enter Tryd.func25, Tryd.ntmps25
  go_wp2
  go_ret
  exact ⟨ret_int (by unfold fsz; omega), bl_alloc (Below.refl _ _) _⟩

/-- The table's block. -/
def tabO (v : Value) (f : List FieldS) (bound most : Nat) : Obj := .cells #[v, .int .i64 (sumF f : Int), .int .i64 (bound : Int), .int .i64 (most : Int)] 81
/-- What goes, till there is room. -/
def keepFrom (most room : Nat) : List FieldS → List FieldS
  | [] => []
  | f :: r => if sumF (f :: r) + room ≤ most then f :: r else keepFrom most room r

theorem oldest_any (t : Nat) (room : Int) (w : World) : Calls Tryd.prog 64 #[.pointer (some ⟨t, 0, none⟩), .int .i64 room] w fun e w' =>
    e = .returned (.func (.func 72) #[] #[.pointer (some ⟨w.heap.size, 0, none⟩), .pointer (some ⟨w.heap.size + 1, 0, none⟩)]) ∧ w' = (w.alloc (.cells #[.pointer (some ⟨t, 0, none⟩)] 53)).alloc (.cells #[.int .i64 room] 3) := by
  go_enter Tryd.func64, Tryd.ntmps64
  go_wp2
  go_ret
  exact ⟨rfl, rfl⟩

set_option maxRecDepth 100000 in
set_option maxHeartbeats 1000000 in
theorem oldest_it (m L B B2 t room most bound c : Nat) (A : Option Addr) (F0 : List FieldS) (J : List FieldS → World → Prop) (hs0 : sumF F0 ≤ 140737488351232) (hr0 : room ≤ 281474976710656) (hm0 : most ≤ 140737488351232) (hc0 : F0.length ≤ c)
    (hbox : ∀ r W, J r W → W.heap[B]? = some (.cells #[.pointer (some ⟨t, 0, none⟩)] 53 (0, 0)) ∧ W.heap[B2]? = some (.cells #[.int .i64 (room : Int)] 3 (0, 0)) ∧ W.heap[t]? = some (tabO (.slice A F0.length c) r bound most) ∧ FRead W (fun _ => True) A F0)
    (hal : ∀ r W W', J r W → Below W.heap.size W W' → J r W')
    (hY : ∀ f r W, J (f :: r) W → ¬ sumF (f :: r) + room ≤ most → YieldAt Fence.wide m Tryd.prog L #[fV f] W fun e W' => e = .returned (.bool true) ∧ J r W')
    (W : World) (h0 : J F0 W) :
    CallsIn Fence.wide (m + 1) Tryd.prog 72 #[.func (.yield L) #[] #[], .pointer (some ⟨B, 0, none⟩), .pointer (some ⟨B2, 0, none⟩)] W fun e W' => (∃ v, e = .returned v) ∧ J (keepFrom most room F0) W' := by
  refine callsIn_of_wp Tryd.func72 rfl trivial ?_ rfl
  simp only [Tryd.ntmps72, List.size_toArray, List.length_cons, List.length_nil, Nat.reduceAdd, Nat.reduceSub, Array.replicate_succ, Array.replicate_zero, List.push_toArray, List.append_toArray, List.nil_append, List.cons_append]
  obtain ⟨b1, b2, b3, b4⟩ := hbox _ _ h0
  have c1 := (cell1 b1).1
  have c3 := (cell_of_row _ _ 0 _ _ _ b3).trans (show _ = some (.slice A F0.length c) from rfl)
  replace b1 := Lib.hid b1
  replace b2 := Lib.hid b2
  replace b3 := Lib.hid b3
  replace b4 := Lib.hid b4
  gi_wp2
  gi_loopw [11] (fun i wr => ∃ k : Nat, k ≤ F0.length ∧ i = .int .i64 k ∧ J (F0.drop k) wr ∧ Hid (keepFrom most room (F0.drop k) = keepFrom most room F0)) (fun i _ => F0.length - (intOf i).toNat)
  case atStart => exact ⟨0, by omega, rfl, h0, Lib.hid rfl⟩
  case round =>
    obtain ⟨k, hk, rfl, hJ, hkf⟩ := hrel
    clear c1 c3 b1 b2 b3 b4
    by_cases hlt : k < F0.length
    · have hlt' : (k : Int) < F0.length := by omega
      have hk0 : (0 : Int) ≤ k := by omega
      obtain ⟨f, hf⟩ : ∃ f, F0[k]? = some f := ⟨_, List.getElem?_eq_getElem hlt⟩
      have hd : F0.drop k = f :: F0.drop (k + 1) := by
        rw [List.drop_eq_getElem_cons hlt]
        rw [List.getElem?_eq_getElem hlt] at hf
        cases hf
        rfl
      have hle := sumF_drop_le F0 k
      have hlen := len_sumF F0
      have hlm : (F0.length : Int) ≤ 140737488351232 := by omega
      rw [hd] at hJ hkf hle
      obtain ⟨r, hr⟩ : ∃ r, F0.drop (k + 1) = r := ⟨_, rfl⟩
      rw [hr] at hJ hkf hle
      replace hr := Lib.hid hr
      clear hd
      obtain ⟨b1, b2, b3, b4⟩ := hbox _ _ hJ
      obtain ⟨b, off, rfl, hbl, q1, q2⟩ := b4.at_ hf
      have c1 := (cell1 b1).1
      have c2 := (cell1 b2).1
      have c3 := (cell_of_row _ _ 1 _ _ _ b3).trans (show _ = some (.int .i64 (sumF (f :: r) : Int)) from rfl)
      have c4 := (cell_of_row _ _ 3 _ _ _ b3).trans (show _ = some (.int .i64 (most : Int)) from rfl)
      replace b1 := Lib.hid b1
      replace b2 := Lib.hid b2
      replace b3 := Lib.hid b3
      replace b4 := Lib.hid b4
      replace hf := Lib.hid hf
      have i1 : (sumF (f :: r) : Int) ≤ 140737488351232 := by omega
      have i2 : (room : Int) ≤ 281474976710656 := by omega
      have hw0 : IntKind.i64.wrap ((sumF (f :: r) : Int) + room) = (sumF (f :: r) : Int) + room := IntWalk.i64_in _ (by omega)
      gi_wp2
      by_cases hst : sumF (f :: r) + room ≤ most
      · have hst' : (sumF (f :: r) : Int) + room ≤ most := by omega
        have hJ2 : J (f :: r) (wr.alloc (.cells #[.string f.1, .string f.2] 46)).drew := hal _ _ _ hJ (bl_drew (bl_alloc (Below.refl _ _) _))
        have hbs : (wr.alloc (.cells #[.string f.1, .string f.2] 46)).drew.heap[wr.heap.size]? = some (.cells #[.string f.1, .string f.2] 46 (0, 0)) := heap_alloc_new wr (.cells #[.string f.1, .string f.2] 46)
        refine region_plan (fun w' => w'.cell? ⟨B, 0, none⟩ = some (.pointer (some ⟨t, 0, none⟩)) ∧ w'.cell? ⟨B2, 0, none⟩ = some (.int .i64 (room : Int)) ∧ w'.cell? ⟨t, 1, none⟩ = some (.int .i64 (sumF (f :: r) : Int)) ∧ w'.cell? ⟨t, 3, none⟩ = some (.int .i64 (most : Int)))
          [] [] [0, 1, 2, 3, 4, 5, 6, 7, 8, 9, 10, 11, 12, 13, 14, 15, 16] (by kernel_rfl) (fun _ => trivial) (by kernel_rfl) (by kernel_rfl) (by kernel_rfl) (by decide) ?_ ?_
        all_goals
          generalize (wr.alloc (.cells #[.string f.1, .string f.2] 46)).drew = w2 at *
          clear c1 c2 c3 c4 b1 b2 b3 b4
          obtain ⟨b1, b2, b3, b4⟩ := hbox _ _ hJ2
          have c1 := (cell1 b1).1
          have c2 := (cell1 b2).1
          have c3 := (cell_of_row _ _ 1 _ _ _ b3).trans (show _ = some (.int .i64 (sumF (f :: r) : Int)) from rfl)
          have c4 := (cell_of_row _ _ 3 _ _ _ b3).trans (show _ = some (.int .i64 (most : Int)) from rfl)
        · exact ⟨c1, c2, c3, c4⟩
        replace b1 := Lib.hid b1
        replace b2 := Lib.hid b2
        replace b3 := Lib.hid b3
        replace b4 := Lib.hid b4
        iterate 17 (first | (refine seq_v rfl rfl rfl (by rintro w' ⟨h1, h2, h3, h4⟩; go_simp) ?_; go_simp) | (refine seq_over rfl rfl rfl ?_; go_simp))
        refine seq_nil ?_
        gi_wp2
        refine bodyPost_ret (results_none rfl _ _ _) rfl ⟨⟨_, rfl⟩, ?_⟩
        rw [← hkf.out, keepFrom, if_pos hst]
        exact hJ2
      · have hst' : ¬ (sumF (f :: r) : Int) + room ≤ most := by omega
        have hJ2 : J (f :: r) (wr.alloc (.cells #[.string f.1, .string f.2] 46)).drew := hal _ _ _ hJ (bl_drew (bl_alloc (Below.refl _ _) _))
        have hbs : (wr.alloc (.cells #[.string f.1, .string f.2] 46)).drew.heap[wr.heap.size]? = some (.cells #[.string f.1, .string f.2] 46 (0, 0)) := heap_alloc_new wr (.cells #[.string f.1, .string f.2] 46)
        refine region_plan (fun w' => w'.cell? ⟨B, 0, none⟩ = some (.pointer (some ⟨t, 0, none⟩)) ∧ w'.cell? ⟨B2, 0, none⟩ = some (.int .i64 (room : Int)) ∧ w'.cell? ⟨t, 1, none⟩ = some (.int .i64 (sumF (f :: r) : Int)) ∧ w'.cell? ⟨t, 3, none⟩ = some (.int .i64 (most : Int)) ∧ w'.cell? ⟨wr.heap.size, 0, none⟩ = some (.string f.1) ∧ w'.cell? ⟨wr.heap.size, 1, none⟩ = some (.string f.2))
          [14, 15, 16] [14, 15, 16] [0, 1, 2, 3, 4, 5, 6, 7, 8, 9, 10, 11, 12, 13, 14, 15, 16] (by kernel_rfl) (fun _ => trivial) (by kernel_rfl) (by kernel_rfl) (by kernel_rfl) (by decide) ?_ ?_
        all_goals
          generalize (wr.alloc (.cells #[.string f.1, .string f.2] 46)).drew = w2 at *
          clear c1 c2 c3 c4 b1 b2 b3 b4
          obtain ⟨b1, b2, b3, b4⟩ := hbox _ _ hJ2
          have c1 := (cell1 b1).1
          have c2 := (cell1 b2).1
          have c3 := (cell_of_row _ _ 1 _ _ _ b3).trans (show _ = some (.int .i64 (sumF (f :: r) : Int)) from rfl)
          have c4 := (cell_of_row _ _ 3 _ _ _ b3).trans (show _ = some (.int .i64 (most : Int)) from rfl)
          obtain ⟨c5, c6⟩ := cells_two hbs
        · exact ⟨c1, c2, c3, c4, c5, c6⟩
        replace b1 := Lib.hid b1
        replace b2 := Lib.hid b2
        replace b3 := Lib.hid b3
        replace b4 := Lib.hid b4
        replace hbs := Lib.hid hbs
        iterate 14 (refine seq_v rfl rfl rfl (by rintro w' ⟨h1, h2, h3, h4, h5, h6⟩; go_simp) ?_; go_simp)
        obtain ⟨fn, tmps, assign, body, hy, hR⟩ := hY _ _ _ hJ2 hst
        rw [fV] at hy
        refine seq_yield (w1 := w2) (l := L) (f := fn) (tmps := tmps) (assign := assign) (body := body) rfl (fun _ => trivial) rfl rfl rfl rfl (by go_simp) ?_
        refine hR.mono ?_
        rintro e W3 ⟨rfl, hJ3⟩
        refine ⟨_, rfl, fun h => absurd (by decide) h, ?_⟩
        go_simp
        iterate 2 (refine seq_dv rfl (fun _ => trivial) rfl rfl rfl (fun h => absurd (by decide) h) (by go_simp) ?_; go_simp)
        refine seq_nil ?_
        gi_wp2
        go_roundw
        case rel => exact ⟨k + 1, by omega, by go_num, by rw [hr.out]; exact hJ3, by rw [hr.out, ← hkf.out, keepFrom, if_neg hst]; exact Lib.hid rfl⟩
        case measure => simp [intOf]; omega
    · obtain rfl : k = F0.length := by omega
      rw [List.drop_length] at hJ hkf
      gi_wp2
      go_end0
      refine ⟨⟨_, rfl⟩, ?_⟩
      rw [← hkf.out]
      exact hJ
end Go.Proofs.YtfkpeahelhpelaaDoor
