/- The table of fields (layer 7): its state, Add, SetMost, Get and the small ones. -/
import Derived.Test.YtfkpeahelhpelaaDoorEvict
import Derived.Deep.AppendLies
namespace Go.Proofs.YtfkpeahelhpelaaDoor
set_option linter.all false
open Go.RowKit Go.Shelf
attribute [local go_sem] Oper.semAt_some valueOf_ok

/-- What may have turned is such. -/
structure Mod (S : Nat → Prop) (w w' : World) : Prop where
  os : w'.os = w.os
  tape : w'.tape = w.tape
  output : w'.output = w.output
  size : w.heap.size ≤ w'.heap.size
  block : ∀ k, k < w.heap.size → ¬ S k → w'.heap[k]? = w.heap[k]?
section
variable {S S' : Nat → Prop} {w w1 w2 : World}
theorem Mod.refl (S : Nat → Prop) (w : World) : Mod S w w := ⟨rfl, rfl, rfl, Nat.le_refl _, fun _ _ _ => rfl⟩
theorem Mod.trans (h : Mod S w w1) (k : Mod S' w1 w2) (hs : ∀ i, i < w.heap.size → S' i → S i) : Mod S w w2 :=
  ⟨k.os.trans h.os, k.tape.trans h.tape, k.output.trans h.output, Nat.le_trans h.size k.size, fun i hi hn => (k.block i (Nat.lt_of_lt_of_le hi h.size) (fun h' => hn (hs i hi h'))).trans (h.block i hi hn)⟩
theorem Mod.imp (h : Mod S w w1) (hs : ∀ i, i < w.heap.size → S i → S' i) : Mod S' w w1 := ⟨h.os, h.tape, h.output, h.size, fun i hi hn => h.block i hi (fun h' => hn (hs i hi h'))⟩
theorem Mod.of_below (h : Below w.heap.size w w1) : Mod S w w1 := ⟨h.os, h.tape, h.output, h.size, fun k hk _ => h.block k hk⟩
theorem Mod.below (h : Mod S w w1) (k : Below w1.heap.size w1 w2) : Mod S w w2 := h.trans (Mod.of_below (S := fun _ => False) k) (fun _ _ h => h.elim)
theorem Mod.of_grown {row : Option Nat} (h : w.grownBy w1 row) : Mod (fun k => row = some k) w w1 := ⟨h.os, h.tape, h.output, h.size, fun k hk hn => h.block k hk (fun e => hn e.symm)⟩
theorem Mod.grown {row : Option Nat} (h : Mod S w w1) (k : w1.grownBy w2 row) (hs : ∀ i, i < w.heap.size → row = some i → S i) : Mod S w w2 := h.trans (Mod.of_grown k) hs
theorem Mod.below_of (h : Mod (fun _ => False) w w1) : Below w.heap.size w w1 := ⟨h.os, h.tape, h.output, h.size, fun k hk => h.block k hk (fun h => h)⟩
end

structure Tb where
  f : List FieldS
  bound : Nat
  most : Nat
/-- The table at block t, its fields at v. -/
structure Tab (w : World) (t : Nat) (v : Value) (T : Tb) : Prop where
  blk : w.heap[t]? = some (tabO v T.f T.bound T.most)
  own : w.ownsRow 0 46 2 v T.f.length (fcells T.f)
  ne : v.ownBlock ≠ some t
  sum : sumF T.f ≤ T.most
  mb : T.most ≤ T.bound
  bb : T.bound ≤ 4096
def tabS (t : Nat) (v : Value) (k : Nat) : Prop := k = t ∨ v.ownBlock = some k
theorem Tab.keep {w w' : World} {t : Nat} {v : Value} {T : Tb} (h : Tab w t v T) (hk : ∀ k, k < w.heap.size → tabS t v k → w'.heap[k]? = w.heap[k]?) : Tab w' t v T := by
  refine ⟨(hk t (blk_lt h.blk) (.inl rfl)).trans h.blk, ?_, h.ne, h.sum, h.mb, h.bb⟩
  refine ⟨h.own.1, h.own.2.imp id fun ⟨g, cap, cur, h1, h2, h3, h4⟩ => ⟨g, cap, cur, h1, h2, (hk g (blk_lt h3) (.inr (by rw [h1]; rfl))).trans h3, h4⟩⟩
theorem Tab.below {w w' : World} {t : Nat} {v : Value} {T : Tb} (h : Tab w t v T) (hb : Below w.heap.size w w') : Tab w' t v T := h.keep fun k hk _ => hb.block k hk
def Tb.add (T : Tb) (f : FieldS) : Tb := { T with f := if fsz f ≤ T.most then keepFrom T.most (fsz f) T.f ++ [f] else keepFrom T.most (fsz f) T.f }
def Tb.setMost (T : Tb) (n : Nat) : Tb := { T with f := keepFrom n 0 T.f, most := n }
theorem keepFrom_sum (most room : Nat) : ∀ F : List FieldS, keepFrom most room F = [] ∨ sumF (keepFrom most room F) + room ≤ most
  | [] => .inl rfl
  | f :: r => by
    rw [keepFrom]
    split
    · exact .inr ‹_›
    · exact keepFrom_sum most room r
theorem keepFrom_le (most room : Nat) (F : List FieldS) : sumF (keepFrom most room F) ≤ sumF F := by
  obtain ⟨k, -, h⟩ := keepFrom_drop most room F
  rw [h]
  exact sumF_drop_le F k
theorem add_sum (T : Tb) (f : FieldS) (h : sumF T.f ≤ T.most) : sumF (T.add f).f ≤ T.most := by
  simp only [Tb.add]
  have h1 := keepFrom_sum T.most (fsz f) T.f
  have h2 := keepFrom_le T.most (fsz f) T.f
  split
  · rw [sumF_append, sumF_cons, sumF_nil]
    rcases h1 with h1 | h1
    · rw [h1, sumF_nil]; omega
    · omega
  · omega
theorem own_lt' {w : World} {base : Nat} {e : TypeId} {size n : Nat} {v : Value} {xs : List Value} (h : w.ownsRow base e size v n xs) {g : Nat} (hg : v.ownBlock = some g) : g < w.heap.size := by
  rcases h.2 with ⟨rfl, -⟩ | ⟨g', cap, cur, rfl, -, h3, -⟩
  · cases hg
  · cases hg; exact blk_lt h3

set_option maxRecDepth 100000 in
set_option maxHeartbeats 2000000 in
theorem add_any (t : Nat) (v : Value) (T : Tb) (f : FieldS) (w : World) (h : Tab w t v T) (hf : fsz f ≤ 140737488351232) :
    Calls Tryd.prog 24 #[.pointer (some ⟨t, 0, none⟩), fV f] w fun e w' => ∃ v', e = .returned (.int .i64 0) ∧ Tab w' t v' (T.add f) ∧ Mod (tabS t v) w w' ∧ ∀ g, v'.ownBlock = some g → v.ownBlock = some g ∨ w.heap.size ≤ g := by
  have hst := h.sum
  have hmb := h.mb
  have hbb := h.bb
  have htl := blk_lt h.blk
  have hadd := add_sum T f h.sum
  have i1 : (fsz f : Int) ≤ 140737488351232 := by omega
  rw [fV]
  go_enter Tryd.func24, Tryd.ntmps24
  go_wp2_with fail
  refine (size_any f _ (by omega)).mono ?_
  rintro e w1 ⟨rfl, hb1⟩
  have hb2 := bl_then (bl_alloc (Below.refl _ _) _) hb1
  have h1 := h.below hb2
  have hbx := blk_below (heap_alloc_new w (.cells #[.string f.1, .string f.2] 46)) hb1
  go_wp2_with fail
  refine (evict_any t (fsz f) T.bound T.most v T.f w1 (by omega) (by omega) (by omega) h1.blk h1.own h.ne).mono ?_
  rintro e w2 ⟨v2, rfl, hk2, ho2, hg2⟩
  have hnt : w.heap.size ≠ t := by omega
  have hbx2 := (hg2.block w.heap.size (blk_lt hbx) (by simpa using hnt)).trans hbx
  have H : Hp w2 [(t, tabO v2 (keepFrom T.most (fsz f) T.f) T.bound T.most), (w.heap.size, .cells #[.string f.1, .string f.2] 46)] := ⟨by simpa using hnt.symm, by simp [hk2, hbx2]⟩
  clear hk2 hbx2 hbx
  have c3 := (H.cell 0 rfl 3).trans (show _ = some (.int .i64 (T.most : Int)) from rfl)
  have hsz := hb2.size
  have hsz1 : w.heap.size + 1 ≤ w1.heap.size := by have := hb1.size; rwa [World.size_alloc] at this
  by_cases hle : fsz f ≤ T.most
  · have hle' : (fsz f : Int) ≤ T.most := by omega
    go_wp2_with fail
    refine region_plan_open (fun w' => w'.cell? ⟨t, 0, none⟩ = some v2 ∧ w'.cell? ⟨w.heap.size, 0, none⟩ = some (.string f.1) ∧ w'.cell? ⟨w.heap.size, 1, none⟩ = some (.string f.2))
      [8, 9, 10] [6, 7, 8, 9, 10] [0, 1, 2, 3, 4, 5, 6, 7, 8, 9, 10] (by kernel_rfl) (by kernel_rfl) (by kernel_rfl) (by kernel_rfl) (by decide) ?_ ?_
    all_goals
      have H3 := H.drew
      have hg3 := gr_drew hg2
      have ho3 : w2.drew.ownsRow w1.heap.size 46 2 v2 (keepFrom T.most (fsz f) T.f).length (fcells (keepFrom T.most (fsz f) T.f)) := own_keep ho2 fun _ _ _ => rfl
      clear c3 H hg2 ho2
      generalize w2.drew = w3 at H3 hg3 ho3 ⊢
      have c1 := (H3.cell 0 rfl 0).trans (show _ = some v2 from rfl)
      have c2 := (H3.cell 1 rfl 0).trans (show _ = some (.string f.1) from rfl)
      have c3 := (H3.cell 1 rfl 1).trans (show _ = some (.string f.2) from rfl)
    · exact ⟨c1, c2, c3⟩
    obtain ⟨va, vc, rfl, hvc⟩ := own_shape ho3
    replace ho3 := Lib.hid ho3
    iterate 6 (refine seq_v rfl rfl rfl (by rintro w' ⟨h1, h2, h3⟩; go_simp) ?_; go_simp)
    have H4 := H3.alloc (.cells #[.string f.1, .string f.2] 46)
    have hg4 := gr_alloc hg3 (.cells #[.string f.1, .string f.2] 46)
    have ho4 := own_alloc ho3.out (.cells #[.string f.1, .string f.2] 46)
    have d1 := (H4.cell 0 rfl 0).trans (show _ = some (.slice va (keepFrom T.most (fsz f) T.f).length vc) from rfl)
    have d2 := (H4.cell 1 rfl 0).trans (show _ = some (.string f.1) from rfl)
    have d3 := (H4.cell 1 rfl 1).trans (show _ = some (.string f.2) from rfl)
    refine seq_do (v := .slice (some ⟨w3.heap.size, 0, none⟩) 1 1) (w' := w3.alloc (.cells #[.string f.1, .string f.2] 46)) rfl (fun _ => trivial) rfl rfl rfl (by go_simp) (fun _ => ⟨d1, d2, d3⟩) ?_
    have hnews := World.news_of_block (cs := #[.string f.1, .string f.2]) (t := 46) (fr := (0, 0)) (heap_alloc_new w3 (.cells #[.string f.1, .string f.2] 46))
    have hlen := len_sumF (keepFrom T.most (fsz f) T.f)
    have hkl := keepFrom_le T.most (fsz f) T.f
    have hsz3 := hg3.size
    have hap := fun ev o x y => ex_append (P := Tryd.prog) field_info 33 (by kernel_rfl) (by decide) (by decide) w1.heap.size _ _ _ ho4 ⟨w3.heap.size, 0, none⟩ 1 1 [.string f.1, .string f.2] rfl hnews (by simp [Value.oneCell']) (by simp only [maxLen]; omega) (by omega) (by rw [World.size_alloc]; omega) ev o x y
    refine seq_ex rfl (fun _ => trivial) rfl rfl rfl (hap _ _ _ _ rfl rfl rfl) ?_
    rintro v5 w5 ⟨ho5, hg5, hv5⟩
    have hrow : ∀ g, (Value.slice va (keepFrom T.most (fsz f) T.f).length vc).ownBlock = some g → w1.heap.size ≤ g := fun g e => own_block ho4 e
    have H5 := H4.grown hg5 (by
      intro p hp e
      have := hrow p.1 e.symm
      simp only [List.cons_append, List.nil_append, List.mem_cons, List.not_mem_nil, or_false] at hp
      rcases hp with rfl | rfl | rfl
      · simp only at this; omega
      · simp only at this; omega
      · have := own_lt' ho3.out e.symm
        simp only at this
        omega)
    obtain ⟨va5, vc5, rfl, hvc5⟩ := own_shape ho5
    have d1 := (H5.cell 0 rfl 0).trans (show _ = some (.slice va (keepFrom T.most (fsz f) T.f).length vc) from rfl)
    have d2 := (H5.cell 1 rfl 0).trans (show _ = some (.string f.1) from rfl)
    have d3 := (H5.cell 1 rfl 1).trans (show _ = some (.string f.2) from rfl)
    have z0 := H5.free 0 rfl 0
    replace ho5 := Lib.hid ho5
    replace ho4 := Lib.hid ho4
    refine ⟨fun _ => ⟨d1, d2, d3⟩, ?_⟩
    go_simp
    iterate 2 (refine seq_dv rfl (fun _ => trivial) rfl rfl rfl (fun h => absurd (by decide) h) (by go_simp) ?_; go_simp)
    refine seq_skip (w' := w5.setCell ⟨t, 0, none⟩ (.slice va5 ((keepFrom T.most (fsz f) T.f).length + 1) vc5)) rfl (fun _ => trivial) rfl rfl rfl (by go_simp) (fun h => absurd (by decide) h) ?_
    go_simp
    refine seq_nil ?_
    have H6 := H5.setCell 0 rfl 0 (.slice va5 ((keepFrom T.most (fsz f) T.f).length + 1) vc5)
    have htn : (w5.setCell ⟨t, 0, none⟩ (.slice va5 ((keepFrom T.most (fsz f) T.f).length + 1) vc5)).ownsRow w1.heap.size 46 2 (.slice va5 ((keepFrom T.most (fsz f) T.f).length + 1) vc5) ((keepFrom T.most (fsz f) T.f).length + 1) (fcells (keepFrom T.most (fsz f) T.f) ++ [.string f.1, .string f.2]) :=
      own_setCell ho5.out (p := ⟨t, 0, none⟩) (by show t < w1.heap.size; omega) _
    have hg6 : Mod (tabS t v) w (w5.setCell ⟨t, 0, none⟩ (.slice va5 ((keepFrom T.most (fsz f) T.f).length + 1) vc5)) := by
      refine (((Mod.of_below hb2).grown hg4 (fun i _ e => by cases e; exact .inl rfl)).grown hg5 (fun i hi e => ?_)).grown (gr_setCell (gr_refl w5 (some t)) (.inr rfl) _) (fun i _ e => by cases e; exact .inl rfl)
      have := hrow i e
      omega
    generalize w5.setCell ⟨t, 0, none⟩ (.slice va5 ((keepFrom T.most (fsz f) T.f).length + 1) vc5) = w6 at H6 htn hg6 ⊢
    clear d1 d2 d3 z0 H5 c1 c2 c3
    have e1 := (H6.cell 0 rfl 1).trans (show _ = some (.int .i64 (sumF (keepFrom T.most (fsz f) T.f) : Int)) from rfl)
    have z1 := H6.free 0 rfl 1
    have i2 : (sumF (keepFrom T.most (fsz f) T.f) : Int) ≤ 4096 := by omega
    replace htn := Lib.hid htn
    go_wp2_with fail
    go_ret
    have H7 := H6.setCell 0 rfl 1 (.int .i64 ((sumF (keepFrom T.most (fsz f) T.f) : Int) + (fsz f : Int)))
    have ho7 := own_setCell htn.out (p := ⟨t, 1, none⟩) (by show t < w1.heap.size; omega) (.int .i64 ((sumF (keepFrom T.most (fsz f) T.f) : Int) + (fsz f : Int)))
    have hg7 := hg6.grown (gr_setCell (gr_refl w6 (some t)) (off := 1) (.inr rfl) (.int .i64 ((sumF (keepFrom T.most (fsz f) T.f) : Int) + (fsz f : Int)))) (fun i _ e => by cases e; exact .inl rfl)
    refine ⟨rfl, .slice va5 ((keepFrom T.most (fsz f) T.f).length + 1) vc5, ⟨?_, ?_, ?_, ?_, hmb, hbb⟩, hg7, ?_⟩
    · simp only [Tb.add, if_pos hle]
      have := H7.get 0 rfl
      rw [tabO, sumF_append, sumF_cons, sumF_nil]
      simpa using this
    · simp only [Tb.add, if_pos hle, List.length_append, List.length_cons, List.length_nil, fcells_append]
      exact own_mono ho7 (Nat.zero_le _)
    · intro e
      have := own_block ho7 e
      omega
    · exact hadd
    · intro g e
      have := own_block ho7 e
      exact .inr (by omega)
  · have hle' : ¬ (fsz f : Int) ≤ T.most := by omega
    go_wp2_with fail
    go_ret
    refine ⟨v2, rfl, ⟨?_, ?_, ?_, ?_, hmb, hbb⟩, ?_, ?_⟩
    · simp only [Tb.add, if_neg hle]
      exact H.get 0 rfl
    · simp only [Tb.add, if_neg hle]
      exact own_mono ho2 (Nat.zero_le _)
    · intro e
      have := own_block ho2 e
      omega
    · exact hadd
    · exact (Mod.of_below hb2).grown hg2 (fun i _ e => by cases e; exact .inl rfl)
    · intro g e
      have := own_block ho2 e
      exact .inr (by omega)
end Go.Proofs.YtfkpeahelhpelaaDoor
