/- The tied card of BlockWrites: for every list, the first block or not, and all bytes ahead, the law answers true, and its arguments read as before. The one condition: the two package-level tables hold what the program's text lays; the card ties it to that text. -/
import Derived.Test.YtfkpeahelhpelaaDoorLimRowM
import Derived.Test.YtfkpeahelhpelaaDoorWrites
import Derived.Deep.SlicePairs
import Derived.Test.YtfkpeahelhpelaaDoorCards
import Derived.Test.YtfkpeahelhpelaaDoorTie
import Derived.SevenTiedAt
namespace Go.Proofs.YtfkpeahelhpelaaDoor
set_option linter.all false
open Go.ChangeShapes Go.WideShapes Go.ChangeAt Go.RowKit Go.Joins
set_option linter.unusedVariables false

instance : Inhabited FieldS := ⟨(⟨#[]⟩, ⟨#[]⟩)⟩
theorem fcells_at (l : List FieldS) (j : Nat) (u : Value) (h : (fcells l)[j]? = some u) : ∃ i f, l[i]? = some f ∧ (j = i * 2 ∧ u = .string f.1 ∨ j = i * 2 + 1 ∧ u = .string f.2) := by
  have hj : j < l.length * 2 := by have := (List.getElem?_eq_some_iff.1 h).1; rwa [fcells_length] at this
  obtain ⟨f, hf⟩ : ∃ f, l[j / 2]? = some f := ⟨_, List.getElem?_eq_getElem (by omega)⟩
  obtain ⟨h1, h2⟩ := fcells_get l (j / 2) f hf
  refine ⟨j / 2, f, hf, ?_⟩
  have hm : j % 2 = 0 ∨ j % 2 = 1 := by omega
  rcases hm with hm | hm
  · rw [show j / 2 * 2 = j by omega, h] at h1
    exact .inl ⟨by omega, Option.some.inj h1⟩
  · rw [show j / 2 * 2 + 1 = j by omega, h] at h2
    exact .inr ⟨by omega, Option.some.inj h2⟩
/-- A []api.Field that came in, as the walk wants it. -/
theorem open_fields {H : Type} {enc : TypeId × Value → H} {W : World} {A : Option Addr} {n c : Nat} {d : DataW H} {p : List MemPlace}
    (h : DataW.Trod enc Tryd.prog W 0 (fun _ => true) true 33 (.slice A n c) d p) : ∃ l : List FieldS, l.length = n ∧ FRead W (fun _ => True) A l := by
  obtain ⟨fuel, hf⟩ := h
  rcases Go.Deep.open_slice_pairs Tryd.underlying33 Tryd.underlying46 (by kernel_rfl) rfl rfl (by kernel_rfl) (by kernel_rfl) hf with ⟨hcs0, -⟩ | ⟨a, len, cap, m, fu, V0, V1, D0, D1, P0, P1, hcs0, -, hl, hm, hmm, hd, hx⟩
  · have hcs : [Value.slice A n c] = [.slice none 0 0] := hcs0
    simp at hcs
    obtain ⟨rfl, rfl, rfl⟩ := hcs
    exact ⟨[], rfl, FRead.nil _ _ _⟩
  · have hcs : [Value.slice A n c] = [.slice (some a) len cap] := hcs0
    simp at hcs
    obtain ⟨rfl, rfl, rfl⟩ := hcs
    simp only [if_true] at hmm
    subst hmm
    have each : ∀ i, i < n → ∃ x : FieldS, W.cell? (a.add (i * 2)) = some (.string x.1) ∧ W.cell? (a.add (i * 2 + 1)) = some (.string x.2) := by
      intro i hi
      obtain ⟨h0, h1, t0, t1⟩ := hx i (by omega)
      obtain ⟨s0, hz0, -, -⟩ := DataW.trod_string Tryd.underlying9 t0
      obtain ⟨s1, hz1, -, -⟩ := DataW.trod_string Tryd.underlying9 t1
      exact ⟨(s0, s1), by rw [h0]; simpa using hz0, by rw [h1]; simpa using hz1⟩
    obtain ⟨f, hfx⟩ := Go.Deep.choose_lt each
    refine ⟨(List.range n).map f, by simp, fun hp => ?_⟩
    have hn0 : 0 < n := by simpa using hp
    obtain ⟨b, off, spot⟩ := a
    have hspot : spot = none := by simpa [Addr.add] using World.cell?_spot (hfx 0 hn0).1
    subst hspot
    refine ⟨b, off, rfl, trivial, fun j u hu => ?_⟩
    obtain ⟨i, x, hix, hju⟩ := fcells_at _ j u hu
    have hi : i < n := by have := (List.getElem?_eq_some_iff.1 hix).1; simpa using this
    rw [List.getElem?_map, List.getElem?_range hi] at hix
    cases hix
    obtain ⟨h0, h1⟩ := hfx i hi
    have e1 : (⟨b, off, none⟩ : Addr).add (i * 2) = ⟨b, off + i * 2, none⟩ := by unfold Addr.add; split <;> simp_all
    have e2 : (⟨b, off, none⟩ : Addr).add (i * 2 + 1) = ⟨b, off + (i * 2 + 1), none⟩ := by unfold Addr.add; split <;> simp_all
    rw [e1] at h0
    rw [e2] at h1
    rcases hju with ⟨rfl, rfl⟩ | ⟨rfl, rfl⟩
    · exact h0
    · exact h1
namespace blockWritesDone
theorem laidWorld_met (os : Os) (args : Array Value) : laidMetH Tryd.prog Rows.blockWritesRow.laid ((blockLimitsDone.laidWorld os).forCall (fun _ _ => 0) ⟨#[], args, []⟩).memory :=
  laidMet_of_run' 8 (by kernel_rfl) (by kernel_rfl)
theorem met {W : World} (h : laidMetH Tryd.prog Rows.blockWritesRow.laid W) : laidMet Tryd.prog Rows.blockLimitsRow.laid W := h

set_option maxRecDepth 100000 in
theorem lifted (os : Os) (started : os.Started) (H : Type) (enc : TypeId × Value → H) :
    ReturnsInHanded {} Tryd.checked os 4 .any (fun w args => (Rows.blockWritesSpec.pre enc Tryd.prog Tryd.f4 [] false w args ∧ laidMetH Tryd.prog Rows.blockWritesRow.laid w) ∧ sizedMet enc Tryd.prog Tryd.f4 (OpenSpec.ofChange Rows.blockWritesSpec) false w args)
      (Rows.blockWritesSpec.post enc Tryd.prog Tryd.f4 false true false false) := by
  refine returnsInHanded_of_change_and (C := Tryd.checked) (X := fun w _ => laidMetH Tryd.prog Rows.blockWritesRow.laid w) (fun _ _ _ hh h => h.of_heap hh) blockLimitsDone.own started (by kernel_rfl) Tryd.func4
    (ChangeSpec.witness_at (enc := enc) (C := Tryd.checked) (os := os) (X := fun w _ => laidMetH Tryd.prog Rows.blockWritesRow.laid w) false (blockLimitsDone.laidWorld os) #[.slice none 0 0, .bool false, .slice none 0 0] 8 rfl (by kernel_rfl) (by kernel_rfl) (by kernel_rfl) (by kernel_rfl) (by kernel_rfl) (laidWorld_met os _)) ?_
  intro W base args ds gs before hval0 hW _ hsz0 hL _
  have hval : ∀ (j : Nat) t v, Tryd.f4.params[j]? = some t → args[j]? = some v → Value.okWide Tryd.prog W .any base t v := hval0
  have hW' := hW
  obtain ⟨p, q, hA0, hV, rfl, hfz, hnd⟩ := hW
  have hA : DataW.TrodAll enc Tryd.prog W 0 (fun _ => true) true Tryd.f4.params.toList args.toList ds p := hA0
  rw [Tryd.params4] at hA hval
  obtain ⟨v0, vs0, d0, ds0, p0, q0, hargs, rfl, rfl, h0, r0⟩ := trodAll_cons hA
  obtain ⟨v1, vs1, d1, ds1, p1, q1, rfl, rfl, rfl, h1, r1⟩ := trodAll_cons r0
  obtain ⟨v2, vs2, d2, ds2, p2, q2, rfl, rfl, rfl, h2, r2⟩ := trodAll_cons r1
  obtain ⟨rfl, rfl, rfl⟩ := trodAll_nil r2
  obtain rfl : args = #[v0, v1, v2] := by cases args; simp_all
  obtain ⟨rfl, rfl⟩ := trodVars_none hV
  have k0 := h0
  have k2 := h2
  have lt0 : ∀ x ∈ p0, x.block < W.heap.size := by obtain ⟨m, hm⟩ := k0; exact DataW.trod_lt m _ _ _ hm
  have lt2 : ∀ x ∈ p2, x.block < W.heap.size := by obtain ⟨m, hm⟩ := k2; exact DataW.trod_lt m _ _ _ hm
  obtain ⟨A1, n1, c1, rfl⟩ := okWide_slice Tryd.underlying33 (hval 0 33 v0 rfl rfl)
  obtain ⟨first, rfl, rfl, rfl⟩ := open_bool Tryd.underlying4 (hval 1 4 v1 rfl rfl) h1
  obtain ⟨A2, n2, c2, rfl⟩ := okWide_slice Tryd.underlying30 (hval 2 30 v2 rfl rfl)
  obtain ⟨l, hln, hlr⟩ := open_fields h0
  obtain ⟨ah, han, hac, ham, hay⟩ := open_bytes h2
  obtain ⟨hLL, hLS⟩ := laid_all (met hL)
  have hsz : (DataW.weightsEach Tryd.prog (Tryd.f4.params.toList ++ Rows.blockWritesSpec.plain.varTypes Tryd.prog) ([d0, .lit (.bool first), d2] ++ [])).all (· ≤ reachBytes) = true := hsz0
  have hm2 : c2 ≤ 140737488351232 := by
    rcases ham with rfl | ⟨els, spare, hd, he⟩
    · omega
    · have := sized_slice hsz (j := 2) (t := 30) (e := 5) (by kernel_rfl) (by rw [hd]; rfl) Tryd.underlying30
      rw [show Tryd.prog.bytesOf 5 = 1 from by kernel_rfl] at this
      simp only [reachBytes] at this
      omega
  clear hA0 hval0
  have hwalk : Calls Tryd.prog 4 #[.slice A1 n1 c1, .bool first, .slice A2 n2 c2] W fun e w' => e = .returned (.bool true) ∧ Below W.heap.size W w' := by
    by_cases hmany : 20 < n1 ∨ 300 < n2
    · exact writes_many A1 A2 n1 n2 c1 c2 first W hmany hLL hLS
    · subst hln han
      exact writes_walk A1 A2 l ah c1 c2 first W hlr hay (by omega) (by omega) hac hm2 hLL hLS
  refine hwalk.mono fun e W' ⟨he, bel⟩ => ?_
  subst he
  exact ⟨_, rfl, _, _, _, [], _, [], hW', trodAll_mk1 (shut_bool Tryd.underlying4 _), (trodAll_cons_mk (Below.trod blockLimitsDone.laidOut (by kernel_rfl) (of_decide_eq_true (by kernel_rfl)) k0 bel lt0) (trodAll_cons_mk (shut_bool Tryd.underlying4 _) (trodAll_cons_mk (Below.trod blockLimitsDone.laidOut (by kernel_rfl) (of_decide_eq_true (by kernel_rfl)) k2 bel lt2) trodAll_mk0))), rfl, bel.frame _, fun h => by cases h⟩

theorem over : Rows.blockWritesRow.holds Tryd.pinned (OpenSpec.ofChange Rows.blockWritesSpec) :=
  OpenClaim.holds_of_wide 4 Tryd.f4 rfl rfl rfl rfl rfl rfl rfl ⟨rfl, rfl, rfl, rfl, rfl⟩ rfl rfl rfl rfl rfl (by kernel_rfl) Tryd.func4 (by kernel_rfl)
    (of_decide_eq_true (by kernel_rfl)) (by unfold Func.isWrapper; first | (rw [if_pos (by decide +kernel)]; kernel_rfl) | (rw [if_neg (by decide +kernel)]; exact ⟨rfl, rfl⟩))
    (fun os started H enc _ => lifted os started H enc)
end blockWritesDone

/-- The statement of the row. -/
theorem blockWrites_holds : Rows.BlockWritesSaid := blockWritesDone.over
/-- The statement. -/
theorem blockWrites_card : Rows.BlockWritesCardSaid :=
  Claim7.holds_tied_plain_at .later [] [.data, .data] true (true, "4f06a8960ec5f7710f7f889abfe211fe0c168b6a9c5f22489200f5db1ef4e3b0") false
    blockWrites_holds (fun _ h => by cases h) (by kernel_rfl) (fun _ h => by cases h) blockWrites_row_tie rfl ⟨rfl, rfl⟩ (by kernel_rfl) rfl
    (fun f fn hf hfn => by
      obtain rfl : f = 4 := Option.some.inj ((show Tryd.prog.funcNamed "gantlet/gantletlaw09.BlockWrites" = some 4 by kernel_rfl).symm.trans hf) |>.symm
      obtain rfl : fn = Tryd.f4 := (Option.some.inj (Tryd.func4.symm.trans hfn)).symm
      exact ⟨by kernel_rfl, fun j t ht => by
        rw [Tryd.params4] at ht
        have h3 : t = 33 ∨ t = 4 ∨ t = 30 := by
          rcases j with _ | _ | _ | j
          · exact .inl (by simpa using ht.symm)
          · exact .inr (.inl (by simpa using ht.symm))
          · exact .inr (.inr (by simpa using ht.symm))
          · simp at ht
        rcases h3 with rfl | rfl | rfl
        · exact (show Tryd.prog.wantsStandIn 33 = false by kernel_rfl)
        · exact (show Tryd.prog.wantsStandIn 4 = false by kernel_rfl)
        · exact (show Tryd.prog.wantsStandIn 30 = false by kernel_rfl)⟩)
    (by kernel_rfl)
#print axioms blockWrites_card
end Go.Proofs.YtfkpeahelhpelaaDoor
