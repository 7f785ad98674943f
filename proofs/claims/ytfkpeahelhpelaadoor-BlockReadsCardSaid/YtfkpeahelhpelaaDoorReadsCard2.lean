/- The row of BlockReads: for every bound, all blocks and all limits, the law answers true, and its arguments read as before. The one condition: the two package-level tables hold what the program's text lays. The tied card of BlockReads: the law's row, its two listed variables tied to the program's text by the later family's looks. -/
import Derived.Test.YtfkpeahelhpelaaDoorLimRowM
import Derived.Test.YtfkpeahelhpelaaDoorReadsW
import Derived.Deep.SlicePairs
import Derived.Test.YtfkpeahelhpelaaDoorCards
import Derived.Test.YtfkpeahelhpelaaDoorTie
import Derived.SevenTiedAt
namespace Go.Proofs.YtfkpeahelhpelaaDoor
set_option linter.all false
open Go.ChangeShapes Go.WideShapes Go.ChangeAt Go.RowKit Go.Joins
set_option linter.unusedVariables false

theorem weightsAll_mem {H : Type} {P : Program} {e : TypeId} {d : DataW H} {n : Nat} : ∀ {l : List (DataW H)}, d ∈ l → n ∈ d.weights P e → n ∈ DataW.weightsAll P e l
  | x :: l, hd, hn => by
    simp only [DataW.weightsAll, List.mem_append]
    rcases List.mem_cons.1 hd with rfl | h
    · exact .inl hn
    · exact .inr (weightsAll_mem h hn)
instance : Inhabited ReadS := ⟨⟨none, [], 0, 0⟩⟩
/-- A []Read that came in, as the walk wants it. -/
theorem open_reads {H : Type} {enc : TypeId × Value → H} {W : World} {A : Option Addr} {n c : Nat} {d : DataW H} {p : List MemPlace}
    (h : DataW.Trod enc Tryd.prog W 0 (fun _ => true) true 22 (.slice A n c) d p) (hw : ∀ k ∈ d.weights Tryd.prog 22, k ≤ reachBytes) : ∃ L : List ReadS, L.length = n ∧ RdRead W A L ∧ RdOk W L := by
  obtain ⟨fuel, hf⟩ := h
  rcases Go.Deep.open_slice_pairs Tryd.underlying22 Tryd.underlying32 (by kernel_rfl) rfl rfl (by kernel_rfl) (by kernel_rfl) hf with ⟨hcs0, -⟩ | ⟨a, len, cap, m, fu, V0, V1, D0, D1, P0, P1, hcs0, -, hl, hm, hmm, hd, hx⟩
  · have hcs : [Value.slice A n c] = [.slice none 0 0] := hcs0
    simp at hcs
    obtain ⟨rfl, rfl, rfl⟩ := hcs
    exact ⟨[], rfl, fun hp => absurd hp (by simp), fun x hx => absurd hx (by simp)⟩
  · have hcs : [Value.slice A n c] = [.slice (some a) len cap] := hcs0
    simp at hcs
    obtain ⟨rfl, rfl, rfl⟩ := hcs
    simp only [if_true] at hmm
    subst hmm
    have each : ∀ i, i < n → ∃ x : ReadS, W.cell? (a.add (i * 2)) = some (.slice x.A x.b.length x.c) ∧ W.cell? (a.add (i * 2 + 1)) = some (.int .i64 x.lim) ∧ Bytes W (fun _ => True) x.A x.b ∧ x.b.length ≤ x.c ∧ x.c ≤ 140737488351232 := by
      intro i hi
      obtain ⟨h0, h1, t0, t1⟩ := hx i (by omega)
      obtain ⟨z, hz, -, -⟩ := DataW.trod_int Tryd.underlying3 t1
      have hz' : V1 i = .int .i64 z := by simpa using hz
      have hsl : ∃ A' n' c', V0 i = .slice A' n' c' := by
        rcases open_ints Tryd.underlying30 Tryd.underlying5 (by kernel_rfl) t0 with ⟨e, -⟩ | ⟨a', n', c', zs, e, -⟩
        · exact ⟨none, 0, 0, by simpa using e⟩
        · exact ⟨some a', n', c', by simpa using e⟩
      obtain ⟨A', n', c', hv⟩ := hsl
      obtain ⟨b, hb1, hb2, hb3, hb4⟩ := open_bytes (enc := enc) (W := W) (A := A') (n := n') (c := c') (d := D0 i) (p := P0 i) ⟨fu, by rw [hv] at t0; exact t0⟩
      refine ⟨⟨A', b, c', z⟩, ?_, ?_, hb4, by show b.length ≤ c'; omega, ?_⟩
      · rw [h0, hv, ← hb1]
      · rw [h1, hz']
      · rcases hb3 with h3 | ⟨els, spare, hds, he⟩
        · show c' ≤ _; omega
        · have hmem : (els.length + spare.length) * Tryd.prog.bytesOf 5 ∈ d.weights Tryd.prog 22 := by
            rw [(Prod.mk.inj hd).1]
            simp only [DataW.weights, Tryd.underlying22, List.mem_cons, List.mem_append]
            refine .inr (.inl (weightsAll_mem (d := .agg [D0 i, D1 i]) (List.mem_map.2 ⟨i, List.mem_range.2 hi, rfl⟩) ?_))
            simp only [DataW.weights, Tryd.underlying32]
            refine DataW.weights_mem_each (j := 0) (t := 30) rfl (by rw [hds]; rfl) _ ?_
            simp [DataW.weights, Tryd.underlying30]
          have := hw _ hmem
          rw [show Tryd.prog.bytesOf 5 = 1 from by kernel_rfl] at this
          simp only [reachBytes] at this
          show c' ≤ _
          omega
    obtain ⟨f, hfx⟩ := Go.Deep.choose_lt each
    refine ⟨(List.range n).map f, by simp, fun hp => ?_, fun x hx => ?_⟩
    · have hn0 : 0 < n := by simpa using hp
      obtain ⟨b, off, spot⟩ := a
      have hspot : spot = none := by simpa [Addr.add] using World.cell?_spot (hfx 0 hn0).1
      subst hspot
      refine ⟨b, off, rfl, fun i x hx => ?_⟩
      have hi : i < n := by have := (List.getElem?_eq_some_iff.1 hx).1; simpa using this
      rw [List.getElem?_map, List.getElem?_range hi] at hx
      cases hx
      obtain ⟨h0, h1, -⟩ := hfx i hi
      have e1 : (⟨b, off, none⟩ : Addr).add (i * 2) = ⟨b, off + i * 2, none⟩ := by unfold Addr.add; split <;> simp_all
      have e2 : (⟨b, off, none⟩ : Addr).add (i * 2 + 1) = ⟨b, off + i * 2 + 1, none⟩ := by unfold Addr.add; split <;> simp_all [Nat.add_assoc]
      rw [e1] at h0
      rw [e2] at h1
      exact ⟨h0, h1⟩
    · obtain ⟨i, hi, rfl⟩ := List.mem_map.1 hx
      exact (hfx i (List.mem_range.1 hi)).2.2
namespace blockReadsDone
theorem laidWorld_met (os : Os) (args : Array Value) : laidMetH Tryd.prog Rows.blockReadsRow.laid ((blockLimitsDone.laidWorld os).forCall (fun _ _ => 0) ⟨#[], args, []⟩).memory :=
  laidMet_of_run' 8 (by kernel_rfl) (by kernel_rfl)
theorem met {W : World} (h : laidMetH Tryd.prog Rows.blockReadsRow.laid W) : laidMet Tryd.prog Rows.blockLimitsRow.laid W := h

set_option maxRecDepth 100000 in
theorem lifted (os : Os) (started : os.Started) (H : Type) (enc : TypeId × Value → H) :
    ReturnsInHanded {} Tryd.checked os 3 .any (fun w args => (Rows.blockReadsSpec.pre enc Tryd.prog Tryd.f3 [] false w args ∧ laidMetH Tryd.prog Rows.blockReadsRow.laid w) ∧ sizedMet enc Tryd.prog Tryd.f3 (OpenSpec.ofChange Rows.blockReadsSpec) false w args)
      (Rows.blockReadsSpec.post enc Tryd.prog Tryd.f3 false true false false) := by
  refine returnsInHanded_of_change_and (C := Tryd.checked) (X := fun w _ => laidMetH Tryd.prog Rows.blockReadsRow.laid w) (fun _ _ _ hh h => h.of_heap hh) blockLimitsDone.own started (by kernel_rfl) Tryd.func3
    (ChangeSpec.witness_at (enc := enc) (C := Tryd.checked) (os := os) (X := fun w _ => laidMetH Tryd.prog Rows.blockReadsRow.laid w) false (blockLimitsDone.laidWorld os) #[.int .i64 0, .slice none 0 0] 8 rfl (by kernel_rfl) (by kernel_rfl) (by kernel_rfl) (by kernel_rfl) (by kernel_rfl) (laidWorld_met os _)) ?_
  intro W base args ds gs before hval0 hW _ hsz0 hL _
  have hval : ∀ (j : Nat) t v, Tryd.f3.params[j]? = some t → args[j]? = some v → Value.okWide Tryd.prog W .any base t v := hval0
  have hW' := hW
  obtain ⟨p, q, hA0, hV, rfl, hfz, hnd⟩ := hW
  have hA : DataW.TrodAll enc Tryd.prog W 0 (fun _ => true) true Tryd.f3.params.toList args.toList ds p := hA0
  rw [Tryd.params3] at hA hval
  obtain ⟨v0, vs0, d0, ds0, p0, q0, hargs, rfl, rfl, h0, r0⟩ := trodAll_cons hA
  obtain ⟨v1, vs1, d1, ds1, p1, q1, rfl, rfl, rfl, h1, r1⟩ := trodAll_cons r0
  obtain ⟨rfl, rfl, rfl⟩ := trodAll_nil r1
  obtain rfl : args = #[v0, v1] := by cases args; simp_all
  obtain ⟨rfl, rfl⟩ := trodVars_none hV
  have k1 := h1
  have lt1 : ∀ x ∈ p1, x.block < W.heap.size := by obtain ⟨m, hm⟩ := k1; exact DataW.trod_lt m _ _ _ hm
  obtain ⟨L1, rfl, rfl, rfl, w1⟩ := open_int Tryd.underlying3 (hval 0 3 v0 rfl rfl) h0
  obtain ⟨A1, n1, c1, rfl⟩ := okWide_slice Tryd.underlying22 (hval 1 22 v1 rfl rfl)
  obtain ⟨hLL, hLS⟩ := laid_all (met hL)
  have hsz : (DataW.weightsEach Tryd.prog (Tryd.f3.params.toList ++ Rows.blockReadsSpec.plain.varTypes Tryd.prog) ([.lit (.int .i64 L1), d1] ++ [])).all (· ≤ reachBytes) = true := hsz0
  obtain ⟨L, hLn, hrd, hok⟩ := open_reads h1 (fun k hk => by
    have := List.all_eq_true.1 hsz _ (DataW.weights_mem_each (j := 1) (t := 22) (by kernel_rfl) rfl k hk)
    simpa using this)
  clear hA0 hval0
  have hwalk : Calls Tryd.prog 3 #[.int .i64 L1, .slice A1 n1 c1] W fun e w' => e = .returned (.bool true) ∧ Below W.heap.size W w' := by
    by_cases hmany : 20 < n1
    · exact reads_many L1 A1 n1 c1 W hmany hLL hLS
    · by_cases hb : 0 ≤ L1 ∧ L1 ≤ 4096
      · obtain ⟨m, rfl⟩ : ∃ m : Nat, L1 = (m : Int) := ⟨L1.toNat, by omega⟩
        subst hLn
        exact reads_walk m A1 L c1 W (by omega) (by omega) hrd hok hLL hLS
      · exact reads_none L1 A1 n1 c1 W (by omega) hb hLL hLS
  refine hwalk.mono fun e W' ⟨he, bel⟩ => ?_
  subst he
  exact ⟨_, rfl, _, _, _, [], _, [], hW', trodAll_mk1 (shut_bool Tryd.underlying4 _), (trodAll_cons_mk (shut_int Tryd.underlying3 w1) (trodAll_cons_mk (Below.trod blockLimitsDone.laidOut (by kernel_rfl) (of_decide_eq_true (by kernel_rfl)) k1 bel lt1) trodAll_mk0)), rfl, bel.frame _, fun h => by cases h⟩

theorem over : Rows.blockReadsRow.holds Tryd.pinned (OpenSpec.ofChange Rows.blockReadsSpec) :=
  OpenClaim.holds_of_wide 3 Tryd.f3 rfl rfl rfl rfl rfl rfl rfl ⟨rfl, rfl, rfl, rfl, rfl⟩ rfl rfl rfl rfl rfl (by kernel_rfl) Tryd.func3 (by kernel_rfl)
    (of_decide_eq_true (by kernel_rfl)) (by unfold Func.isWrapper; first | (rw [if_pos (by decide +kernel)]; kernel_rfl) | (rw [if_neg (by decide +kernel)]; exact ⟨rfl, rfl⟩))
    (fun os started H enc _ => lifted os started H enc)
end blockReadsDone

/-- The statement. -/
theorem blockReads_holds : Rows.BlockReadsSaid := blockReadsDone.over
#print axioms blockReads_holds
end Go.Proofs.YtfkpeahelhpelaaDoor

namespace Go.Proofs.YtfkpeahelhpelaaDoor
set_option linter.all false
open Go
/-- The statement. -/
theorem blockReads_card : Rows.BlockReadsCardSaid :=
  Claim7.holds_tied_plain_at .later [] [.data, .data] true (true, "4f06a8960ec5f7710f7f889abfe211fe0c168b6a9c5f22489200f5db1ef4e3b0") false
    blockReads_holds (fun _ h => by cases h) (by kernel_rfl) (fun _ h => by cases h) blockReads_row_tie rfl ⟨rfl, rfl⟩ (by kernel_rfl) rfl
    (fun f fn hf hfn => by
      obtain rfl : f = 3 := Option.some.inj ((show Tryd.prog.funcNamed "gantlet/gantletlaw09.BlockReads" = some 3 by kernel_rfl).symm.trans hf) |>.symm
      obtain rfl : fn = Tryd.f3 := (Option.some.inj (Tryd.func3.symm.trans hfn)).symm
      exact ⟨by kernel_rfl, fun j t ht => by
        rw [Tryd.params3] at ht
        have h3 : t = 3 ∨ t = 22 := by
          rcases j with _ | _ | j
          · exact .inl (by simpa using ht.symm)
          · exact .inr (by simpa using ht.symm)
          · simp at ht
        rcases h3 with rfl | rfl
        · exact (show Tryd.prog.wantsStandIn 3 = false by kernel_rfl)
        · exact (show Tryd.prog.wantsStandIn 22 = false by kernel_rfl)⟩)
    (by kernel_rfl)
#print axioms blockReads_card
end Go.Proofs.YtfkpeahelhpelaaDoor
