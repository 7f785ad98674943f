/- The rows' condition on the two package-level tables gives what the walks ask. The row of BlockLimits: for every block, every block ahead, and every two limits, the law answers true, and its arguments read as before. The one condition: the two package-level tables hold what the program's text lays. -/
import Derived.Test.YtfkpeahelhpelaaDoorRows
import Derived.Test.YtfkpeahelhpelaaDoorLim
import Derived.Lib.LaidTab
import Derived.Lib.SmallJoins
import Derived.LaidHandle
import Derived.Stop.LaidErr
import Derived.WideKeyPair
import Derived.ProofKit
import Derived.ChangeSame
import Derived.ChangeVars
import Derived.JoinedOf
import Derived.RowKitTokens
import Derived.LaidLaws
import Derived.Stop.Joined
import Derived.ChangeOld
import Derived.OpenShut
import Derived.SizedLaws
namespace Go.Proofs.YtfkpeahelhpelaaDoor
set_option linter.all false
open Go.RowKit Go.Joins Go.ChangeShapes

/-- An array of structs of two integers, that reads as these: its cells. -/
theorem cells_of_pairs {H : Type} {enc : TypeId × Value → H} {P : Program} {w : World} {base : Nat} {sp : Nat → Bool} {held : Bool} {fuel : Nat} {t e ti : TypeId} {n : Nat} {k : IntKind} {cs : List Value} {zs : List (Int × Int)} {p : List MemPlace} {f0 f1 : Field}
    (ht : P.underlying t = some (.array n e)) (he : P.underlying e = some (.struct #[f0, f1])) (hti : P.underlying ti = some (.int k)) (h0 : f0.type = ti) (h1 : f1.type = ti) (o0 : f0.offset = 0) (o1 : f1.offset = 1) (hc1 : P.cellsOf ti = 1) (hce : P.cellsOf e = 2)
    (h : DataW.trod enc P w base sp held fuel t cs = some (.agg (zs.map fun z => .agg [.lit (.int k z.1), .lit (.int k z.2)]), p)) :
    ∀ (i : Nat) (z : Int × Int), zs[i]? = some z → cs[i * 2]? = some (.int k z.1) ∧ cs[i * 2 + 1]? = some (.int k z.2) := by
  cases fuel with
  | zero => simp [DataW.trod] at h
  | succ fuel =>
    simp only [DataW.trod, ht, hce] at h
    split at h
    · obtain ⟨xs, hm, hx⟩ := Option.map_eq_some_iff.1 h
      have hxs : xs.map (·.1) = zs.map fun z => (DataW.agg [.lit (.int k z.1), .lit (.int k z.2)] : DataW H) := by
        have := congrArg Prod.fst hx
        simpa using this
      have hxl : xs.length = n := by simpa using Lib.mapM_length hm
      have hzl : zs.length = n := by
        have := congrArg List.length hxs
        simp at this
        omega
      intro i z hz
      have hi : i < n := by have := (List.getElem?_eq_some_iff.1 hz).1; omega
      obtain ⟨b, hb, hf⟩ := Lib.mapM_at hm i i (by simp [hi])
      obtain ⟨y0, y1, m, hy, -, g0, g1⟩ := trod_struct2 he hf
      rw [h0, hc1, o0] at g0
      rw [h1, hc1, o1] at g1
      obtain ⟨a0, e0, rfl, -⟩ := DataW.trod_int hti g0
      obtain ⟨a1, e1, rfl, -⟩ := DataW.trod_int hti g1
      have h2 : (xs.map (·.1))[i]? = some (DataW.agg [.lit (.int k a0), .lit (.int k a1)] : DataW H) := by simp [hb, hy]
      rw [hxs, List.getElem?_map, hz] at h2
      simp only [Option.map_some, Option.some.injEq, DataW.agg.injEq, List.cons.injEq, DataW.lit.injEq, Lit.int.injEq, true_and, and_true] at h2
      obtain ⟨rfl, rfl⟩ := h2
      have c0 := congrArg (·[0]?) e0
      have c1 := congrArg (·[0]?) e1
      simp [List.getElem?_take, List.getElem?_drop] at c0 c1
      exact ⟨c0, c1⟩
    · cases h
theorem laid_all {W : World} (h : laidMet Tryd.prog Rows.blockLimitsRow.laid W) : LaidLens W ∧ LaidShapes W := by
  have hg0 : Tryd.prog.globalNamed "gantlet/huff.lengths" = some 1 := by kernel_rfl
  have hg1 : Tryd.prog.globalNamed "gantlet/item.shapes" = some 0 := by kernel_rfl
  constructor
  · have hd : Rows.blockLimitsRow.laid = ("gantlet/huff.lengths", Lib.tabData .i64 (lens.map fun (n : Nat) => (n : Int))) :: [("gantlet/item.shapes", Rows.laid_gantlet_item_shapes)] := by kernel_rfl
    rw [hd] at h
    have hT := Lib.tabIs_of_head hg0 (by kernel_rfl) Tryd.underlying128 Tryd.underlying3 (by kernel_rfl) (by kernel_rfl) h
    intro j v hv
    have e : ((lens.map fun (n : Nat) => (n : Int)).map fun z => Value.int .i64 z).toArray = ints lens := by kernel_rfl
    exact (World.var?_cell hg0 hT j).trans ((congrArg (fun (a : Array Value) => a[j]?) e).trans hv)
  · have h' := laidMet.tail (x := ("gantlet/huff.lengths", Rows.laid_gantlet_huff_lengths)) (r := [("gantlet/item.shapes", Rows.laid_gantlet_item_shapes)]) h
    obtain ⟨ps, ⟨g', t', cs, fuel, p, q, hg', ht', hvar, hd, _, _⟩, _⟩ := h'
    obtain rfl := Option.some.inj (hg1.symm.trans hg')
    have hty : (Tryd.prog.globals[0]?).map (·.type) = some 97 := by kernel_rfl
    obtain rfl := Option.some.inj (hty.symm.trans ht')
    have key := cells_of_pairs (zs := [(7, 128), (6, 64), (4, 0), (4, 16), (5, 32)]) (k := .i64) (ti := 3) Tryd.underlying97 Tryd.underlying96 Tryd.underlying3 rfl rfl rfl rfl (by kernel_rfl) (by kernel_rfl) hd
    intro j v hv
    rw [World.var?_cell hg1 hvar j]
    have hj : j < 10 := by
      have := (Array.getElem?_eq_some_iff.1 hv).1
      rw [show (ints shapesL).size = 10 from by kernel_rfl] at this
      exact this
    have hcs : ∀ i, cs[i]? = cs.toList[i]? := fun i => Array.getElem?_toList.symm
    rw [hcs]
    rw [← hv]
    obtain rfl | rfl | rfl | rfl | rfl | rfl | rfl | rfl | rfl | rfl : j = 0 ∨ j = 1 ∨ j = 2 ∨ j = 3 ∨ j = 4 ∨ j = 5 ∨ j = 6 ∨ j = 7 ∨ j = 8 ∨ j = 9 := by omega
    · exact (key 0 _ rfl).1.trans (by kernel_rfl)
    · exact (key 0 _ rfl).2.trans (by kernel_rfl)
    · exact (key 1 _ rfl).1.trans (by kernel_rfl)
    · exact (key 1 _ rfl).2.trans (by kernel_rfl)
    · exact (key 2 _ rfl).1.trans (by kernel_rfl)
    · exact (key 2 _ rfl).2.trans (by kernel_rfl)
    · exact (key 3 _ rfl).1.trans (by kernel_rfl)
    · exact (key 3 _ rfl).2.trans (by kernel_rfl)
    · exact (key 4 _ rfl).1.trans (by kernel_rfl)
    · exact (key 4 _ rfl).2.trans (by kernel_rfl)
end Go.Proofs.YtfkpeahelhpelaaDoor

namespace Go.Proofs.YtfkpeahelhpelaaDoor
set_option linter.all false
open Go.ChangeShapes Go.WideShapes Go.ChangeAt Go.RowKit Go.Joins
set_option linter.unusedVariables false

/-- A []byte that came in, as the walks want it. -/
theorem open_bytes {H : Type} {enc : TypeId × Value → H} {W : World} {A : Option Addr} {n c : Nat} {d : DataW H} {p : List MemPlace}
    (h : DataW.Trod enc Tryd.prog W 0 (fun _ => true) true 30 (.slice A n c) d p) : ∃ l : List UInt8, l.length = n ∧ n ≤ c ∧ (c = 0 ∨ ∃ els spare, d = .slice els spare ∧ els.length + spare.length = c) ∧ Bytes W (fun _ => True) A l := by
  obtain ⟨fuel, hf⟩ := h
  rcases open_ints Tryd.underlying30 Tryd.underlying5 (by kernel_rfl) hf with ⟨hcs0, -⟩ | ⟨a, n', c', zs, hcs0, -, hl, hm, hz, hd, hcell, hwf⟩
  · have hcs : [Value.slice A n c] = [.slice none 0 0] := hcs0
    simp at hcs
    obtain ⟨rfl, rfl, rfl⟩ := hcs
    exact ⟨[], rfl, Nat.le_refl _, .inl rfl, Bytes.nil _ _ _⟩
  · have hcs : [Value.slice A n c] = [.slice (some a) n' c'] := hcs0
    simp at hcs
    obtain ⟨rfl, rfl, rfl⟩ := hcs
    simp only [if_true] at hz
    refine ⟨(zs.take n).map fun z => UInt8.ofNat z.toNat, by rw [List.length_map, List.length_take]; omega, hl, .inr ⟨_, _, (Prod.mk.inj hd).1, by simp only [lits, List.length_map, List.length_take, List.length_drop]; omega⟩, fun hpos => ?_⟩
    have hn0 : 0 < n := by rw [List.length_map, List.length_take] at hpos; omega
    obtain ⟨b, off, spot⟩ := a
    have hspot : spot = none := by simpa [Addr.add] using World.cell?_spot (hcell 0 (by omega))
    subst hspot
    refine ⟨b, off, rfl, trivial, fun j hj => ?_⟩
    rw [List.length_map, List.length_take] at hj
    have hc := hcell j (by omega)
    rw [show (⟨b, off, none⟩ : Addr).add j = ⟨b, off + j, none⟩ by unfold Addr.add; split <;> simp_all] at hc
    rw [hc]
    have hjz : j < zs.length := by omega
    have hw := hwf (zs[j]) (List.getElem_mem hjz)
    have hw' : 0 ≤ zs[j] ∧ zs[j] ≤ 255 := by simpa [Lit.wf, IntKind.min, IntKind.max, IntKind.signed, IntKind.bits] using hw
    have e1 : zs.getD j 0 = zs[j] := by rw [List.getD_eq_getElem?_getD, List.getElem?_eq_getElem hjz]; rfl
    have e2 : ((zs.take n).map fun z => UInt8.ofNat z.toNat).getD j 0 = UInt8.ofNat zs[j].toNat := by
      rw [List.getD_eq_getElem?_getD, List.getElem?_map, List.getElem?_take_of_lt (by omega), List.getElem?_eq_getElem hjz]
      rfl
    rw [e1, e2, UInt8.toNat_ofNat']
    congr 2
    omega
namespace blockLimitsDone
theorem own : ownKnob Tryd.prog.godebug = none := by kernel_rfl
theorem laidOut : laidOutB Tryd.prog = true := by kernel_rfl
theorem pairArr : Go.WideMaps.ArrKey Tryd.prog 51 3 2 := ⟨Tryd.underlying51, by kernel_rfl, by kernel_rfl, by kernel_rfl⟩
/-- A world that meets the condition: the settled one, the two tables laid. -/
noncomputable def laidWorld (os : Os) : World :=
  let w0 := World.holding Tryd.prog os ⟨#[], #[], []⟩
  { w0 with heap := (w0.heap.modify 0 fun
      | .cells _ t frozen => .cells (ints shapesL) t frozen
      | o => o).modify 1 fun
      | .cells _ t frozen => .cells (ints lens) t frozen
      | o => o }
theorem laidWorld_met (os : Os) (args : Array Value) : laidMetH Tryd.prog Rows.blockLimitsRow.laid ((laidWorld os).forCall (fun _ _ => 0) ⟨#[], args, []⟩).memory :=
  laidMet_of_run' 8 (by kernel_rfl) (by kernel_rfl)
theorem met {W : World} (h : laidMetH Tryd.prog Rows.blockLimitsRow.laid W) : laidMet Tryd.prog Rows.blockLimitsRow.laid W := h

set_option maxRecDepth 100000 in
theorem lifted (os : Os) (started : os.Started) (H : Type) (enc : TypeId × Value → H) :
    ReturnsInHanded {} Tryd.checked os 5 .any (fun w args => (Rows.blockLimitsSpec.pre enc Tryd.prog Tryd.f5 [] false w args ∧ laidMetH Tryd.prog Rows.blockLimitsRow.laid w) ∧ sizedMet enc Tryd.prog Tryd.f5 (OpenSpec.ofChange Rows.blockLimitsSpec) false w args)
      (Rows.blockLimitsSpec.post enc Tryd.prog Tryd.f5 false true false false) := by
  refine returnsInHanded_of_change_and (C := Tryd.checked) (X := fun w _ => laidMetH Tryd.prog Rows.blockLimitsRow.laid w) (fun _ _ _ hh h => h.of_heap hh) own started (by kernel_rfl) Tryd.func5
    (ChangeSpec.witness_at (enc := enc) (C := Tryd.checked) (os := os) (X := fun w _ => laidMetH Tryd.prog Rows.blockLimitsRow.laid w) false (laidWorld os) #[.slice none 0 0, .slice none 0 0, .agg #[.int .i64 0, .int .i64 0]] 8 rfl (by kernel_rfl) (by kernel_rfl) (by kernel_rfl) (by kernel_rfl) (by kernel_rfl) (laidWorld_met os _)) ?_
  intro W base args ds gs before hval0 hW _ hsz0 hL _
  have hval : ∀ (j : Nat) t v, Tryd.f5.params[j]? = some t → args[j]? = some v → Value.okWide Tryd.prog W .any base t v := hval0
  have hW' := hW
  obtain ⟨p, q, hA0, hV, rfl, hfz, hnd⟩ := hW
  have hA : DataW.TrodAll enc Tryd.prog W 0 (fun _ => true) true Tryd.f5.params.toList args.toList ds p := hA0
  rw [Tryd.params5] at hA hval
  obtain ⟨v0, vs0, d0, ds0, p0, q0, hargs, rfl, rfl, h0, r0⟩ := trodAll_cons hA
  obtain ⟨v1, vs1, d1, ds1, p1, q1, rfl, rfl, rfl, h1, r1⟩ := trodAll_cons r0
  obtain ⟨v2, vs2, d2, ds2, p2, q2, rfl, rfl, rfl, h2, r2⟩ := trodAll_cons r1
  obtain ⟨rfl, rfl, rfl⟩ := trodAll_nil r2
  obtain rfl : args = #[v0, v1, v2] := by cases args; simp_all
  obtain ⟨rfl, rfl⟩ := trodVars_none hV
  have k0 := h0
  have k1 := h1
  have lt0 : ∀ x ∈ p0, x.block < W.heap.size := by obtain ⟨m, hm⟩ := k0; exact DataW.trod_lt m _ _ _ hm
  have lt1 : ∀ x ∈ p1, x.block < W.heap.size := by obtain ⟨m, hm⟩ := k1; exact DataW.trod_lt m _ _ _ hm
  obtain ⟨A1, n1, c1, rfl⟩ := okWide_slice Tryd.underlying30 (hval 0 30 v0 rfl rfl)
  obtain ⟨A2, n2, c2, rfl⟩ := okWide_slice Tryd.underlying30 (hval 1 30 v1 rfl rfl)
  obtain ⟨L1, L2, rfl, rfl, rfl, w1, w2⟩ := Go.WideMaps.open_pair pairArr Tryd.underlying3 (hval 2 51 v2 rfl rfl) h2
  obtain ⟨b, hbn, hbc, hbm, hby⟩ := open_bytes h0
  obtain ⟨ah, han, hac, ham, hay⟩ := open_bytes h1
  obtain ⟨hLL, hLS⟩ := laid_all (met hL)
  have hsz : (DataW.weightsEach Tryd.prog (Tryd.f5.params.toList ++ Rows.blockLimitsSpec.plain.varTypes Tryd.prog) ([d0, d1, .agg [.lit (.int .i64 L1), .lit (.int .i64 L2)]] ++ [])).all (· ≤ reachBytes) = true := hsz0
  have hm1 : c1 ≤ 140737488351232 := by
    rcases hbm with rfl | ⟨els, spare, hd, he⟩
    · omega
    · have := sized_slice hsz (j := 0) (t := 30) (e := 5) (by kernel_rfl) (by rw [hd]; rfl) Tryd.underlying30
      rw [show Tryd.prog.bytesOf 5 = 1 from by kernel_rfl] at this
      simp only [reachBytes] at this
      omega
  have hm2 : c2 ≤ 140737488351232 := by
    rcases ham with rfl | ⟨els, spare, hd, he⟩
    · omega
    · have := sized_slice hsz (j := 1) (t := 30) (e := 5) (by kernel_rfl) (by rw [hd]; rfl) Tryd.underlying30
      rw [show Tryd.prog.bytesOf 5 = 1 from by kernel_rfl] at this
      simp only [reachBytes] at this
      omega
  clear hA0 hval0
  have hwalk : Calls Tryd.prog 5 #[.slice A1 n1 c1, .slice A2 n2 c2, .agg #[.int .i64 L1, .int .i64 L2]] W fun e w' => e = .returned (.bool true) ∧ Below W.heap.size W w' := by
    by_cases hlong : 300 < n1 ∨ 300 < n2
    · exact lim_long A1 A2 n1 n2 c1 c2 L1 L2 W hlong hLL hLS
    · subst hbn han
      exact lim_short A1 A2 b ah c1 c2 L1 L2 W hby hay (by omega) (by omega) hbc hac hm1 hm2 hLL hLS
  refine hwalk.mono fun e W' ⟨he, bel⟩ => ?_
  subst he
  exact ⟨_, rfl, _, _, _, [], _, [], hW', trodAll_mk1 (shut_bool Tryd.underlying4 _), (trodAll_cons_mk (Below.trod laidOut (by kernel_rfl) (of_decide_eq_true (by kernel_rfl)) k0 bel lt0) (trodAll_cons_mk (Below.trod laidOut (by kernel_rfl) (of_decide_eq_true (by kernel_rfl)) k1 bel lt1) (trodAll_cons_mk (Go.WideMaps.shut_pair pairArr Tryd.underlying3 w1 w2) trodAll_mk0))), rfl, bel.frame _, fun h => by cases h⟩

theorem over : Rows.blockLimitsRow.holds Tryd.pinned (OpenSpec.ofChange Rows.blockLimitsSpec) :=
  OpenClaim.holds_of_wide 5 Tryd.f5 rfl rfl rfl rfl rfl rfl rfl ⟨rfl, rfl, rfl, rfl, rfl⟩ rfl rfl rfl rfl rfl (by kernel_rfl) Tryd.func5 (by kernel_rfl)
    (of_decide_eq_true (by kernel_rfl)) (by unfold Func.isWrapper; first | (rw [if_pos (by decide +kernel)]; kernel_rfl) | (rw [if_neg (by decide +kernel)]; exact ⟨rfl, rfl⟩))
    (fun os started H enc _ => lifted os started H enc)
end blockLimitsDone

/-- The statement. -/
theorem blockLimits_holds : Rows.BlockLimitsSaid := blockLimitsDone.over
#print axioms blockLimits_holds
end Go.Proofs.YtfkpeahelhpelaaDoor
