/- Are two lists one (ref01.Same, ref07.Fields). -/
import Derived.Test.YtfkpeahelhpelaaDoorLenc
import Derived.Test.YtfkpeahelhpelaaDoorTab
import Derived.Test.YtfkpeahelhpelaaDoorPlan
namespace Go.Proofs.YtfkpeahelhpelaaDoor
set_option linter.all false
open Go.RowKit
attribute [local go_sem] Oper.semAt_some valueOf_ok

theorem take_step {α : Type} {a b : List α} {k : Nat} {x y : α} (h : a.take k = b.take k) (hx : a[k]? = some x) (hy : b[k]? = some y) (e : x = y) : a.take (k + 1) = b.take (k + 1) := by
  rw [List.take_add_one, List.take_add_one, h, hx, hy, e]
theorem ne_at {α : Type} {a b : List α} {k : Nat} {x y : α} (hx : a[k]? = some x) (hy : b[k]? = some y) (e : x ≠ y) : a ≠ b := by
  rintro rfl
  rw [hx] at hy
  exact e (Option.some.inj hy)
set_option maxRecDepth 100000 in
set_option maxHeartbeats 1000000 in
theorem same_any (A B : Option Addr) (l m : List UInt8) (c d : Nat) (w : World) {P Q : Nat → Prop} (ha : Bytes w P A l) (hb : Bytes w Q B m) (hl : l.length ≤ 140737488351232) (hm : m.length ≤ 140737488351232) :
    Calls Tryd.prog 18 #[.slice A l.length c, .slice B m.length d] w fun e w' => e = .returned (.bool (decide (l = m))) ∧ Below w.heap.size w w' := by
  replace ha := Lib.hid ha
  replace hb := Lib.hid hb
  obtain ⟨D, hD⟩ : ∃ D, D = decide (l = m) := ⟨_, rfl⟩
  rw [← hD]
  replace hD := Lib.hid hD
  by_cases hlen : l.length = m.length
  · rw [hlen]
    go_enter Tryd.func18, Tryd.ntmps18
    go_wp2_with fail
    go_loopw [5] (fun i wr => ∃ k : Nat, k ≤ m.length ∧ i = .int .i64 k ∧ l.take k = m.take k ∧ Below w.heap.size w wr) (fun i _ => m.length - (intOf i).toNat)
    case atStart => exact ⟨0, by omega, rfl, rfl, Below.refl _ _⟩
    case round =>
      obtain ⟨k, hk, rfl, htk, hbl⟩ := hrel
      replace htk := Lib.hid htk
      by_cases hlt : k < l.length
      · have hltm : k < m.length := by omega
        have hltm' : (k : Int) < m.length := by omega
        have hk0 : (0 : Int) ≤ k := by omega
        obtain ⟨x, hx⟩ : ∃ x, l[k]? = some x := ⟨_, List.getElem?_eq_getElem hlt⟩
        obtain ⟨y, hy⟩ : ∃ y, m[k]? = some y := ⟨_, List.getElem?_eq_getElem hltm⟩
        obtain ⟨b1, o1, rfl, -, q1⟩ := ha.out.below hbl (by omega)
        obtain ⟨b2, o2, rfl, -, q2⟩ := hb.out.below hbl (by omega)
        have q1 := q1 k hlt
        have q2 := q2 k hltm
        rw [List.getD_eq_getElem?_getD, hx, Option.getD_some] at q1
        rw [List.getD_eq_getElem?_getD, hy, Option.getD_some] at q2
        replace hx := Lib.hid hx
        replace hy := Lib.hid hy
        have hx8 := x.toNat_lt
        have hy8 := y.toNat_lt
        have hbl2 := bl_drew hbl
        by_cases hxy : x = y
        · subst hxy
          go_wp2_with fail
          refine region_plan_open (fun w' => w'.cell? ⟨b1, o1 + k, none⟩ = some (.int .u8 (x.toNat : Int)) ∧ w'.cell? ⟨b2, o2 + k, none⟩ = some (.int .u8 (x.toNat : Int))) [] [] [0, 1, 2, 3, 4, 5, 6, 7, 8] (by kernel_rfl) (by kernel_rfl) (by kernel_rfl) (by kernel_rfl) (by decide) ⟨q1, q2⟩ ?_
          have q1' : wr.drew.cell? ⟨b1, o1 + k, none⟩ = some (.int .u8 (x.toNat : Int)) := q1
          have q2' : wr.drew.cell? ⟨b2, o2 + k, none⟩ = some (.int .u8 (x.toNat : Int)) := q2
          generalize wr.drew = wr2 at hbl2 q1' q2' ⊢
          iterate 9 (refine seq_v rfl rfl rfl (by rintro w' ⟨h1, h2⟩; go_simp) ?_; go_simp)
          refine seq_nil ?_
          go_wp2_with fail
          go_roundw
          case rel =>
            exact ⟨k + 1, by omega, by go_num, take_step htk.out hx.out hy.out rfl, hbl2⟩
          case measure => simp [intOf]; omega
        · have hne : ¬ ((x.toNat : Int) = (y.toNat : Int)) := fun e => hxy (UInt8.toNat_inj.1 (by omega))
          go_wp2_with fail
          refine region_plan_open (fun w' => w'.cell? ⟨b1, o1 + k, none⟩ = some (.int .u8 (x.toNat : Int)) ∧ w'.cell? ⟨b2, o2 + k, none⟩ = some (.int .u8 (y.toNat : Int))) [] [] [0, 1, 2, 3, 4, 5, 6, 7, 8] (by kernel_rfl) (by kernel_rfl) (by kernel_rfl) (by kernel_rfl) (by decide) ⟨q1, q2⟩ ?_
          have q1' : wr.drew.cell? ⟨b1, o1 + k, none⟩ = some (.int .u8 (x.toNat : Int)) := q1
          have q2' : wr.drew.cell? ⟨b2, o2 + k, none⟩ = some (.int .u8 (y.toNat : Int)) := q2
          generalize wr.drew = wr2 at hbl2 q1' q2' ⊢
          iterate 9 (refine seq_v rfl rfl rfl (by rintro w' ⟨h1, h2⟩; go_simp) ?_; go_simp)
          refine seq_nil ?_
          go_wp2_with fail
          go_ret
          rw [hD.out, decide_eq_false (ne_at hx.out hy.out hxy)]
          exact ⟨rfl, hbl2⟩
      · go_wp2_with fail
        go_ret
        have e : l = m := by
          have := htk.out
          rwa [List.take_of_length_le (by omega), List.take_of_length_le (by omega)] at this
        rw [hD.out, decide_eq_true e]
        exact ⟨rfl, hbl⟩
  · have hlen' : ¬ ((l.length : Int) = m.length) := by omega
    go_enter Tryd.func18, Tryd.ntmps18
    go_wp2_with fail
    go_ret
    rw [hD.out, decide_eq_false (fun e => hlen (by rw [e]))]
    exact ⟨rfl, Below.refl _ _⟩
theorem str_cmp (n1 v1 n2 v2 : ByteArray) (w' : World) (D : Bool) (hD : D = !decide ((n1, v1) = (n2, v2))) : (if n1.toList = n2.toList then if v1.toList = v2.toList then Result.ok (Next.value (Value.bool false)) w' else Result.ok (Next.value (Value.bool true)) w' else Result.ok (Next.value (Value.bool true)) w') =
    Result.ok (Next.value (Value.bool D)) w' := by
  subst hD
  by_cases h1 : n1 = n2
  · subst h1
    rw [if_pos rfl]
    by_cases h2 : v1 = v2
    · subst h2
      simp
    · rw [if_neg (fun e => h2 (bytes_ext e)), decide_eq_false (fun e => h2 (Prod.mk.inj e).2)]
      rfl
  · rw [if_neg (fun e => h1 (bytes_ext e)), decide_eq_false (fun e => h1 (Prod.mk.inj e).1)]
    rfl
set_option maxRecDepth 100000 in
set_option maxHeartbeats 1000000 in
theorem fields_eq (A B : Option Addr) (l m : List FieldS) (c d : Nat) (w : World) {P Q : Nat → Prop} (ha : FRead w P A l) (hb : FRead w Q B m) (hl : l.length ≤ 9223372036854775807) (hm : m.length ≤ 9223372036854775807) :
    Calls Tryd.prog 12 #[.slice A l.length c, .slice B m.length d] w fun e w' => e = .returned (.bool (decide (l = m))) ∧ Below w.heap.size w w' := by
  replace ha := Lib.hid ha
  replace hb := Lib.hid hb
  obtain ⟨D, hD⟩ : ∃ D, D = decide (l = m) := ⟨_, rfl⟩
  rw [← hD]
  replace hD := Lib.hid hD
  by_cases hlen : l.length = m.length
  · rw [hlen]
    go_enter Tryd.func12, Tryd.ntmps12
    go_wp2_with fail
    go_loopw [5] (fun i wr => ∃ k : Nat, k ≤ m.length ∧ i = .int .i64 k ∧ l.take k = m.take k ∧ Below w.heap.size w wr) (fun i _ => m.length - (intOf i).toNat)
    case atStart => exact ⟨0, by omega, rfl, rfl, Below.refl _ _⟩
    case round =>
      obtain ⟨k, hk, rfl, htk, hbl⟩ := hrel
      replace htk := Lib.hid htk
      by_cases hlt : k < l.length
      · have hltm : k < m.length := by omega
        have hltm' : (k : Int) < m.length := by omega
        have hk0 : (0 : Int) ≤ k := by omega
        obtain ⟨x, hx⟩ : ∃ x, l[k]? = some x := ⟨_, List.getElem?_eq_getElem hlt⟩
        obtain ⟨y, hy⟩ : ∃ y, m[k]? = some y := ⟨_, List.getElem?_eq_getElem hltm⟩
        obtain ⟨b1, o1, rfl, -, q1, q2⟩ := (ha.out.below hbl).at_ hx
        obtain ⟨b2, o2, rfl, -, q3, q4⟩ := (hb.out.below hbl).at_ hy
        obtain ⟨n1, v1⟩ := x
        obtain ⟨n2, v2⟩ := y
        simp only at q1 q2 q3 q4
        replace hx := Lib.hid hx
        replace hy := Lib.hid hy
        have hbl2 := bl_drew hbl
        go_wp2_with fail
        refine region_plan_open (fun w' => (w'.cell? ⟨b1, o1 + k * 2, none⟩ = some (.string n1) ∧ w'.cell? ⟨b1, o1 + k * 2 + 1, none⟩ = some (.string v1)) ∧ w'.cell? ⟨b2, o2 + k * 2, none⟩ = some (.string n2) ∧ w'.cell? ⟨b2, o2 + k * 2 + 1, none⟩ = some (.string v2)) [] [] [0, 1, 2, 3, 4, 5, 6, 7, 8] (by kernel_rfl) (by kernel_rfl) (by kernel_rfl) (by kernel_rfl) (by decide) ⟨⟨q1, q2⟩, q3, q4⟩ ?_
        have q1' : wr.drew.cell? ⟨b1, o1 + k * 2, none⟩ = some (.string n1) := q1
        have q2' : wr.drew.cell? ⟨b1, o1 + k * 2 + 1, none⟩ = some (.string v1) := q2
        have q3' : wr.drew.cell? ⟨b2, o2 + k * 2, none⟩ = some (.string n2) := q3
        have q4' : wr.drew.cell? ⟨b2, o2 + k * 2 + 1, none⟩ = some (.string v2) := q4
        clear q1 q2 q3 q4
        generalize wr.drew = wr2 at hbl2 q1' q2' q3' q4' ⊢
        iterate 8 (refine seq_v rfl rfl rfl (by rintro w' ⟨⟨h1, h2⟩, h3, h4⟩; go_simp) ?_; go_simp)
        obtain ⟨D1, hD1⟩ : ∃ D1, D1 = !decide ((n1, v1) = (n2, v2)) := ⟨_, rfl⟩
        replace hD1 := Lib.hid hD1
        refine seq_q (v := .bool D1) rfl rfl rfl (by rintro w' ⟨⟨h1, h2⟩, h3, h4⟩; go_simp; exact str_cmp n1 v1 n2 v2 w' D1 hD1.out) ?_
        replace hD1 := hD1.out
        by_cases hxy : (n1, v1) = (n2, v2)
        · obtain rfl : D1 = false := by rw [hD1, decide_eq_true hxy]; rfl
          clear hD1
          refine seq_nil ?_
          go_wp2_with fail
          go_roundw
          case rel => exact ⟨k + 1, by omega, by go_num, take_step htk.out hx.out hy.out hxy, hbl2⟩
          case measure => simp [intOf]; omega
        · obtain rfl : D1 = true := by rw [hD1, decide_eq_false hxy]; rfl
          clear hD1
          refine seq_nil ?_
          go_wp2_with fail
          go_ret
          rw [hD.out, decide_eq_false (ne_at hx.out hy.out hxy)]
          exact ⟨rfl, hbl2⟩
      · go_wp2_with fail
        go_ret
        have e : l = m := by
          have := htk.out
          rwa [List.take_of_length_le (by omega), List.take_of_length_le (by omega)] at this
        rw [hD.out, decide_eq_true e]
        exact ⟨rfl, hbl⟩
  · have hlen' : ¬ ((l.length : Int) = m.length) := by omega
    go_enter Tryd.func12, Tryd.ntmps12
    go_wp2_with fail
    go_ret
    rw [hD.out, decide_eq_false (fun e => hlen (by rw [e]))]
    exact ⟨rfl, Below.refl _ _⟩
end Go.Proofs.YtfkpeahelhpelaaDoor
