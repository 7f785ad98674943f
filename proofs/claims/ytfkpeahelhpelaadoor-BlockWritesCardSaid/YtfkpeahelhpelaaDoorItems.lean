/- Header lists as blocks (layer 9): the iterator over a block's items. -/
import Derived.Test.YtfkpeahelhpelaaDoorBlkM
import Derived.Sort.LoopGhostIn
namespace Go.Proofs.YtfkpeahelhpelaaDoor
set_option linter.all false
open Go.RowKit Go.Shelf
attribute [local go_sem] Oper.semAt_some valueOf_ok

/-! What an item is bounded by. -/
theorem hgo_le (F : Int → Int → Option Nat) (most : Int) : ∀ (r p : List Bool) (out : List UInt8), (out.length : Int) ≤ max most 0 → ((hgo F most r p out).1.length : Int) ≤ max most 0 := by
  intro r
  induction r with
  | nil =>
    intro p out h
    rw [hgo]
    split
    · simp; omega
    · exact h
  | cons b r ih =>
    intro p out h
    rw [hgo]
    split
    · exact ih _ _ h
    · split
      · simp; omega
      · split
        · simp; omega
        · refine ih _ _ ?_
          simp
          omega
theorem ltd_len (l : List UInt8) (most : Int) : ((ltd l most).1.length : Int) ≤ max most 0 := by
  rw [ltd]
  repeat' split
  all_goals first
    | (simp; omega)
    | (simp only [List.length_take, List.length_drop]; omega)
    | exact hgo_le _ _ _ _ _ (by simp; omega)
theorem itext_len (l : List UInt8) (s : Bool) (a e : Nat) : (itext l s a e).1.length ≤ 65536 := by
  rw [itext]
  split
  · simp
  · have := ltd_len (l.drop a) 65536
    simp only
    omega
theorem itext_at (l : List UInt8) (s : Bool) (a e : Nat) (h : e = 0 → a ≤ l.length) : ((itext l s a e).2.2 = 0 → (itext l s a e).2.1 ≤ l.length) ∧ ((itext l s a e).2.2 = 0 → e = 0) ∧ a ≤ (itext l s a e).2.1 := by
  rw [itext]
  split
  · exact ⟨h, fun h => h, Nat.le_refl _⟩
  · rename_i hn
    have he : e = 0 := Decidable.of_not_not fun h => hn (.inl h)
    have := ltd_le (l.drop a) 65536
    rw [List.length_drop] at this
    have := h he
    exact ⟨fun _ => by simp only; omega, fun _ => he, by simp only; omega⟩
structure ItemOk (l : List UInt8) (x : ItemS) (n : Nat) : Prop where
  num : x.n ≤ 16777215
  name : x.name.length ≤ 65536
  value : x.value.length ≤ 65536
  kind : x.kind ≤ 4
  pos : 0 < n
  le : n ≤ l.length
theorem idec_ok (l : List UInt8) (h0 : l ≠ []) (h : (idec l).2.2 = 0) : ItemOk l (idec l).1 (idec l).2.1 := by
  cases l with
  | nil => exact absurd rfl h0
  | cons c r =>
    have hk : kindOf c.toNat ≤ 4 := by
      have h : ∀ c : Fin 256, kindOf c.val ≤ 4 := by decide +kernel
      exact h ⟨_, c.toNat_lt⟩
    have hs : shBits (kindOf c.toNat) ≤ 8 := by
      have h : ∀ k : Fin 5, shBits k.val ≤ 8 := by decide
      exact h ⟨kindOf c.toNat, Nat.lt_succ_of_le hk⟩
    obtain ⟨p1, p2, p3, p4⟩ := pdec_facts (shBits (kindOf c.toNat)) hs (c :: r)
    rw [idec] at h ⊢
    generalize pdec (shBits (kindOf c.toNat)) (c :: r) = p at *
    have t1 := itext_at (c :: r) (!(decide (1 ≤ kindOf c.toNat ∧ kindOf c.toNat ≤ 3)) || decide (0 < p.1)) p.2.1 p.2.2 (fun h => (p3 h).2)
    have n1 := itext_len (c :: r) (!(decide (1 ≤ kindOf c.toNat ∧ kindOf c.toNat ≤ 3)) || decide (0 < p.1)) p.2.1 p.2.2
    generalize itext (c :: r) (!(decide (1 ≤ kindOf c.toNat ∧ kindOf c.toNat ≤ 3)) || decide (0 < p.1)) p.2.1 p.2.2 = s1 at *
    have t2 := itext_at (c :: r) (!(decide (1 ≤ kindOf c.toNat ∧ kindOf c.toNat ≤ 3))) s1.2.1 s1.2.2 t1.1
    have n2 := itext_len (c :: r) (!(decide (1 ≤ kindOf c.toNat ∧ kindOf c.toNat ≤ 3))) s1.2.1 s1.2.2
    generalize itext (c :: r) (!(decide (1 ≤ kindOf c.toNat ∧ kindOf c.toNat ≤ 3))) s1.2.1 s1.2.2 = s2 at *
    by_cases hc : s2.2.2 = 0 ∧ kindOf c.toNat = 0 ∧ p.1 = 0
    · rw [if_pos hc] at h
      cases h
    · rw [if_neg hc] at h ⊢
      by_cases e2 : s2.2.2 = 0
      · rw [if_neg (by simp [e2])]
        have e1 := t2.2.1 e2
        have e0 := t1.2.1 e1
        have h3 := p3 e0
        exact ⟨p1, n1, n2, hk, by have := t2.2.2; have := t1.2.2; show 0 < s2.2.1; omega, t2.1 e2⟩
      · rw [if_pos e2] at h
        exact absurd h e2

def stepV (x : ItemS) (e : Nat) : Value := .agg #[.int .i64 (x.kind : Int), .int .i64 (x.n : Int), strV x.name, strV x.value, .int .i64 (e : Int)]
theorem items_any (A : Option Addr) (n c : Nat) (w : World) : Calls Tryd.prog 21 #[.slice A n c] w fun e w' => e = .returned (.func (.func 39) #[] #[.pointer (some ⟨w.heap.size, 0, none⟩)]) ∧ w' = w.alloc (.cells #[.slice A n c] 30) := by
  go_enter Tryd.func21, Tryd.ntmps21
  go_wp2
  go_ret
  exact ⟨rfl, rfl⟩

set_option maxRecDepth 100000 in
set_option maxHeartbeats 2000000 in
theorem items_it (m L B : Nat) (J J' : List UInt8 → Option Addr → Nat → World → Prop) (Jx : World → Prop)
    (hbox : ∀ r A c W, J r A c W → W.heap[B]? = some (.cells #[.slice A r.length c] 30 (0, 0)) ∧ Bytes W (fun _ => True) A r ∧ r.length ≤ c ∧ c ≤ 9223372036854775807 ∧ r.length ≤ 17592186044415 ∧ LaidLens W ∧ LaidShapes W)
    (hal : ∀ r A c W W', J r A c W → Below W.heap.size W W' → J r A c W')
    (hY : ∀ r A c W, J r A c W → r ≠ [] → YieldAt Fence.wide m Tryd.prog L #[stepV (idec r).1 (idec r).2.2] W fun e W' => (e = .returned (.bool true) ∧ (idec r).2.2 = 0 ∧ J' r A c W') ∨ (e = .returned (.bool false) ∧ Jx W'))
    (hn : ∀ r A c W, J' r A c W → (idec r).2.2 = 0 → r ≠ [] → W.heap[B]? = some (.cells #[.slice A r.length c] 30 (0, 0)) ∧ J (r.drop (idec r).2.1) (adrFrom A c (idec r).2.1 1) (c - (idec r).2.1) (W.setCell ⟨B, 0, none⟩ (.slice (adrFrom A c (idec r).2.1 1) (r.length - (idec r).2.1) (c - (idec r).2.1))))
    (l : List UInt8) (A0 : Option Addr) (c0 : Nat) (W : World) (h0 : J l A0 c0 W) :
    CallsIn Fence.wide (m + 1) Tryd.prog 39 #[.func (.yield L) #[] #[], .pointer (some ⟨B, 0, none⟩)] W fun e W' => (∃ v, e = .returned v) ∧ ((∃ A c, J [] A c W') ∨ Jx W') := by
  refine callsIn_of_wp Tryd.func39 rfl trivial ?_ rfl
  simp only [Tryd.ntmps39, List.size_toArray, List.length_cons, List.length_nil, Nat.reduceAdd, Nat.reduceSub, Array.replicate_succ, Array.replicate_zero, List.push_toArray, List.append_toArray, List.nil_append, List.cons_append]
  gi_wp2
  gi_loopg [] l.length (fun k wr => ∃ r A c, r.length = k ∧ J r A c wr)
  case atStart => exact ⟨l, A0, c0, rfl, h0⟩
  case round =>
    obtain ⟨r, A, c, rfl, hJ⟩ := hrel
    clear h0
    obtain ⟨b1, b2, b3, b4, b5, b6, b7⟩ := hbox _ _ _ _ hJ
    have d1 := (cell1 b1).1
    by_cases hr : r = []
    · subst hr
      have d1' : wr.cell? ⟨B, 0, none⟩ = some (.slice A 0 c) := d1
      clear d1
      gi_wp2
      go_end0
      exact ⟨⟨_, rfl⟩, .inl ⟨A, c, hJ⟩⟩
    · have hlp : (0 : Int) < r.length := by cases r with | nil => exact absurd rfl hr | cons x y => simp
      have hid := Lib.hid (idec_any A r c wr b2 b3 b4 b5 b6 b7)
      have hok := idec_ok r hr
      obtain ⟨⟨⟨ik, inn, inm, ivl⟩, iat, ie⟩, hi⟩ : ∃ z, z = idec r := ⟨_, rfl⟩
      replace b1 := Lib.hid b1
      replace b2 := Lib.hid b2
      replace b6 := Lib.hid b6
      replace b7 := Lib.hid b7
      replace hr := Lib.hid hr
      rw [← hi] at hid hok
      gi_wp2
      refine ⟨trivial, (callsIn_wide.2 hid.out).mono ?_⟩
      rintro e w1 ⟨rfl, hb1⟩
      clear hid
      have hJ1 := hal _ _ _ _ _ hJ (bl_alloc hb1 (.cells #[.int .i64 (ik : Int), .int .i64 (inn : Int), strV inm, strV ivl] 62))
      have hYJ := hY _ _ _ _ hJ1 hr.out
      rw [← hi] at hYJ
      obtain ⟨fn, tmps, assign, body, hy, hR⟩ := hYJ
      rw [stepV] at hy
      replace hi := Lib.hid hi
      rw [itemV]
      simp only [show strV inm = .string (strB inm) from rfl, show strV ivl = .string (strB ivl) from rfl] at hy ⊢
      gi_wp2
      refine hR.mono ?_
      rintro e W3 (⟨rfl, he, hJ3⟩ | ⟨rfl, hJx⟩)
      · have hk := hok he
        have he2 : (idec r).2.2 = 0 := by rw [← hi.out]; exact he
        obtain ⟨n1, n2⟩ := hn _ _ _ _ hJ3 he2 hr.out
        rw [← hi.out] at n2
        have hkp := hk.pos
        have hkl := hk.le
        simp only at he n2 hkp hkl
        have e1 := (cell1 n1).1
        have z1 := (cell1 n1).2
        have i1 : (0 : Int) ≤ iat := by omega
        have i2 : (iat : Int) ≤ r.length := by omega
        have he0 : ((ie : Int) != 0) = false := by simp [he]
        replace hkl := Lib.hid hkl
        replace n1 := Lib.hid n1
        clear hy hR hok d1 hbox hal hY hn he2 hJ hJ1 he
        gi_wp2_with (((with_reducible refine at_sliceIn 30 ?_); refine wlIn_val rfl (fun _ => trivial) (fun c hc => by cases hc) (ex_slice_from 30 5 (by kernel_rfl) (k := 1) (by kernel_rfl) A r.length c .i64 iat hkl.out _ _ _ _ rfl rfl rfl) ?_))
        gi_roundg (r.length - iat)
        case measure => omega
        case rel => exact ⟨r.drop iat, _, _, by simp, n2⟩
      · gi_wp2
        refine bodyPost_ret (results_none rfl _ _ _) rfl ?_
        exact ⟨⟨_, rfl⟩, .inr hJx⟩
end Go.Proofs.YtfkpeahelhpelaaDoor
