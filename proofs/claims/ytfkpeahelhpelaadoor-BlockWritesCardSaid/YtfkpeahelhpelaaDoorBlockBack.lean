/- A block is read as the list that it was written from (layer 9), plainly. -/
import Derived.Test.YtfkpeahelhpelaaDoorBack
namespace Go.Proofs.YtfkpeahelhpelaaDoor
set_option linter.all false
open Go.RowKit

theorem named_at (F : List FieldS) (i : Nat) (h1 : i ≠ 0) (h2 : i ≤ 61) : namedS F (i : Int) = ((nm (i - 1), vl (i - 1)), 0) := by
  have h : (1 : Int) ≤ (i : Int) ∧ (i : Int) ≤ 61 := by omega
  have e : (i : Int).toNat - 1 = i - 1 := by omega
  rw [namedS, if_pos (by omega), getN, getV, getE]
  simp only [if_pos h, e]
  rfl
theorem kind_of_lt (c : Nat) (h : c < 16) : kindOf c = 2 := by
  unfold kindOf
  rw [if_neg (by omega), if_neg (by omega), if_neg (by omega), if_neg (by omega)]
theorem kind_of_ge (c : Nat) (h : 128 ≤ c) : kindOf c = 0 := by
  unfold kindOf
  rw [if_pos h]
theorem item_back (f : FieldS) (r : List UInt8) (hf : fokS f = true) : ∃ x, idec (bitem f ++ r) = (x, (bitem f).length, 0) ∧ (x.kind = 0 ∨ x.kind = 2) ∧ ∀ F, fieldS F x = (f, 0) := by
  obtain ⟨hf1, hf2⟩ := of_decide_eq_true hf
  obtain ⟨h61, hnm, hwh⟩ := findS_ok f.1 f.2
  obtain ⟨fn, fv⟩ := f
  rw [bitem]
  simp only at hf1 hf2 h61 hnm hwh ⊢
  obtain ⟨⟨i, wh⟩, hz⟩ : ∃ z, z = findS fn fv := ⟨_, rfl⟩
  rw [← hz] at h61 hnm hwh ⊢
  simp only at h61 hnm hwh ⊢
  clear hz
  cases wh with
  | true =>
    obtain ⟨hi0, hv⟩ := hwh rfl
    have hn := hnm hi0
    rw [if_pos rfl]
    have hp := penc_back 7 128 i r (by omega) (by decide) (by decide) (by omega)
    obtain ⟨c, t, hct, hc1, hc2⟩ := penc_head 7 128 i r (by decide) (by decide)
    have hk := kind_of_ge c.toNat hc1
    have hb := idec_bare (k := 0) hct hk.symm
    rw [show shBits 0 = 7 from rfl, hp] at hb
    refine ⟨_, hb rfl (.inl ⟨rfl, hi0⟩), .inl rfl, fun F => ?_⟩
    rw [fieldS, if_neg hi0, if_pos rfl]
    rw [named_at F i hi0 h61, hn, hv]
  | false =>
    rw [if_neg (by decide)]
    rw [ienc2]
    by_cases hi0 : i = 0
    · subst hi0
      simp only [if_true]
      rw [List.append_assoc, List.append_assoc]
      have hp := penc_back 4 0 0 (shenc fn ++ (shenc fv ++ r)) (by omega) (by decide) (by decide) (by omega)
      obtain ⟨c, t, hct, hc1, hc2⟩ := penc_head 4 0 0 (shenc fn ++ (shenc fv ++ r)) (by decide) (by decide)
      have hk := kind_of_lt c.toNat (by omega)
      have ht1 := short_back fn (shenc fv ++ r) hf1
      have ht2 := short_back fv r hf2
      have hd1 : (penc 4 0 0 ++ (shenc fn ++ (shenc fv ++ r))).drop (penc 4 0 0).length = shenc fn ++ (shenc fv ++ r) := List.drop_left
      have hd2 : (penc 4 0 0 ++ (shenc fn ++ (shenc fv ++ r))).drop ((penc 4 0 0).length + (shenc fn).length) = shenc fv ++ r := by
        rw [← List.drop_drop, hd1, List.drop_left]
      have hb := idec_both (k := 2) (a := (penc 4 0 0).length) (a2 := (penc 4 0 0).length + (shenc fn).length) hct hk.symm
      rw [show shBits 2 = 4 from rfl, hp, hd1, hd2, ht1, ht2] at hb
      have hb' := hb rfl rfl rfl (by omega) rfl rfl
      simp only [ne_eq, not_true_eq_false, if_false] at hb'
      refine ⟨⟨2, 0, sb fn, sb fv⟩, ?_, .inr rfl, fun F => ?_⟩
      · exact hb'.trans (by simp only [List.length_append, Nat.add_assoc])
      · rw [fieldS, if_pos rfl]
        simp only [strB_sb]
    · rw [if_neg hi0, List.append_nil, List.append_assoc]
      have hn := hnm hi0
      have hp := penc_back 4 0 i (shenc fv ++ r) (by omega) (by decide) (by decide) (by omega)
      obtain ⟨c, t, hct, hc1, hc2⟩ := penc_head 4 0 i (shenc fv ++ r) (by decide) (by decide)
      have hk := kind_of_lt c.toNat (by omega)
      have ht2 := short_back fv r hf2
      have hd1 : (penc 4 0 i ++ (shenc fv ++ r)).drop (penc 4 0 i).length = shenc fv ++ r := List.drop_left
      have hb := idec_value (k := 2) (n := i) (a := (penc 4 0 i).length) hct hk.symm
      rw [show shBits 2 = 4 from rfl, hp, hd1, ht2] at hb
      have hb' := hb rfl rfl rfl (by omega) (by omega)
      simp only [ne_eq, not_true_eq_false, if_false] at hb'
      refine ⟨⟨2, i, [], sb fv⟩, ?_, .inr rfl, fun F => ?_⟩
      · exact hb'.trans (by simp only [List.length_append])
      · rw [fieldS, if_neg hi0, if_neg (show ¬ (2 : Nat) = 0 by decide)]
        simp only [strB_sb, named_at F i hi0 h61, hn]
/-- The list so far, and the sizes, behind a list that is read. -/
theorem items_back (limit : Int) : ∀ (l : List FieldS) (s : BSt) (k : Nat), l.all fokS = true → (l.flatMap bitem).length ≤ k → ((s.all : Int) ≤ limit → True) →
    ∃ out, bgo limit k (l.flatMap bitem) s = bfin limit ⟨out, s.all + sumF l, s.sized, s.count + l.length, s.T⟩ ∧ (((s.all + sumF l : Nat) : Int) ≤ limit → out = s.out ++ l)
  | [], s, k, _, _, _ => by
    refine ⟨s.out, ?_, fun _ => by rw [List.append_nil]⟩
    have h := bgo_end (limit := limit) (k := k) (s := s) rfl
    rw [List.flatMap_nil, h, sumF_nil]
    rfl
  | f :: l, s, k, hf, hk, _ => by
    rw [List.all_cons, Bool.and_eq_true] at hf
    obtain ⟨x, hx, hkind, hfield⟩ := item_back f (l.flatMap bitem) hf.1
    have hpos := bitem_pos f
    rw [List.flatMap_cons] at hk ⊢
    rw [List.length_append] at hk
    have hne : bitem f ++ l.flatMap bitem ≠ [] := fun e => by
      have := congrArg List.length e
      rw [List.length_append, List.length_nil] at this
      omega
    obtain ⟨k', hk', hg⟩ := bgo_put (limit := limit) (k := k) (r := bitem f ++ l.flatMap bitem) (s := s) rfl (by rw [List.length_append]; omega) hne (by rw [hx]) (by rw [hx]; simp only; omega) (by rw [hx, hfield])
    rw [hx, hfield] at hg
    simp only [List.drop_left] at hg
    rw [List.length_append] at hk'
    obtain ⟨out, ho1, ho2⟩ := items_back limit l (bput limit s x.kind f) k' hf.2 (by omega) (fun _ => trivial)
    have hT : (bput limit s x.kind f).T = s.T := by
      show (if x.kind = 1 then s.T.add f else s.T) = s.T
      rw [if_neg (by omega)]
    have ha : (bput limit s x.kind f).all = s.all + fsz f := rfl
    have hs : (bput limit s x.kind f).sized = s.sized := rfl
    have hc : (bput limit s x.kind f).count = s.count + 1 := rfl
    have ho : (bput limit s x.kind f).out = if ((s.all + fsz f : Nat) : Int) ≤ limit then s.out ++ [f] else s.out := rfl
    rw [hT, ha, hs, hc] at ho1
    rw [ha, ho] at ho2
    refine ⟨out, ?_, fun h => ?_⟩
    · rw [← hg, ho1, sumF_cons, List.length_cons, Nat.add_assoc, Nat.add_assoc s.count, Nat.add_comm 1 l.length]
    · rw [sumF_cons] at h
      rw [ho2 (by omega), if_pos (by omega), List.append_assoc]
      rfl
theorem keep_none (F : List FieldS) : keepFrom 0 0 F = [] := by
  rcases keepFrom_sum 0 0 F with h | h
  · exact h
  · cases hk : keepFrom 0 0 F with
    | nil => rfl
    | cons f r =>
      rw [hk, sumF_cons] at h
      have : 32 ≤ fsz f := by rw [fsz]; omega
      omega
/-- What a written block is read as, in any table. -/
theorem block_back (limit : Int) (l : List FieldS) (first : Bool) (T : Tb) (hf : l.all fokS = true) :
    bdec limit (bpre first l) T = (if limit < (sumF l : Int) then (([], true, 0), if first then T.setMost 0 else T) else ((l, false, 0), if first then T.setMost 0 else T)) := by
  cases first with
  | false =>
    have e : bpre false l = l.flatMap bitem := rfl
    obtain ⟨out, h1, h2⟩ := items_back limit l ⟨[], 0, 0, 0, T⟩ (l.flatMap bitem).length hf (Nat.le_refl _) (fun _ => trivial)
    rw [bdec, e, h1, bfin]
    simp only [Nat.zero_add, List.nil_append, Bool.false_eq_true, if_false] at h2 ⊢
    split
    · rfl
    · rw [h2 (by omega)]
  | true =>
    have e : bpre true l = 32 :: l.flatMap bitem := by
      show penc 5 32 0 ++ _ = _
      rw [show penc 5 32 0 = [32] from by kernel_rfl]
      rfl
    have hx : idec (32 :: l.flatMap bitem) = (⟨4, 0, [], []⟩, 1, 0) := by
      have hp := penc_back 5 32 0 (l.flatMap bitem) (by omega) (by decide) (by decide) (by omega)
      rw [show penc 5 32 0 = [32] from by kernel_rfl] at hp
      have hb := idec_bare (k := 4) (c0 := 32) (r := l.flatMap bitem) (l := 32 :: l.flatMap bitem) rfl (by decide)
      rw [show shBits 4 = 5 from rfl, show (32 : UInt8) :: l.flatMap bitem = [32] ++ l.flatMap bitem from rfl, hp] at hb
      exact hb rfl (.inr rfl)
    have hz := bgo_size (limit := limit) (k := (32 :: l.flatMap bitem).length) (r := 32 :: l.flatMap bitem) (s := ⟨[], 0, 0, 0, T⟩) rfl (Nat.le_refl _) (by simp) (by rw [hx]) (by rw [hx]) rfl (by simp) (by rw [hx]; exact Nat.zero_le _)
    rw [hx] at hz
    obtain ⟨k', hk', hg⟩ := hz
    simp only [List.drop_succ_cons, List.drop_zero] at hg
    obtain ⟨out, h1, h2⟩ := items_back limit l (bsz ⟨[], 0, 0, 0, T⟩ 0) k' hf (by rw [List.length_cons] at hk'; omega) (fun _ => trivial)
    rw [bdec, e, ← hg, h1, bfin]
    have ea : (bsz ⟨[], 0, 0, 0, T⟩ 0).all = 0 := rfl
    have eT : (bsz ⟨[], 0, 0, 0, T⟩ 0).T = T.setMost 0 := rfl
    have eo : (bsz ⟨[], 0, 0, 0, T⟩ 0).out = [] := rfl
    rw [ea, eo] at h2
    simp only [ea, eT, Nat.zero_add, List.nil_append, if_true] at h2 ⊢
    split
    · rfl
    · rw [h2 (by omega)]
end Go.Proofs.YtfkpeahelhpelaaDoor
