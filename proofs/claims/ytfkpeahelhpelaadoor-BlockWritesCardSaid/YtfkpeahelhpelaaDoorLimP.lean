/- Cut off, plainly: one block read with two limits. -/
import Derived.Test.YtfkpeahelhpelaaDoorBspec
namespace Go.Proofs.YtfkpeahelhpelaaDoor
set_option linter.all false

/-- What two readings of one block, with two limits, have in common. -/
structure Two (L1 L2 : Int) (R1 R2 : BRes) : Prop where
  table : R1.2 = R2.2
  err : R1.1.2.2 = R2.1.2.2
  bad : R1.1.2.2 ≠ 0 → R1.1.1 = [] ∧ R2.1.1 = [] ∧ R1.1.2.1 = false ∧ R2.1.2.1 = false
  good : R1.1.2.2 = 0 → ∃ (n : Nat) (G : List FieldS), (R1.1.2.1 = decide (L1 < n) ∧ R2.1.2.1 = decide (L2 < n)) ∧ (¬ L1 < n → R1.1.1 = G) ∧ (¬ L2 < n → R2.1.1 = G)
theorem bgo_two (L1 L2 : Int) : ∀ (k : Nat) (r : List UInt8) (s1 s2 : BSt) (F : List FieldS), s1.all = s2.all → s1.sized = s2.sized → s1.count = s2.count → s1.T = s2.T →
    ((s1.all : Int) ≤ L1 → s1.out = F) → ((s2.all : Int) ≤ L2 → s2.out = F) → Two L1 L2 (bgo L1 k r s1) (bgo L2 k r s2) := by
  have hfin : ∀ (s1 s2 : BSt) (F : List FieldS), s1.all = s2.all → s1.T = s2.T → ((s1.all : Int) ≤ L1 → s1.out = F) → ((s2.all : Int) ≤ L2 → s2.out = F) → Two L1 L2 (bfin L1 s1) (bfin L2 s2) := by
    intro s1 s2 F ha hT h1 h2
    rw [bfin, bfin]
    by_cases c1 : L1 < (s1.all : Int) <;> by_cases c2 : L2 < (s2.all : Int)
    · rw [if_pos c1, if_pos c2]
      exact ⟨hT, rfl, fun h => absurd rfl h, fun _ => ⟨s1.all, F, ⟨(decide_eq_true c1).symm, (decide_eq_true (by rw [ha]; exact c2)).symm⟩, fun h => absurd c1 h, fun h => absurd (by rw [ha]; exact c2) h⟩⟩
    · rw [if_pos c1, if_neg c2]
      exact ⟨hT, rfl, fun h => absurd rfl h, fun _ => ⟨s1.all, F, ⟨(decide_eq_true c1).symm, (decide_eq_false (by rw [ha]; exact c2)).symm⟩, fun h => absurd c1 h, fun _ => h2 (by omega)⟩⟩
    · rw [if_neg c1, if_pos c2]
      exact ⟨hT, rfl, fun h => absurd rfl h, fun _ => ⟨s1.all, F, ⟨(decide_eq_false c1).symm, (decide_eq_true (by rw [ha]; exact c2)).symm⟩, fun _ => h1 (by omega), fun h => absurd (by rw [ha]; exact c2) h⟩⟩
    · rw [if_neg c1, if_neg c2]
      exact ⟨hT, rfl, fun h => absurd rfl h, fun _ => ⟨s1.all, F, ⟨(decide_eq_false c1).symm, (decide_eq_false (by rw [ha]; exact c2)).symm⟩, fun _ => h1 (by omega), fun _ => h2 (by omega)⟩⟩
  intro k
  induction k with
  | zero => intro r s1 s2 F ha _ _ hT h1 h2; exact hfin s1 s2 F ha hT h1 h2
  | succ k ih =>
    intro r s1 s2 F ha hs hc hT h1 h2
    rw [bgo, bgo, ← hs, ← hc, ← hT]
    split
    · exact hfin s1 s2 F ha hT h1 h2
    · split
      · split
        · exact ⟨rfl, rfl, fun _ => ⟨rfl, rfl, rfl, rfl⟩, fun h => by cases h⟩
        · exact ih _ _ _ F ha (by show s1.sized + 1 = s2.sized + 1; rw [hs]) hc (by show s1.T.setMost _ = s2.T.setMost _; rw [hT]) h1 h2
      · split
        · exact ⟨rfl, rfl, fun _ => ⟨rfl, rfl, rfl, rfl⟩, fun h => by cases h⟩
        · generalize (fieldS s1.T.f (idec r).1).1 = f
          refine ih _ _ _ (F ++ [f]) (by show s1.all + fsz f = s2.all + fsz f; rw [ha]) hs (by show s1.count + 1 = s2.count + 1; rw [hc]) (by show (if _ then s1.T.add f else s1.T) = (if _ then s2.T.add f else s2.T); rw [hT]) ?_ ?_
          · intro h
            change ((s1.all + fsz f : Nat) : Int) ≤ L1 at h
            show (if ((s1.all + fsz f : Nat) : Int) ≤ L1 then s1.out ++ [f] else s1.out) = _
            rw [if_pos h, h1 (by omega)]
          · intro h
            change ((s2.all + fsz f : Nat) : Int) ≤ L2 at h
            show (if ((s2.all + fsz f : Nat) : Int) ≤ L2 then s2.out ++ [f] else s2.out) = _
            rw [if_pos h, h2 (by omega)]
theorem bdec_two (L1 L2 : Int) (l : List UInt8) (T : Tb) : Two L1 L2 (bdec L1 l T) (bdec L2 l T) := bgo_two L1 L2 l.length l _ _ [] rfl rfl rfl rfl (fun _ => rfl) (fun _ => rfl)
end Go.Proofs.YtfkpeahelhpelaaDoor
