/- Lines: what is one, its bound, loads of stations: contracts. -/
import Derived.Test.YtkaopdpdfbkchaaLinA
namespace Go.Proofs.Ytkaopdpdfbkchaa
open Go.RowKit Plain
set_option linter.unusedVariables false
set_option linter.unusedSimpArgs false
attribute [local go_sem ↓] Go.wp_at_zero Go.wp_at_succ
/-- a line: times and what is before -/
structure LineP (n c : Nat) (t bf : Nat → Nat) : Prop where
  n1 : 1 ≤ n
  n12 : n ≤ 12
  t1 : ∀ i, i < n → 1 ≤ t i
  tc : ∀ i, i < n → t i ≤ c
  c1 : c ≤ 10000
  bl : ∀ i, i < n → bf i < 2 ^ i
/-- the greatest time -/
theorem maxT_any (b o cp n c : Nat) (t : Nat → Nat) (n1 : 1 ≤ n) (n12 : n ≤ 1000) (htc : ∀ i, i < n → t i ≤ c) : ∃ mx : Nat, mx ≤ c ∧ ∀ w', FA w' b o cp n (fun i => (t i : Int)) → Calls Try.prog 19 #[.slice (some ⟨b, o, none⟩) n cp] w' fun r w2 => r = .returned (.int .i64 mx) ∧ w' = w2 := by
  have key : ∀ k, k ≤ n → 0 < k → ∃ i, i < k ∧ ∀ j, j < k → t j ≤ t i := fun k => by
    induction k with
    | zero => intro _ h; omega
    | succ k ih =>
      intro hk _
      rcases Nat.eq_zero_or_pos k with e | e
      · subst e; exact ⟨0, by omega, fun j hj => by rw [show j = 0 by omega]; exact Nat.le_refl _⟩
      · obtain ⟨i, h1, h2⟩ := ih (by omega) e
        by_cases h3 : t k ≤ t i
        · exact ⟨i, by omega, fun j hj => by
            by_cases e2 : j = k
            · subst e2; exact h3
            · exact h2 j (by omega)⟩
        · exact ⟨k, by omega, fun j hj => by
            by_cases e2 : j = k
            · subst e2; exact Nat.le_refl _
            · have := h2 j (by omega); omega⟩
  obtain ⟨i, h1, h2⟩ := key n (Nat.le_refl _) n1
  refine ⟨t i, htc i h1, fun w' hf => ?_⟩
  have := slicesMax_any _ (fL n fun i => (t i : Int)) w' (hf.slf (by omega)) (by rw [fL_len]; omega)
  rw [maxTo_is (m := (t i : Int)) (fun j hj => by have := h2 j hj; omega) ⟨i, h1, rfl⟩] at this
  exact this
end Go.Proofs.Ytkaopdpdfbkchaa
