/- The numbers of trips in order of their starts. No walk stands here. -/
import Derived.Test.YtdkmloomlnljlaaProg
import Derived.Test.YtdkmloomlnljlaaSortS
import Derived.Test.YtdkmloomlnljlaaIdleT
namespace Go.Proofs.Ytdkmloomlnljlaa
open Go.RowKit Plain
set_option linter.unusedVariables false
set_option linter.unusedSimpArgs false
/-- the numbers of trips in order of their starts -/
def ordO (l : List Q4) (k : Nat) : Nat := ((sortL (keyL l) (upTo l.length) l.length).getD k 0).toNat
theorem ord_facts (l : List Q4) : (sortL (keyL l) (upTo l.length) l.length).length = l.length ∧ inL l.length (sortL (keyL l) (upTo l.length) l.length) ∧ oneL (sortL (keyL l) (upTo l.length) l.length) ∧ ordL (keyL l) (sortL (keyL l) (upTo l.length) l.length) l.length :=
  ⟨by rw [sortL_len, upTo_len], inL_sort _ (inL_upTo _) _ (by rw [upTo_len]; exact Nat.le_refl _), oneL_sort _ (oneL_upTo _) _ (by rw [upTo_len]; exact Nat.le_refl _), sortL_ord _ _ _ (by rw [upTo_len]; exact Nat.le_refl _)⟩
theorem ord_in (l : List Q4) {k : Nat} (hk : k < l.length) : ordO l k < l.length := by
  obtain ⟨a, b, _, _⟩ := ord_facts l
  have := b k (by omega)
  rw [ordO]; omega
theorem ord_le (l : List Q4) {m k : Nat} (h : m < k) (hk : k < l.length) : sS l (ordO l m) ≤ sS l (ordO l k) := (ord_facts l).2.2.2 m k h hk
theorem ord_ne (l : List Q4) {m k : Nat} (h : m < k) (hk : k < l.length) : ordO l m ≠ ordO l k := by
  obtain ⟨a, b, c, _⟩ := ord_facts l
  intro e
  have b1 := b m (by omega)
  have b2 := b k (by omega)
  rw [ordO, ordO] at e
  have := c m k (by omega) (by omega) (by omega)
  omega
theorem ord_has (l : List Q4) {x : Nat} (hx : x < l.length) : ∃ k, k < l.length ∧ ordO l k = x := by
  obtain ⟨a, b, c, _⟩ := ord_facts l
  obtain ⟨k, hk, e⟩ := stands a b c x hx
  exact ⟨k, hk, by rw [ordO, e, Int.toNat_natCast]⟩
end Go.Proofs.Ytdkmloomlnljlaa
